/- slices.Delete over rows. -/
import Derived.Test.YtpcahemjcmccjaaL
import Derived.Deep.RegionLaw
namespace Go.Proofs.Ytpcahemjcmccjaa
open Go.RowKit

/-- Cells laid over, from place o on. -/
def over {α : Type} (L : List α) (o : Nat) (vs : List α) : List α := L.take o ++ (vs ++ L.drop (o + vs.length))
theorem over_length {α : Type} (L : List α) (o : Nat) (vs : List α) (h : o + vs.length ≤ L.length) : (over L o vs).length = L.length := by simp [over]; omega
theorem over_cons {α : Type} (L : List α) (o : Nat) (v : α) (r : List α) (h : o < L.length) : over (L.set o v) (o + 1) r = over L o (v :: r) := by
  have e : L.set o v = (L.take o ++ [v]) ++ L.drop (o + 1) := by
    rw [List.set_eq_take_append_cons_drop, if_pos h]; simp
  have hl : (L.take o ++ [v]).length = o + 1 := by simp; omega
  unfold over
  rw [e, List.take_left' hl, ← hl, List.drop_length_add_append, List.drop_drop, hl]
  simp only [List.length_cons, List.append_assoc, List.cons_append, List.nil_append]
  congr 4
  omega

theorem heap_setCells (g : Nat) (t : TypeId) : ∀ (vs : List Value) (o : Nat) (w : World) (cur : List Value), w.heap[g]? = some (.cells cur.toArray t (0, 0)) → o + vs.length ≤ cur.length →
    (w.setCells g o vs).heap[g]? = some (.cells (over cur o vs).toArray t (0, 0)) ∧ w.grownBy (w.setCells g o vs) (some g)
  | [], o, w, cur, h, _ => ⟨by simpa [World.setCells, over] using h, World.grownBy.refl _ _⟩
  | v :: r, o, w, cur, h, hl => by
    simp only [List.length_cons] at hl
    have h1 := heap_setCell_same w g o cur.toArray t v h
    have h2 : (w.setCell ⟨g, o, none⟩ v).heap[g]? = some (.cells (cur.set o v).toArray t (0, 0)) := by
      rw [h1]; simp
    obtain ⟨a, b⟩ := heap_setCells g t r (o + 1) (w.setCell ⟨g, o, none⟩ v) (cur.set o v) h2 (by simp; omega)
    rw [over_cons _ _ _ _ (by omega)] at a
    exact ⟨a, (grown_set (p := ⟨g, o, none⟩) w v rfl).trans b⟩

theorem run_clear6 (w : World) (ty : TypeId) (b o n c : Nat) (hn : 0 < n) (hc : ∀ j, j < n * 6 → (w.cell? ⟨b, o + j, none⟩).isSome = true) (hf : ∀ j, j < n * 6 → w.frozen? ⟨b, o + j, none⟩ = false) :
    (Builtin.clear_ #[22] ty #[.slice (some ⟨b, o, none⟩) n c]).run Try.prog w = .ok (.tuple #[]) (w.setCells b o (Builtin.zeroCells zeroRow.cells n).toList) := by
  obtain ⟨i0, hi, hz0, hz1, hz2⟩ := info_parts Try.info33
  have hl : (Builtin.zeroCells zeroRow.cells n).toList.length = n * 6 := by
    rw [Array.length_toList, size_zeroCells]; rfl
  have h1 : ∀ v ∈ (Builtin.zeroCells zeroRow.cells n).toList, v.oneCell' = true := by
    intro v hv
    simp only [Builtin.zeroCells, Array.toList_map, List.mem_map] at hv
    obtain ⟨i, _, rfl⟩ := hv
    have hlt : i % zeroRow.cells.size < 6 := Nat.mod_lt _ (by decide)
    generalize i % zeroRow.cells.size = m at hlt
    match m, hlt with
    | 0, _ => rfl
    | 1, _ => rfl
    | 2, _ => rfl
    | 3, _ => rfl
    | 4, _ => rfl
    | 5, _ => rfl
  have hst := run_storeCells_cells (P := Try.prog) b o (Builtin.zeroCells zeroRow.cells n).toList 0 w (by rw [hl]; simpa using hc) (by rw [hl]; simpa using hf) h1
  simp only [Nat.add_zero] at hst
  obtain ⟨m, rfl⟩ : ∃ m, n = m + 1 := ⟨n - 1, by omega⟩
  have hzv : (zeroValue 33).run Try.prog w = .ok zeroRow w := by simp [zeroValue, typeInfo, hi, hz0]
  simp [Builtin.clear_, run_underlying Try.underlying22, hzv, hst]

theorem own_of_heap {w : World} {base g n cap : Nat} {l : List RowD} {c : List Value} {ys : List Value} (hh : w.heap[g]? = some (.cells c.toArray 33 (0, 0))) (hc : c.length = cap * 6) (hn : n ≤ cap) (hb : base ≤ g) (hm : cap ≤ maxLen)
    (ht : c.take (n * 6) = ys) (hr : RX w (some g) l ys) (hl : l.length = n) : Own w base (.slice (some ⟨g, 0, none⟩) n cap) l :=
  ⟨ys, ⟨by rw [hr.len, hl], .inr ⟨g, cap, c.toArray, by rw [hl], hb, hh, by omega, hm, by rw [List.size_toArray, hc], by rw [hl]; exact ht⟩⟩, hr⟩

theorem take_over {α : Type} (L : List α) (o : Nat) (vs : List α) (h : o ≤ L.length) : (over L o vs).take o = L.take o := by
  unfold over
  rw [List.take_append_of_le_length (by simp; omega), List.take_of_length_le (by simp; omega)]
theorem take_over2 {α : Type} (L : List α) (o : Nat) (vs : List α) (h : o ≤ L.length) : (over L o vs).take (o + vs.length) = L.take o ++ vs := by
  unfold over
  rw [← List.append_assoc]
  exact List.take_left' (by simp; omega)

theorem delete_done {g n cap i j base : Nat} {l : List RowD} {w W1 : World} {xs news : List Value} {cur : Array Value} (q1 : W1.heap[g]? = some (.cells (over cur.toList (0 + i * 6) news).toArray 33 (0, 0))) (q2 : w.drew.grownBy W1 (some g))
    (hov : (over cur.toList (0 + i * 6) news).length = cap * 6) (h2 : RX w (some g) l xs) (hn : l.length = n) (htake : cur.toList.take (n * 6) = xs) (hb : base ≤ g) (hcm : cap ≤ 2 ^ 63 - 1) (hnc : n ≤ cap) (hij : i < j) (hj : j ≤ n) (hnews : news = xs.drop (j * 6)) :
    Own (W1.setCells g ((i + (n - j)) * 6) (Builtin.zeroCells zeroRow.cells (n - (i + (n - j)))).toList) base (.slice (some ⟨g, 0, none⟩) (i + (n - j)) cap) (l.take i ++ l.drop j) ∧
      w.grownBy (W1.setCells g ((i + (n - j)) * 6) (Builtin.zeroCells zeroRow.cells (n - (i + (n - j)))).toList) (some g) := by
  have hz : (Builtin.zeroCells zeroRow.cells (n - (i + (n - j)))).toList.length = (n - (i + (n - j))) * 6 := by
    rw [Array.length_toList, size_zeroCells]; rfl
  have hxl : xs.length = n * 6 := by rw [h2.len, hn]
  have hnl : news.length = (n - j) * 6 := by rw [hnews, List.length_drop, hxl, Nat.sub_mul]
  obtain ⟨a, b⟩ := heap_setCells g 33 (Builtin.zeroCells zeroRow.cells (n - (i + (n - j)))).toList ((i + (n - j)) * 6) W1 _ q1 (by rw [hov, hz]; omega)
  have hg : w.grownBy (W1.setCells g ((i + (n - j)) * 6) (Builtin.zeroCells zeroRow.cells (n - (i + (n - j)))).toList) (some g) :=
    (show w.grownBy w.drew (some g) from ⟨rfl, rfl, rfl, Nat.le_refl _, fun _ _ _ => rfl⟩).trans (q2.trans b)
  have hcl : n * 6 ≤ cur.toList.length := by
    have := congrArg List.length htake
    rw [List.length_take, hxl] at this
    omega
  refine ⟨own_of_heap a (by rw [over_length _ _ _ (by rw [hov, hz]; omega), hov]) (by omega) hb (by unfold maxLen; exact hcm) ?_ (((h2.split i).1.append (h2.split j).2).grown hg) (by rw [List.length_append, List.length_take, List.length_drop]; omega), hg⟩
  rw [take_over _ _ _ (by rw [hov]; omega)]
  have e : (i + (n - j)) * 6 = (0 + i * 6) + news.length := by rw [hnl]; omega
  rw [e, take_over2 _ _ _ (by omega), hnews, Nat.zero_add]
  congr 1
  rw [← htake, List.take_take, Nat.min_eq_left (by omega)]

set_option maxHeartbeats 4000000 in
set_option maxRecDepth 1000000 in
theorem delete_any (g n cap i j base : Nat) (l : List RowD) (w : World) (h : Own w base (.slice (some ⟨g, 0, none⟩) n cap) l) (hn : l.length = n) (hij : i < j) (hj : j ≤ n) :
    Calls Try.prog 15 #[.slice (some ⟨g, 0, none⟩) n cap, .int .i64 (i : Nat), .int .i64 (j : Nat)] w fun e w' => e = .returned (.slice (some ⟨g, 0, none⟩) (i + (n - j)) cap) ∧
      Own w' base (.slice (some ⟨g, 0, none⟩) (i + (n - j)) cap) (l.take i ++ l.drop j) ∧ w.grownBy w' (some g) := by
  obtain ⟨i0, hi0, hz0, hz1, hz2⟩ := info_parts Try.info33
  obtain ⟨xs, h1, h2⟩ := h
  rw [hn] at h1
  have h2 : RX w (some g) l xs := h2
  have hxl : xs.length = n * 6 := by rw [h2.len, hn]
  rcases h1.2 with ⟨h0, _⟩ | ⟨g', cap', cur, h0, hbg, hh, hnc, hcm, hcs, htake⟩
  · simp at h0
  simp only [Value.slice.injEq, Option.some.injEq, Addr.mk.injEq, and_true, true_and] at h0
  obtain ⟨rfl, rfl⟩ := h0
  unfold maxLen at hcm
  have hcell : ∀ t, t < cap * 6 → (w.cell? ⟨g, t, none⟩).isSome = true ∧ w.frozen? ⟨g, t, none⟩ = false := fun t ht =>
    ⟨by rw [cell_of_row w g t cur 33 (0, 0) hh, Array.getElem?_eq_getElem (by omega)]; rfl, frozen_of_row w g t cur 33 hh⟩
  obtain ⟨news, hnews⟩ : ∃ news, news = xs.drop (j * 6) := ⟨_, rfl⟩
  have hlen : news.length = (n - j) * 6 := by rw [hnews, List.length_drop, hxl, Nat.sub_mul]
  have hcur : cur.toList.length = cap * 6 := by rw [Array.length_toList]; exact hcs
  obtain ⟨A, hA, hsrc⟩ : ∃ A : Addr, (if cap = j then some (⟨g, 0, none⟩ : Addr) else some ⟨g, j * 6, none⟩) = some A ∧ Hid (∀ t u, news[t]? = some u → w.drew.cell? (A.add t) = some u) := by
    by_cases h : cap = j
    · refine ⟨⟨g, 0, none⟩, by simp [h], fun t u hu => ?_⟩
      have h0 : news.length = 0 := by rw [hlen]; omega
      rw [List.length_eq_zero_iff.1 h0] at hu
      simp at hu
    · refine ⟨⟨g, j * 6, none⟩, by simp [h], fun t u hu => ?_⟩
      have ht : t < (n - j) * 6 := by
        have := (List.getElem?_eq_some_iff.1 hu).1
        rwa [hlen] at this
      have e : (⟨g, j * 6, none⟩ : Addr).add t = ⟨g, j * 6 + t, none⟩ := by unfold Addr.add; split <;> simp_all
      rw [e]
      show w.cell? ⟨g, j * 6 + t, none⟩ = some u
      rw [h1.cellAt (j * 6 + t) (by omega), ← hu, hnews, List.getElem?_drop]
  have s1 : Hid (news.length = (n - j) * 6) := hlen
  have s2 : Hid (∀ u ∈ news, u.oneCell' = true) := fun u hu => h2.oneCell u (List.mem_of_mem_drop (hnews ▸ hu))
  have s3 : Hid (∀ t, t < news.length → (w.drew.cell? ⟨g, 0 + i * 6 + t, none⟩).isSome = true ∧ w.drew.frozen? ⟨g, 0 + i * 6 + t, none⟩ = false) := by
    intro t ht
    rw [hlen] at ht
    exact hcell _ (by omega)
  obtain ⟨W1, hW1⟩ : ∃ W1, W1 = w.drew.setCells g (0 + i * 6) news := ⟨_, rfl⟩
  have hW := Lib.hid hW1
  obtain ⟨q1, q2⟩ := heap_setCells g 33 news (0 + i * 6) w.drew cur.toList (by rw [Array.toArray_toList]; exact hh) (by rw [hcur, hlen]; omega)
  rw [← hW1] at q1 q2
  have hov : (over cur.toList (0 + i * 6) news).length = cap * 6 := by rw [over_length _ _ _ (by rw [hcur, hlen]; omega), hcur]
  obtain ⟨Z, hZ⟩ : ∃ Z, Z = (Builtin.zeroCells zeroRow.cells (n - (i + (n - j)))).toList := ⟨_, rfl⟩
  have hcl : ∀ ty, (Builtin.clear_ #[22] ty #[.slice (some ⟨g, (i + (n - j)) * 6, none⟩) (n - (i + (n - j))) (cap - (i + (n - j)))]).run Try.prog W1 = .ok (.tuple #[]) (W1.setCells g ((i + (n - j)) * 6) Z) := fun ty => hZ ▸
    run_clear6 W1 ty g _ _ _ (by omega) (fun t ht => by
      rw [cell_of_row W1 g _ _ 33 (0, 0) q1, Array.getElem?_eq_getElem (by rw [List.size_toArray, hov]; omega)]; rfl) (fun t ht => frozen_of_row W1 g _ _ 33 q1)
  have HH := Lib.hid q1
  have HG := Lib.hid q2
  have HX := Lib.hid h2
  have HC := Lib.hid hcl
  have HL := Lib.hid hov
  have HB : Hid (news = xs.drop (j * 6)) := hnews
  have HZ := Lib.hid hZ
  have HN := Lib.hid hn
  have HA := Lib.hid hA
  have HT := Lib.hid htake
  have HCS := Lib.hid hcs
  have HI := Lib.hid hi0
  clear q1 q2 h1 h2 hcl hZ hov hn hA htake hcs hh hcell hnews hlen hcur hxl hW1 hi0
  have hic : i ≤ cap := by omega
  have hjc : j ≤ cap := by omega
  by_cases hcj : cap = j
  · have hA2 : A = ⟨g, 0, none⟩ := by have := HA.out; rw [if_pos hcj] at this; injection this with this; exact this.symm
    obtain rfl : n = j := by omega
    subst hA2 hcj
    have s1' : Hid (news.length = 0 * 6) := by rw [s1.out, Nat.sub_self]; exact rfl
    have hcl := HC.out
    rw [Nat.sub_self, Nat.add_zero] at hcl ⊢
    clear HC
    have HC := Lib.hid hcl
    clear hcl
    go_enter Try.func15, Try.ntmps15
    go_wp2_with fail
    go_region_law (refine step_append_room rfl (.tmp 22) (.tmp 25) 22 rfl 33 i0 6 Try.underlying22 HI.out hz1 g 0 i cap (by simp [Act.eval, Act.put]) ⟨g, 0, none⟩ 0 0 news (by simp [Act.eval, Act.put]) s1'.out hsrc.out s2.out (by omega) s3.out ?_; rw [← hW.out])
    have hcl := HC.out
    go_wp2
    go_ret
    have hd := delete_done HH.out HG.out HL.out HX.out HN.out HT.out hbg hcm hnc hij hj HB.out
    rw [← HZ.out, Nat.sub_self, Nat.add_zero] at hd
    exact ⟨rfl, hd⟩
  · have hA2 : A = ⟨g, j * 6, none⟩ := by have := HA.out; rw [if_neg hcj] at this; injection this with this; exact this.symm
    subst hA2
    go_enter Try.func15, Try.ntmps15
    go_wp2_with fail
    go_region_law (refine step_append_room rfl (.tmp 22) (.tmp 25) 22 rfl 33 i0 6 Try.underlying22 HI.out hz1 g 0 i cap (by simp [Act.eval, Act.put]) ⟨g, j * 6, none⟩ (n - j) (cap - j) news (by simp [Act.eval, Act.put]) s1.out hsrc.out s2.out (by omega) s3.out ?_; rw [← hW.out])
    have hcl := HC.out
    go_wp2
    go_ret
    exact ⟨rfl, HZ.out ▸ delete_done HH.out HG.out HL.out HX.out HN.out HT.out hbg hcm hnc hij hj HB.out⟩
end Go.Proofs.Ytpcahemjcmccjaa
