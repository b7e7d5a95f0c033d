/- slices.Insert over rows, of one row: where there is no room; at the end. -/
import Derived.Test.YtpcahemjcmccjaaN
namespace Go.Proofs.Ytpcahemjcmccjaa
open Go.RowKit

theorem grow_cells {α : Type} (ROW xs vs : List α) (n G i : Nat) (hR : ROW.length = G * 6) (hn : n + 1 ≤ G) (hi : i < n) (hx : xs.length = n * 6) (ht : ROW.take (i * 6) = xs.take (i * 6)) (hv : vs.length = 6) :
    (over (over ROW (i * 6) vs) ((i + 1) * 6) (xs.drop (i * 6))).take ((n + 1) * 6) = xs.take (i * 6) ++ (vs ++ xs.drop (i * 6)) ∧ (over (over ROW (i * 6) vs) ((i + 1) * 6) (xs.drop (i * 6))).length = G * 6 := by
  have hd : (xs.drop (i * 6)).length = (n - i) * 6 := by rw [List.length_drop, hx]; omega
  have l1 : (over ROW (i * 6) vs).length = G * 6 := by rw [over_length _ _ _ (by rw [hR, hv]; omega), hR]
  refine ⟨?_, by rw [over_length _ _ _ (by rw [l1, hd]; omega), l1]⟩
  have e : (n + 1) * 6 = (i + 1) * 6 + (xs.drop (i * 6)).length := by rw [hd]; omega
  rw [e, take_over2 _ _ _ (by rw [l1]; omega)]
  have e2 : (i + 1) * 6 = i * 6 + vs.length := by rw [hv]; omega
  rw [e2, take_over2 _ _ _ (by rw [hR]; omega), ht, List.append_assoc]

set_option maxHeartbeats 4000000 in
set_option maxRecDepth 1000000 in
theorem insert_grow (b n c i vb base : Nat) (l : List RowD) (d : RowD) (vs : List Value) (w : World) (h : Own w base (.slice (some ⟨b, 0, none⟩) n c) l) (hn : l.length = n) (hi : i < n) (hroom : c < n + 1) (m : n ≤ 1000)
    (hv : w.heap[vb]? = some (.cells vs.toArray 33 (0, 0))) (hvx : RX w (some b) [d] vs) :
    Calls Try.prog 17 #[.slice (some ⟨b, 0, none⟩) n c, .int .i64 (i : Nat), .slice (some ⟨vb, 0, none⟩) 1 1] w fun e w' => ∃ G, e = .returned (.slice (some ⟨w.heap.size, 0, none⟩) (n + 1) G) ∧
      Own w' base (.slice (some ⟨w.heap.size, 0, none⟩) (n + 1) G) (l.take i ++ ([d] ++ l.drop i)) ∧ w.grownBy w' (some b) := by
  obtain ⟨i0, hi0, hz0, hzs, hzb⟩ := info_parts Try.info33
  obtain ⟨xs, h1, h2⟩ := h
  rw [hn] at h1
  have h2 : RX w (some b) l xs := h2
  have hxl : xs.length = n * 6 := by rw [h2.len, hn]
  have hvl : vs.length = 6 := hvx.len
  have h1v := hvx.oneCell
  rcases h1.2 with ⟨h0, _⟩ | ⟨g', cap', cur, h0, hbg, hh, hnc, hcm, hcs, htake⟩
  · simp at h0
  simp only [Value.slice.injEq, Option.some.injEq, Addr.mk.injEq, and_true, true_and] at h0
  obtain ⟨rfl, rfl⟩ := h0
  unfold maxLen at hcm
  have hbw : b < w.heap.size := (Array.getElem?_eq_some_iff.1 hh).1
  have hvw : vb < w.heap.size := (Array.getElem?_eq_some_iff.1 hv).1
  have hik : i + (n + 1 - i) = n + 1 := by omega
  have hold : (Builtin.firstCells i0.size i (.slice (some ⟨b, 0, none⟩) i c)).run Try.prog w.drew = .ok (xs.take (i * 6)).toArray w.drew := by
    rw [hzs]
    exact run_firstCells_some w.drew 6 i ⟨b, 0, none⟩ i c (xs.take (i * 6)) (by rw [List.length_take]; omega) (fun j v hj => by
      have hj' : j < i * 6 := by have := (List.getElem?_eq_some_iff.1 hj).1; rw [List.length_take] at this; omega
      have e : (⟨b, 0, none⟩ : Addr).add j = ⟨b, j, none⟩ := by unfold Addr.add; split <;> simp_all
      rw [e]
      show w.cell? ⟨b, j, none⟩ = some v
      rw [List.getElem?_take, if_pos hj'] at hj
      rw [h1.cellAt _ (by omega), hj])
  obtain ⟨G, hG⟩ : ∃ G, G = grownCap w (n + 1) c 33 := ⟨_, rfl⟩
  obtain ⟨ROW, hROW⟩ : ∃ ROW : Array Value, ROW = (xs.take (i * 6)).toArray ++ Builtin.zeroCells zeroRow.cells (n + 1 - i) ++ Builtin.zeroCells zeroRow.cells (G - (n + 1)) := ⟨_, rfl⟩
  obtain ⟨W1, hW1⟩ : ∃ W1, W1 = w.drew.alloc (.cells ROW 33) := ⟨_, rfl⟩
  have hrz : Hid (∀ ty, (Builtin.append_ #[22, 3] ty #[.slice (some ⟨b, 0, none⟩) i c, .int .i64 ((n : Int) + 1 - (i : Int))]).run Try.prog w = .ok (.slice (some ⟨w.heap.size, 0, none⟩) (n + 1) G) W1) := fun ty => by
    have h := Lib.run_append_grow_zeros w 22 3 ty 33 i0 _ .i64 .i64 Try.underlying22 Try.underlying3 hi0 hz0 (some ⟨b, 0, none⟩) i c (xs.take (i * 6)) hold (n + 1 - i) (by omega) (by omega) (by omega) (by omega) (by rw [hzb]; omega) (by rw [hzb, hik]; exact growslice_fits hroom (by omega))
    rw [hik, ← hG, ← hROW, ← hW1] at h
    rw [show (n : Int) + 1 - (i : Int) = ((n + 1 - i : Nat) : Int) by omega]
    exact h
  have hGn : n + 1 ≤ G := by rw [hG]; exact grownCap_ge w _ _ _
  have hG63 : G ≤ 9223372036854775807 := by
    have := grownCap_le_maxLen w (n + 1) c 33 (by unfold maxLen; omega)
    rw [← hG] at this
    unfold maxLen at this
    omega
  have hZs : zeroRow.cells.size = 6 := rfl
  have hRl : ROW.toList.length = G * 6 := by
    rw [hROW, Array.length_toList]
    simp only [Array.size_append, List.size_toArray, size_zeroCells, List.length_take, hxl, hZs]
    omega
  have hRt : ROW.toList.take (i * 6) = xs.take (i * 6) := by
    rw [hROW]
    simp only [Array.toList_append, List.append_assoc]
    exact List.take_left' (by rw [List.length_take]; omega)
  have p1 : W1.heap[w.heap.size]? = some (.cells ROW.toList.toArray 33 (0, 0)) := by rw [hW1, Array.toArray_toList]; exact heap_alloc_new w.drew _
  have p2 : w.grownBy W1 (some b) := by rw [hW1]; exact ⟨rfl, rfl, rfl, by simp, fun k hk _ => Below.heap_alloc w.drew _ k hk⟩
  have pb : W1.heap[b]? = some (.cells cur 33 (0, 0)) := by rw [hW1]; exact (Below.heap_alloc w.drew _ b hbw).trans hh
  have pv : W1.heap[vb]? = some (.cells vs.toArray 33 (0, 0)) := by rw [hW1]; exact (Below.heap_alloc w.drew _ vb hvw).trans hv
  obtain ⟨W2, hW2⟩ : ∃ W2, W2 = W1.setCells w.heap.size (i * 6) vs := ⟨_, rfl⟩
  have KA : Hid (∀ ty dc, (Builtin.copy_ #[22, 22] ty #[.slice (some ⟨w.heap.size, i * 6, none⟩) (n + 1 - i) dc, .slice (some ⟨vb, 0, none⟩) 1 1]).run Try.prog W1 = .ok (goInt ((1 : Nat) : Int)) W2) := fun ty dc => by
    rw [hW2]
    exact run_copy6 W1 ty w.heap.size (i * 6) (n + 1 - i) dc ⟨vb, 0, none⟩ 1 1 1 vs (by show 1 = min 1 (n + 1 - i); omega) (by rw [hvl])
      (fun j v hj => by
        have e : (⟨vb, 0, none⟩ : Addr).add j = ⟨vb, j, none⟩ := by unfold Addr.add; split <;> simp_all
        rw [e, cell_of_row W1 vb j _ 33 (0, 0) pv]
        simpa using hj)
      (fun j hj => by
        rw [cell_of_row W1 w.heap.size _ _ 33 (0, 0) p1, Array.getElem?_eq_getElem (by rw [List.size_toArray, hRl]; rw [hvl] at hj; omega)]; rfl)
      (fun j _ => frozen_of_row W1 w.heap.size _ _ 33 p1) h1v
  obtain ⟨q1, q2⟩ := heap_setCells w.heap.size 33 vs (i * 6) W1 _ p1 (by rw [hRl, hvl]; omega)
  rw [← hW2] at q1 q2
  have qb : W2.heap[b]? = some (.cells cur 33 (0, 0)) := by
    rw [q2.block b (Nat.lt_of_lt_of_le hbw p2.size) (fun e => by injection e with e; omega)]; exact pb
  have hol : (over ROW.toList (i * 6) vs).length = G * 6 := by rw [over_length _ _ _ (by rw [hRl, hvl]; omega), hRl]
  have hdl : (xs.drop (i * 6)).length = (n - i) * 6 := by rw [List.length_drop, hxl]; omega
  have KB : Hid (∀ ty dc sc, (Builtin.copy_ #[22, 22] ty #[.slice (some ⟨w.heap.size, (i + 1) * 6, none⟩) (n - i) dc, .slice (some ⟨b, i * 6, none⟩) (n - i) sc]).run Try.prog W2.drew = .ok (goInt ((n - i : Nat) : Int)) (W2.drew.setCells w.heap.size ((i + 1) * 6) (xs.drop (i * 6)))) := fun ty dc sc =>
    run_copy6 W2.drew ty w.heap.size ((i + 1) * 6) (n - i) dc ⟨b, i * 6, none⟩ (n - i) sc (n - i) (xs.drop (i * 6)) (by show n - i = min (n - i) (n - i); omega) hdl
      (fun j v hj => by
        have hj' : j < (n - i) * 6 := by rw [← hdl]; exact (List.getElem?_eq_some_iff.1 hj).1
        have e : (⟨b, i * 6, none⟩ : Addr).add j = ⟨b, i * 6 + j, none⟩ := by unfold Addr.add; split <;> simp_all
        rw [e]
        show W2.cell? ⟨b, i * 6 + j, none⟩ = some v
        rw [cell_of_row W2 b _ _ 33 (0, 0) qb, ← cell_of_row w b _ _ 33 (0, 0) hh, h1.cellAt _ (by omega), ← hj, List.getElem?_drop])
      (fun j hj => by
        show (W2.cell? _).isSome = true
        rw [cell_of_row W2 w.heap.size _ _ 33 (0, 0) q1, Array.getElem?_eq_getElem (by rw [List.size_toArray, hol]; rw [hdl] at hj; omega)]; rfl)
      (fun j _ => frozen_of_row W2 w.heap.size _ _ 33 q1) (fun v hv => h2.oneCell v (List.mem_of_mem_drop hv))
  have D : Hid (Own (W2.drew.setCells w.heap.size ((i + 1) * 6) (xs.drop (i * 6))) base (.slice (some ⟨w.heap.size, 0, none⟩) (n + 1) G) (l.take i ++ ([d] ++ l.drop i)) ∧ w.grownBy (W2.drew.setCells w.heap.size ((i + 1) * 6) (xs.drop (i * 6))) (some b)) := by
    obtain ⟨a1, a2⟩ := heap_setCells w.heap.size 33 (xs.drop (i * 6)) ((i + 1) * 6) W2.drew _ q1 (by rw [hol, hdl]; omega)
    have hg : w.grownBy (W2.drew.setCells w.heap.size ((i + 1) * 6) (xs.drop (i * 6))) (some b) := by
      refine ⟨a2.os.trans (q2.os.trans p2.os), a2.tape.trans (q2.tape.trans p2.tape), a2.output.trans (q2.output.trans p2.output), Nat.le_trans p2.size (Nat.le_trans q2.size a2.size), fun k hk hne => ?_⟩
      have k1 : k < W1.heap.size := Nat.lt_of_lt_of_le hk p2.size
      have kN : some k ≠ some w.heap.size := fun e => by injection e with e; omega
      rw [a2.block k (Nat.lt_of_lt_of_le k1 q2.size) kN]
      show W2.heap[k]? = _
      rw [q2.block k k1 kN, p2.block k hk hne]
    obtain ⟨s1, s2⟩ := grow_cells ROW.toList xs vs n G i hRl hGn hi hxl hRt hvl
    exact ⟨own_of_heap a1 s2 hGn (by omega) (by unfold maxLen; omega) s1 (((h2.split i).1.append (hvx.append (h2.split i).2)).past hg (fun g hg => by injection hg with hg; omega)) (by simp; omega), hg⟩
  have hGi : ¬ (G = i) := by omega
  have hGim : ¬ (G = i + 1) := by omega
  have hci : ¬ (c = i) := by omega
  have hic : i ≤ c := by omega
  have hiG : i ≤ G := by omega
  have hw1 : IntKind.i64.wrap ((i : Int) + 1) = (i : Int) + 1 := by rw [IntKind.wrap_i64]; omega
  have hb1 : (0 : Int) ≤ (i : Int) + 1 := by omega
  have hin : i ≤ n := by omega
  have hin1 : i ≤ n + 1 := by omega
  have htn : ((i : Int) + 1).toNat = i + 1 := by omega
  have hb3 : (i : Int) ≤ (n : Int) := by omega
  have hb6 : (i : Int) ≤ (n : Int) + 1 := by omega
  clear q1 q2 qb p1 p2 pb pv hol hW1 hW2 hRl hRt hROW hG hold hi0 hik hdl htake hcs hh hvx hvl h1v h1 h2 hxl hv hn hZs
  refine Calls.mono (R := fun e w' => e = .returned (.slice (some ⟨w.heap.size, 0, none⟩) (n + 1) G) ∧ w' = W2.drew.setCells w.heap.size ((i + 1) * 6) (xs.drop (i * 6))) ?_ (fun e w' ⟨h1, h2⟩ => ⟨G, h1, h2 ▸ D.out⟩)
  obtain ⟨N, hN⟩ : ∃ N, N = w.heap.size := ⟨_, rfl⟩
  rw [← hN] at KA KB hrz ⊢
  clear hN D
  go_enter Try.func17, Try.ntmps17
  go_wp2_with (first
    | (at_builtin; refine Lib.wpList_append_run _ rfl (.tmp 34) (.tmp 39) 22 3 rfl (.slice (some ⟨b, 0, none⟩) i c) (.int .i64 ((n : Int) + 1 - (i : Int))) rfl rfl _ _ (hrz.out _) ?_)
    | (with_reducible refine wpList_copy_run (o := ⟨some 45, _, _, _, _, _⟩) _ rfl (.tmp 43) (.tmp 44) 22 22 rfl (.slice (some ⟨N, i * 6, none⟩) (n + 1 - i) (G - i)) (.slice (some ⟨vb, 0, none⟩) 1 1) rfl rfl (KA.out 3 (G - i)) ?_))
  go_region_law (refine step_copy_run rfl (.tmp 50) (.tmp 53) 22 22 rfl (.slice (some ⟨N, (i + 1) * 6, none⟩) (n - i) (G - (i + 1))) (.slice (some ⟨b, i * 6, none⟩) (n - i) (c - i)) (by simp [Act.eval, Act.put]) (by simp [Act.eval, Act.put]) (KB.out 3 (G - (i + 1)) (c - i)) ?_)
  go_wp2
  go_ret
  exact ⟨rfl, rfl⟩

/-- Where the slice of one's own is kept or lies in new memory. -/
theorem own_more {w w' : World} {base : Nat} {v v' : Value} {l : List RowD} {ys : List Value} (h1 : w'.ownsRow base 33 6 v' l.length ys) (h2 : RX w v.ownBlock l ys) (hg : w.grownBy w' v.ownBlock) (ha : v'.ownBlock = v.ownBlock ∨ v'.ownBlock = some w.heap.size) : Own w' base v' l := by
  refine ⟨ys, h1, ?_⟩
  rcases ha with ha | ha
  · rw [ha]; exact h2.grown hg
  · rw [ha]; exact h2.past hg (fun g hg => by injection hg with hg; omega)

set_option maxHeartbeats 4000000 in
set_option maxRecDepth 1000000 in
theorem insert_end (A : Option Addr) (n c vb base : Nat) (l : List RowD) (d : RowD) (vs : List Value) (w : World) (h : Own w base (.slice A n c) l) (hn : l.length = n) (m : n ≤ 1000) (hbase : base ≤ w.heap.size)
    (hv : w.heap[vb]? = some (.cells vs.toArray 33 (0, 0))) (hvx : RX w (Value.ownBlock (.slice A n c)) [d] vs) :
    Calls Try.prog 17 #[.slice A n c, .int .i64 (n : Nat), .slice (some ⟨vb, 0, none⟩) 1 1] w fun e w' => ∃ v', e = .returned v' ∧ Own w' base v' (l ++ [d]) ∧ w.grownBy w' (Value.ownBlock (.slice A n c)) := by
  obtain ⟨i0, hi0, hz0, hz1, hz2⟩ := info_parts Try.info33
  obtain ⟨xs, h1, h2⟩ := h
  rw [hn] at h1
  have hnc : n ≤ c ∧ c ≤ maxLen := by
    rcases h1.2 with ⟨h0, h0'⟩ | ⟨g', cap', cur, h0, hbg, hh, hnc, hcm, hcs, htake⟩
    · injection h0 with _ _ h0; unfold maxLen; omega
    · injection h0 with _ _ h0; subst h0; exact ⟨hnc, hcm⟩
  obtain ⟨hnc, hcm⟩ := hnc
  unfold maxLen at hcm
  have hvl : vs.length = 1 * 6 := hvx.len
  have K0 : Hid (∀ j u, vs[j]? = some u → w.cell? ((⟨vb, 0, none⟩ : Addr).add j) = some u) := fun j u hu => by
    have e : (⟨vb, 0, none⟩ : Addr).add j = ⟨vb, j, none⟩ := by unfold Addr.add; split <;> simp_all
    rw [e, cell_of_row w vb j _ 33 (0, 0) hv]
    simpa using hu
  have K1 : Hid (∀ u ∈ vs, u.oneCell' = true) := hvx.oneCell
  have HL := Lib.hid hvl
  have HI := Lib.hid hi0
  have HO := Lib.hid h1
  have HR : Hid (RX w (Value.ownBlock (.slice A n c)) (l ++ [d]) (xs ++ vs)) := h2.append hvx
  have HN := Lib.hid hn
  have HB := Lib.hid hbase
  clear hv hvx hvl hi0 h1 h2 hn hbase
  refine Calls.mono (R := fun e w' => ∃ v', e = .returned v' ∧ Hid (w'.ownsRow base 33 6 v' (n + 1) (xs ++ vs)) ∧ Hid (w.grownBy w' (Value.ownBlock (.slice A n c))) ∧ Hid (v'.ownBlock = Value.ownBlock (.slice A n c) ∨ v'.ownBlock = some w.heap.size)) ?_
    (fun e w' ⟨v', g1, g2, g3, g4⟩ => ⟨v', g1, own_more (by rw [List.length_append, List.length_singleton, HN.out]; exact g2.out) HR.out g3.out g4.out, g3.out⟩)
  cases A with
  | none =>
    by_cases hcn : c = n
    · go_enter Try.func17, Try.ntmps17
      go_wp2_with (at_builtin; refine wpList_append_own_at _ rfl (.tmp 23) (.tmp 24) 22 rfl base 33 i0 zeroRow 6 64 Try.underlying22 HI.out hz0 hz1 hz2 rfl (by decide) (.slice none n c) n xs rfl HO.out ⟨vb, 0, none⟩ 1 1 vs rfl HL.out K0.out K1.out (by unfold maxLen; omega) (by omega) HB.out ?_; intro v' w1 hown' hgrow _ hat; have HN := Lib.hid hown'; have HG := Lib.hid hgrow; have HT := Lib.hid hat; clear hown' hgrow hat)
      go_ret
      exact ⟨_, rfl, HN, HG, HT⟩
    · go_enter Try.func17, Try.ntmps17
      go_wp2_with (at_builtin; refine wpList_append_own_at _ rfl (.tmp 23) (.tmp 24) 22 rfl base 33 i0 zeroRow 6 64 Try.underlying22 HI.out hz0 hz1 hz2 rfl (by decide) (.slice none n c) n xs rfl HO.out ⟨vb, 0, none⟩ 1 1 vs rfl HL.out K0.out K1.out (by unfold maxLen; omega) (by omega) HB.out ?_; intro v' w1 hown' hgrow _ hat; have HN := Lib.hid hown'; have HG := Lib.hid hgrow; have HT := Lib.hid hat; clear hown' hgrow hat)
      go_ret
      exact ⟨_, rfl, HN, HG, HT⟩
  | some a =>
    obtain ⟨g, off, spot⟩ := a
    by_cases hcn : c = n
    · go_enter Try.func17, Try.ntmps17
      go_wp2_with (at_builtin; refine wpList_append_own_at _ rfl (.tmp 23) (.tmp 24) 22 rfl base 33 i0 zeroRow 6 64 Try.underlying22 HI.out hz0 hz1 hz2 rfl (by decide) (.slice (some ⟨g, off, spot⟩) n c) n xs rfl HO.out ⟨vb, 0, none⟩ 1 1 vs rfl HL.out K0.out K1.out (by unfold maxLen; omega) (by omega) HB.out ?_; intro v' w1 hown' hgrow _ hat; have HN := Lib.hid hown'; have HG := Lib.hid hgrow; have HT := Lib.hid hat; clear hown' hgrow hat)
      go_ret
      exact ⟨_, rfl, HN, HG, HT⟩
    · go_enter Try.func17, Try.ntmps17
      go_wp2_with (at_builtin; refine wpList_append_own_at _ rfl (.tmp 23) (.tmp 24) 22 rfl base 33 i0 zeroRow 6 64 Try.underlying22 HI.out hz0 hz1 hz2 rfl (by decide) (.slice (some ⟨g, off, spot⟩) n c) n xs rfl HO.out ⟨vb, 0, none⟩ 1 1 vs rfl HL.out K0.out K1.out (by unfold maxLen; omega) (by omega) HB.out ?_; intro v' w1 hown' hgrow _ hat; have HN := Lib.hid hown'; have HG := Lib.hid hgrow; have HT := Lib.hid hat; clear hown' hgrow hat)
      go_ret
      exact ⟨_, rfl, HN, HG, HT⟩
end Go.Proofs.Ytpcahemjcmccjaa
