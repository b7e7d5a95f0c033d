/- slices.Insert over rows, of one row. -/
import Derived.Test.YtpcahemjcmccjaaM
import Derived.Lib.AppendZerosOnto
import Derived.Lib.Overlaps
import Derived.Laws.Externs
import Derived.Laws.NewBlocks
namespace Go.Proofs.Ytpcahemjcmccjaa
open Go.RowKit

theorem run_copy6 (w : World) (ty : TypeId) (b o dLen dCap : Nat) (a : Addr) (sLen sCap m : Nat) (cs : List Value) (hm : m = Nat.min sLen dLen) (hl : cs.length = m * 6)
    (hsrc : ∀ j v, cs[j]? = some v → w.cell? (a.add j) = some v) (hc : ∀ j, j < cs.length → (w.cell? ⟨b, o + j, none⟩).isSome = true) (hf : ∀ j, j < cs.length → w.frozen? ⟨b, o + j, none⟩ = false) (h1 : ∀ v ∈ cs, v.oneCell' = true) :
    (Builtin.copy_ #[22, 22] ty #[.slice (some ⟨b, o, none⟩) dLen dCap, .slice (some a) sLen sCap]).run Try.prog w = .ok (goInt m) (w.setCells b o cs) := by
  obtain ⟨i0, hi, hz0, hz1, hz2⟩ := info_parts Try.info33
  have hld := run_firstCells_some (P := Try.prog) w 6 m a sLen sCap cs hl hsrc
  have hst := run_storeCells_cells (P := Try.prog) b o cs 0 w (by simpa using hc) (by simpa using hf) h1
  simp only [Nat.add_zero] at hst
  subst hm
  simp [Builtin.copy_, run_underlying Try.underlying22, Builtin.lenOf, sizeOf, typeInfo, hi, hz1, hld, hst]

section
variable {P : Program}
theorem wp_copy_run (w : World) {o : Oper} {a : Act} {K : Act → World → Prop} {Q : Exit → Act → World → Prop} (d s : Operand) (t t' : TypeId)
    (ho : o.op = .call { callee := .builtin .copy, args := #[d, s], argTypes := #[t, t'] }) (v u : Value) (hd : a.eval d = v) (hs : a.eval s = u) {v' : Value} {w' : World}
    (hr : (Builtin.copy_ #[t, t'] o.type #[v, u]).run P w = .ok v' w') (h : K (a.put o.dst v') w') : o.wp P a w K Q := by
  unfold Oper.wp execOp
  simp only [ho, resolve, invoke, builtin, Sem.run_bind, Sem.run_pure, Result.andThen_ok, List.map_toArray, List.map_cons, List.map_nil, hd, hs, hr]
  exact h
theorem wpList_copy_run (w : World) {ops : Array Oper} {rest : List Oper} {o : Oper} {a : Act} {Q : Exit → Act → World → Prop} (hgd : o.guard = none) (d s : Operand) (t t' : TypeId)
    (ho : o.op = .call { callee := .builtin .copy, args := #[d, s], argTypes := #[t, t'] }) (v u : Value) (hd : a.eval d = v) (hs : a.eval s = u) {v' : Value} {w' : World}
    (hr : (Builtin.copy_ #[t, t'] o.type #[v, u]).run P w = .ok v' w') (h : wpList P ops Q rest (a.put o.dst v') w') : wpList P ops Q (o :: rest) a w :=
  wpList_plain hgd fun _ hK => wp_copy_run w d s t t' ho v u hd hs hr (hK _ _ h)
theorem step_copy_run {ops : Array Oper} {o : Oper} {a : Act} {w : World} {K : Act → World → Prop} {Q : Exit → Act → World → Prop} {E : Prop}
    (hg : o.guard = none) (d x : Operand) (dT sT : TypeId) (hop : o.op = Op.call { callee := Callee.builtin Builtin.copy, args := #[d, x], argTypes := #[dT, sT] })
    (v u : Value) (hd : a.eval d = v) (hx : a.eval x = u) {v' : Value} {w' : World} (hr : (Builtin.copy_ #[dT, sT] o.type #[v, u]).run P w = .ok v' w') (hK : K (a.put o.dst v') w') :
    if Region.wanted o (yielded ops a.tmps) = true then Oper.wp P o a w K Q else E := by
  have hw : Region.wanted o (yielded ops a.tmps) = true := by simp [Region.wanted, hg]
  rw [if_pos hw]
  exact wp_copy_run w d x dT sT hop v u hd hx hr hK
end

theorem Try.size33 (w : World) : (Go.sizeOf 33).run Try.prog w = .ok 6 w := by
  obtain ⟨i0, hi, hz0, hz1, hz2⟩ := info_parts Try.info33
  simp [sizeOf, typeInfo, hi, hz1]

theorem overlaps_no (w : World) (vb b o lb cb k : Nat) (cv cur : Array Value) (hv : w.heap[vb]? = some (.cells cv 33 (0, 0))) (hb : w.heap[b]? = some (.cells cur 33 (0, 0))) (hne : vb ≠ b) (hk : cur.size ≠ 0) :
    (callFunc 36 #[.slice (some ⟨vb, 0, none⟩) 1 k, .slice (some ⟨b, o, none⟩) lb cb]).run Try.prog w = .ok (.value (.bool false)) w := by
  rw [run_callFunc_extern (P := Try.prog) (f := 36) (fn := Try.f36) (by kernel_rfl) (by kernel_rfl) (by kernel_rfl) (by kernel_rfl) (e := Extern.SlicesOverlaps.overlaps #[22, 22] #[4]) (by kernel_rfl),
    Lib.run_overlaps_apart w 22 4 33 Try.underlying22 6 Try.size33 ⟨vb, 0, none⟩ ⟨b, o, none⟩ 1 k lb cb hne 33 33 cv.size cur.size (by simp [World.shape?, hv]) (by simp [World.shape?, hb]) hk (frozen_of_row w vb 0 cv 33 hv) (frozen_of_row w vb _ cv 33 hv)]
  rfl

theorem shift_cells {α : Type} (cur xs vs : List α) (n c i : Nat) (hc : cur.length = c * 6) (hn : n + 1 ≤ c) (hi : i < n) (ht : cur.take (n * 6) = xs) (hv : vs.length = 6) :
    (over (over cur ((i + 1) * 6) (xs.drop (i * 6))) (i * 6) vs).take ((n + 1) * 6) = xs.take (i * 6) ++ (vs ++ xs.drop (i * 6)) ∧ (over (over cur ((i + 1) * 6) (xs.drop (i * 6))) (i * 6) vs).length = c * 6 := by
  have hx : xs.length = n * 6 := by rw [← ht, List.length_take]; omega
  have hd : (xs.drop (i * 6)).length = (n - i) * 6 := by rw [List.length_drop, hx]; omega
  have l1 : (over cur ((i + 1) * 6) (xs.drop (i * 6))).length = c * 6 := by rw [over_length _ _ _ (by rw [hd]; omega), hc]
  refine ⟨?_, by rw [over_length _ _ _ (by rw [l1, hv]; omega), l1]⟩
  generalize hL : over cur ((i + 1) * 6) (xs.drop (i * 6)) = L at *
  have e : over L (i * 6) vs = L.take (i * 6) ++ (vs ++ L.drop (i * 6 + vs.length)) := rfl
  have a1 : L.take (i * 6) = xs.take (i * 6) := by
    rw [← hL]
    have : (over cur ((i + 1) * 6) (xs.drop (i * 6))).take (i * 6) = ((over cur ((i + 1) * 6) (xs.drop (i * 6))).take ((i + 1) * 6)).take (i * 6) := by rw [List.take_take, Nat.min_eq_left (by omega)]
    rw [this, take_over _ _ _ (by omega), List.take_take, Nat.min_eq_left (by omega), ← ht, List.take_take, Nat.min_eq_left (by omega)]
  have a2 : L.drop (i * 6 + vs.length) = xs.drop (i * 6) ++ cur.drop ((n + 1) * 6) := by
    rw [← hL, hv, show i * 6 + 6 = (i + 1) * 6 by omega]
    unfold over
    rw [List.drop_left' (by rw [List.length_take]; omega), hd]
    congr 2
    omega
  rw [e, a1, a2, ← List.append_assoc, ← List.append_assoc]
  rw [List.take_left' (by simp [hv, hd, hx]; omega), List.append_assoc]

set_option maxHeartbeats 4000000 in
set_option maxRecDepth 1000000 in
theorem insert_shift (b n c i vb base : Nat) (l : List RowD) (d : RowD) (vs : List Value) (w : World) (h : Own w base (.slice (some ⟨b, 0, none⟩) n c) l) (hn : l.length = n) (hi : i < n) (hroom : n + 1 ≤ c) (m : n ≤ 1000)
    (hv : w.heap[vb]? = some (.cells vs.toArray 33 (0, 0))) (hvb : vb ≠ b) (hvx : RX w (some b) [d] vs) :
    Calls Try.prog 17 #[.slice (some ⟨b, 0, none⟩) n c, .int .i64 (i : Nat), .slice (some ⟨vb, 0, none⟩) 1 1] w fun e w' => e = .returned (.slice (some ⟨b, 0, none⟩) (n + 1) c) ∧
      Own w' base (.slice (some ⟨b, 0, none⟩) (n + 1) c) (l.take i ++ ([d] ++ l.drop i)) ∧ w.grownBy w' (some b) := by
  obtain ⟨xs, h1, h2⟩ := h
  rw [hn] at h1
  have h2 : RX w (some b) l xs := h2
  have hxl : xs.length = n * 6 := by rw [h2.len, hn]
  have hvl : vs.length = 6 := hvx.len
  have h1v := hvx.oneCell
  rcases h1.2 with ⟨h0, _⟩ | ⟨g', cap', cur, h0, hbg, hh, hnc, hcm, hcs, htake⟩
  · simp at h0
  simp only [Value.slice.injEq, Option.some.injEq, Addr.mk.injEq, and_true, true_and] at h0
  obtain ⟨rfl, rfl⟩ := h0
  unfold maxLen at hcm
  have hov : ∀ o lb cb, (callFunc 36 #[.slice (some ⟨vb, 0, none⟩) 1 1, .slice (some ⟨b, o, none⟩) lb cb]).run Try.prog w = .ok (.value (.bool false)) w := fun o lb cb => overlaps_no w vb b o lb cb 1 vs.toArray cur hv hh hvb (by omega)
  have hcell : ∀ t, t < c * 6 → (w.cell? ⟨b, t, none⟩).isSome = true ∧ w.frozen? ⟨b, t, none⟩ = false := fun t ht =>
    ⟨by rw [cell_of_row w b t cur 33 (0, 0) hh, Array.getElem?_eq_getElem (by omega)]; rfl, frozen_of_row w b t cur 33 hh⟩
  have hdl : (xs.drop (i * 6)).length = (n - i) * 6 := by rw [List.length_drop, hxl]; omega
  have hcur : cur.toList.length = c * 6 := by rw [Array.length_toList]; exact hcs
  have K1 : Hid (∀ ty dc sc, (Builtin.copy_ #[22, 22] ty #[.slice (some ⟨b, (i + 1) * 6, none⟩) (n - i) dc, .slice (some ⟨b, i * 6, none⟩) (n + 1 - i) sc]).run Try.prog w.drew = .ok (goInt ((n - i : Nat) : Int)) (w.drew.setCells b ((i + 1) * 6) (xs.drop (i * 6)))) := fun ty dc sc =>
    run_copy6 w.drew ty b ((i + 1) * 6) (n - i) dc ⟨b, i * 6, none⟩ (n + 1 - i) sc (n - i) (xs.drop (i * 6)) (by show n - i = min (n + 1 - i) (n - i); omega) hdl
      (fun j v hj => by
        have hj' : j < (n - i) * 6 := by rw [← hdl]; exact (List.getElem?_eq_some_iff.1 hj).1
        have e : (⟨b, i * 6, none⟩ : Addr).add j = ⟨b, i * 6 + j, none⟩ := by unfold Addr.add; split <;> simp_all
        rw [e]
        show w.cell? ⟨b, i * 6 + j, none⟩ = some v
        rw [h1.cellAt _ (by omega), ← hj, List.getElem?_drop])
      (fun j hj => (hcell _ (by rw [hdl] at hj; omega)).1) (fun j hj => (hcell _ (by rw [hdl] at hj; omega)).2) (fun v hv => h2.oneCell v (List.mem_of_mem_drop hv))
  obtain ⟨W1, hW1⟩ : ∃ W1, W1 = w.drew.setCells b ((i + 1) * 6) (xs.drop (i * 6)) := ⟨_, rfl⟩
  rw [← hW1] at K1
  obtain ⟨q1, q2⟩ := heap_setCells b 33 (xs.drop (i * 6)) ((i + 1) * 6) w.drew cur.toList (by rw [Array.toArray_toList]; exact hh) (by rw [hcur, hdl]; omega)
  rw [← hW1] at q1 q2
  have hol : (over cur.toList ((i + 1) * 6) (xs.drop (i * 6))).length = c * 6 := by rw [over_length _ _ _ (by rw [hcur, hdl]; omega), hcur]
  have hv1 : W1.heap[vb]? = some (.cells vs.toArray 33 (0, 0)) := by
    rw [q2.block vb (by have := (Array.getElem?_eq_some_iff.1 hv).1; simpa using this) (fun e => hvb (by injection e))]
    exact hv
  have K2 : Hid (∀ ty dc, (Builtin.copy_ #[22, 22] ty #[.slice (some ⟨b, i * 6, none⟩) (n + 1 - i) dc, .slice (some ⟨vb, 0, none⟩) 1 1]).run Try.prog W1 = .ok (goInt ((1 : Nat) : Int)) (W1.setCells b (i * 6) vs)) := fun ty dc =>
    run_copy6 W1 ty b (i * 6) (n + 1 - i) dc ⟨vb, 0, none⟩ 1 1 1 vs (by show 1 = min 1 (n + 1 - i); omega) (by rw [hvl])
      (fun j v hj => by
        have e : (⟨vb, 0, none⟩ : Addr).add j = ⟨vb, j, none⟩ := by unfold Addr.add; split <;> simp_all
        rw [e, cell_of_row W1 vb j _ 33 (0, 0) hv1]
        simpa using hj)
      (fun j hj => by
        rw [cell_of_row W1 b _ _ 33 (0, 0) q1, Array.getElem?_eq_getElem (by rw [List.size_toArray, hol]; rw [hvl] at hj; omega)]; rfl)
      (fun j _ => frozen_of_row W1 b _ _ 33 q1) h1v
  have D : Hid (Own (W1.setCells b (i * 6) vs) base (.slice (some ⟨b, 0, none⟩) (n + 1) c) (l.take i ++ ([d] ++ l.drop i)) ∧ w.grownBy (W1.setCells b (i * 6) vs) (some b)) := by
    obtain ⟨a1, a2⟩ := heap_setCells b 33 vs (i * 6) W1 _ q1 (by rw [hol, hvl]; omega)
    have hg : w.grownBy (W1.setCells b (i * 6) vs) (some b) := (show w.grownBy w.drew (some b) from ⟨rfl, rfl, rfl, Nat.le_refl _, fun _ _ _ => rfl⟩).trans (q2.trans a2)
    obtain ⟨s1, s2⟩ := shift_cells cur.toList xs vs n c i hcur hroom hi htake hvl
    exact ⟨own_of_heap a1 s2 hroom hbg (by unfold maxLen; exact hcm) s1 (((h2.split i).1.append (hvx.append (h2.split i).2)).grown hg) (by simp; omega), hg⟩
  have hw1 : IntKind.i64.wrap ((i : Int) + 1) = (i : Int) + 1 := by rw [IntKind.wrap_i64]; omega
  have hb1 : (0 : Int) ≤ (i : Int) + 1 := by omega
  have hin : i ≤ n := by omega
  have htn : ((i : Int) + 1).toNat = i + 1 := by omega
  have hb2 : ¬ (c = i + 1) := by omega
  have hb3 : (i : Int) ≤ (n : Int) := by omega
  have hb4 : ¬ (c = i) := by omega
  have hb5 : i ≤ n + 1 := by omega
  have hb6 : (i : Int) ≤ (n : Int) + 1 := by omega
  clear q1 q2 hv1 hol hW1 hcell hcur hdl htake hcs hh hvx hvl h1v h1 h2 hxl hv hn
  go_enter Try.func17, Try.ntmps17
  go_wp2_with (simp only [hov])
  go_region_law (refine step_copy_run rfl (.tmp 73) (.tmp 76) 22 22 rfl (.slice (some ⟨b, (i + 1) * 6, none⟩) (n - i) (c - (i + 1))) (.slice (some ⟨b, i * 6, none⟩) (n + 1 - i) (c - i)) (by simp [Act.eval, Act.put]) (by simp [Act.eval, Act.put]) (K1.out 3 (c - (i + 1)) (c - i)) ?_)
  go_wp2_with (with_reducible refine wpList_copy_run (o := ⟨some 82, _, _, _, _, _⟩) _ rfl (.tmp 80) (.tmp 81) 22 22 rfl (.slice (some ⟨b, i * 6, none⟩) (n + 1 - i) (c - i)) (.slice (some ⟨vb, 0, none⟩) 1 1) rfl rfl (K2.out 3 (c - i)) ?_)
  go_ret
  exact ⟨rfl, D.out⟩

end Go.Proofs.Ytpcahemjcmccjaa
