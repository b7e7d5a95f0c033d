/- Slices of numbers made, copied: the laws. -/
import Derived.Test.YtdbnlngkmfmnnaaGreatDoorH03
import Derived.Laws.MakeOwn
import Derived.Test.YtdbnlngkmfmnnaaGreatDoorH01
import Derived.OwnWalk
import Derived.Maps.AppendAt
import Derived.Laws.OwnMore
import Derived.Deep.AppendLies
namespace Go.Proofs.YtdbnlngkmfmnnaaGreatDoor
open Go.RowKit

theorem info3 : (Tryz.prog.info? 3).map (fun i => (i.zero, i.size, i.bytes)) = some (some (.int .i64 0), 1, 8) := by kernel_rfl
theorem made0 : madeCells (Value.int .i64 0).cells (0 * 1) = #[] := by kernel_rfl
theorem made1 : madeCells (Value.int .i64 0).cells (1 * 1) = #[.int .i64 0] := by kernel_rfl
theorem made2 : madeCells (Value.int .i64 0).cells (2 * 1) = #[.int .i64 0, .int .i64 0] := by kernel_rfl
theorem made3 : madeCells (Value.int .i64 0).cells (3 * 1) = #[.int .i64 0, .int .i64 0, .int .i64 0] := by kernel_rfl
theorem made4 : madeCells (Value.int .i64 0).cells (4 * 1) = #[.int .i64 0, .int .i64 0, .int .i64 0, .int .i64 0] := by kernel_rfl
theorem make_ints (k : Nat) (hk : k ≤ 4) {cs : Array Value} (hc : madeCells (Value.int .i64 0).cells (k * 1) = cs) (w : World) : (Instr.makeSlice 59 (.int .i64 (k : Nat)) (.int .i64 (k : Nat))).run Tryz.prog w = .ok (.slice (some ⟨w.heap.size, 0, none⟩) k k) (w.alloc (.cells cs 3)) := by
  obtain ⟨i0, hi0, hz0, hz1, hz2⟩ := info_parts info3
  have h := run_make w 59 3 i0 (.int .i64 0) Tryz.underlying59 hi0 hz0 .i64 .i64 k k (by omega) (by omega) (by rw [hz2]; omega) (by omega)
  rw [hz1, Int.toNat_natCast, hc] at h
  exact h

def over {α : Type} (L : List α) (o : Nat) (vs : List α) : List α := L.take o ++ (vs ++ L.drop (o + vs.length))
theorem over_length {α : Type} (L : List α) (o : Nat) (vs : List α) (h : o + vs.length ≤ L.length) : (over L o vs).length = L.length := by simp [over]; omega
theorem over_cons {α : Type} (L : List α) (o : Nat) (v : α) (r : List α) (h : o < L.length) : over (L.set o v) (o + 1) r = over L o (v :: r) := by
  have e : L.set o v = (L.take o ++ [v]) ++ L.drop (o + 1) := by
    rw [List.set_eq_take_append_cons_drop, if_pos h]; simp
  have hl : (L.take o ++ [v]).length = o + 1 := by simp; omega
  unfold over
  rw [e, List.take_left' hl, ← hl, List.drop_length_add_append, List.drop_drop, hl]
  simp only [List.length_cons, List.append_assoc, List.cons_append, List.nil_append]
  congr 4
  omega

theorem heap_setCells (g : Nat) (t : TypeId) : ∀ (vs : List Value) (o : Nat) (w : World) (cur : List Value), w.heap[g]? = some (.cells cur.toArray t (0, 0)) → o + vs.length ≤ cur.length →
    (w.setCells g o vs).heap[g]? = some (.cells (over cur o vs).toArray t (0, 0)) ∧ w.grownBy (w.setCells g o vs) (some g)
  | [], o, w, cur, h, _ => ⟨by simpa [World.setCells, over] using h, World.grownBy.refl _ _⟩
  | v :: r, o, w, cur, h, hl => by
    simp only [List.length_cons] at hl
    have h1 := heap_setCell_same w g o cur.toArray t v h
    have h2 : (w.setCell ⟨g, o, none⟩ v).heap[g]? = some (.cells (cur.set o v).toArray t (0, 0)) := by
      rw [h1]; simp
    obtain ⟨a, b⟩ := heap_setCells g t r (o + 1) (w.setCell ⟨g, o, none⟩ v) (cur.set o v) h2 (by simp; omega)
    rw [over_cons _ _ _ _ (by omega)] at a
    exact ⟨a, (grown_one w (T := g) (p := ⟨g, o, none⟩) v rfl).trans b⟩

theorem take_over2 {α : Type} (L : List α) (o : Nat) (vs : List α) (h : o ≤ L.length) : (over L o vs).take (o + vs.length) = L.take o ++ vs := by
  unfold over
  rw [← List.append_assoc]
  exact List.take_left' (by simp; omega)

theorem run_copy1 (w : World) (ty : TypeId) (b o dLen dCap : Nat) (a : Addr) (sLen sCap m : Nat) (cs : List Value) (hm : m = Nat.min sLen dLen) (hl : cs.length = m * 1)
    (hsrc : ∀ j v, cs[j]? = some v → w.cell? (a.add j) = some v) (hc : ∀ j, j < cs.length → (w.cell? ⟨b, o + j, none⟩).isSome = true) (hf : ∀ j, j < cs.length → w.frozen? ⟨b, o + j, none⟩ = false) (h1 : ∀ v ∈ cs, v.oneCell' = true) :
    (Builtin.copy_ #[59, 59] ty #[.slice (some ⟨b, o, none⟩) dLen dCap, .slice (some a) sLen sCap]).run Tryz.prog w = .ok (goInt m) (w.setCells b o cs) := by
  obtain ⟨i0, hi, hz0, hz1, hz2⟩ := info_parts info3
  have hld := run_firstCells_some (P := Tryz.prog) w 1 m a sLen sCap cs hl hsrc
  have hst := run_storeCells_cells (P := Tryz.prog) b o cs 0 w (by simpa using hc) (by simpa using hf) h1
  simp only [Nat.add_zero] at hst
  subst hm
  simp [Builtin.copy_, run_underlying Tryz.underlying59, Builtin.lenOf, sizeOf, typeInfo, hi, hz1, hld, hst]

section
variable {P : Program}
theorem wp_copy_run (w : World) {o : Oper} {a : Act} {K : Act → World → Prop} {Q : Exit → Act → World → Prop} (d s : Operand) (t t' : TypeId)
    (ho : o.op = .call { callee := .builtin .copy, args := #[d, s], argTypes := #[t, t'] }) (v u : Value) (hd : a.eval d = v) (hs : a.eval s = u) {v' : Value} {w' : World}
    (hr : (Builtin.copy_ #[t, t'] o.type #[v, u]).run P w = .ok v' w') (h : K (a.put o.dst v') w') : o.wp P a w K Q := by
  unfold Oper.wp execOp
  simp only [ho, resolve, invoke, builtin, Sem.run_bind, Sem.run_pure, Result.andThen_ok, List.map_toArray, List.map_cons, List.map_nil, hd, hs, hr]
  exact h
theorem wpList_copy_run (w : World) {ops : Array Oper} {rest : List Oper} {o : Oper} {a : Act} {Q : Exit → Act → World → Prop} (hgd : o.guard = none) (d s : Operand) (t t' : TypeId)
    (ho : o.op = .call { callee := .builtin .copy, args := #[d, s], argTypes := #[t, t'] }) (v u : Value) (hd : a.eval d = v) (hs : a.eval s = u) {v' : Value} {w' : World}
    (hr : (Builtin.copy_ #[t, t'] o.type #[v, u]).run P w = .ok v' w') (h : wpList P ops Q rest (a.put o.dst v') w') : wpList P ops Q (o :: rest) a w :=
  wpList_plain hgd fun _ hK => wp_copy_run w d s t t' ho v u hd hs hr (hK _ _ h)
theorem step_copy_run {ops : Array Oper} {o : Oper} {a : Act} {w : World} {K : Act → World → Prop} {Q : Exit → Act → World → Prop} {E : Prop}
    (hg : o.guard = none) (d x : Operand) (dT sT : TypeId) (hop : o.op = Op.call { callee := Callee.builtin Builtin.copy, args := #[d, x], argTypes := #[dT, sT] })
    (v u : Value) (hd : a.eval d = v) (hx : a.eval x = u) {v' : Value} {w' : World} (hr : (Builtin.copy_ #[dT, sT] o.type #[v, u]).run P w = .ok v' w') (hK : K (a.put o.dst v') w') :
    if Region.wanted o (yielded ops a.tmps) = true then Oper.wp P o a w K Q else E := by
  have hw : Region.wanted o (yielded ops a.tmps) = true := by simp [Region.wanted, hg]
  rw [if_pos hw]
  exact wp_copy_run w d x dT sT hop v u hd hx hr hK
end
end Go.Proofs.YtdbnlngkmfmnnaaGreatDoor

/- A number repeated. -/
namespace Go.Proofs.YtdbnlngkmfmnnaaGreatDoor
open Go.RowKit

/-- The first n cells of a new block of k are the number. -/
def Fill (w W : World) (k n : Nat) : Prop := ∃ cur : List Value, W.heap[w.heap.size]? = some (.cells cur.toArray 3 (0, 0)) ∧ cur.length = k ∧ cur.take n = List.replicate n (.int .i64 4) ∧ Below w.heap.size w W

theorem Fill.drew {w W : World} {k n : Nat} (h : Fill w W k n) : Fill w W.drew k n := by
  obtain ⟨cur, h1, h2, h3, h4⟩ := h
  exact ⟨cur, h1, h2, h3, h4.drew⟩
theorem Fill.step {w W : World} {k n m : Nat} (h : Fill w W k n) (hm : n + m ≤ k) : Fill w (W.setCells w.heap.size n (List.replicate m (.int .i64 4))) k (n + m) := by
  obtain ⟨cur, h1, h2, h3, h4⟩ := h
  obtain ⟨q1, q2⟩ := heap_setCells w.heap.size 3 (List.replicate m (.int .i64 4)) n W cur h1 (by rw [List.length_replicate]; omega)
  refine ⟨_, q1, by rw [over_length _ _ _ (by rw [List.length_replicate]; omega), h2], ?_, h4.grown q2 h4.size fun k hk => by injection hk with hk; omega⟩
  have := take_over2 cur n (List.replicate m (Value.int .i64 4)) (by omega)
  rw [List.length_replicate] at this
  rw [this, h3, List.replicate_append_replicate]
/-- A copy of the first m of them behind the first n. -/
theorem Fill.copy {w W : World} {k n : Nat} (h : Fill w W k n) (ty : TypeId) (hn : n ≤ k) {m : Nat} (hm : m = Nat.min n (k - n)) :
    (Builtin.copy_ #[59, 59] ty #[.slice (some ⟨w.heap.size, n, none⟩) (k - n) (k - n), .slice (some ⟨w.heap.size, 0, none⟩) n k]).run Tryz.prog W = .ok (goInt (m : Nat)) (W.setCells w.heap.size n (List.replicate m (.int .i64 4))) := by
  obtain ⟨cur, h1, h2, h3, h4⟩ := h
  have hmn : m ≤ n := by rw [hm]; exact Nat.min_le_left _ _
  have hmk : m ≤ k - n := by rw [hm]; exact Nat.min_le_right _ _
  refine run_copy1 W ty w.heap.size n (k - n) (k - n) ⟨w.heap.size, 0, none⟩ n k m (List.replicate m (.int .i64 4)) hm (by rw [List.length_replicate]; omega) (fun j v hj => ?_) (fun j hj => ?_) (fun j _ => frozen_of_row W w.heap.size (n + j) _ _ h1) (fun v hv => by rw [(List.mem_replicate.1 hv).2]; rfl)
  · have hjm : j < m := by have := (List.getElem?_eq_some_iff.1 hj).1; simpa using this
    have e : (⟨w.heap.size, 0, none⟩ : Addr).add j = ⟨w.heap.size, j, none⟩ := by unfold Addr.add; split <;> simp_all
    rw [e, cell_of_row W w.heap.size j _ _ _ h1]
    have h5 : (cur.take n)[j]? = some (.int .i64 4) := by rw [h3, List.getElem?_replicate, if_pos (by omega)]
    rw [List.getElem?_take] at h5
    rw [if_pos (by omega)] at h5
    have h6 : v = .int .i64 4 := by
      have := List.mem_of_getElem? hj
      exact (List.mem_replicate.1 this).2
    rw [h6]
    simpa using h5
  · have hjm : j < m := by simpa using hj
    rw [cell_of_row W w.heap.size (n + j) _ _ _ h1]
    simp
    omega

theorem Fill.done {w W : World} {k : Nat} (h : Fill w W k k) : IC W W.heap.size (some ⟨w.heap.size, 0, none⟩) (List.replicate k 4) := by
  obtain ⟨cur, h1, h2, h3, h4⟩ := h
  intro _
  refine ⟨w.heap.size, 0, rfl, (Array.getElem?_eq_some_iff.1 h1).1, fun j x hx => ?_⟩
  have hj : j < k := by have := (List.getElem?_eq_some_iff.1 hx).1; simpa using this
  have hx4 : x = 4 := (List.mem_replicate.1 (List.mem_of_getElem? hx)).2
  rw [Nat.zero_add, cell_of_row W w.heap.size j _ _ _ h1, hx4]
  rw [List.take_of_length_le (by omega)] at h3
  rw [h3]
  simp [hj]
end Go.Proofs.YtdbnlngkmfmnnaaGreatDoor

/- A number repeated: the walk. -/
namespace Go.Proofs.YtdbnlngkmfmnnaaGreatDoor
open Go.RowKit

set_option maxRecDepth 100000 in
set_option maxHeartbeats 2000000 in
theorem repeat_any (vb k : Nat) (w : World) (h : w.heap[vb]? = some (.cells #[.int .i64 4] 3 (0, 0))) (hk1 : 1 ≤ k) (hk : k ≤ 4) :
    Calls Tryz.prog 118 #[.slice (some ⟨vb, 0, none⟩) 1 1, .int .i64 (k : Nat)] w fun e w' => ∃ A c, e = .returned (.slice A k c) ∧ IC w' w'.heap.size A (List.replicate k 4) ∧ Below w.heap.size w w' := by
  have cm := mul_one_any k hk
  obtain ⟨Z, hZ⟩ : ∃ Z, madeCells (Value.int .i64 0).cells (k * 1) = Z := ⟨_, rfl⟩
  have hmk := make_ints k hk hZ
  have hZs : Z.size = k := by
    have : k = 1 ∨ k = 2 ∨ k = 3 ∨ k = 4 := by omega
    rcases this with rfl | rfl | rfl | rfl
    · rw [← hZ, made1]; rfl
    · rw [← hZ, made2]; rfl
    · rw [← hZ, made3]; rfl
    · rw [← hZ, made4]; rfl
  have e0 := cell_of_row w vb 0 _ _ _ h
  simp only [List.getElem?_toArray, List.getElem?_cons_zero] at e0
  have hF0 : Fill w (w.alloc (.cells Z 3)) k 0 := ⟨Z.toList, by rw [Array.toArray_toList]; exact heap_alloc_new w _, by rw [Array.length_toList, hZs], rfl, (Below.refl _ _).alloc (Nat.le_refl _) _⟩
  have hF1 := hF0.step (m := 1) (by omega)
  have hKA : (Builtin.copy_ #[59, 59] 3 #[.slice (some ⟨w.heap.size, 0, none⟩) k k, .slice (some ⟨vb, 0, none⟩) 1 1]).run Tryz.prog (w.alloc (.cells Z 3)) = .ok (goInt ((1 : Nat) : Int)) ((w.alloc (.cells Z 3)).setCells w.heap.size 0 (List.replicate 1 (.int .i64 4))) := by
    obtain ⟨cur, h1, h2, h3, h4⟩ := hF0
    refine run_copy1 _ 3 w.heap.size 0 k k ⟨vb, 0, none⟩ 1 1 1 (List.replicate 1 (.int .i64 4)) (by show 1 = min 1 k; omega) rfl (fun j v hj => ?_) (fun j hj => ?_) (fun j _ => frozen_of_row _ w.heap.size (0 + j) _ _ h1) (fun v hv => by rw [(List.mem_replicate.1 hv).2]; rfl)
    · have hjm : j < 1 := by have := (List.getElem?_eq_some_iff.1 hj).1; simpa using this
      have hj0 : j = 0 := by omega
      subst hj0
      have hv : v = .int .i64 4 := by simpa using hj.symm
      rw [hv]
      exact cell_on e0 _
    · have hjm : j < 1 := by simpa using hj
      rw [cell_of_row _ w.heap.size (0 + j) _ _ _ h1]
      simp
      omega
  obtain ⟨W2, hW2⟩ : ∃ W2, W2 = (w.alloc (.cells Z 3)).setCells w.heap.size 0 (List.replicate 1 (.int .i64 4)) := ⟨_, rfl⟩
  rw [← hW2] at hKA hF1
  have KA := Lib.hid hKA
  have F1 := Lib.hid hF1
  clear hF0 hW2 hKA hF1 hZ e0 h hZs
  go_enter Tryz.func118, Tryz.ntmps118
  go_wp2_with (first
    | (go_at_call 141; (with_reducible refine (cm _).mono ?_); rintro e w' ⟨rfl, rfl⟩)
    | (with_reducible refine wpList_copy_run (o := ⟨some 33, _, _, _, _, _⟩) _ rfl (.tmp 31) (.tmp 32) 59 59 rfl (.slice (some ⟨w.heap.size, 0, none⟩) k k) (.slice (some ⟨vb, 0, none⟩) 1 1) rfl rfl KA.out ?_))
  go_loopw [8] (fun i wr => ∃ n : Nat, 1 ≤ n ∧ n ≤ k ∧ i = .int .i64 n ∧ Fill w wr k n) (fun i _ => k - (intOf i).toNat)
  case atStart => exact ⟨1, Nat.le_refl _, hk1, rfl, F1.out⟩
  case round =>
    obtain ⟨n, hn1, hn, rfl, hf⟩ := hrel
    by_cases hlt : n < k
    · obtain ⟨m, hm⟩ : ∃ m, m = Nat.min n (k - n) := ⟨_, rfl⟩
      have hmn : m ≤ k - n := by rw [hm]; exact Nat.min_le_right _ _
      have hm1 : 1 ≤ m := by rw [hm]; show 1 ≤ min n (k - n); omega
      have kb := hf.drew.copy 3 hn hm
      have hf2 := hf.drew.step (m := m) (by omega)
      obtain ⟨W3, hW3⟩ : ∃ W3, W3 = wr.drew.setCells w.heap.size n (List.replicate m (.int .i64 4)) := ⟨_, rfl⟩
      rw [← hW3] at kb hf2
      have KB := Lib.hid kb
      have F2 := Lib.hid hf2
      have hne : ¬ k = n := by omega
      clear kb hf2 hf hW3 hm
      go_wp2
      go_region_law (refine step_copy_run rfl (.tmp 41) (.tmp 44) 59 59 rfl (.slice (some ⟨w.heap.size, n, none⟩) (k - n) (k - n)) (.slice (some ⟨w.heap.size, 0, none⟩) n k) (by simp [Act.eval, Act.put]) (by simp [Act.eval, Act.put]) KB.out ?_)
      have hwr : IntKind.i64.wrap ((n : Int) + (m : Int)) = ((n + m : Nat) : Int) := by rw [IntKind.wrap_i64]; omega
      simp [Act.put, hwr]
      go_wp2
      exact ⟨⟨n + m, by omega, by omega, by go_num, F2.out⟩, by simp [intOf]; omega⟩
    · have hnk : n = k := by omega
      subst hnk
      have HF := Lib.hid hf
      clear hf
      go_wp2
      go_ret
      obtain ⟨_, _, _, _, hb⟩ := HF.out
      exact ⟨_, _, rfl, HF.out.done, hb⟩
end Go.Proofs.YtdbnlngkmfmnnaaGreatDoor

/- A number repeated no times; the items that were taken, as cells. -/
namespace Go.Proofs.YtdbnlngkmfmnnaaGreatDoor
open Go.RowKit

set_option maxRecDepth 100000 in
set_option maxHeartbeats 2000000 in
theorem repeat_zero (vb : Nat) (w : World) (_h : w.heap[vb]? = some (.cells #[.int .i64 4] 3 (0, 0))) :
    Calls Tryz.prog 118 #[.slice (some ⟨vb, 0, none⟩) 1 1, .int .i64 0] w fun e w' => ∃ A c, e = .returned (.slice A 0 c) ∧ Below w.heap.size w w' := by
  have cm : ∀ w, Calls Tryz.prog 141 #[.int .u64 1, .int .u64 0] w fun e w' => e = .returned (.tuple #[.int .u64 0, .int .u64 0]) ∧ w = w' := mul_one_any 0 (by omega)
  have hmk : ∀ w, (Instr.makeSlice 59 (.int .i64 0) (.int .i64 0)).run Tryz.prog w = .ok (.slice (some ⟨w.heap.size, 0, none⟩) 0 0) (w.alloc (.cells #[] 3)) := make_ints 0 (by omega) made0
  have hKA : (Builtin.copy_ #[59, 59] 3 #[.slice (some ⟨w.heap.size, 0, none⟩) 0 0, .slice (some ⟨vb, 0, none⟩) 1 1]).run Tryz.prog (w.alloc (.cells #[] 3)) = .ok (goInt ((0 : Nat) : Int)) (w.alloc (.cells #[] 3)) := 
    run_copy1 _ 3 w.heap.size 0 0 0 ⟨vb, 0, none⟩ 1 1 0 [] (by show 0 = min 1 0; omega) rfl (by simp) (by simp) (by simp) (by simp)
  have KA := Lib.hid hKA
  clear hKA
  go_enter Tryz.func118, Tryz.ntmps118
  go_wp2_with (first
    | (go_at_call 141; (with_reducible refine (cm _).mono ?_); rintro e w' ⟨rfl, rfl⟩)
    | (with_reducible refine wpList_copy_run (o := ⟨some 33, _, _, _, _, _⟩) _ rfl (.tmp 31) (.tmp 32) 59 59 rfl (.slice (some ⟨w.heap.size, 0, none⟩) 0 0) (.slice (some ⟨vb, 0, none⟩) 1 1) rfl rfl KA.out ?_))
  go_loopw [8] (fun i wr => i = .int .i64 0 ∧ wr = w.alloc (.cells #[] 3)) (fun _ _ => 0)
  case atStart => exact ⟨rfl, rfl⟩
  case round =>
    obtain ⟨rfl, rfl⟩ := hrel
    go_wp2
    go_ret
    exact ⟨_, _, rfl, (Below.refl _ _).alloc (Nat.le_refl _) _⟩

theorem repeat_all (vb k : Nat) (w : World) (h : w.heap[vb]? = some (.cells #[.int .i64 4] 3 (0, 0))) (hk : k ≤ 4) :
    Calls Tryz.prog 118 #[.slice (some ⟨vb, 0, none⟩) 1 1, .int .i64 (k : Nat)] w fun e w' => ∃ A c, e = .returned (.slice A k c) ∧ IC w' w'.heap.size A (List.replicate k 4) ∧ Below w.heap.size w w' := by
  rcases Nat.eq_zero_or_pos k with rfl | hp
  · exact (repeat_zero vb w h).mono fun e w' ⟨A, c, h1, h2⟩ => ⟨A, c, h1, fun hl => absurd hl (by simp), h2⟩
  · exact repeat_any vb k w h hp hk

theorem takeAll_len {L : List Nat} : ∀ {K : List Nat} {a : Nat} {l : List It} {e : Nat}, takeAll L K a = some (l, e) → l.length = K.length
  | [], a, l, e, h => by simp [takeAll] at h; rw [h.1]; rfl
  | k :: ks, a, l, e, h => by
    unfold takeAll at h
    cases h1 : takeOne L k a with
    | none => rw [h1] at h; cases h
    | some r =>
      obtain ⟨i, a'⟩ := r
      rw [h1] at h
      simp only at h
      cases h2 : takeAll L ks a' with
      | none => rw [h2] at h; cases h
      | some r2 =>
        obtain ⟨l2, e2⟩ := r2
        rw [h2] at h
        simp only [Option.some.injEq, Prod.mk.injEq] at h
        rw [← h.1, List.length_cons, List.length_cons, takeAll_len h2]

theorem cellsOf_get {l : List It} : ∀ {i : Nat} {it : It}, l[i]? = some it → ∀ j, j < 4 → (cellsOf l)[i * 4 + j]? = (It.cells it)[j]? := by
  induction l with
  | nil => intro i it h; simp at h
  | cons d l ih =>
    intro i it h j hj
    have e : cellsOf (d :: l) = It.cells d ++ cellsOf l := rfl
    have hl : (It.cells d).length = 4 := rfl
    rw [e]
    cases i with
    | zero =>
      simp only [List.getElem?_cons_zero, Option.some.injEq] at h
      subst h
      rw [List.getElem?_append_left (by rw [hl]; omega)]
      simp
    | succ i =>
      rw [List.getElem?_cons_succ] at h
      rw [List.getElem?_append_right (by rw [hl]; omega), hl, show (i + 1) * 4 + j - 4 = i * 4 + j by omega]
      exact ih h j hj

/-- What was taken, as cells. -/
structure Got (w : World) (v : Value) (l : List It) : Prop where
  is : ∃ g cap, v = .slice (some ⟨g, 0, none⟩) l.length cap ∧ g < w.heap.size ∧ ∀ i it, l[i]? = some it → w.cell? ⟨g, i * 4 + 1, none⟩ = some (.int .i64 (it.n : Nat)) ∧ w.cell? ⟨g, i * 4 + 2, none⟩ = some (.float .f64 it.x) ∧
    w.cell? ⟨g, i * 4, none⟩ = some (.int .i64 (it.k : Nat)) ∧ w.cell? ⟨g, i * 4 + 3, none⟩ = some (.string ⟨#[]⟩)
theorem Got.of_own {w : World} {base : Nat} {v : Value} {l : List It} (h : w.ownsRow base 123 4 v l.length (cellsOf l)) (hl : 0 < l.length) : Got w v l := by
  obtain ⟨g, cap, rfl, _, hg⟩ := h.form hl
  refine ⟨g, cap, rfl, hg, fun i it hi => ?_⟩
  have hlt := (List.getElem?_eq_some_iff.1 hi).1
  refine ⟨?_, ?_, ?_, ?_⟩
  · rw [h.cellAt _ (by omega), cellsOf_get hi 1 (by omega)]; rfl
  · rw [h.cellAt _ (by omega), cellsOf_get hi 2 (by omega)]; rfl
  · rw [h.cellAt _ (by omega)]
    have := cellsOf_get hi 0 (by omega)
    rw [Nat.add_zero] at this
    rw [this]; rfl
  · rw [h.cellAt _ (by omega), cellsOf_get hi 3 (by omega)]; rfl
end Go.Proofs.YtdbnlngkmfmnnaaGreatDoor

/- Rows: the functions that look at one row. -/
namespace Go.Proofs.YtdbnlngkmfmnnaaGreatDoor
open Go.RowKit

structure RowD where
  key : Nat
  dead : Bool
  cols : List Nat
  wr : Int
  rc : Int
  rn : Int
  deriving DecidableEq

/-- A row's cells, its columns being the slice of that address and room. -/
def RowD.cells (d : RowD) (A : Option Addr) (c : Nat) : Array Value := #[.float .f64 d.key, .bool d.dead, .slice A d.cols.length c, .int .i64 d.wr, .int .i64 d.rc, .int .i64 d.rn]

set_option maxHeartbeats 1000000 in
theorem rowsame_any (a b : RowD) (A1 A2 : Option Addr) (c1 c2 : Nat) (w : World) (h1 : FC w w.heap.size A1 a.cols) (h2 : FC w w.heap.size A2 b.cols) (m1 : a.cols.length ≤ maxLen) (m2 : b.cols.length ≤ maxLen) :
    Calls Tryz.prog 20 #[.agg (a.cells A1 c1), .agg (b.cells A2 c2)] w fun e w' => e = .returned (.bool (decide (a = b))) ∧ Below w.heap.size w w' := by
  obtain ⟨k1, d1, l1, x1, y1, z1⟩ := a
  obtain ⟨k2, d2, l2, x2, y2, z2⟩ := b
  simp only [RowD.cells, RowD.mk.injEq] at *
  have ck := fun W => rsame_any k1 k2 W
  have cl := fun W (hb : Below w.heap.size w W) => list_of A1 A2 c1 c2 l1 l2 w W hb h1 h2 m1 m2
  by_cases e1 : k1 = k2
  · rw [decide_eq_true e1] at ck
    subst e1
    by_cases e2 : d1 = d2
    · subst e2
      by_cases e3 : x1 = x2
      · subst e3
        by_cases e4 : y1 = y2
        · subst e4
          by_cases e5 : z1 = z2
          · subst e5
            simp only [true_and, and_true]
            clear m1 m2
            go_enter Tryz.func20, Tryz.ntmps20
            go_wp2_with (first | (go_at_call 57; (with_reducible refine (ck _).mono ?_); rintro e w' ⟨rfl, rfl⟩) | (go_at_call 58; (with_reducible refine (cl _ ?_).mono ?_); rotate_left; rintro e w' ⟨rfl, hb⟩))
            · go_ret
              exact ⟨rfl, hb⟩
            · exact ((Below.refl _ _).alloc (Nat.le_refl _) _).alloc (by simp) _
          · clear m1 m2 cl h1 h2
            simp only [e5, and_false, decide_false]
            go_enter Tryz.func20, Tryz.ntmps20
            go_wp2_with (first | (go_at_call 57; (with_reducible refine (ck _).mono ?_); rintro e w' ⟨rfl, rfl⟩))
            go_ret
            exact ⟨rfl, ((Below.refl _ _).alloc (Nat.le_refl _) _).alloc (by simp) _⟩
        · clear m1 m2 cl h1 h2
          simp only [e4, and_false, false_and, decide_false]
          go_enter Tryz.func20, Tryz.ntmps20
          go_wp2_with (first | (go_at_call 57; (with_reducible refine (ck _).mono ?_); rintro e w' ⟨rfl, rfl⟩))
          go_ret
          exact ⟨rfl, ((Below.refl _ _).alloc (Nat.le_refl _) _).alloc (by simp) _⟩
      · clear m1 m2 cl h1 h2
        simp only [e3, and_false, false_and, decide_false]
        go_enter Tryz.func20, Tryz.ntmps20
        go_wp2_with (first | (go_at_call 57; (with_reducible refine (ck _).mono ?_); rintro e w' ⟨rfl, rfl⟩))
        go_ret
        exact ⟨rfl, ((Below.refl _ _).alloc (Nat.le_refl _) _).alloc (by simp) _⟩
    · clear m1 m2 cl h1 h2
      simp only [e2, and_false, false_and, decide_false]
      have e2' : (d1 == d2) = false := by simpa using e2
      clear e2
      go_enter Tryz.func20, Tryz.ntmps20
      go_wp2_with (first | (go_at_call 57; (with_reducible refine (ck _).mono ?_); rintro e w' ⟨rfl, rfl⟩))
      go_ret
      exact ⟨rfl, ((Below.refl _ _).alloc (Nat.le_refl _) _).alloc (by simp) _⟩
  · clear m1 m2 cl h1 h2
    rw [decide_eq_false e1] at ck
    simp only [e1, false_and, decide_false]
    go_enter Tryz.func20, Tryz.ntmps20
    go_wp2_with (first | (go_at_call 57; (with_reducible refine (ck _).mono ?_); rintro e w' ⟨rfl, rfl⟩))
    go_ret
    exact ⟨rfl, ((Below.refl _ _).alloc (Nat.le_refl _) _).alloc (by simp) _⟩
end Go.Proofs.YtdbnlngkmfmnnaaGreatDoor

/- Rows as cells. -/
namespace Go.Proofs.YtdbnlngkmfmnnaaGreatDoor
open Go.RowKit

/-- The cells of rows. -/
def RC (w : World) (B : Nat) (A : Option Addr) (l : List RowD) : Prop :=
  (∀ d ∈ l, d.key < 18446744073709551616 ∧ d.cols.length ≤ maxLen) ∧ (0 < l.length → ∃ b off, A = some ⟨b, off, none⟩ ∧ b < B ∧ ∀ i d, l[i]? = some d → ∃ A' c', FC w B A' d.cols ∧ d.cols.length ≤ c' ∧ (A' = none → c' = 0) ∧
    ∀ j v, (d.cells A' c')[j]? = some v → w.cell? ⟨b, off + i * 6 + j, none⟩ = some v)

theorem RC.below {w w' : World} {B : Nat} {A : Option Addr} {l : List RowD} (h : RC w B A l) (hb : Below B w w') : RC w' B A l :=
  ⟨h.1, fun hl => by
    obtain ⟨b, off, e, hB, hc⟩ := h.2 hl
    refine ⟨b, off, e, hB, fun i d hd => ?_⟩
    obtain ⟨A', c', h1, h2, h3, h4⟩ := hc i d hd
    exact ⟨A', c', h1.below hb, h2, h3, fun j v hv => (hb.cell (p := ⟨b, off + i * 6 + j, none⟩) hB).trans (h4 j v hv)⟩⟩
theorem RC.more {w : World} {B B' : Nat} {A : Option Addr} {l : List RowD} (h : RC w B A l) (hb : B ≤ B') : RC w B' A l :=
  ⟨h.1, fun hl => by
    obtain ⟨b, off, e, hB, hc⟩ := h.2 hl
    refine ⟨b, off, e, by omega, fun i d hd => ?_⟩
    obtain ⟨A', c', h1, h2, h3, h4⟩ := hc i d hd
    exact ⟨A', c', h1.more hb, h2, h3, h4⟩⟩

/-- One row of them. -/
theorem RC.at_ {w : World} {B : Nat} {A : Option Addr} {l : List RowD} (h : RC w B A l) {k : Nat} {d : RowD} (hd : l[k]? = some d) :
    ∃ b off A' c', A = some ⟨b, off, none⟩ ∧ b < B ∧ FC w B A' d.cols ∧ d.cols.length ≤ c' ∧ (A' = none → c' = 0) ∧ d.key < 18446744073709551616 ∧ d.cols.length ≤ maxLen ∧
      w.cell? ⟨b, off + k * 6, none⟩ = some (.float .f64 d.key) ∧ w.cell? ⟨b, off + k * 6 + 1, none⟩ = some (.bool d.dead) ∧ w.cell? ⟨b, off + k * 6 + 2, none⟩ = some (.slice A' d.cols.length c') ∧
      w.cell? ⟨b, off + k * 6 + 3, none⟩ = some (.int .i64 d.wr) ∧ w.cell? ⟨b, off + k * 6 + 4, none⟩ = some (.int .i64 d.rc) ∧ w.cell? ⟨b, off + k * 6 + 5, none⟩ = some (.int .i64 d.rn) := by
  obtain ⟨b, off, e, hB, hc⟩ := h.2 (by have := (List.getElem?_eq_some_iff.1 hd).1; omega)
  obtain ⟨A', c', h1, h2, h3, h4⟩ := hc k d hd
  have h5 := h.1 d (List.mem_of_getElem? hd)
  exact ⟨b, off, A', c', e, hB, h1, h2, h3, h5.1, h5.2, h4 0 _ rfl, h4 1 _ rfl, h4 2 _ rfl, h4 3 _ rfl, h4 4 _ rfl, h4 5 _ rfl⟩
theorem take_at {α : Type} {l : List α} {k : Nat} {d : α} (h : l[k]? = some d) : l.take (k + 1) = l.take k ++ [d] := by
  rw [List.take_add_one, h]; rfl
theorem get_at {α : Type} {l : List α} {k n : Nat} (hn : Hid (l.length = n)) (h : k < n) : ∃ d, l[k]? = some d := ⟨l[k]'(by rw [hn.out]; exact h), List.getElem?_eq_getElem _⟩

theorem info25 : (Tryz.prog.info? 25).map (fun i => (i.zero, i.size, i.bytes)) = some (some (.float .f64 0), 1, 8) := by kernel_rfl
def zeroRow : Value := .agg #[.float .f64 0, .bool false, .slice none 0 0, .int .i64 0, .int .i64 0, .int .i64 0]
theorem info30 : (Tryz.prog.info? 30).map (fun i => (i.zero, i.size, i.bytes)) = some (some zeroRow, 6, 64) := by kernel_rfl




/-- The cells of numbers, in no block o. -/
def FX (w : World) (o : Option Nat) (A : Option Addr) (l : List Nat) : Prop :=
  (∀ x ∈ l, x < 18446744073709551616) ∧ (0 < l.length → ∃ b off, A = some ⟨b, off, none⟩ ∧ b < w.heap.size ∧ some b ≠ o ∧ ∀ j x, l[j]? = some x → w.cell? ⟨b, off + j, none⟩ = some (.float .f64 x))

def RX (w : World) (o : Option Nat) : List RowD → List Value → Prop
  | [], xs => xs = []
  | d :: l, xs => ∃ A' c' ys, xs = (d.cells A' c').toList ++ ys ∧ FX w o A' d.cols ∧ d.cols.length ≤ c' ∧ (A' = none → c' = 0) ∧ RX w o l ys

theorem FX.grown {w w' : World} {o : Option Nat} {A : Option Addr} {l : List Nat} (h : FX w o A l) (hg : w.grownBy w' o) : FX w' o A l :=
  ⟨h.1, fun hl => by
    obtain ⟨b, off, e, hB, ho, hc⟩ := h.2 hl
    exact ⟨b, off, e, Nat.lt_of_lt_of_le hB hg.size, ho, fun j x hx => (hg.cell_far _ hB ho).trans (hc j x hx)⟩⟩
theorem FX.below {w w' : World} {o : Option Nat} {A : Option Addr} {l : List Nat} (h : FX w o A l) (hb : Below w.heap.size w w') : FX w' o A l :=
  ⟨h.1, fun hl => by
    obtain ⟨b, off, e, hB, ho, hc⟩ := h.2 hl
    exact ⟨b, off, e, Nat.lt_of_lt_of_le hB hb.size, ho, fun j x hx => (hb.cell (p := ⟨b, off + j, none⟩) hB).trans (hc j x hx)⟩⟩
/-- .. and in no block that is new. -/
theorem FX.past {w w' : World} {o : Option Nat} {A : Option Addr} {l : List Nat} (h : FX w o A l) (hg : w.grownBy w' o) {o' : Option Nat} (ho' : ∀ g, o' = some g → w.heap.size ≤ g) : FX w' o' A l :=
  ⟨h.1, fun hl => by
    obtain ⟨b, off, e, hB, ho, hc⟩ := h.2 hl
    exact ⟨b, off, e, Nat.lt_of_lt_of_le hB hg.size, (fun hx => by have := ho' b hx.symm; omega), fun j x hx => (hg.cell_far _ hB ho).trans (hc j x hx)⟩⟩
theorem FX.of_FC {w : World} {B : Nat} {A : Option Addr} {l : List Nat} (h : FC w B A l) (hB : B ≤ w.heap.size) {o : Option Nat} (ho : ∀ g, o = some g → B ≤ g) : FX w o A l :=
  ⟨h.1, fun hl => by
    obtain ⟨b, off, e, hb, hc⟩ := h.2 hl
    exact ⟨b, off, e, Nat.lt_of_lt_of_le hb hB, (fun hx => by have := ho b hx.symm; omega), hc⟩⟩
theorem FX.to_FC {w : World} {o : Option Nat} {A : Option Addr} {l : List Nat} (h : FX w o A l) : FC w w.heap.size A l :=
  ⟨h.1, fun hl => by
    obtain ⟨b, off, e, hb, _, hc⟩ := h.2 hl
    exact ⟨b, off, e, hb, hc⟩⟩

theorem RX.imp {w w' : World} {o o' : Option Nat} (hf : ∀ A l, FX w o A l → FX w' o' A l) : ∀ {l : List RowD} {xs : List Value}, RX w o l xs → RX w' o' l xs
  | [], _, h => h
  | _ :: _, _, ⟨A', c', ys, e, h1, h2, h3, h4⟩ => ⟨A', c', ys, e, hf _ _ h1, h2, h3, RX.imp hf h4⟩
theorem RX.grown {w w' : World} {o : Option Nat} {l : List RowD} {xs : List Value} (h : RX w o l xs) (hg : w.grownBy w' o) : RX w' o l xs := h.imp fun _ _ h => h.grown hg
theorem RX.below {w w' : World} {o : Option Nat} {l : List RowD} {xs : List Value} (h : RX w o l xs) (hg : Below w.heap.size w w') : RX w' o l xs := h.imp fun _ _ h => h.below hg
theorem RX.past {w w' : World} {o : Option Nat} {l : List RowD} {xs : List Value} (h : RX w o l xs) (hg : w.grownBy w' o) {o' : Option Nat} (ho' : ∀ g, o' = some g → w.heap.size ≤ g) : RX w' o' l xs := h.imp fun _ _ h => h.past hg ho'

theorem cells_length (d : RowD) (A : Option Addr) (c : Nat) : (d.cells A c).toList.length = 6 := rfl
theorem RX.len {w : World} {o : Option Nat} : ∀ {l : List RowD} {xs : List Value}, RX w o l xs → xs.length = l.length * 6
  | [], _, h => by rw [show _ = [] from h]; rfl
  | d :: l, _, ⟨A', c', ys, e, _, _, _, h4⟩ => by
    rw [e, List.length_append, cells_length, RX.len h4, List.length_cons]; omega
theorem RX.append {w : World} {o : Option Nat} : ∀ {l : List RowD} {xs : List Value} {l2 : List RowD} {ys : List Value}, RX w o l xs → RX w o l2 ys → RX w o (l ++ l2) (xs ++ ys)
  | [], _, _, _, h, h' => by rw [show _ = [] from h]; exact h'
  | d :: l, _, _, _, ⟨A', c', zs, e, h1, h2, h3, h4⟩, h' => ⟨A', c', zs ++ _, by rw [e, List.append_assoc], h1, h2, h3, RX.append h4 h'⟩
theorem RX.split {w : World} {o : Option Nat} : ∀ (k : Nat) {l : List RowD} {xs : List Value}, RX w o l xs → RX w o (l.take k) (xs.take (k * 6)) ∧ RX w o (l.drop k) (xs.drop (k * 6))
  | 0, _, _, h => by simp only [Nat.zero_mul, List.take_zero, List.drop_zero]; exact ⟨rfl, h⟩
  | k + 1, [], _, h => by rw [show _ = [] from h]; simp only [List.take_nil, List.drop_nil]; exact ⟨rfl, rfl⟩
  | k + 1, d :: l, _, ⟨A', c', ys, e, h1, h2, h3, h4⟩ => by
    obtain ⟨g1, g2⟩ := RX.split k h4
    have e1 : (k + 1) * 6 = (d.cells A' c').toList.length + k * 6 := by rw [cells_length]; omega
    subst e
    rw [e1, List.take_succ_cons, List.drop_succ_cons, List.take_length_add_append, List.drop_length_add_append]
    exact ⟨⟨A', c', _, rfl, h1, h2, h3, g1⟩, g2⟩
theorem RX.one {w : World} {o : Option Nat} {d : RowD} {A : Option Addr} {c : Nat} (h1 : FX w o A d.cols) (h2 : d.cols.length ≤ c) (h3 : A = none → c = 0) : RX w o [d] (d.cells A c).toList :=
  ⟨A, c, [], by simp, h1, h2, h3, rfl⟩
/-- The row that stands at k. -/
theorem RX.at_ {w : World} {o : Option Nat} {l : List RowD} {xs : List Value} (h : RX w o l xs) {k : Nat} {d : RowD} (hd : l[k]? = some d) :
    ∃ A c, FX w o A d.cols ∧ d.cols.length ≤ c ∧ (A = none → c = 0) ∧ (xs.drop (k * 6)).take 6 = (d.cells A c).toList ∧ ∀ j v, (d.cells A c)[j]? = some v → xs[k * 6 + j]? = some v := by
  have h2 := (h.split k).2
  have e : l.drop k = d :: l.drop (k + 1) := by
    obtain ⟨hk, rfl⟩ := List.getElem?_eq_some_iff.1 hd
    exact List.drop_eq_getElem_cons hk
  rw [e] at h2
  obtain ⟨A', c', ys, e1, g1, g2, g3, _⟩ := h2
  refine ⟨A', c', g1, g2, g3, by rw [e1]; exact List.take_left' (cells_length _ _ _), fun j v hv => ?_⟩
  have hj : j < 6 := by
    have := (Array.getElem?_eq_some_iff.1 hv).1
    simpa [RowD.cells] using this
  rw [← List.getElem?_drop, e1, List.getElem?_append_left (by rw [cells_length]; exact hj)]
  simpa using hv
theorem RX.oneCell {w : World} {o : Option Nat} : ∀ {l : List RowD} {xs : List Value}, RX w o l xs → ∀ u ∈ xs, u.oneCell' = true
  | [], _, h, u, hu => by rw [show _ = [] from h] at hu; cases hu
  | d :: l, _, ⟨A', c', ys, e, _, _, _, h4⟩, u, hu => by
    subst e
    rcases List.mem_append.1 hu with hu | hu
    · simp only [RowD.cells, List.mem_cons, List.not_mem_nil, or_false] at hu
      rcases hu with rfl | rfl | rfl | rfl | rfl | rfl <;> rfl
    · exact RX.oneCell h4 u hu

/-- Rows that came in, as cells. -/
theorem RX.of_RC {w : World} {B : Nat} {A : Option Addr} {l : List RowD} (h : RC w B A l) (hB : B ≤ w.heap.size) {o : Option Nat} (ho : ∀ g, o = some g → B ≤ g) :
    ∃ xs, RX w o l xs ∧ ∀ ad, A = some ad → ∀ j u, xs[j]? = some u → w.cell? (ad.add j) = some u := by
  rcases Nat.eq_zero_or_pos l.length with hl | hl
  · have : l = [] := List.eq_nil_of_length_eq_zero hl
    subst this
    exact ⟨[], rfl, fun _ _ j u hu => by simp at hu⟩
  · obtain ⟨b, off, e, _, hc⟩ := h.2 hl
    have key : ∀ (m : List RowD) (i : Nat), (∀ k d, m[k]? = some d → ∃ A' c', FC w B A' d.cols ∧ d.cols.length ≤ c' ∧ (A' = none → c' = 0) ∧ ∀ j v, (d.cells A' c')[j]? = some v → w.cell? ⟨b, off + (i + k) * 6 + j, none⟩ = some v) →
        ∃ xs, RX w o m xs ∧ ∀ j u, xs[j]? = some u → w.cell? ⟨b, off + i * 6 + j, none⟩ = some u := by
      intro m
      induction m with
      | nil => intro i _; exact ⟨[], rfl, fun j u hu => by simp at hu⟩
      | cons d m ih =>
        intro i hm
        obtain ⟨xs, g1, g2⟩ := ih (i + 1) fun k d' hd' => by
          obtain ⟨A', c', q1, q2, q3, q4⟩ := hm (k + 1) d' (by simpa using hd')
          exact ⟨A', c', q1, q2, q3, fun j v hv => by have := q4 j v hv; rw [show i + 1 + k = i + (k + 1) by omega]; exact this⟩
        obtain ⟨A', c', q1, q2, q3, q4⟩ := hm 0 d rfl
        refine ⟨(d.cells A' c').toList ++ xs, ⟨A', c', xs, rfl, .of_FC q1 hB ho, q2, q3, g1⟩, fun j u hu => ?_⟩
        rcases Nat.lt_or_ge j 6 with hj | hj
        · rw [List.getElem?_append_left (by rw [cells_length]; exact hj)] at hu
          exact q4 j u (by simpa using hu)
        · rw [List.getElem?_append_right (by rw [cells_length]; exact hj), cells_length] at hu
          have := g2 (j - 6) u hu
          rw [show off + i * 6 + j = off + (i + 1) * 6 + (j - 6) by omega]
          exact this
    obtain ⟨xs, g1, g2⟩ := key l 0 fun k d hd => by
      obtain ⟨A', c', q1, q2, q3, q4⟩ := hc k d hd
      exact ⟨A', c', q1, q2, q3, fun j v hv => by rw [Nat.zero_add]; exact q4 j v hv⟩
    refine ⟨xs, g1, fun ad had j u hu => ?_⟩
    rw [e] at had
    injection had with had
    subst had
    have := g2 j u hu
    rw [Nat.zero_mul, Nat.add_zero] at this
    unfold Addr.add
    by_cases hj : j = 0
    · subst hj; simpa using this
    · rw [if_neg hj]; exact this

/-- A slice of rows of one's own. -/
def Own (w : World) (base : Nat) (v : Value) (l : List RowD) : Prop := ∃ xs, w.ownsRow base 30 6 v l.length xs ∧ RX w v.ownBlock l xs

theorem Own.below {w w' : World} {base : Nat} {v : Value} {l : List RowD} (h : Own w base v l) (hb : Below w.heap.size w w') : Own w' base v l := by
  obtain ⟨xs, h1, h2⟩ := h
  refine ⟨xs, ?_, h2.below hb⟩
  exact h1.kept (row := none) ⟨hb.os, hb.tape, hb.output, hb.size, fun k hk _ => hb.block k hk⟩ (by cases v.ownBlock <;> simp)

/-- It reads as those rows. -/
theorem Own.reads {w : World} {base : Nat} {v : Value} {l : List RowD} (h : Own w base v l) (hk : ∀ d ∈ l, d.key < 18446744073709551616 ∧ d.cols.length ≤ maxLen) :
    ∃ A c, v = .slice A l.length c ∧ RC w w.heap.size A l ∧ (A = none → c = 0) ∧ l.length ≤ c := by
  obtain ⟨xs, h1, h2⟩ := h
  rcases h1.2 with ⟨rfl, h0⟩ | ⟨g, cap, cur, rfl, hb, hh, hnc, hcm, hcs, htake⟩
  · refine ⟨none, 0, by rw [h0], ⟨hk, fun hl => by omega⟩, fun _ => rfl, by omega⟩
  · have hg : g < w.heap.size := by
      rcases Nat.lt_or_ge g w.heap.size with hlt | hge
      · exact hlt
      · rw [Array.getElem?_eq_none hge] at hh; cases hh
    refine ⟨_, cap, rfl, ⟨hk, fun hl => ⟨g, 0, rfl, hg, fun i d hd => ?_⟩⟩, (fun h => by cases h), hnc⟩
    obtain ⟨A', c', q1, q2, q3, q4, q5⟩ := h2.at_ hd
    refine ⟨A', c', q1.to_FC, q2, q3, fun j v hv => ?_⟩
    have hi := (List.getElem?_eq_some_iff.1 hd).1
    have hj : j < 6 := by
      have := (Array.getElem?_eq_some_iff.1 hv).1
      simpa [RowD.cells] using this
    rw [Nat.zero_add, h1.cellAt (i * 6 + j) (by omega)]
    exact q5 j v hv
/-- Numbers in memory that is new since w. -/
def FN (w w' : World) (A : Option Addr) (l : List Nat) : Prop :=
  (∀ x ∈ l, x < 18446744073709551616) ∧ (0 < l.length → ∃ b off, A = some ⟨b, off, none⟩ ∧ w.heap.size ≤ b ∧ b < w'.heap.size ∧ ∀ j x, l[j]? = some x → w'.cell? ⟨b, off + j, none⟩ = some (.float .f64 x))
theorem FN.to_FC {w w' : World} {A : Option Addr} {l : List Nat} (h : FN w w' A l) : FC w' w'.heap.size A l :=
  ⟨h.1, fun hl => by
    obtain ⟨b, off, e, _, hb, hc⟩ := h.2 hl
    exact ⟨b, off, e, hb, hc⟩⟩
theorem FN.to_FX {w w' : World} {A : Option Addr} {l : List Nat} (h : FN w w' A l) {o : Option Nat} (ho : ∀ g, o = some g → g < w.heap.size) : FX w' o A l :=
  ⟨h.1, fun hl => by
    obtain ⟨b, off, e, h1, hb, hc⟩ := h.2 hl
    exact ⟨b, off, e, hb, (fun hx => by have := ho b hx.symm; omega), hc⟩⟩
/-- A store elsewhere. -/
theorem FN.set {w w' : World} {A : Option Addr} {l : List Nat} (h : FN w w' A l) {p : Addr} (hp : p.block < w.heap.size) (u : Value) : FN w (w'.setCell p u) A l :=
  ⟨h.1, fun hl => by
    obtain ⟨b, off, e, h1, hb, hc⟩ := h.2 hl
    exact ⟨b, off, e, h1, by simpa [World.setCell] using hb, fun j x hx => (World.cell?_setCell_other w' p _ u (fun e => by subst e; simp at hp; omega)).trans (hc j x hx)⟩⟩
theorem FN.early {w0 w w' : World} {A : Option Addr} {l : List Nat} (h : FN w w' A l) (hw : w0.heap.size ≤ w.heap.size) : FN w0 w' A l :=
  ⟨h.1, fun hl => by
    obtain ⟨b, off, e, h1, hb, hc⟩ := h.2 hl
    exact ⟨b, off, e, by omega, hb, hc⟩⟩

theorem own1_form {w w' : World} {v : Value} {l : List Nat} (hl : ∀ x ∈ l, x < 18446744073709551616) (h : w'.ownsRow w.heap.size 25 1 v l.length (l.map (Value.float .f64))) :
    ∃ A c, v = .slice A l.length c ∧ FN w w' A l ∧ l.length ≤ c ∧ (A = none → c = 0) := by
  rcases h.2 with ⟨rfl, h0⟩ | ⟨g, cap, cur, rfl, hb, hh, hnc, hcm, hcs, htake⟩
  · exact ⟨none, 0, by rw [h0], ⟨hl, fun h => by omega⟩, by omega, fun _ => rfl⟩
  · have hg : g < w'.heap.size := by
      rcases Nat.lt_or_ge g w'.heap.size with hlt | hge
      · exact hlt
      · rw [Array.getElem?_eq_none hge] at hh; cases hh
    refine ⟨_, cap, rfl, ⟨hl, fun _ => ⟨g, 0, rfl, hb, hg, fun j x hx => ?_⟩⟩, hnc, (fun h => by cases h)⟩
    rw [Nat.zero_add, h.cellAt j (by have := (List.getElem?_eq_some_iff.1 hx).1; omega), List.getElem?_map, hx]
    rfl

end Go.Proofs.YtdbnlngkmfmnnaaGreatDoor

/- row.Check: the columns. -/
namespace Go.Proofs.YtdbnlngkmfmnnaaGreatDoor
open Go.RowKit

set_option maxHeartbeats 1000000 in
theorem badcol_any (x : Nat) (w : World) : Calls Tryz.prog 129 #[.float .f64 x] w fun e w' => e = .returned (.bool (!decide (x = numValN x))) ∧ w = w' := by
  have c1 := nvalue_any x
  have c2 := nsame_any x (numValN x)
  go_enter Tryz.func129, Tryz.ntmps129
  go_wp2_with (first
    | (go_at_call 126; (with_reducible refine (c1 _).mono ?_); rintro e w' ⟨rfl, rfl⟩)
    | (go_at_call 96; (with_reducible refine (c2 _).mono ?_); rintro e w' ⟨rfl, rfl⟩))
  go_ret
  exact ⟨rfl, rfl⟩

theorem get_at' {α : Type} {l : List α} {k n : Nat} (hn : Hid (l.length = n)) (h : k < n) : ∃ d, l[k]? = some d := ⟨l[k]'(by rw [hn.out]; exact h), List.getElem?_eq_getElem _⟩
theorem take_at' {α : Type} {l : List α} {k : Nat} {d : α} (h : l[k]? = some d) : l.take (k + 1) = l.take k ++ [d] := by
  rw [List.take_add_one, h]; rfl

set_option maxHeartbeats 2000000 in
theorem badindex_any (A : Option Addr) (c : Nat) (l : List Nat) (B : Nat) (w : World) (h : FC w B A l) (m : l.length ≤ maxLen) :
    Calls Tryz.prog 149 #[.slice A l.length c, .func (.func 129) #[] #[]] w fun e w' => ∃ z : Int, e = .returned (.int .i64 z) ∧ decide (0 ≤ z) = (l.any fun x => !decide (x = numValN x)) ∧ w = w' := by
  unfold maxLen at m
  obtain ⟨n, hn⟩ : ∃ n, l.length = n := ⟨_, rfl⟩
  rw [hn] at m ⊢
  have H := Lib.hid h
  have N := Lib.hid hn
  clear h hn
  go_enter Tryz.func149, Tryz.ntmps149
  go_wp2
  go_loopw [8] (fun i wr => ∃ j : Nat, j ≤ n ∧ i = .int .i64 j ∧ (∀ x ∈ l.take j, x = numValN x) ∧ wr = w) (fun i _ => n - (intOf i).toNat)
  case atStart => exact ⟨0, Nat.zero_le _, rfl, by simp, rfl⟩
  case round =>
    obtain ⟨j, hj, rfl, ht, rfl⟩ := hrel
    have HT := Lib.hid ht
    clear ht
    by_cases hlt : j < n
    · obtain ⟨x, hx⟩ := get_at' N hlt
      obtain ⟨b, off, e, _, hc⟩ := H.out.2 (by have := N.out; omega)
      subst e
      have hc0 := hc _ _ hx
      have cb := badcol_any x
      have HX := Lib.hid hx
      clear hc hx
      by_cases hv : x = numValN x
      · rw [decide_eq_true hv] at cb
        have HV := Lib.hid hv
        clear hv
        go_wp2_with (go_at_call 129; (with_reducible refine (cb _).mono ?_); rintro e w' ⟨rfl, rfl⟩)
        refine ⟨⟨j + 1, by omega, by go_num, ?_, trivial⟩, by simp [intOf]; omega⟩
        rw [take_at' HX.out]
        intro y hy
        rcases List.mem_append.1 hy with hy | hy
        · exact HT.out y hy
        · rw [List.mem_singleton.1 hy]; exact HV.out
      · rw [decide_eq_false hv] at cb
        have HV := Lib.hid hv
        clear hv
        go_wp2_with (go_at_call 129; (with_reducible refine (cb _).mono ?_); rintro e w' ⟨rfl, rfl⟩)
        go_ret
        refine ⟨j, rfl, ?_, rfl⟩
        have : (l.any fun x => !decide (x = numValN x)) = true := List.any_eq_true.2 ⟨x, List.mem_of_getElem? HX.out, by simpa using HV.out⟩
        rw [this]
        exact decide_eq_true (by omega)
    · have hjn : j = n := by omega
      subst hjn
      go_wp2
      go_ret
      refine ⟨-1, rfl, ?_, rfl⟩
      have ht := HT.out
      rw [List.take_of_length_le (by have := N.out; omega)] at ht
      have : (l.any fun x => !decide (x = numValN x)) = false := by
        rw [List.any_eq_false]
        intro x hx
        simpa using ht x hx
      rw [this]; rfl

theorem badcols_any (A : Option Addr) (c : Nat) (l : List Nat) (B : Nat) (w : World) (h : FC w B A l) (m : l.length ≤ maxLen) :
    Calls Tryz.prog 128 #[.slice A l.length c, .func (.func 129) #[] #[]] w fun e w' => e = .returned (.bool (l.any fun x => !decide (x = numValN x))) ∧ w = w' := by
  have cb := badindex_any A c l B w h m
  obtain ⟨n, hn⟩ : ∃ n, l.length = n := ⟨_, rfl⟩
  obtain ⟨bb, hbb⟩ : ∃ bb, (l.any fun x => !decide (x = numValN x)) = bb := ⟨_, rfl⟩
  rw [hn] at cb ⊢
  rw [hbb] at cb ⊢
  clear h m hn hbb
  go_enter Tryz.func128, Tryz.ntmps128
  go_wp2_with (go_at_call 149; (with_reducible refine cb.mono ?_); rintro e w' ⟨z, rfl, hz, rfl⟩)
  go_ret
  exact ⟨by rw [← hz]; rfl, rfl⟩
end Go.Proofs.YtdbnlngkmfmnnaaGreatDoor
