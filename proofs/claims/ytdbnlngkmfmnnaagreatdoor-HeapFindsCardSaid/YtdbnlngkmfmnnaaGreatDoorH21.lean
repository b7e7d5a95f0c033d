/- The small question that a refusal meets: it is answered yes. -/
import Derived.Test.YtdbnlngkmfmnnaaGreatDoorPm3
import Derived.Test.YtdbnlngkmfmnnaaGreatDoorH01
import Derived.KernelRfl
import Derived.Below
import Derived.RecoverIn
import Derived.Test.YtdbnlngkmfmnnaaGreatDoorH20
namespace Go.Proofs.YtdbnlngkmfmnnaaGreatDoor
open Go.Pm
noncomputable section

noncomputable def bT : Tbl := tblOf 8 Tryz.prog.types.toList Tryz.prog.funcs.toList
noncomputable def bExt : FuncId → List Value → Option Value := fun f l => bif Nat.beq f 32 then (match l with | [.float .f64 b] => some (.int .u64 (.ofNat b)) | _ => none) else bif Nat.beq f 44 then (match l with | [.int .u64 (.ofNat b)] => some (.float .f64 b) | _ => none) else none
noncomputable def bIdle : FuncId → Bool := fun f => Nat.beq f 139
noncomputable def bK : Cfg := ⟨bT, Tryz.prog, bExt, fun _ _ _ => none, fun _ => 2, fun _ _ => true, 100000, bIdle, fun _ => none⟩
/-- Does it say yes? -/
noncomputable def yes : Option CRes → Bool
  | some (.s (.bool true), _, _) => true
  | _ => false

theorem bT_names : (Tryz.prog.funcs.toList.all fun fn => !(fn.name == "runtime.NumGoroutine")) = true := by kernel_rfl
theorem bT_mixed : Tryz.prog.follows .mixedOrders = true := by kernel_rfl

theorem bExt_ok : ExtOk Tryz.prog bExt := by
  intro f args v h w
  unfold bExt at h
  cases h1 : Nat.beq f 32 with
  | true =>
    rw [h1] at h
    have := Nat.eq_of_beq_eq_true h1
    subst this
    simp only [cond_true] at h
    split at h
    · cases h
      exact run_bits _ w
    · cases h
  | false =>
    rw [h1] at h
    simp only [cond_false] at h
    cases h2 : Nat.beq f 44 with
    | true =>
      rw [h2] at h
      have := Nat.eq_of_beq_eq_true h2
      subst this
      simp only [cond_true] at h
      split at h
      · cases h
        exact run_frombits _ w
      · cases h
    | false => rw [h2] at h; cases h

theorem f139_at : Tryz.prog.funcs[139]? = some Tryz.f139 := by kernel_rfl
theorem f139_n : (Tryz.f139.name == "runtime.NumGoroutine") = false := by kernel_rfl
noncomputable def c139 : Code := match Tryz.f139.body with | some c => c | none => .skip
theorem f139_b : Tryz.f139.body = some c139 := by kernel_rfl

theorem opsS_val {F : Fence} {n : Nat} {P : Program} {ops : Array Oper} {Q : Exit → Act → List Frame → World → Prop} {i : Nat} {rest : List Nat} {a : Act} {cs : List Frame} {w w' : World} {d : Option Tmp} {op : Op} {ty : TypeId} {p : String} {af : Array Edge} {v : Value}
    (ho : ops[i]? = some ⟨d, op, ty, p, af, none⟩) (hF : ∀ f, F.fn f) (hr : (execOp a.eval ⟨d, op, ty, p, af, none⟩).run P w = .ok (.value v) w') (h : wpOpsSIn F n P ops Q rest (a.put d v) cs w') : wpOpsSIn F n P ops Q (i :: rest) a cs w := by
  unfold wpOpsSIn
  simp only [ho]
  refine ⟨fun f _ => hF f, ?_⟩
  have : Region.wanted (⟨d, op, ty, p, af, none⟩ : Oper) (yielded ops a.tmps) = true := rfl
  rw [if_pos this, hr]
  exact h
theorem opsS_skip {F : Fence} {n : Nat} {P : Program} {ops : Array Oper} {Q : Exit → Act → List Frame → World → Prop} {i : Nat} {rest : List Nat} {a : Act} {cs : List Frame} {w w' : World} {d : Option Tmp} {op : Op} {ty : TypeId} {p : String} {af : Array Edge}
    (ho : ops[i]? = some ⟨d, op, ty, p, af, none⟩) (hF : ∀ f, F.fn f) (hr : (execOp a.eval ⟨d, op, ty, p, af, none⟩).run P w = .ok .skip w') (h : wpOpsSIn F n P ops Q rest (a.put d undef) cs w') : wpOpsSIn F n P ops Q (i :: rest) a cs w := by
  unfold wpOpsSIn
  simp only [ho]
  refine ⟨fun f _ => hF f, ?_⟩
  have : Region.wanted (⟨d, op, ty, p, af, none⟩ : Oper) (yielded ops a.tmps) = true := rfl
  rw [if_pos this, hr]
  exact h
theorem opsS_rec {F : Fence} {n : Nat} {P : Program} {ops : Array Oper} {Q : Exit → Act → List Frame → World → Prop} {i : Nat} {rest : List Nat} {a : Act} {cs : List Frame} {w w' : World} {d : Option Tmp} {op : Op} {ty : TypeId} {p : String} {af : Array Edge}
    (ho : ops[i]? = some ⟨d, op, ty, p, af, none⟩) (hF : ∀ f, F.fn f) (hr : (execOp a.eval ⟨d, op, ty, p, af, none⟩).run P w = .ok .recover w') (hc : recoverD cs = none) (h : wpOpsSIn F n P ops Q rest (a.put d .nilIface) cs w') : wpOpsSIn F n P ops Q (i :: rest) a cs w := by
  unfold wpOpsSIn
  simp only [ho]
  refine ⟨fun f _ => hF f, ?_⟩
  have : Region.wanted (⟨d, op, ty, p, af, none⟩ : Oper) (yielded ops a.tmps) = true := rfl
  rw [if_pos this, hr]
  simp only [hc]
  exact h

theorem idle_ok : IdleOk Tryz.prog bIdle := by
  intro g hg cap w
  have hg' : g = 139 := Nat.eq_of_beq_eq_true hg
  subst hg'
  have hn : ¬ Tryz.f139.name = "runtime.NumGoroutine" := by have := f139_n; simpa using this
  refine ⟨?_, ?_⟩
  · have : (callFunc 139 cap).run Tryz.prog w = .ok (.enter 139 cap) w := by simp [callFunc, f139_at, hn, f139_b]
    simp [invoke, this]
  refine callsDIn_of_wpSIn f139_at f139_b trivial ?_
  intro c0 cs hm
  generalize ha0 : ({ tmps := cap ++ Array.replicate (Tryz.f139.ntmps - cap.size) undef, defers := [] } : Act) = a0
  have hs0 : 11 ≤ a0.tmps.size := by
    have : Tryz.f139.ntmps = 11 := by kernel_rfl
    rw [← ha0, this]; simp; omega
  have hd0 : a0.defers = [] := by rw [← ha0]
  unfold c139
  show Code.wpSIn _ _ _ (Code.seq _ _) _ _ _ _
  refine wpSIn_seq ?_
  refine wpSIn_region ?_
  show wpOpsSIn _ _ _ _ _ [0, 1, 2, 3, 4, 5, 6, 7] _ _ _
  have ev : ∀ (a : Act) (d : Nat) (v : Value), d < a.tmps.size → (a.put (some d) v).eval (.tmp d) = v := fun a d v h => by
    simp only [Act.eval]
    rw [put_get, if_pos ⟨rfl, h⟩]
  have ev2 : ∀ (a : Act) (d t : Nat) (v : Value), d ≠ t → (a.put (some d) v).eval (.tmp t) = a.eval (.tmp t) := fun a d t v h => by
    simp only [Act.eval]
    rw [put_get, if_neg (fun x => h (by injection x.1))]
  have sz : ∀ (a : Act) (d : Option Tmp) (v : Value), (a.put d v).tmps.size = a.tmps.size := fun a d v => (put_size a d v).1
  refine opsS_rec rfl (fun _ => trivial) rfl (by simp [recoverD, hm]) ?_
  generalize h1 : a0.put (some 6) Value.nilIface = a1
  have e1 : a1.eval (.tmp 6) = .nilIface := by rw [← h1]; exact ev _ _ _ (by omega)
  have s1 : 11 ≤ a1.tmps.size := by rw [← h1, sz]; exact hs0
  refine opsS_val rfl (fun _ => trivial) (v := .tuple #[.agg #[.int .i64 0], .bool false]) (w' := w) ?_ ?_
  · simp only [execOp]
    rw [e1]
    kernel_rfl
  generalize h2 : a1.put (some 7) (.tuple #[.agg #[.int .i64 0], .bool false]) = a2
  have e2 : a2.eval (.tmp 7) = .tuple #[.agg #[.int .i64 0], .bool false] := by rw [← h2]; exact ev _ _ _ (by omega)
  have s2 : 11 ≤ a2.tmps.size := by rw [← h2, sz]; exact s1
  refine opsS_val rfl (fun _ => trivial) (v := .tuple #[.agg #[.int .i64 0], .bool false]) (w' := w) ?_ ?_
  · simp only [execOp]
    rw [e2]
    rfl
  generalize h3 : a2.put (some 5) (.tuple #[.agg #[.int .i64 0], .bool false]) = a3
  have e3 : a3.eval (.tmp 5) = .tuple #[.agg #[.int .i64 0], .bool false] := by rw [← h3]; exact ev _ _ _ (by omega)
  have s3 : 11 ≤ a3.tmps.size := by rw [← h3, sz]; exact s2
  refine opsS_val rfl (fun _ => trivial) (v := .agg #[.int .i64 0]) (w' := w) ?_ ?_
  · simp only [execOp]
    rw [e3]
    kernel_rfl
  generalize h4 : a3.put (some 8) (.agg #[.int .i64 0]) = a4
  have e4 : a4.eval (.tmp 8) = .agg #[.int .i64 0] := by rw [← h4]; exact ev _ _ _ (by omega)
  have e4' : a4.eval (.tmp 5) = .tuple #[.agg #[.int .i64 0], .bool false] := by rw [← h4, ev2 _ _ _ _ (by omega)]; exact e3
  have s4 : 11 ≤ a4.tmps.size := by rw [← h4, sz]; exact s3
  refine opsS_val rfl (fun _ => trivial) (v := .bool false) (w' := w) ?_ ?_
  · simp only [execOp]
    rw [e4']
    kernel_rfl
  generalize h5 : a4.put (some 9) (.bool false) = a5
  have e5 : a5.eval (.tmp 9) = .bool false := by rw [← h5]; exact ev _ _ _ (by omega)
  have e5' : a5.eval (.tmp 8) = .agg #[.int .i64 0] := by rw [← h5, ev2 _ _ _ _ (by omega)]; exact e4
  have s5 : 11 ≤ a5.tmps.size := by rw [← h5, sz]; exact s4
  refine opsS_val rfl (fun _ => trivial) (v := .pointer (some ⟨w.heap.size, 0, none⟩)) (w' := pushed w #[.int .i64 0] 162) ?_ ?_
  · simp only [execOp]
    kernel_rfl
  generalize h6 : a5.put (some 3) (.pointer (some ⟨w.heap.size, 0, none⟩)) = a6
  have e6 : a6.eval (.tmp 3) = .pointer (some ⟨w.heap.size, 0, none⟩) := by rw [← h6]; exact ev _ _ _ (by omega)
  have e6' : a6.eval (.tmp 8) = .agg #[.int .i64 0] := by rw [← h6, ev2 _ _ _ _ (by omega)]; exact e5'
  have e6'' : a6.eval (.tmp 9) = .bool false := by rw [← h6, ev2 _ _ _ _ (by omega)]; exact e5
  have s6 : 11 ≤ a6.tmps.size := by rw [← h6, sz]; exact s5
  have hp : (pushed w #[.int .i64 0] 162).heap[w.heap.size]? = some (.cells #[.int .i64 0] 162 (0, 0)) := by
    show (w.heap.push _)[w.heap.size]? = _
    rw [Array.getElem?_push, if_pos rfl]
  obtain ⟨w2, cs2, r1, r4, r6, r2, r3⟩ := storeCells_run (P := Tryz.prog) (o := 0) hp (vs := [.int .i64 0]) (by simp) (by simp [Value.oneCell'])
  have hsz : (sizeOf 162).run Tryz.prog (pushed w #[.int .i64 0] 162) = .ok 1 (pushed w #[.int .i64 0] 162) := by kernel_rfl
  refine opsS_skip rfl (fun _ => trivial) (w' := w2) ?_ ?_
  · simp only [execOp]
    rw [e6, e6']
    simp [Instr.storeAt, Instr.sureAddr, storeVar, hsz, Value.cells, r1]
  generalize h7 : a6.put none undef = a7
  have e7 : a7.eval (.tmp 9) = .bool false := by rw [← h7]; simp only [Act.eval]; rw [put_get, if_neg (fun x => by cases x.1)]; exact e6''
  have s7 : 11 ≤ a7.tmps.size := by rw [← h7, sz]; exact s6
  refine opsS_val rfl (fun _ => trivial) (v := .bool false) (w' := w2) ?_ ?_
  · simp only [execOp]
    rw [e7]
    rfl
  generalize h8 : a7.put (some 4) (.bool false) = a8
  have e8 : a8.eval (.tmp 4) = .bool false := by rw [← h8]; exact ev _ _ _ (by omega)
  have s8 : 11 ≤ a8.tmps.size := by rw [← h8, sz]; exact s7
  show Code.wpSIn _ _ _ (Code.seq _ _) _ _ _ _
  refine wpSIn_seq ?_
  refine wpSIn_region ?_
  show wpOpsSIn _ _ _ _ _ [0] _ _ _
  refine opsS_val rfl (fun _ => trivial) (v := .bool false) (w' := w2) ?_ ?_
  · simp only [execOp]
    rw [e8]
    rfl
  generalize h9 : a8.put (some 10) (.bool false) = a9
  have e9 : a9.eval (.tmp 10) = .bool false := by rw [← h9]; exact ev _ _ _ (by omega)
  show Code.wpSIn _ _ _ (Code.cond _ _ _) _ _ _ _
  refine wpSIn_cond e9 ?_
  have hgr : Grown w w2 := by
    refine ⟨r2.os, r2.tape, r2.output, Nat.le_trans (by simp [pushed]) r2.size, fun b hb => ?_⟩
    rw [r3 b (by omega)]
    show (w.heap.push _)[b]? = _
    rw [Array.getElem?_push, if_neg (by omega)]
  have hdef : a9.defers = [] := by
    rw [← h9, ← h8, ← h7, ← h6, ← h5, ← h4, ← h3, ← h2, ← h1]
    simp [Act.put, hd0]
  show Code.wpSIn _ _ _ Code.skip _ _ _ _
  refine wpSIn_of_wpIn rfl (wpIn_skip ?_)
  refine ⟨hdef, .returning, ?_, .tuple #[], ?_, ⟨_, rfl⟩, rfl, hgr⟩
  · rw [← hm]
  · have : Tryz.f139.results = #[] := by kernel_rfl
    simp [results, this]

theorem bK_ok : bK.Ok where
  T := tblOf_ok 8 bT_mixed
  names f fn h := by
    have h1 : Tryz.prog.funcs[f]? = some fn := (tblOf_ok 8 bT_mixed).func f fn h
    have h2 := List.all_eq_true.1 bT_names fn (by rw [Array.mem_toList_iff]; exact Array.mem_of_getElem? h1)
    simpa using h2
  ext := bExt_ok
  orc := fun f args gl r rb gl' h => by cases h
  idle := idle_ok
  chunk := fun g sT iT h => by cases h

theorem awake_yes : yes (pcall 60 bK false 11 [] GL.nil) = true := by kernel_rfl

/-- Nothing of one's own. -/
noncomputable def noEnv (w : World) : Env := ⟨w, ⟨[], GL.nil⟩, fun _ => (0, 0), fun _ => 0, fun _ => False, fun _ => False⟩

theorem nil_get (x : Nat) : (GL.nil)[x]? = none := by
  exact GL.nil_get x

theorem noEnv_ent (w : World) (r : BRef) : (noEnv w).bs.ent r = none := by
  cases r with
  | loc t k => rfl
  | glob x =>
    show ((GL.nil)[x]?).map (fun b => (0, b.blk?)) = none
    rw [nil_get]; rfl
theorem noEnv_map (w : World) (x : Nat) : (noEnv w).bs.mapAt x = none := by
  show ((GL.nil)[x]?).bind GE.map? = none
  rw [nil_get]; rfl
theorem noEnv_rel (w : World) : Rel (noEnv w) where
  len r g b h := by rw [noEnv_ent] at h; cases h
  phys r g b h := by rw [noEnv_ent] at h; cases h
  own r g b h := by rw [noEnv_ent] at h; cases h
  inj r r' g g' b b' h := by rw [noEnv_ent] at h; cases h
  lt k h := h.elim
  llt k h := h.elim
  apart k h := h.elim
  gl r g b h := by rw [noEnv_ent] at h; cases h
  mps x l h := by rw [noEnv_map] at h; cases h
  minj x y h := by rw [noEnv_map] at h; cases h

theorem awake_any (w : World) : Calls Tryz.prog 11 #[] w fun e w' => e = .returned (.bool true) ∧ Go.RowKit.Below w.heap.size w w' := by
  have h := awake_yes
  unfold yes at h
  split at h
  · rename_i rb gl' he
    refine (pcall_ok 60 false bK_ok 11 [] GL.nil _ rb gl' he (noEnv w) [] rfl (noEnv_rel w) VRl_nil).mono ?_
    rintro e w' ⟨E', v, rfl, rfl, _, hv, hx, _, _⟩
    refine ⟨?_, ⟨hx.os, hx.tape, hx.output, hx.size, fun k hk => hx.keep k hk (fun h => h)⟩⟩
    have h1 : v = .bool true ∧ (Value.bool true).oneCell' = true := by simpa [VR] using hv
    rw [h1.1]
  · cases h
end
end Go.Proofs.YtdbnlngkmfmnnaaGreatDoor

/- What looking up gives, in one form for both sides; and what stands while a walk goes on. -/
namespace Go.Proofs.YtdbnlngkmfmnnaaGreatDoor
open Go.RowKit

/-- A property that is kept by all that leaves what stands. -/
def Stays (P : World → Prop) : Prop := ∀ W W' : World, P W → Below W.heap.size W W' → P W'
theorem stays_box (b : Nat) (o : Obj) : Stays (fun W => W.heap[b]? = some o) := fun _ _ h hb => (hb.block b (Array.getElem?_eq_some_iff.1 h).1).trans h
theorem stays_fc (A : Option Addr) (l : List Nat) : Stays (fun W => FC W W.heap.size A l) := fun _ _ h hb => (h.below hb).more hb.size
theorem stays_rc (A : Option Addr) (l : List RowD) : Stays (fun W => RC W W.heap.size A l) := fun _ _ h hb => (h.below hb).more hb.size
/-- What stands since w. -/
structure Bag (w : World) (P : World → Prop) (W : World) : Prop where
  below : Below w.heap.size w W
  it : P W
  stays : Stays P
theorem Bag.same {w W W' : World} {P : World → Prop} (h : Bag w P W) (hb : Below W.heap.size W W') : Bag w P W' := ⟨h.below.trans (hb.mono h.below.size), h.stays _ _ h.it hb, h.stays⟩
theorem Bag.add {w W : World} {P Q : World → Prop} (h : Bag w P W) (hq : Stays Q) (q : Q W) : Bag w (fun V => Q V ∧ P V) W := ⟨h.below, ⟨q, h.it⟩, fun _ _ hh hb => ⟨hq _ _ hh.1 hb, h.stays _ _ hh.2 hb⟩⟩
theorem Bag.start (w : World) : Bag w (fun _ => True) w := ⟨Below.refl _ _, trivial, fun _ _ _ _ => trivial⟩
/-- One more box. -/
theorem Bag.box {w W : World} {P : World → Prop} (h : Bag w P W) (o : Obj) : Bag w (fun V => V.heap[W.heap.size]? = some o ∧ P V) (W.alloc o) :=
  (h.same ((Below.refl _ _).alloc (Nat.le_refl _) o)).add (stays_box _ o) (heap_alloc_new W o)

/-- Two more boxes. -/
theorem Bag.box2 {w W : World} {P : World → Prop} (h : Bag w P W) (o o2 : Obj) : Bag w (fun V => V.heap[W.heap.size + 1]? = some o2 ∧ V.heap[W.heap.size]? = some o ∧ P V) ((W.alloc o).alloc o2) := by
  have := (h.box o).box o2
  rwa [World.size_alloc] at this

def foD (o : Option (RowD × Nat × Nat)) : RowD := match o with | some p => p.1 | none => zeroD
def foX (o : Option (RowD × Nat × Nat)) : Int := match o with | some p => (p.2.1 : Nat) | none => 0
def foY (o : Option (RowD × Nat × Nat)) : Int := match o with | some p => (p.2.2 : Nat) | none => 0
def foB (o : Option (RowD × Nat × Nat)) : Bool := match o with | some _ => true | none => false

/-- A row found, as values. -/
def GotR (d : RowD) (x y : Int) (b : Bool) (e : Ending) (w w' : World) : Prop := Below w.heap.size w w' ∧ ∃ A c, e = .returned (.tuple #[.agg (d.cells A c), .agg #[.int .i64 x, .int .i64 y], .bool b]) ∧ FC w' w'.heap.size A d.cols
def GotS (d : RowD) (b : Bool) (e : Ending) (w w' : World) : Prop := Below w.heap.size w w' ∧ ∃ A c, e = .returned (.tuple #[.agg (d.cells A c), .bool b]) ∧ FC w' w'.heap.size A d.cols
/-- The same with the row's parts. -/
def GotV (K : Nat) (E : Bool) (C : List Nat) (W1 P1 Q1 x y : Int) (b : Bool) (e : Ending) (w w' : World) : Prop := Below w.heap.size w w' ∧ ∃ A c, e = .returned (.tuple #[.agg #[.float .f64 K, .bool E, .slice A C.length c, .int .i64 W1, .int .i64 P1, .int .i64 Q1], .agg #[.int .i64 x, .int .i64 y], .bool b]) ∧ FC w' w'.heap.size A C
def GotU (K : Nat) (E : Bool) (C : List Nat) (W1 P1 Q1 : Int) (b : Bool) (e : Ending) (w w' : World) : Prop := Below w.heap.size w w' ∧ ∃ A c, e = .returned (.tuple #[.agg #[.float .f64 K, .bool E, .slice A C.length c, .int .i64 W1, .int .i64 P1, .int .i64 Q1], .bool b]) ∧ FC w' w'.heap.size A C
theorem fc_nil (w : World) (A : Option Addr) : FC w w.heap.size A [] := ⟨by simp, by simp⟩
theorem hfind_got {w w' : World} {o : Option (RowD × Nat × Nat)} {e : Ending} (h : HFind w o e w') : GotR (foD o) (foX o) (foY o) (foB o) e w w' := by
  cases o with
  | none => exact ⟨h.1, none, 0, h.2, fc_nil _ _⟩
  | some p =>
    obtain ⟨h1, A, c, h2, h3, _⟩ := h
    exact ⟨h1, A, c, h2, h3.to_FC⟩
theorem rfind_got {w w' : World} {o : Option (RowD × Nat × Nat)} {e : Ending} (h : RFind w o e w') : GotR (foD o) (foX o) (foY o) (foB o) e w w' ∧ (foD o).cols.length ≤ maxLen := by
  cases o with
  | none => exact ⟨⟨h.1, none, 0, h.2, fc_nil _ _⟩, Nat.zero_le _⟩
  | some p =>
    obtain ⟨h1, A, c, h2, h3, _, h4, _⟩ := h
    exact ⟨⟨h1, A, c, h2, h3⟩, h4⟩
theorem hget_got {w w' : World} {o : Option (RowD × Nat × Nat)} {e : Ending} (h : HGet w (o.map (·.1)) e w') : GotS (foD o) (foB o) e w w' := by
  cases o with
  | none => exact ⟨h.1, none, 0, h.2, fc_nil _ _⟩
  | some p =>
    obtain ⟨h1, A, c, h2, h3, _⟩ := h
    exact ⟨h1, A, c, h2, h3.to_FC⟩
theorem rget_got {w w' : World} {o : Option (RowD × Nat × Nat)} {e : Ending} (h : RGet w o e w') : GotS (foD o) (foB o) e w w' ∧ (foD o).cols.length ≤ maxLen := by
  cases o with
  | none => exact ⟨⟨h.1, none, 0, h.2, fc_nil _ _⟩, Nat.zero_le _⟩
  | some p =>
    obtain ⟨h1, A, c, h2, h3, _, h4, _⟩ := h
    exact ⟨⟨h1, A, c, h2, h3⟩, h4⟩
end Go.Proofs.YtdbnlngkmfmnnaaGreatDoor

/- HeapFinds: the case of leaves that may be. -/
namespace Go.Proofs.YtdbnlngkmfmnnaaGreatDoor
open Go.RowKit

set_option maxHeartbeats 4000000 in
set_option maxRecDepth 100000 in
theorem finds_may (A : Option Addr) (c k0 k1 n : Nat) (x y : Int) (l : List LeafD) (w : World) (h : LC w w.heap.size A l) (hn : l.length = n) (b0 : k0 < 18446744073709551616) (b1 : k1 < 18446744073709551616) (hl : lightL l = true) (hok : okHeapB l = true) :
    Calls Tryz.prog 5 #[.slice A n c, .agg #[.float .f64 k0, .float .f64 k1], .agg #[.int .i64 x, .int .i64 y]] w fun e w' => e = .returned (.bool true) ∧ Below w.heap.size w w' := by
  have hll : LightL l := chk_iff.1 hl
  have hoh : OkHeap l := chk_iff.1 hok
  have h8 : n ≤ 8 := by rw [← hn]; exact hll.1
  have m : l.length ≤ maxLen := by unfold maxLen; omega
  have hsl : ∀ d ∈ l, d.slots.length ≤ 1000 ∧ ∀ s ∈ d.slots, s.length ≤ 1000 := fun d hd => ⟨by have := (hll.2 d hd).2.1; omega, fun s hs => by have := (hll.2 d hd).all s hs; omega⟩
  obtain ⟨o1, ho1⟩ : ∃ o, findP (rkP k0) l = o := ⟨_, rfl⟩
  obtain ⟨o2, ho2⟩ : ∃ o, findP (atP x y) l = o := ⟨_, rfl⟩
  obtain ⟨D1, hD1⟩ : ∃ d, foD o1 = d := ⟨_, rfl⟩
  obtain ⟨X1, hX1⟩ : ∃ d, foX o1 = d := ⟨_, rfl⟩
  obtain ⟨Y1, hY1⟩ : ∃ d, foY o1 = d := ⟨_, rfl⟩
  obtain ⟨B1, hB1⟩ : ∃ d, foB o1 = d := ⟨_, rfl⟩
  obtain ⟨D2, hD2⟩ : ∃ d, foD o2 = d := ⟨_, rfl⟩
  obtain ⟨B2, hB2⟩ : ∃ d, foB o2 = d := ⟨_, rfl⟩
  obtain ⟨L, hL⟩ : ∃ L, insAll (fun d => betw d.key k0 k1) (rowsL l) = L := ⟨_, rfl⟩
  have CL := Lib.hid (fun W (hb : Below w.heap.size w W) => light15_any A c l W ((h.below hb).more hb.size) m)
  have CF := Lib.hid (fun W (hb : Below w.heap.size w W) => hfind_any A c k0 l W ((h.below hb).more hb.size) m b0)
  have CG := Lib.hid (fun W (hb : Below w.heap.size w W) => hget_any A c x y l W ((h.below hb).more hb.size) m)
  have CR := Lib.hid (fun W (hb : Below w.heap.size w W) => rows_any A c k0 k1 l W ((h.below hb).more hb.size) m b0 b1)
  have CM := Lib.hid (fun W (hb : Below w.heap.size w W) => rmay15_any A c l W ((h.below hb).more hb.size) (by omega))
  have CK := Lib.hid (fun W (hb : Below w.heap.size w W) => check_any A c l W ((h.below hb).more hb.size) m)
  have DF := Lib.hid (fun W (hb : Below w.heap.size w W) => rfind_any A c k0 l W ((h.below hb).more hb.size) (by omega) hsl b0)
  have DG := Lib.hid (fun W (hb : Below w.heap.size w W) => rget_any A c x y l W ((h.below hb).more hb.size) (by omega) hsl)
  have DR := Lib.hid (fun W (hb : Below w.heap.size w W) => rrows15_any A c k0 k1 l W ((h.below hb).more hb.size) (by omega) hsl b0 b1)
  rw [hn] at CL CF CG CR CM CK DF DG DR
  rw [hl] at CL
  rw [hok] at CM CK
  have CF2 : Hid (∀ W, Below w.heap.size w W → Calls Tryz.prog 17 #[.slice A n c, .float .f64 k0] W fun e w' => GotR D1 X1 Y1 B1 e W w') := fun W hb => (CF.out W hb).mono fun e w' hh => by
    rw [show findH l k0 = o1 by unfold findH; rw [hok]; exact ho1] at hh
    have := hfind_got hh
    rwa [hD1, hX1, hY1, hB1] at this
  have CG2 : Hid (∀ W, Below w.heap.size w W → Calls Tryz.prog 18 #[.slice A n c, .agg #[.int .i64 x, .int .i64 y]] W fun e w' => GotS D2 B2 e W w') := fun W hb => (CG.out W hb).mono fun e w' hh => by
    rw [show getH l x y = o2.map (·.1) by unfold getH; rw [hok, ← ho2]; exact get_find l x y] at hh
    have := hget_got hh
    rwa [hD2, hB2] at this
  have DF2 : Hid (∀ W, Below w.heap.size w W → Calls Tryz.prog 21 #[.slice A n c, .float .f64 k0] W fun e w' => GotR D1 X1 Y1 B1 e W w' ∧ D1.cols.length ≤ maxLen) := fun W hb => (DF.out W hb).mono fun e w' hh => by
    rw [show findP (fun p => decide (p.1.rank = rankN k0)) l = o1 from ho1] at hh
    have := rfind_got hh
    rwa [hD1, hX1, hY1, hB1] at this
  have DG2 : Hid (∀ W, Below w.heap.size w W → Calls Tryz.prog 22 #[.slice A n c, .agg #[.int .i64 x, .int .i64 y]] W fun e w' => GotS D2 B2 e W w' ∧ D2.cols.length ≤ maxLen) := fun W hb => (DG.out W hb).mono fun e w' hh => by
    rw [ho2] at hh
    have := rget_got hh
    rwa [hD2, hB2] at this
  obtain ⟨nL, hnL⟩ : ∃ k, L.length = k := ⟨_, rfl⟩
  have CR2 : Hid (∀ W, Below w.heap.size w W → Calls Tryz.prog 15 #[.slice A n c, .float .f64 k0, .float .f64 k1] W fun e w' => ∃ A3 c3, e = .returned (.slice A3 nL c3) ∧ Below W.heap.size W w' ∧ RC w' w'.heap.size A3 L) := fun W hb => (CR.out W hb).mono fun e w' hh => by
    obtain ⟨h1, L', h2, A3, c3, h3, h4, _⟩ := hh
    rw [rows_doc hoh h2, hL] at h3 h4
    rw [hnL] at h3
    exact ⟨A3, c3, h3, h1, h4⟩
  have DR2 : Hid (∀ W, Below w.heap.size w W → Calls Tryz.prog 23 #[.slice A n c, .float .f64 k0, .float .f64 k1] W fun e w' => ∃ A3 c3, e = .returned (.slice A3 nL c3) ∧ Below W.heap.size W w' ∧ RC w' w'.heap.size A3 L) := fun W hb => (DR.out W hb).mono fun e w' hh => by
    obtain ⟨h1, A3, c3, h3, h4⟩ := hh
    rw [hL] at h3 h4
    rw [hnL] at h3
    exact ⟨A3, c3, h3, h1, h4⟩
  have hLm : nL ≤ maxLen := by
    have := RowsAre.len (l := l) (lo := k0) (hi := k1) (L := L) ⟨fun _ => by rw [← hL]; exact ⟨insAll_perm _ _, insAll_sorted hoh.2.2.2⟩, fun hh => absurd hoh hh⟩
    unfold maxLen
    omega
  have RR : Hid (∀ W A3 c3 A4 c4, RC W W.heap.size A3 L → RC W W.heap.size A4 L → Calls Tryz.prog 16 #[.slice A3 nL c3, .slice A4 nL c4] W fun e w' => e = .returned (.bool true) ∧ Below W.heap.size W w') := fun W A3 c3 A4 c4 h3 h4 => by
    have := rrows_any A3 A4 c3 c4 L L W h3 h4 (by omega) (by omega)
    rw [hnL, decide_eq_true rfl] at this
    exact this
  have RS : Hid (∀ (d : RowD) W A3 c3 A4 c4, FC W W.heap.size A3 d.cols → FC W W.heap.size A4 d.cols → d.cols.length ≤ maxLen → Calls Tryz.prog 20 #[.agg (d.cells A3 c3), .agg (d.cells A4 c4)] W fun e w' => e = .returned (.bool true) ∧ Below W.heap.size W w') := fun d W A3 c3 A4 c4 h3 h4 hm => by
    have := rowsame_any d d A3 A4 c3 c4 W h3 h4 hm hm
    rw [decide_eq_true rfl] at this
    exact this
  have M0 := Lib.hid ((Bag.start w).box2 (.cells #[.float .f64 k0, .float .f64 k1] 45) (.cells #[.int .i64 x, .int .i64 y] 33))
  have hsf := run_store_f64
  clear CF CG CR DF DG DR h hn b0 b1 hl hok hll hoh h8 m hsl ho1 ho2 hD1 hX1 hY1 hB1 hD2 hB2 hL hnL hLm
  obtain ⟨K1, E1, C1, W1, P1, Q1⟩ := D1
  obtain ⟨K2, E2, C2, W2, P2, Q2⟩ := D2
  have CF3 : Hid (∀ W, Below w.heap.size w W → Calls Tryz.prog 17 #[.slice A n c, .float .f64 k0] W fun e w' => GotV K1 E1 C1 W1 P1 Q1 X1 Y1 B1 e W w') := CF2
  have CG3 : Hid (∀ W, Below w.heap.size w W → Calls Tryz.prog 18 #[.slice A n c, .agg #[.int .i64 x, .int .i64 y]] W fun e w' => GotU K2 E2 C2 W2 P2 Q2 B2 e W w') := CG2
  have DF3 : Hid (∀ W, Below w.heap.size w W → Calls Tryz.prog 21 #[.slice A n c, .float .f64 k0] W fun e w' => GotV K1 E1 C1 W1 P1 Q1 X1 Y1 B1 e W w' ∧ C1.length ≤ maxLen) := DF2
  have DG3 : Hid (∀ W, Below w.heap.size w W → Calls Tryz.prog 22 #[.slice A n c, .agg #[.int .i64 x, .int .i64 y]] W fun e w' => GotU K2 E2 C2 W2 P2 Q2 B2 e W w' ∧ C2.length ≤ maxLen) := DG2
  have RS1 : Hid (∀ W A3 c3 A4 c4, FC W W.heap.size A3 C1 → FC W W.heap.size A4 C1 → C1.length ≤ maxLen → Calls Tryz.prog 20 #[.agg #[.float .f64 K1, .bool E1, .slice A3 C1.length c3, .int .i64 W1, .int .i64 P1, .int .i64 Q1], .agg #[.float .f64 K1, .bool E1, .slice A4 C1.length c4, .int .i64 W1, .int .i64 P1, .int .i64 Q1]] W fun e w' => e = .returned (.bool true) ∧ Below W.heap.size W w') := RS.out ⟨K1, E1, C1, W1, P1, Q1⟩
  have RS2 : Hid (∀ W A3 c3 A4 c4, FC W W.heap.size A3 C2 → FC W W.heap.size A4 C2 → C2.length ≤ maxLen → Calls Tryz.prog 20 #[.agg #[.float .f64 K2, .bool E2, .slice A3 C2.length c3, .int .i64 W2, .int .i64 P2, .int .i64 Q2], .agg #[.float .f64 K2, .bool E2, .slice A4 C2.length c4, .int .i64 W2, .int .i64 P2, .int .i64 Q2]] W fun e w' => e = .returned (.bool true) ∧ Below W.heap.size W w') := RS.out ⟨K2, E2, C2, W2, P2, Q2⟩
  clear CF2 CG2 DF2 DG2 RS
  go_enter Tryz.func5, Tryz.ntmps5
  go_wp2_with (first
    | (go_at_call 12; (with_reducible refine (CL.out _ M0.out.below).mono ?_); rintro e w1 ⟨rfl, hb1⟩; have M1 := Lib.hid (M0.out.same hb1); obtain ⟨⟨q0, q1⟩, _⟩ := two_cells M1.out.it.2.1; obtain ⟨⟨q2, q3⟩, _⟩ := two_cells M1.out.it.1; clear hb1)
    | (go_at_call 17; (with_reducible refine (CF3.out _ M1.out.below).mono ?_); rintro e w2 ⟨hb2, A1, c1, rfl, hf2⟩; have M2 := Lib.hid (((M1.out.same hb2).add (stays_fc A1 C1) hf2).box2 (.cells #[.float .f64 K1, .bool E1, .slice A1 C1.length c1, .int .i64 W1, .int .i64 P1, .int .i64 Q1] 30) (.cells #[.int .i64 X1, .int .i64 Y1] 33)); obtain ⟨⟨r0, r1⟩, _⟩ := two_cells M2.out.it.2.2.2.2.1; obtain ⟨⟨r2, r3⟩, _⟩ := two_cells M2.out.it.2.2.2.1; clear hb2 hf2 q0 q1 q2 q3)
    | (go_at_call 18; (with_reducible refine (CG3.out _ M2.out.below).mono ?_); rintro e w3 ⟨hb3, A2, c2, rfl, hf3⟩; have M3 := Lib.hid (((M2.out.same hb3).add (stays_fc A2 C2) hf3).box (.cells #[.float .f64 K2, .bool E2, .slice A2 C2.length c2, .int .i64 W2, .int .i64 P2, .int .i64 Q2] 30)); obtain ⟨⟨s0, s1⟩, _⟩ := two_cells M3.out.it.2.2.2.2.2.2.1; clear hb3 hf3 r0 r1 r2 r3)
    | (go_at_call 15; (with_reducible refine (CR2.out _ M3.out.below).mono ?_); rintro e w4 ⟨A3, c3, rfl, hb4, hr4⟩; have M4 := Lib.hid ((M3.out.same hb4).add (stays_rc A3 L) hr4); clear hb4 hr4 s0 s1)
    | (go_at_call 13; (with_reducible refine (CM.out _ M4.out.below).mono ?_); rintro e w5 ⟨rfl, hb5⟩; have M5 := Lib.hid (M4.out.same hb5); obtain ⟨⟨q0, q1⟩, _⟩ := two_cells M5.out.it.2.2.2.2.2.2.2.1; clear hb5)
    | (go_at_call 21; (with_reducible refine (DF3.out _ M5.out.below).mono ?_); rintro e w6 ⟨⟨hb6, A5, c5, rfl, hf6⟩, hm6⟩; have HM6 := Lib.hid hm6; have M6 := Lib.hid (((M5.out.same hb6).add (stays_fc A5 C1) hf6).box2 (.cells #[.float .f64 K1, .bool E1, .slice A5 C1.length c5, .int .i64 W1, .int .i64 P1, .int .i64 Q1] 30) (.cells #[.int .i64 X1, .int .i64 Y1] 33)); obtain ⟨⟨r2, r3⟩, _⟩ := two_cells M6.out.it.2.2.2.2.2.2.2.2.2.1; clear hb6 hf6 hm6 q0 q1)
    | (go_at_call 22; (with_reducible refine (DG3.out _ M6.out.below).mono ?_); rintro e w7 ⟨⟨hb7, A6, c6, rfl, hf7⟩, hm7⟩; have HM7 := Lib.hid hm7; have M7 := Lib.hid (((M6.out.same hb7).add (stays_fc A6 C2) hf7).box (.cells #[.float .f64 K2, .bool E2, .slice A6 C2.length c6, .int .i64 W2, .int .i64 P2, .int .i64 Q2] 30)); clear hb7 hf7 hm7 r2 r3)
    | (go_at_call 19; (with_reducible refine (CK.out _ M7.out.below).mono ?_); rintro e w8 ⟨rfl, hb8⟩; have M8 := Lib.hid (M7.out.same hb8); obtain ⟨-, -, -, s6, -, -, -, -, -, s2, -⟩ := M8.out.it; obtain ⟨⟨g0, g1, g2, g3, g4, g5⟩, _⟩ := six s2; obtain ⟨⟨j0, j1, j2, j3, j4, j5⟩, _⟩ := six s6; clear hb8 s2 s6)
    | (go_at_call 20; (with_reducible refine (RS1.out w8 _ _ _ _ M8.out.it.2.2.2.2.2.2.2.2.2.2.1 M8.out.it.2.2.2.2.1 HM6.out).mono ?_); rintro e w9 ⟨rfl, hb9⟩; have M9 := Lib.hid (M8.out.same hb9); obtain ⟨s7, -, s6b, -, -, -, s3, -, s2b, -⟩ := M9.out.it; clear hb9 g0 g1 g2 g3 g4 g5 j0 j1 j2 j3 j4 j5; obtain ⟨⟨q0, q1⟩, _⟩ := two_cells s2b; obtain ⟨⟨r0, r1⟩, _⟩ := two_cells s6b; obtain ⟨⟨g0, g1, g2, g3, g4, g5⟩, _⟩ := six s3; obtain ⟨⟨j0, j1, j2, j3, j4, j5⟩, _⟩ := six s7; clear s7 s6b s3 s2b)
    | (go_at_call 20; (with_reducible refine (RS2.out w9 _ _ _ _ M9.out.it.2.2.2.2.2.2.2.1 M9.out.it.2.1 HM7.out).mono ?_); rintro e w10 ⟨rfl, hb10⟩; have M10 := Lib.hid (M9.out.same hb10); clear hb10 g0 g1 g2 g3 g4 g5 j0 j1 j2 j3 j4 j5 q0 q1 r0 r1; obtain ⟨⟨q0, q1⟩, _⟩ := two_cells M10.out.it.2.2.2.2.2.2.2.2.2.2.2.2.1)
    | (go_at_call 23; (with_reducible refine (DR2.out _ M10.out.below).mono ?_); rintro e w11 ⟨A7, c7, rfl, hb11, hr11⟩; have M11 := Lib.hid ((M10.out.same hb11).add (stays_rc A7 L) hr11); clear hb11 hr11 q0 q1)
    | (go_at_call 16; (with_reducible refine (RR.out _ _ _ _ _ M11.out.it.2.2.2.2.2.2.1 M11.out.it.1).mono ?_); rintro e w12 ⟨rfl, hb12⟩; have M12 := Lib.hid (M11.out.same hb12); clear hb12)
    | (go_at_call 11; (with_reducible refine (awake_any _).mono ?_); rintro e w13 ⟨rfl, hb13⟩; have M13 := Lib.hid (M12.out.same hb13); clear hb13))
  go_ret
  exact ⟨rfl, M13.out.below⟩
end Go.Proofs.YtdbnlngkmfmnnaaGreatDoor

/- HeapFinds: the walk. -/
namespace Go.Proofs.YtdbnlngkmfmnnaaGreatDoor
open Go.RowKit

/-- The two boxes of the arguments. -/
structure MC (w : World) (k0 k1 : Nat) (x y : Int) (W : World) : Prop where
  below : Below w.heap.size w W
  b0 : W.heap[w.heap.size]? = some (.cells #[.float .f64 k0, .float .f64 k1] 45 (0, 0))
  b1 : W.heap[w.heap.size + 1]? = some (.cells #[.int .i64 x, .int .i64 y] 33 (0, 0))
theorem MC.same {w W W' : World} {k0 k1 : Nat} {x y : Int} (h : MC w k0 k1 x y W) (hb : Below W.heap.size W W') : MC w k0 k1 x y W' :=
  ⟨h.below.trans (hb.mono h.below.size), (hb.block _ (Array.getElem?_eq_some_iff.1 h.b0).1).trans h.b0, (hb.block _ (Array.getElem?_eq_some_iff.1 h.b1).1).trans h.b1⟩
theorem MC.cells {w W : World} {k0 k1 : Nat} {x y : Int} (h : MC w k0 k1 x y W) : W.cell? ⟨w.heap.size, 0, none⟩ = some (.float .f64 k0) ∧ W.cell? ⟨w.heap.size, 1, none⟩ = some (.float .f64 k1) ∧ W.cell? ⟨w.heap.size + 1, 0, none⟩ = some (.int .i64 x) ∧ W.cell? ⟨w.heap.size + 1, 1, none⟩ = some (.int .i64 y) :=
  ⟨(two_cells h.b0).1.1, (two_cells h.b0).1.2, (two_cells h.b1).1.1, (two_cells h.b1).1.2⟩
theorem zkeep {W W' : World} {b : Nat} {o : Obj} (h : W.heap[b]? = some o) (hb : Below W.heap.size W W') : W'.heap[b]? = some o := (hb.block b (Array.getElem?_eq_some_iff.1 h).1).trans h
def MB2 (w : World) (x y : Int) (W : World) : Prop := W.heap[w.heap.size + 1]? = some (.cells #[.int .i64 x, .int .i64 y] 33 (0, 0))
theorem finds_boxes (w : World) (k0 k1 : Nat) (x y : Int) : Below w.heap.size w ((w.alloc (.cells #[.float .f64 k0, .float .f64 k1] 45)).alloc (.cells #[.int .i64 x, .int .i64 y] 33)) ∧
    ((w.alloc (.cells #[.float .f64 k0, .float .f64 k1] 45)).alloc (.cells #[.int .i64 x, .int .i64 y] 33)).heap[w.heap.size]? = some (.cells #[.float .f64 k0, .float .f64 k1] 45 (0, 0)) ∧
    ((w.alloc (.cells #[.float .f64 k0, .float .f64 k1] 45)).alloc (.cells #[.int .i64 x, .int .i64 y] 33)).heap[w.heap.size + 1]? = some (.cells #[.int .i64 x, .int .i64 y] 33 (0, 0)) :=
  ⟨((Below.refl _ _).alloc (Nat.le_refl _) _).alloc (by simp) _, heap_alloc2_old w _ _, two_new w _ _⟩

set_option maxHeartbeats 4000000 in
set_option maxRecDepth 100000 in
theorem finds_any (A : Option Addr) (c k0 k1 : Nat) (x y : Int) (l : List LeafD) (w : World) (h : LC w w.heap.size A l) (m : l.length ≤ maxLen) (b0 : k0 < 18446744073709551616) (b1 : k1 < 18446744073709551616) :
    Calls Tryz.prog 5 #[.slice A l.length c, .agg #[.float .f64 k0, .float .f64 k1], .agg #[.int .i64 x, .int .i64 y]] w fun e w' => e = .returned (.bool true) ∧ Below w.heap.size w w' := by
  obtain ⟨n, hn⟩ : ∃ n, l.length = n := ⟨_, rfl⟩
  obtain ⟨hb0, hx0, hx1⟩ := finds_boxes w k0 k1 x y
  have cl := light15_any A c l _ ((h.below hb0).more hb0.size) m
  rw [hn] at cl ⊢
  have HB0 := Lib.hid hb0
  cases hl : lightL l with
  | false =>
    rw [hl] at cl
    have CL := Lib.hid cl
    clear cl hl h hn hb0 b0 b1 hx0 hx1
    go_enter Tryz.func5, Tryz.ntmps5
    go_wp2_with (first
      | (go_at_call 12; (with_reducible refine CL.out.mono ?_); rintro e w1 ⟨rfl, hb1⟩)
      | (go_at_call 11; (with_reducible refine (awake_any _).mono ?_); rintro e w2 ⟨rfl, hb2⟩))
    go_ret
    exact ⟨rfl, HB0.out.trans ((hb1.trans (hb2.mono hb1.size)).mono HB0.out.size)⟩
  | true =>
    rw [hl] at cl
    have CL := Lib.hid cl
    have hll : LightL l := chk_iff.1 hl
    have h8 : n ≤ 8 := by rw [← hn]; exact hll.1
    have hsl : ∀ d ∈ l, d.slots.length ≤ 1000 ∧ ∀ s ∈ d.slots, s.length ≤ 1000 := fun d hd => ⟨by have := (hll.2 d hd).2.1; omega, fun s hs => by have := (hll.2 d hd).all s hs; omega⟩
    have CF := Lib.hid (fun W (hb : Below w.heap.size w W) => hfind_any A c k0 l W ((h.below hb).more hb.size) m b0)
    have CG := Lib.hid (fun W (hb : Below w.heap.size w W) => hget_any A c x y l W ((h.below hb).more hb.size) m)
    have CR := Lib.hid (fun W (hb : Below w.heap.size w W) => rows_any A c k0 k1 l W ((h.below hb).more hb.size) m b0 b1)
    have CM := Lib.hid (fun W (hb : Below w.heap.size w W) => rmay15_any A c l W ((h.below hb).more hb.size) (by omega))
    have CK := Lib.hid (fun W (hb : Below w.heap.size w W) => check_any A c l W ((h.below hb).more hb.size) m)
    have M0 : Hid (MB w (.cells #[.float .f64 k0, .float .f64 k1] 45 (0, 0)) ((w.alloc (.cells #[.float .f64 k0, .float .f64 k1] 45)).alloc (.cells #[.int .i64 x, .int .i64 y] 33))) := ⟨hb0, hx0⟩
    rw [hn] at CF CG CR CM CK
    cases hok : okHeapB l with
    | false =>
      rw [hok] at CM CK
      have hnok : ¬ OkHeap l := fun hh => by rw [show okHeapB l = true from chk_true hh] at hok; cases hok
      have CF2 : Hid (∀ W, Below w.heap.size w W → Calls Tryz.prog 17 #[.slice A n c, .float .f64 k0] W fun e w' => e = .returned (.tuple #[.agg #[.float .f64 0, .bool false, .slice none 0 0, .int .i64 0, .int .i64 0, .int .i64 0], .agg #[.int .i64 0, .int .i64 0], .bool false]) ∧ Below W.heap.size W w') := fun W hb => (CF.out W hb).mono fun e w' hh => by
        rw [show findH l k0 = none by unfold findH; rw [hok]; rfl] at hh
        exact ⟨hh.2, hh.1⟩
      have CG2 : Hid (∀ W, Below w.heap.size w W → Calls Tryz.prog 18 #[.slice A n c, .agg #[.int .i64 x, .int .i64 y]] W fun e w' => e = .returned (.tuple #[.agg #[.float .f64 0, .bool false, .slice none 0 0, .int .i64 0, .int .i64 0, .int .i64 0], .bool false]) ∧ Below W.heap.size W w') := fun W hb => (CG.out W hb).mono fun e w' hh => by
        rw [show getH l x y = none by unfold getH; rw [hok]; rfl] at hh
        exact ⟨hh.2, hh.1⟩
      have CR2 : Hid (∀ W, Below w.heap.size w W → Calls Tryz.prog 15 #[.slice A n c, .float .f64 k0, .float .f64 k1] W fun e w' => ∃ A3 c3, e = .returned (.slice A3 0 c3) ∧ Below W.heap.size W w') := fun W hb => (CR.out W hb).mono fun e w' hh => by
        obtain ⟨h1, L, h2, A3, c3, h3, _⟩ := hh
        rw [h2.2 hnok] at h3
        exact ⟨A3, c3, h3, h1⟩
      have CS : Hid (∀ W, Calls Tryz.prog 20 #[.agg #[.float .f64 0, .bool false, .slice none 0 0, .int .i64 0, .int .i64 0, .int .i64 0], .agg #[.float .f64 0, .bool false, .slice none 0 0, .int .i64 0, .int .i64 0, .int .i64 0]] W fun e w' => e = .returned (.bool true) ∧ Below W.heap.size W w') := fun W => by
        have := rowsame_any zeroD zeroD none none 0 0 W ⟨by simp [zeroD], by simp [zeroD]⟩ ⟨by simp [zeroD], by simp [zeroD]⟩ (by unfold maxLen; simp [zeroD]) (by unfold maxLen; simp [zeroD])
        rw [decide_eq_true rfl] at this
        exact this
      clear CF CG CR cl hl h hn hb0 b0 b1 hx0 hx1 hok hnok hll hsl m
      have hsf := run_store_f64
      have HX1 : Hid (MB2 w x y ((w.alloc (.cells #[.float .f64 k0, .float .f64 k1] 45)).alloc (.cells #[.int .i64 x, .int .i64 y] 33))) := two_new w _ _
      go_enter Tryz.func5, Tryz.ntmps5
      have MC0 : Hid (MC w k0 k1 x y ((w.alloc (.cells #[.float .f64 k0, .float .f64 k1] 45)).alloc (.cells #[.int .i64 x, .int .i64 y] 33))) := ⟨HB0.out, M0.out.box, HX1.out⟩
      go_wp2_with (first
        | (go_at_call 12; (with_reducible refine CL.out.mono ?_); rintro e w1 ⟨rfl, hb1⟩; have M1 := Lib.hid (MC0.out.same hb1); obtain ⟨q0, q1, q2, q3⟩ := M1.out.cells; clear hb1)
        | (go_at_call 17; (with_reducible refine (CF2.out _ M1.out.below).mono ?_); rintro e w2 ⟨rfl, hb2⟩; have M2 := Lib.hid ((M1.out.same hb2).same (((Below.refl _ _).alloc (Nat.le_refl _) (.cells #[.float .f64 0, .bool false, .slice none 0 0, .int .i64 0, .int .i64 0, .int .i64 0] 30)).alloc (by simp) (.cells #[.int .i64 0, .int .i64 0] 33))); obtain ⟨r0, r1, r2, r3⟩ := M2.out.cells; have Z2 := Lib.hid (heap_alloc2_old w2 (.cells #[.float .f64 0, .bool false, .slice none 0 0, .int .i64 0, .int .i64 0, .int .i64 0] 30) (.cells #[.int .i64 0, .int .i64 0] 33)); clear hb2)
        | (go_at_call 18; (with_reducible refine (CG2.out _ M2.out.below).mono ?_); rintro e w3 ⟨rfl, hb3⟩; have M3 := Lib.hid ((M2.out.same hb3).same ((Below.refl _ _).alloc (Nat.le_refl _) (.cells #[.float .f64 0, .bool false, .slice none 0 0, .int .i64 0, .int .i64 0, .int .i64 0] 30))); obtain ⟨s0, s1, s2, s3⟩ := M3.out.cells; have Z3 := Lib.hid (zkeep Z2.out (hb3.trans (((Below.refl _ _).alloc (Nat.le_refl _) (.cells #[.float .f64 0, .bool false, .slice none 0 0, .int .i64 0, .int .i64 0, .int .i64 0] 30)).mono hb3.size))); have Y3 := Lib.hid (heap_alloc_new w3 (.cells #[.float .f64 0, .bool false, .slice none 0 0, .int .i64 0, .int .i64 0, .int .i64 0] 30)); clear hb3)
        | (go_at_call 15; (with_reducible refine (CR2.out _ M3.out.below).mono ?_); rintro e w4 ⟨A3, c3, rfl, hb4⟩; have M4 := Lib.hid (M3.out.same hb4); have Z4 := Lib.hid (zkeep Z3.out hb4); have Y4 := Lib.hid (zkeep Y3.out hb4); clear hb4)
        | (go_at_call 13; (with_reducible refine (CM.out _ M4.out.below).mono ?_); rintro e w5 ⟨rfl, hb5⟩; have M5 := Lib.hid (M4.out.same hb5); have Z5 := Lib.hid (zkeep Z4.out hb5); have Y5 := Lib.hid (zkeep Y4.out hb5); clear hb5)
        | (go_at_call 19; (with_reducible refine (CK.out _ M5.out.below).mono ?_); rintro e w6 ⟨rfl, hb6⟩; have M6 := Lib.hid (M5.out.same hb6); have hz6 := zkeep Z5.out hb6; obtain ⟨⟨g0, g1, g2, g3, g4, g5⟩, _⟩ := six hz6; have Y6 := Lib.hid (zkeep Y5.out hb6); clear hb6 hz6)
        | (go_at_call 20; (with_reducible refine (CS.out w6).mono ?_); rintro e w7 ⟨rfl, hb7⟩; have M7 := Lib.hid (M6.out.same hb7); have hy7 := zkeep Y6.out hb7; obtain ⟨⟨j0, j1, j2, j3, j4, j5⟩, _⟩ := six hy7; clear hb7 hy7)
        | (go_at_call 20; (with_reducible refine (CS.out w7).mono ?_); rintro e w8 ⟨rfl, hb8⟩; have M8 := Lib.hid (M7.out.same hb8); clear hb8)
        | (go_at_call 11; (with_reducible refine (awake_any _).mono ?_); rintro e w9 ⟨rfl, hb9⟩; have M9 := Lib.hid (M8.out.same hb9); clear hb9))
      go_ret
      exact ⟨rfl, M9.out.below⟩
    | true => exact finds_may A c k0 k1 n x y l w h hn b0 b1 hl hok
end Go.Proofs.YtdbnlngkmfmnnaaGreatDoor
