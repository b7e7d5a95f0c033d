/- The small question that a refusal meets: it is answered yes. -/
import Derived.Test.YtpcahemjcmccjaaPm3
import Derived.Test.YtpcahemjcmccjaaA
import Derived.KernelRfl
import Derived.Below
namespace Go.Proofs.Ytpcahemjcmccjaa
open Go.Pm
noncomputable section

noncomputable def bT : Tbl := tblOf 8 Try.prog.types.toList Try.prog.funcs.toList
noncomputable def bExt : FuncId → List Value → Option Value := fun f l => bif Nat.beq f 21 then (match l with | [.float .f64 b] => some (.int .u64 (.ofNat b)) | _ => none) else bif Nat.beq f 40 then (match l with | [.int .u64 (.ofNat b)] => some (.float .f64 b) | _ => none) else none
noncomputable def bK : Cfg := ⟨bT, Try.prog, bExt, fun _ _ _ => none, fun _ => 2, fun _ _ => true, 100000, fun _ => false, fun _ => none⟩
/-- Does it say yes? -/
noncomputable def yes : Option CRes → Bool
  | some (.s (.bool true), _, _) => true
  | _ => false

theorem bT_names : (Try.prog.funcs.toList.all fun fn => !(fn.name == "runtime.NumGoroutine")) = true := by kernel_rfl
theorem bT_mixed : Try.prog.follows .mixedOrders = true := by kernel_rfl

theorem bExt_ok : ExtOk Try.prog bExt := by
  intro f args v h w
  unfold bExt at h
  cases h1 : Nat.beq f 21 with
  | true =>
    rw [h1] at h
    have := Nat.eq_of_beq_eq_true h1
    subst this
    simp only [cond_true] at h
    split at h
    · cases h
      exact run_bits _ w
    · cases h
  | false =>
    rw [h1] at h
    simp only [cond_false] at h
    cases h2 : Nat.beq f 40 with
    | true =>
      rw [h2] at h
      have := Nat.eq_of_beq_eq_true h2
      subst this
      simp only [cond_true] at h
      split at h
      · cases h
        exact run_frombits _ w
      · cases h
    | false => rw [h2] at h; cases h

theorem bK_ok : bK.Ok where
  T := tblOf_ok 8 bT_mixed
  names f fn h := by
    have h1 : Try.prog.funcs[f]? = some fn := (tblOf_ok 8 bT_mixed).func f fn h
    have h2 := List.all_eq_true.1 bT_names fn (by rw [Array.mem_toList_iff]; exact Array.mem_of_getElem? h1)
    simpa using h2
  ext := bExt_ok
  orc := fun f args gl r rb gl' h => by cases h
  idle := fun g h => by cases h
  chunk := fun g sT iT h => by cases h

theorem awake_yes : yes (pcall 60 bK false 5 [] GL.nil) = true := by kernel_rfl

/-- Nothing of one's own. -/
noncomputable def noEnv (w : World) : Env := ⟨w, ⟨[], GL.nil⟩, fun _ => (0, 0), fun _ => 0, fun _ => False, fun _ => False⟩

theorem nil_get (x : Nat) : (GL.nil)[x]? = none := by
  exact GL.nil_get x

theorem noEnv_ent (w : World) (r : BRef) : (noEnv w).bs.ent r = none := by
  cases r with
  | loc t k => rfl
  | glob x =>
    show ((GL.nil)[x]?).map (fun b => (0, b.blk?)) = none
    rw [nil_get]; rfl
theorem noEnv_map (w : World) (x : Nat) : (noEnv w).bs.mapAt x = none := by
  show ((GL.nil)[x]?).bind GE.map? = none
  rw [nil_get]; rfl
theorem noEnv_rel (w : World) : Rel (noEnv w) where
  len r g b h := by rw [noEnv_ent] at h; cases h
  phys r g b h := by rw [noEnv_ent] at h; cases h
  own r g b h := by rw [noEnv_ent] at h; cases h
  inj r r' g g' b b' h := by rw [noEnv_ent] at h; cases h
  lt k h := h.elim
  llt k h := h.elim
  apart k h := h.elim
  gl r g b h := by rw [noEnv_ent] at h; cases h
  mps x l h := by rw [noEnv_map] at h; cases h
  minj x y h := by rw [noEnv_map] at h; cases h

theorem awake_any (w : World) : Calls Try.prog 5 #[] w fun e w' => e = .returned (.bool true) ∧ Go.RowKit.Below w.heap.size w w' := by
  have h := awake_yes
  unfold yes at h
  split at h
  · rename_i rb gl' he
    refine (pcall_ok 60 false bK_ok 5 [] GL.nil _ rb gl' he (noEnv w) [] rfl (noEnv_rel w) VRl_nil).mono ?_
    rintro e w' ⟨E', v, rfl, rfl, _, hv, hx, _, _⟩
    refine ⟨?_, ⟨hx.os, hx.tape, hx.output, hx.size, fun k hk => hx.keep k hk (fun h => h)⟩⟩
    have h1 : v = .bool true ∧ (Value.bool true).oneCell' = true := by simpa [VR] using hv
    rw [h1.1]
  · cases h
end
end Go.Proofs.Ytpcahemjcmccjaa
