/- Slices cloned: of numbers, and of rows. -/
import Derived.Test.YtpcahemjcmccjaaH
import Derived.OwnWalk
import Derived.Maps.AppendAt
import Derived.Laws.OwnMore
namespace Go.Proofs.Ytpcahemjcmccjaa
open Go.RowKit

theorem Try.info28 : (Try.prog.info? 28).map (fun i => (i.zero, i.size, i.bytes)) = some (some (.float .f64 0), 1, 8) := by kernel_rfl
def zeroRow : Value := .agg #[.float .f64 0, .bool false, .slice none 0 0, .int .i64 0, .int .i64 0, .int .i64 0]
theorem Try.info33 : (Try.prog.info? 33).map (fun i => (i.zero, i.size, i.bytes)) = some (some zeroRow, 6, 64) := by kernel_rfl

theorem FC.cells {w : World} {B : Nat} {A : Option Addr} {l : List Nat} (h : FC w B A l) {ad : Addr} (hA : A = some ad) : ∀ j u, (l.map (Value.float .f64))[j]? = some u → w.cell? (ad.add j) = some u := by
  intro j u hu
  rw [List.getElem?_map] at hu
  cases hx : l[j]? with
  | none => rw [hx] at hu; cases hu
  | some x =>
    rw [hx] at hu
    injection hu with hu
    subst hu
    obtain ⟨b, off, e, _, hc⟩ := h.2 (by have := (List.getElem?_eq_some_iff.1 hx).1; omega)
    rw [hA] at e
    injection e with e
    subst e
    have := hc j x hx
    unfold Addr.add
    by_cases hj : j = 0
    · subst hj; simpa using this
    · rw [if_neg hj]; exact this

theorem eql_nil (W : World) (t e : TypeId) (A : Option Addr) (n c : Nat) (h : Try.prog.underlying t = some (.slice e)) : (binOp .eql t (.slice A n c) (.slice none 0 0)).run Try.prog W = .ok (.bool A.isNone) W := by
  have h1 : ∀ d : Nat, (Op.equalIn (d + 1) t (.slice A n c) (.slice none 0 0)).run Try.prog W = .ok A.isNone W := fun d => by
    cases A <;> simp [Op.equalIn, run_underlying h]
  simp only [binOp]
  simp [Op.equal, Op.maxDepth, h1 9999]

theorem cell_alloc {w : World} {a : Addr} {v : Value} (h : w.cell? a = some v) (o : Obj) : (w.alloc o).cell? a = some v := by
  rw [World.cell?_alloc_lt w o a (block_lt_of_cell h)]; exact h

set_option maxHeartbeats 1000000 in
theorem clone1_any (A : Option Addr) (c : Nat) (l : List Nat) (w : World) (h : FC w w.heap.size A l) (hA : A = none → c = 0) (m : l.length ≤ 1000) :
    Calls Try.prog 32 #[.slice A l.length c] w fun e w' => ∃ v', e = .returned v' ∧ w'.ownsRow w.heap.size 28 1 v' l.length (l.map (Value.float .f64)) ∧ Below w.heap.size w w' := by
  obtain ⟨i0, hi, hz0, hz1, hz2⟩ := info_parts Try.info28
  obtain ⟨n, hn⟩ : ∃ n, l.length = n := ⟨_, rfl⟩
  cases A with
  | none =>
    have : c = 0 := hA rfl
    subst this
    have : l = [] := by
      cases l with
      | nil => rfl
      | cons x r => obtain ⟨b, off, e, _⟩ := h.2 (by simp); cases e
    subst this
    simp only [List.length_nil, List.map_nil]
    clear hA m hn hi hz0 hz1 hz2 h
    have he : ∀ W, (binOp .eql 29 (.slice none 0 0) (.slice none 0 0)).run Try.prog W = .ok (.bool true) W := fun W => eql_nil W 29 28 none 0 0 Try.underlying29
    go_enter Try.func32, Try.ntmps32
    go_wp2
    go_ret
    exact ⟨_, rfl, World.ownsRow_nil w _ 28 1, Below.refl _ _⟩
  | some ad =>
    have hc := h.cells (ad := ad) rfl
    rw [hn] at m ⊢
    have HC := Lib.hid hc
    have N := Lib.hid hn
    have HI := Lib.hid hi
    clear h hA hc hn
    have he : ∀ W, (binOp .eql 29 (.slice (some ad) n c) (.slice none 0 0)).run Try.prog W = .ok (.bool false) W := fun W => eql_nil W 29 28 (some ad) n c Try.underlying29
    have hown : (w.alloc (.cells #[] 28)).ownsRow w.heap.size 28 1 (.slice (some ⟨w.heap.size, 0, none⟩) 0 0) 0 [] := World.ownsRow_lit w #[] 0 (Nat.le_refl _) (by unfold maxLen; omega) rfl
    have HO := Lib.hid hown
    clear hown hi
    have K0 : Hid ((l.map (Value.float .f64)).length = n * 1) := by rw [List.length_map, N.out]; exact (Nat.mul_one n).symm
    have K1 : Hid (∀ j u, (l.map (Value.float .f64))[j]? = some u → (w.alloc (.cells #[] 28)).cell? (ad.add j) = some u) := fun j u hu => cell_alloc (HC.out j u hu) _
    have K2 : Hid (∀ u ∈ l.map (Value.float .f64), u.oneCell' = true) := fun u hu => by obtain ⟨_, _, rfl⟩ := List.mem_map.1 hu; rfl
    go_enter Try.func32, Try.ntmps32
    go_wp2_with (at_builtin; refine wpList_append_own_at _ rfl (.tmp 5) (.tmp 6) 29 rfl w.heap.size 28 i0 (.float .f64 0) 1 8 Try.underlying29 HI.out hz0 hz1 hz2 rfl (by decide) (.slice (some ⟨w.heap.size, 0, none⟩) 0 0) 0 [] rfl HO.out ad n c (l.map (Value.float .f64)) rfl K0.out K1.out K2.out (by unfold maxLen; omega) (by omega) (by simp) ?_; intro v' w1 hown' hgrow _ _; have HN := Lib.hid hown'; have HG := Lib.hid hgrow; clear hown' hgrow)
    go_ret
    have h1 := HN.out
    rw [Nat.zero_add, List.nil_append] at h1
    exact ⟨_, rfl, h1, ((Below.refl _ _).alloc (Nat.le_refl _) _).grown HG.out (by simp) (fun k hk => by simp [Value.ownBlock] at hk; omega)⟩
end Go.Proofs.Ytpcahemjcmccjaa
