/- What a slice of numbers, and of rows, reads as; and the functions that only read them. -/
import Derived.Test.YtpcahemjcmccjaaA
import Derived.LoopTactic
import Derived.Deep.LoopGhost
import Derived.Deep.QuietTactic
import Derived.BigQuiet
import Derived.Below
namespace Go.Proofs.Ytpcahemjcmccjaa
open Go.RowKit

/-- The cells of numbers. -/
def FC (w : World) (B : Nat) (A : Option Addr) (l : List Nat) : Prop :=
  (∀ x ∈ l, x < 18446744073709551616) ∧ (0 < l.length → ∃ b off, A = some ⟨b, off, none⟩ ∧ b < B ∧ ∀ j x, l[j]? = some x → w.cell? ⟨b, off + j, none⟩ = some (.float .f64 x))

theorem FC.below {w w' : World} {B : Nat} {A : Option Addr} {l : List Nat} (h : FC w B A l) (hb : Below B w w') : FC w' B A l :=
  ⟨h.1, fun hl => by
    obtain ⟨b, off, e, hB, hc⟩ := h.2 hl
    exact ⟨b, off, e, hB, fun j x hx => (hb.cell (p := ⟨b, off + j, none⟩) hB).trans (hc j x hx)⟩⟩
theorem FC.more {w : World} {B B' : Nat} {A : Option Addr} {l : List Nat} (h : FC w B A l) (hb : B ≤ B') : FC w B' A l :=
  ⟨h.1, fun hl => by
    obtain ⟨b, off, e, hB, hc⟩ := h.2 hl
    exact ⟨b, off, e, by omega, hc⟩⟩

theorem below_drewN {B : Nat} {a w : World} (h : Below B a w) (n : Nat) : Below B a (w.drewN n) := ⟨h.os, h.tape, h.output, h.size, h.block⟩

/-- A call that turns nothing, in a region that draws. -/
theorem quiet_w {P : Program} {f : FuncId} {args : Array Value} {w : World} {n : Nat} {v : Value}
    (h : Calls P f args (w.drewN n) fun e w' => e = .returned v ∧ w.drewN n = w') : Calls P f args (w.drewN n) fun e w' => e = .returned v ∧ ∃ m, w' = w.drewN m :=
  h.mono fun _ _ h' => ⟨h'.1, n, h'.2.symm⟩

set_option maxHeartbeats 1000000 in
theorem list_any (A1 A2 : Option Addr) (c1 c2 : Nat) (l1 l2 : List Nat) (w : World) (h1 : FC w w.heap.size A1 l1) (h2 : FC w w.heap.size A2 l2) (m1 : l1.length ≤ maxLen) (m2 : l2.length ≤ maxLen) :
    Calls Try.prog 39 #[.slice A1 l1.length c1, .slice A2 l2.length c2] w fun e w' => e = .returned (.bool (decide (l1 = l2))) ∧ Below w.heap.size w w' := by
  unfold maxLen at m1 m2
  by_cases hl : l1.length = l2.length
  · rw [← hl]
    obtain ⟨n, hn⟩ : ∃ n, l1.length = n := ⟨_, rfl⟩
    rw [hn] at hl m1 ⊢
    have H1 := Lib.hid h1
    have H2 := Lib.hid h2
    have N1 := Lib.hid hn
    have N2 := Lib.hid hl
    clear h1 h2 hn hl m2
    go_enter Try.func39, Try.ntmps39
    go_wp2
    go_loopw [5] (fun i wr => ∃ k : Nat, k ≤ n ∧ i = .int .i64 k ∧ l1.take k = l2.take k ∧ Below w.heap.size w wr) (fun i _ => n - (intOf i).toNat)
    case atStart => exact ⟨0, Nat.zero_le _, rfl, rfl, Below.refl _ _⟩
    case round =>
      obtain ⟨k, hk, rfl, ht, hb⟩ := hrel
      have HT := Lib.hid ht
      have HB := Lib.hid hb
      clear ht hb
      by_cases hlt : k < n
      · obtain ⟨b1, o1, e1, q1, r1⟩ := (H1.out.below HB.out).2 (by have := N1.out; omega)
        obtain ⟨b2, o2, e2, q2, r2⟩ := (H2.out.below HB.out).2 (by have := N2.out; omega)
        subst e1 e2
        have g1 := r1 k _ (List.getElem?_eq_getElem (by have := N1.out; omega))
        have g2 := r2 k _ (List.getElem?_eq_getElem (by have := N2.out; omega))
        clear r1 r2 q1 q2
        have s1 := List.take_succ_eq_append_getElem (l := l1) (i := k) (by have := N1.out; omega)
        have s2 := List.take_succ_eq_append_getElem (l := l2) (i := k) (by have := N2.out; omega)
        by_cases hx : l1[k]'(by have := N1.out; omega) = l2[k]'(by have := N2.out; omega)
        · have HS : Hid (l1.take (k + 1) = l2.take (k + 1)) := by rw [s1, s2, HT.out, hx]; exact rfl
          have c := fun W => rsame_any (l1[k]'(by have := N1.out; omega)) (l2[k]'(by have := N2.out; omega)) W
          rw [decide_eq_true hx] at c
          clear s1 s2 hx
          go_wp2
          go_quiet ((go_at_call 38; exact quiet_w (c _)))
          go_wp2
          go_roundw
          case rel => exact ⟨k + 1, by omega, by go_num, HS.out, below_drewN HB.out _⟩
          case measure => simp [intOf]; omega
        · have HS : Hid (decide (l1 = l2) = false) := by
            refine decide_eq_false fun e => hx ?_
            subst e
            rfl
          have c := fun W => rsame_any (l1[k]'(by have := N1.out; omega)) (l2[k]'(by have := N2.out; omega)) W
          rw [decide_eq_false hx] at c
          clear s1 s2 hx
          go_wp2
          go_quiet ((go_at_call 38; exact quiet_w (c _)))
          go_wp2
          go_ret
          exact ⟨ret_bool HS.out.symm, below_drewN HB.out _⟩
      · go_wp2
        go_ret
        have : k = n := by omega
        subst this
        refine ⟨ret_bool ?_, HB.out⟩
        have ht := HT.out
        rw [List.take_of_length_le (Nat.le_of_eq N1.out), List.take_of_length_le (Nat.le_of_eq N2.out.symm)] at ht
        simp [ht]
  · have e : decide (l1 = l2) = false := by simp; rintro rfl; exact hl rfl
    rw [e]
    clear e h1 h2
    go_enter Try.func39, Try.ntmps39
    go_wp2
    go_ret
    exact ⟨rfl, Below.refl _ _⟩

theorem list_of (A1 A2 : Option Addr) (c1 c2 : Nat) (l1 l2 : List Nat) (w W : World) (hb : Below w.heap.size w W) (h1 : FC w w.heap.size A1 l1) (h2 : FC w w.heap.size A2 l2) (m1 : l1.length ≤ maxLen) (m2 : l2.length ≤ maxLen) :
    Calls Try.prog 39 #[.slice A1 l1.length c1, .slice A2 l2.length c2] W fun e w' => e = .returned (.bool (decide (l1 = l2))) ∧ Below w.heap.size w w' :=
  (list_any A1 A2 c1 c2 l1 l2 W ((h1.below hb).more hb.size) ((h2.below hb).more hb.size) m1 m2).mono fun _ _ h => ⟨h.1, hb.trans (h.2.mono hb.size)⟩
end Go.Proofs.Ytpcahemjcmccjaa
