/- Rows: the functions that look at one row. -/
import Derived.Test.YtpcahemjcmccjaaB
namespace Go.Proofs.Ytpcahemjcmccjaa
open Go.RowKit

structure RowD where
  key : Nat
  dead : Bool
  cols : List Nat
  wr : Int
  rc : Int
  rn : Int
  deriving DecidableEq

/-- A row's cells, its columns being the slice of that address and room. -/
def RowD.cells (d : RowD) (A : Option Addr) (c : Nat) : Array Value := #[.float .f64 d.key, .bool d.dead, .slice A d.cols.length c, .int .i64 d.wr, .int .i64 d.rc, .int .i64 d.rn]

set_option maxHeartbeats 1000000 in
theorem rowsame_any (a b : RowD) (A1 A2 : Option Addr) (c1 c2 : Nat) (w : World) (h1 : FC w w.heap.size A1 a.cols) (h2 : FC w w.heap.size A2 b.cols) (m1 : a.cols.length ≤ maxLen) (m2 : b.cols.length ≤ maxLen) :
    Calls Try.prog 18 #[.agg (a.cells A1 c1), .agg (b.cells A2 c2)] w fun e w' => e = .returned (.bool (decide (a = b))) ∧ Below w.heap.size w w' := by
  obtain ⟨k1, d1, l1, x1, y1, z1⟩ := a
  obtain ⟨k2, d2, l2, x2, y2, z2⟩ := b
  simp only [RowD.cells, RowD.mk.injEq] at *
  have ck := fun W => rsame_any k1 k2 W
  have cl := fun W (hb : Below w.heap.size w W) => list_of A1 A2 c1 c2 l1 l2 w W hb h1 h2 m1 m2
  by_cases e1 : k1 = k2
  · rw [decide_eq_true e1] at ck
    subst e1
    by_cases e2 : d1 = d2
    · subst e2
      by_cases e3 : x1 = x2
      · subst e3
        by_cases e4 : y1 = y2
        · subst e4
          by_cases e5 : z1 = z2
          · subst e5
            simp only [true_and, and_true]
            clear m1 m2
            go_enter Try.func18, Try.ntmps18
            go_wp2_with (first | (go_at_call 38; (with_reducible refine (ck _).mono ?_); rintro e w' ⟨rfl, rfl⟩) | (go_at_call 39; (with_reducible refine (cl _ ?_).mono ?_); rotate_left; rintro e w' ⟨rfl, hb⟩))
            · go_ret
              exact ⟨rfl, hb⟩
            · exact ((Below.refl _ _).alloc (Nat.le_refl _) _).alloc (by simp) _
          · clear m1 m2 cl h1 h2
            simp only [e5, and_false, decide_false]
            go_enter Try.func18, Try.ntmps18
            go_wp2_with (first | (go_at_call 38; (with_reducible refine (ck _).mono ?_); rintro e w' ⟨rfl, rfl⟩))
            go_ret
            exact ⟨rfl, ((Below.refl _ _).alloc (Nat.le_refl _) _).alloc (by simp) _⟩
        · clear m1 m2 cl h1 h2
          simp only [e4, and_false, false_and, decide_false]
          go_enter Try.func18, Try.ntmps18
          go_wp2_with (first | (go_at_call 38; (with_reducible refine (ck _).mono ?_); rintro e w' ⟨rfl, rfl⟩))
          go_ret
          exact ⟨rfl, ((Below.refl _ _).alloc (Nat.le_refl _) _).alloc (by simp) _⟩
      · clear m1 m2 cl h1 h2
        simp only [e3, and_false, false_and, decide_false]
        go_enter Try.func18, Try.ntmps18
        go_wp2_with (first | (go_at_call 38; (with_reducible refine (ck _).mono ?_); rintro e w' ⟨rfl, rfl⟩))
        go_ret
        exact ⟨rfl, ((Below.refl _ _).alloc (Nat.le_refl _) _).alloc (by simp) _⟩
    · clear m1 m2 cl h1 h2
      simp only [e2, and_false, false_and, decide_false]
      have e2' : (d1 == d2) = false := by simpa using e2
      clear e2
      go_enter Try.func18, Try.ntmps18
      go_wp2_with (first | (go_at_call 38; (with_reducible refine (ck _).mono ?_); rintro e w' ⟨rfl, rfl⟩))
      go_ret
      exact ⟨rfl, ((Below.refl _ _).alloc (Nat.le_refl _) _).alloc (by simp) _⟩
  · clear m1 m2 cl h1 h2
    rw [decide_eq_false e1] at ck
    simp only [e1, false_and, decide_false]
    go_enter Try.func18, Try.ntmps18
    go_wp2_with (first | (go_at_call 38; (with_reducible refine (ck _).mono ?_); rintro e w' ⟨rfl, rfl⟩))
    go_ret
    exact ⟨rfl, ((Below.refl _ _).alloc (Nat.le_refl _) _).alloc (by simp) _⟩
end Go.Proofs.Ytpcahemjcmccjaa
