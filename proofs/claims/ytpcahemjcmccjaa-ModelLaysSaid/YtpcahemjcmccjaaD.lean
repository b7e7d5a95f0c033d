/- Which rows may be: the functions that ask it answer, and where they say yes the rows are few and nobody's. -/
import Derived.Test.YtpcahemjcmccjaaC
namespace Go.Proofs.Ytpcahemjcmccjaa
open Go.RowKit

/-- It answers. -/
def SomeBool (w : World) (e : Ending) (w' : World) : Prop := ∃ b, e = .returned (.bool b) ∧ Below w.heap.size w w'

set_option maxHeartbeats 2000000 in
theorem rmay_any (a : RowD) (A : Option Addr) (c : Nat) (w : World) (h : FC w w.heap.size A a.cols) (m : a.cols.length ≤ maxLen) (hk : a.key < 18446744073709551616) :
    Calls Try.prog 9 #[.agg (a.cells A c)] w (SomeBool w) := by
  obtain ⟨k, d, l, x, y, z⟩ := a
  simp only [RowD.cells] at *
  unfold maxLen at m
  obtain ⟨n, hn⟩ : ∃ n, l.length = n := ⟨_, rfl⟩
  rw [hn] at m ⊢
  have H := Lib.hid h
  have N := Lib.hid hn
  clear h hn
  have ck := key_any k hk
  have h21 := run_bits
  by_cases e1 : keyN k = k
  · rw [e1] at ck
    clear e1 hk
    by_cases e2 : 4 < n
    · have e2' : decide ((4 : Int) < (n : Int)) = true := by simp; omega
      go_enter Try.func9, Try.ntmps9
      go_wp2
      go_quiet ((go_at_call 22; exact quiet_w (ck _)))
      go_wp2
      go_ret
      exact ⟨_, rfl, below_drewN (((Below.refl _ _).alloc (Nat.le_refl _) _)) _⟩
    · have e2' : decide ((4 : Int) < (n : Int)) = false := by simp; omega
      cases d with
      | true =>
        by_cases e3 : 0 < n
        · have e3' : decide ((0 : Int) < (n : Int)) = true := by simp; omega
          go_enter Try.func9, Try.ntmps9
          go_wp2
          go_quiet ((go_at_call 22; exact quiet_w (ck _)))
          go_wp2
          go_ret
          exact ⟨_, rfl, below_drewN (((Below.refl _ _).alloc (Nat.le_refl _) _)) _⟩
        · have e3' : decide ((0 : Int) < (n : Int)) = false := by simp; omega
          go_enter Try.func9, Try.ntmps9
          go_wp2
          go_quiet ((go_at_call 22; exact quiet_w (ck _)))
          go_wp2
          go_loopw [3] (fun i wr => ∃ j : Nat, j ≤ n ∧ i = .int .i64 j ∧ wr.heap[w.heap.size]? = some (.cells #[.float .f64 k, .bool true, .slice A n c, .int .i64 x, .int .i64 y, .int .i64 z] 33 (0, 0)) ∧ Below w.heap.size w wr) (fun i _ => n - (intOf i).toNat)
          case atStart => exact ⟨0, Nat.zero_le _, rfl, heap_alloc_new w _, below_drewN (((Below.refl _ _).alloc (Nat.le_refl _) _)) _⟩
          case round =>
            obtain ⟨j, hj, rfl, gh, hb⟩ := hrel
            have g2 := cell_of_row wr w.heap.size 2 _ _ _ gh
            have g3 := cell_of_row wr w.heap.size 3 _ _ _ gh
            have g4 := cell_of_row wr w.heap.size 4 _ _ _ gh
            have g5 := cell_of_row wr w.heap.size 5 _ _ _ gh
            simp only [List.getElem?_toArray, List.getElem?_cons_succ, List.getElem?_cons_zero] at g2 g3 g4 g5
            have HB := Lib.hid hb
            clear hb
            by_cases hlt : j < n
            · exact absurd hlt (by omega)
            · go_wp2
              all_goals
                go_ret
                exact ⟨_, rfl, HB.out⟩
      | false =>
        go_enter Try.func9, Try.ntmps9
        go_wp2
        go_quiet ((go_at_call 22; exact quiet_w (ck _)))
        go_wp2
        go_loopw [3] (fun i wr => ∃ j : Nat, j ≤ n ∧ i = .int .i64 j ∧ wr.heap[w.heap.size]? = some (.cells #[.float .f64 k, .bool false, .slice A n c, .int .i64 x, .int .i64 y, .int .i64 z] 33 (0, 0)) ∧ Below w.heap.size w wr) (fun i _ => n - (intOf i).toNat)
        case atStart => exact ⟨0, Nat.zero_le _, rfl, heap_alloc_new w _, below_drewN (((Below.refl _ _).alloc (Nat.le_refl _) _)) _⟩
        case round =>
          obtain ⟨j, hj, rfl, gh, hb⟩ := hrel
          have g2 := cell_of_row wr w.heap.size 2 _ _ _ gh
          have g3 := cell_of_row wr w.heap.size 3 _ _ _ gh
          have g4 := cell_of_row wr w.heap.size 4 _ _ _ gh
          have g5 := cell_of_row wr w.heap.size 5 _ _ _ gh
          simp only [List.getElem?_toArray, List.getElem?_cons_succ, List.getElem?_cons_zero] at g2 g3 g4 g5
          have HB := Lib.hid hb
          clear hb
          by_cases hlt : j < n
          · obtain ⟨b1, o1, e1, q1, r1⟩ := (H.out.below HB.out).2 (by have := N.out; omega)
            subst e1
            have hx := H.out.1 (l[j]'(by have := N.out; omega)) (List.getElem_mem _)
            have g1 := r1 j _ (List.getElem?_eq_getElem (by have := N.out; omega))
            have cv := fun W => value_any (l[j]'(by have := N.out; omega)) hx W
            clear r1 q1
            by_cases e3 : valN (l[j]'(by have := N.out; omega)) = l[j]'(by have := N.out; omega)
            · rw [e3] at cv
              clear e3 hx
              go_wp2
              go_quiet ((go_at_call 23; exact quiet_w (cv _)))
              go_wp2
              go_roundw
              case rel => exact ⟨j + 1, by omega, by go_num, gh, below_drewN HB.out _⟩
              case measure => simp [intOf]; omega
            · have e3' : (((l[j]'(by have := N.out; omega) : Nat) : Int) != ((valN (l[j]'(by have := N.out; omega)) : Nat) : Int)) = true := by simp only [bne_iff_ne]; omega
              clear e3 hx
              go_wp2
              go_quiet ((go_at_call 23; exact quiet_w (cv _)))
              go_wp2
              go_ret
              exact ⟨_, rfl, below_drewN HB.out _⟩
          · go_wp2
            all_goals
              go_ret
              exact ⟨_, rfl, HB.out⟩
  · have e1' : ((k : Int) != (keyN k : Int)) = true := by simp only [bne_iff_ne]; omega
    go_enter Try.func9, Try.ntmps9
    go_wp2
    go_quiet ((go_at_call 22; exact quiet_w (ck _)))
    go_wp2
    go_ret
    exact ⟨_, rfl, below_drewN (((Below.refl _ _).alloc (Nat.le_refl _) _)) _⟩
end Go.Proofs.Ytpcahemjcmccjaa
