/- Two slices of rows compared. -/
import Derived.Test.YtpcahemjcmccjaaE
import Derived.Deep.RegionWith
namespace Go.Proofs.Ytpcahemjcmccjaa
open Go.RowKit

theorem rowsame_of (a b : RowD) (A1 A2 : Option Addr) (c1 c2 : Nat) (w W : World) (hb : Below w.heap.size w W) (h1 : FC w w.heap.size A1 a.cols) (h2 : FC w w.heap.size A2 b.cols) (m1 : a.cols.length ≤ maxLen) (m2 : b.cols.length ≤ maxLen) :
    Calls Try.prog 18 #[.agg (a.cells A1 c1), .agg (b.cells A2 c2)] W fun e w' => e = .returned (.bool (decide (a = b))) ∧ Below w.heap.size w w' :=
  (rowsame_any a b A1 A2 c1 c2 W ((h1.below hb).more hb.size) ((h2.below hb).more hb.size) m1 m2).mono fun _ _ h => ⟨h.1, hb.trans (h.2.mono hb.size)⟩

set_option maxHeartbeats 2000000 in
theorem rows_any (A1 A2 : Option Addr) (c1 c2 : Nat) (l1 l2 : List RowD) (w : World) (h1 : RC w w.heap.size A1 l1) (h2 : RC w w.heap.size A2 l2) (m1 : l1.length ≤ maxLen) (m2 : l2.length ≤ maxLen) :
    Calls Try.prog 7 #[.slice A1 l1.length c1, .slice A2 l2.length c2] w fun e w' => e = .returned (.bool (decide (l1 = l2))) ∧ Below w.heap.size w w' := by
  unfold maxLen at m1 m2
  by_cases hl : l1.length = l2.length
  · rw [← hl]
    obtain ⟨n, hn⟩ : ∃ n, l1.length = n := ⟨_, rfl⟩
    rw [hn] at hl m1 ⊢
    have H1 := Lib.hid h1
    have H2 := Lib.hid h2
    have N1 := Lib.hid hn
    have N2 := Lib.hid hl.symm
    clear h1 h2 hn hl m2
    go_enter Try.func7, Try.ntmps7
    go_wp2
    go_loopw [5] (fun i wr => ∃ k : Nat, k ≤ n ∧ i = .int .i64 k ∧ l1.take k = l2.take k ∧ Below w.heap.size w wr) (fun i _ => n - (intOf i).toNat)
    case atStart => exact ⟨0, Nat.zero_le _, rfl, rfl, Below.refl _ _⟩
    case round =>
      obtain ⟨k, hk, rfl, ht, hb⟩ := hrel
      have HT := Lib.hid ht
      have HB := Lib.hid hb
      clear ht hb
      by_cases hlt : k < n
      · obtain ⟨d1, hd1⟩ := get_at N1 hlt
        obtain ⟨d2, hd2⟩ := get_at N2 hlt
        obtain ⟨b1, o1, A1', c1', e1, q1, q2, q3, q4, q5, q6, r0, r1, r2, r3, r4, r5⟩ := (H1.out.below HB.out).at_ hd1
        obtain ⟨b2, o2, A2', c2', e2, p1, p2, p3, p4, p5, p6, s0, s1, s2, s3, s4, s5⟩ := (H2.out.below HB.out).at_ hd2
        subst e1 e2
        have cs := fun W (hb : Below wr.heap.size wr W) => rowsame_of d1 d2 A1' A2' c1' c2' wr W hb (q2.more HB.out.size) (p2.more HB.out.size) q6 p6
        have HS1 := Lib.hid (take_at hd1)
        have HS2 := Lib.hid (take_at hd2)
        have HD1 := Lib.hid hd1
        have HD2 := Lib.hid hd2
        clear q1 q2 q3 q4 q5 q6 p1 p2 p3 p4 p5 p6 hd1 hd2
        by_cases hx : d1 = d2
        · have HX := Lib.hid hx
          rw [decide_eq_true hx] at cs
          clear hx
          simp only [RowD.cells] at cs
          have CS := Lib.hid cs
          clear cs
          go_wp2
          go_region_with (go_at_call 18; (with_reducible refine (CS.out _ (Below.refl _ _).drew).mono ?_); rintro e w1 ⟨rfl, hb1⟩)
          all_goals
            go_wp2
            go_roundw
            case rel => exact ⟨k + 1, by omega, by go_num, by rw [HS1.out, HS2.out, HT.out, HX.out], HB.out.trans (hb1.mono HB.out.size)⟩
            case measure => simp [intOf]; omega
        · have HX : Hid (decide (l1 = l2) = false) := by
            refine decide_eq_false fun e => hx ?_
            subst e
            have := HD1.out.symm.trans HD2.out
            injection this
          rw [decide_eq_false hx] at cs
          clear hx
          simp only [RowD.cells] at cs
          have CS := Lib.hid cs
          clear cs
          go_wp2
          go_region_with (go_at_call 18; (with_reducible refine (CS.out _ (Below.refl _ _).drew).mono ?_); rintro e w1 ⟨rfl, hb1⟩)
          all_goals
            go_wp2
            go_ret
            exact ⟨ret_bool HX.out.symm, HB.out.trans (hb1.mono HB.out.size)⟩
      · go_wp2
        go_ret
        refine ⟨ret_bool ?_, HB.out⟩
        have ht := HT.out
        rw [List.take_of_length_le (by have := N1.out; omega), List.take_of_length_le (by have := N2.out; omega)] at ht
        simp [ht]
  · have e : decide (l1 = l2) = false := by simp; rintro rfl; exact hl rfl
    rw [e]
    clear e h1 h2
    go_enter Try.func7, Try.ntmps7
    go_wp2
    go_ret
    exact ⟨rfl, Below.refl _ _⟩
end Go.Proofs.Ytpcahemjcmccjaa
