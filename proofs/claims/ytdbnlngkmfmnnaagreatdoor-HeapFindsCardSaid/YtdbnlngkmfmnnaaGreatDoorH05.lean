/- row.Check. -/
import Derived.Test.YtdbnlngkmfmnnaaGreatDoorH04
import Derived.Deep.RegionWith
import Derived.Deep.RegionLaw
namespace Go.Proofs.YtdbnlngkmfmnnaaGreatDoor
open Go.RowKit

/-- May a row be? -/
def okRow (d : RowD) : Bool :=
  !((d.cols.any fun x => !decide (x = numValN x)) || !decide (d.key = numKeyN d.key) || decide ((4 : Int) < (d.cols.length : Int)) || (d.dead && decide ((0 : Int) < (d.cols.length : Int)))) &&
  !(decide (d.wr < 0) || decide (2147483647 < d.wr) || decide (d.rc < 0) || decide (65536 ≤ d.rc)) &&
  !(decide (d.rn < 0) || decide (2147483647 < d.rn) || (decide (d.rc = 0) && decide (0 < d.rn)))

set_option maxHeartbeats 4000000 in
theorem rcheck_any (a : RowD) (A : Option Addr) (c : Nat) (w : World) (h : FC w w.heap.size A a.cols) (m : a.cols.length ≤ maxLen) :
    Calls Tryz.prog 102 #[.agg (a.cells A c)] w fun e w' => e = .returned (.int .i64 (if okRow a then 0 else 1)) ∧ Below w.heap.size w w' := by
  have cb := fun W (hb : Below w.heap.size w W) => badcols_any A c a.cols w.heap.size W (h.below hb) m
  have ck := nkey_any a.key
  have cs := nsame_any a.key (numKeyN a.key)
  unfold okRow
  obtain ⟨key, d, cols, x, y, z⟩ := a
  simp only [RowD.cells] at *
  unfold maxLen at m
  obtain ⟨n, hn⟩ : ∃ n, cols.length = n := ⟨_, rfl⟩
  obtain ⟨bad, hbad⟩ : ∃ bad, (cols.any fun x => !decide (x = numValN x)) = bad := ⟨_, rfl⟩
  obtain ⟨same, hsame⟩ : ∃ same, decide (key = numKeyN key) = same := ⟨_, rfl⟩
  rw [hn, hbad] at cb
  rw [hsame] at cs
  rw [hn, hbad, hsame]
  rw [hn] at m
  have CB := Lib.hid cb
  clear cb h hn hbad hsame
  obtain ⟨p4, h4⟩ : ∃ p, decide ((4 : Int) < (n : Int)) = p := ⟨_, rfl⟩
  obtain ⟨p0, h0⟩ : ∃ p, decide ((0 : Int) < (n : Int)) = p := ⟨_, rfl⟩
  rw [h4, h0]
  obtain ⟨q1, hq1⟩ : ∃ p, decide (x < 0) = p := ⟨_, rfl⟩
  obtain ⟨q2, hq2⟩ : ∃ p, decide (2147483647 < x) = p := ⟨_, rfl⟩
  obtain ⟨q3, hq3⟩ : ∃ p, decide (y < 0) = p := ⟨_, rfl⟩
  obtain ⟨q4, hq4⟩ : ∃ p, decide (65536 ≤ y) = p := ⟨_, rfl⟩
  obtain ⟨q5, hq5⟩ : ∃ p, decide (z < 0) = p := ⟨_, rfl⟩
  obtain ⟨q6, hq6⟩ : ∃ p, decide (2147483647 < z) = p := ⟨_, rfl⟩
  obtain ⟨q7, hq7⟩ : ∃ p, decide (y = 0) = p := ⟨_, rfl⟩
  obtain ⟨q8, hq8⟩ : ∃ p, decide (0 < z) = p := ⟨_, rfl⟩
  rw [hq1, hq2, hq3, hq4, hq5, hq6, hq7, hq8]
  cases bad with
  | true =>
    go_enter Tryz.func102, Tryz.ntmps102
    go_wp2_with (go_at_call 128; (with_reducible refine (CB.out _ ((Below.refl _ _).alloc (Nat.le_refl _) _)).mono ?_); rintro e w' ⟨rfl, rfl⟩)
    go_quiet (first | (go_at_call 94; exact quiet_w (ck _)) | (go_at_call 96; exact quiet_w (cs _)))
    go_wp2
    go_ret
    exact ⟨rfl, below_drewN ((Below.refl _ _).alloc (Nat.le_refl _) _) _⟩
  | false =>
    cases same with
    | false =>
      go_enter Tryz.func102, Tryz.ntmps102
      go_wp2_with (go_at_call 128; (with_reducible refine (CB.out _ ((Below.refl _ _).alloc (Nat.le_refl _) _)).mono ?_); rintro e w' ⟨rfl, rfl⟩)
      go_quiet (first | (go_at_call 94; exact quiet_w (ck _)) | (go_at_call 96; exact quiet_w (cs _)))
      go_wp2
      go_ret
      exact ⟨rfl, below_drewN ((Below.refl _ _).alloc (Nat.le_refl _) _) _⟩
    | true =>
      cases p4 with
      | true =>
        go_enter Tryz.func102, Tryz.ntmps102
        go_wp2_with (go_at_call 128; (with_reducible refine (CB.out _ ((Below.refl _ _).alloc (Nat.le_refl _) _)).mono ?_); rintro e w' ⟨rfl, rfl⟩)
        go_quiet (first | (go_at_call 94; exact quiet_w (ck _)) | (go_at_call 96; exact quiet_w (cs _)))
        go_wp2
        go_ret
        exact ⟨rfl, below_drewN ((Below.refl _ _).alloc (Nat.le_refl _) _) _⟩
      | false =>
        cases d with
        | false =>
          cases q1 with
          | true =>
            go_enter Tryz.func102, Tryz.ntmps102
            go_wp2_with (go_at_call 128; (with_reducible refine (CB.out _ ((Below.refl _ _).alloc (Nat.le_refl _) _)).mono ?_); rintro e w' ⟨rfl, rfl⟩)
            go_quiet (first | (go_at_call 94; exact quiet_w (ck _)) | (go_at_call 96; exact quiet_w (cs _)))
            go_wp2
            go_ret
            exact ⟨rfl, below_drewN ((Below.refl _ _).alloc (Nat.le_refl _) _) _⟩
          | false =>
            cases q2 with
            | true =>
              go_enter Tryz.func102, Tryz.ntmps102
              go_wp2_with (go_at_call 128; (with_reducible refine (CB.out _ ((Below.refl _ _).alloc (Nat.le_refl _) _)).mono ?_); rintro e w' ⟨rfl, rfl⟩)
              go_quiet (first | (go_at_call 94; exact quiet_w (ck _)) | (go_at_call 96; exact quiet_w (cs _)))
              go_wp2
              go_ret
              exact ⟨rfl, below_drewN ((Below.refl _ _).alloc (Nat.le_refl _) _) _⟩
            | false =>
              cases q3 with
              | true =>
                go_enter Tryz.func102, Tryz.ntmps102
                go_wp2_with (go_at_call 128; (with_reducible refine (CB.out _ ((Below.refl _ _).alloc (Nat.le_refl _) _)).mono ?_); rintro e w' ⟨rfl, rfl⟩)
                go_quiet (first | (go_at_call 94; exact quiet_w (ck _)) | (go_at_call 96; exact quiet_w (cs _)))
                go_wp2
                go_ret
                exact ⟨rfl, below_drewN ((Below.refl _ _).alloc (Nat.le_refl _) _) _⟩
              | false =>
                cases q4 with
                | true =>
                  go_enter Tryz.func102, Tryz.ntmps102
                  go_wp2_with (go_at_call 128; (with_reducible refine (CB.out _ ((Below.refl _ _).alloc (Nat.le_refl _) _)).mono ?_); rintro e w' ⟨rfl, rfl⟩)
                  go_quiet (first | (go_at_call 94; exact quiet_w (ck _)) | (go_at_call 96; exact quiet_w (cs _)))
                  go_wp2
                  go_ret
                  exact ⟨rfl, below_drewN ((Below.refl _ _).alloc (Nat.le_refl _) _) _⟩
                | false =>
                  cases q5 with
                  | true =>
                    go_enter Tryz.func102, Tryz.ntmps102
                    go_wp2_with (go_at_call 128; (with_reducible refine (CB.out _ ((Below.refl _ _).alloc (Nat.le_refl _) _)).mono ?_); rintro e w' ⟨rfl, rfl⟩)
                    go_quiet (first | (go_at_call 94; exact quiet_w (ck _)) | (go_at_call 96; exact quiet_w (cs _)))
                    go_wp2
                    go_ret
                    exact ⟨rfl, below_drewN ((Below.refl _ _).alloc (Nat.le_refl _) _) _⟩
                  | false =>
                    cases q6 with
                    | true =>
                      go_enter Tryz.func102, Tryz.ntmps102
                      go_wp2_with (go_at_call 128; (with_reducible refine (CB.out _ ((Below.refl _ _).alloc (Nat.le_refl _) _)).mono ?_); rintro e w' ⟨rfl, rfl⟩)
                      go_quiet (first | (go_at_call 94; exact quiet_w (ck _)) | (go_at_call 96; exact quiet_w (cs _)))
                      go_wp2
                      go_ret
                      exact ⟨rfl, below_drewN ((Below.refl _ _).alloc (Nat.le_refl _) _) _⟩
                    | false =>
                      cases q7 with
                      | false =>
                        have hy0 : ¬ y = 0 := of_decide_eq_false hq7
                        go_enter Tryz.func102, Tryz.ntmps102
                        go_wp2_with (go_at_call 128; (with_reducible refine (CB.out _ ((Below.refl _ _).alloc (Nat.le_refl _) _)).mono ?_); rintro e w' ⟨rfl, rfl⟩)
                        go_quiet (first | (go_at_call 94; exact quiet_w (ck _)) | (go_at_call 96; exact quiet_w (cs _)))
                        go_wp2
                        go_ret
                        exact ⟨rfl, below_drewN ((Below.refl _ _).alloc (Nat.le_refl _) _) _⟩
                      | true =>
                        have hy0 : y = 0 := of_decide_eq_true hq7
                        cases q8 with
                        | true =>
                          go_enter Tryz.func102, Tryz.ntmps102
                          go_wp2_with (go_at_call 128; (with_reducible refine (CB.out _ ((Below.refl _ _).alloc (Nat.le_refl _) _)).mono ?_); rintro e w' ⟨rfl, rfl⟩)
                          go_quiet (first | (go_at_call 94; exact quiet_w (ck _)) | (go_at_call 96; exact quiet_w (cs _)))
                          go_wp2
                          go_ret
                          exact ⟨rfl, below_drewN ((Below.refl _ _).alloc (Nat.le_refl _) _) _⟩
                        | false =>
                          go_enter Tryz.func102, Tryz.ntmps102
                          go_wp2_with (go_at_call 128; (with_reducible refine (CB.out _ ((Below.refl _ _).alloc (Nat.le_refl _) _)).mono ?_); rintro e w' ⟨rfl, rfl⟩)
                          go_quiet (first | (go_at_call 94; exact quiet_w (ck _)) | (go_at_call 96; exact quiet_w (cs _)))
                          go_wp2
                          go_ret
                          exact ⟨rfl, below_drewN ((Below.refl _ _).alloc (Nat.le_refl _) _) _⟩
        | true =>
          cases p0 with
          | true =>
            have hn0 : 0 < n := by have := of_decide_eq_true h0; omega
            go_enter Tryz.func102, Tryz.ntmps102
            go_wp2_with (go_at_call 128; (with_reducible refine (CB.out _ ((Below.refl _ _).alloc (Nat.le_refl _) _)).mono ?_); rintro e w' ⟨rfl, rfl⟩)
            go_quiet (first | (go_at_call 94; exact quiet_w (ck _)) | (go_at_call 96; exact quiet_w (cs _)))
            go_wp2
            go_ret
            exact ⟨rfl, below_drewN ((Below.refl _ _).alloc (Nat.le_refl _) _) _⟩
          | false =>
            have hn0 : ¬ 0 < n := by have := of_decide_eq_false h0; omega
            cases q1 with
            | true =>
              go_enter Tryz.func102, Tryz.ntmps102
              go_wp2_with (go_at_call 128; (with_reducible refine (CB.out _ ((Below.refl _ _).alloc (Nat.le_refl _) _)).mono ?_); rintro e w' ⟨rfl, rfl⟩)
              go_quiet (first | (go_at_call 94; exact quiet_w (ck _)) | (go_at_call 96; exact quiet_w (cs _)))
              go_wp2
              go_ret
              exact ⟨rfl, below_drewN ((Below.refl _ _).alloc (Nat.le_refl _) _) _⟩
            | false =>
              cases q2 with
              | true =>
                go_enter Tryz.func102, Tryz.ntmps102
                go_wp2_with (go_at_call 128; (with_reducible refine (CB.out _ ((Below.refl _ _).alloc (Nat.le_refl _) _)).mono ?_); rintro e w' ⟨rfl, rfl⟩)
                go_quiet (first | (go_at_call 94; exact quiet_w (ck _)) | (go_at_call 96; exact quiet_w (cs _)))
                go_wp2
                go_ret
                exact ⟨rfl, below_drewN ((Below.refl _ _).alloc (Nat.le_refl _) _) _⟩
              | false =>
                cases q3 with
                | true =>
                  go_enter Tryz.func102, Tryz.ntmps102
                  go_wp2_with (go_at_call 128; (with_reducible refine (CB.out _ ((Below.refl _ _).alloc (Nat.le_refl _) _)).mono ?_); rintro e w' ⟨rfl, rfl⟩)
                  go_quiet (first | (go_at_call 94; exact quiet_w (ck _)) | (go_at_call 96; exact quiet_w (cs _)))
                  go_wp2
                  go_ret
                  exact ⟨rfl, below_drewN ((Below.refl _ _).alloc (Nat.le_refl _) _) _⟩
                | false =>
                  cases q4 with
                  | true =>
                    go_enter Tryz.func102, Tryz.ntmps102
                    go_wp2_with (go_at_call 128; (with_reducible refine (CB.out _ ((Below.refl _ _).alloc (Nat.le_refl _) _)).mono ?_); rintro e w' ⟨rfl, rfl⟩)
                    go_quiet (first | (go_at_call 94; exact quiet_w (ck _)) | (go_at_call 96; exact quiet_w (cs _)))
                    go_wp2
                    go_ret
                    exact ⟨rfl, below_drewN ((Below.refl _ _).alloc (Nat.le_refl _) _) _⟩
                  | false =>
                    cases q5 with
                    | true =>
                      go_enter Tryz.func102, Tryz.ntmps102
                      go_wp2_with (go_at_call 128; (with_reducible refine (CB.out _ ((Below.refl _ _).alloc (Nat.le_refl _) _)).mono ?_); rintro e w' ⟨rfl, rfl⟩)
                      go_quiet (first | (go_at_call 94; exact quiet_w (ck _)) | (go_at_call 96; exact quiet_w (cs _)))
                      go_wp2
                      go_ret
                      exact ⟨rfl, below_drewN ((Below.refl _ _).alloc (Nat.le_refl _) _) _⟩
                    | false =>
                      cases q6 with
                      | true =>
                        go_enter Tryz.func102, Tryz.ntmps102
                        go_wp2_with (go_at_call 128; (with_reducible refine (CB.out _ ((Below.refl _ _).alloc (Nat.le_refl _) _)).mono ?_); rintro e w' ⟨rfl, rfl⟩)
                        go_quiet (first | (go_at_call 94; exact quiet_w (ck _)) | (go_at_call 96; exact quiet_w (cs _)))
                        go_wp2
                        go_ret
                        exact ⟨rfl, below_drewN ((Below.refl _ _).alloc (Nat.le_refl _) _) _⟩
                      | false =>
                        cases q7 with
                        | false =>
                          have hy0 : ¬ y = 0 := of_decide_eq_false hq7
                          go_enter Tryz.func102, Tryz.ntmps102
                          go_wp2_with (go_at_call 128; (with_reducible refine (CB.out _ ((Below.refl _ _).alloc (Nat.le_refl _) _)).mono ?_); rintro e w' ⟨rfl, rfl⟩)
                          go_quiet (first | (go_at_call 94; exact quiet_w (ck _)) | (go_at_call 96; exact quiet_w (cs _)))
                          go_wp2
                          go_ret
                          exact ⟨rfl, below_drewN ((Below.refl _ _).alloc (Nat.le_refl _) _) _⟩
                        | true =>
                          have hy0 : y = 0 := of_decide_eq_true hq7
                          cases q8 with
                          | true =>
                            go_enter Tryz.func102, Tryz.ntmps102
                            go_wp2_with (go_at_call 128; (with_reducible refine (CB.out _ ((Below.refl _ _).alloc (Nat.le_refl _) _)).mono ?_); rintro e w' ⟨rfl, rfl⟩)
                            go_quiet (first | (go_at_call 94; exact quiet_w (ck _)) | (go_at_call 96; exact quiet_w (cs _)))
                            go_wp2
                            go_ret
                            exact ⟨rfl, below_drewN ((Below.refl _ _).alloc (Nat.le_refl _) _) _⟩
                          | false =>
                            go_enter Tryz.func102, Tryz.ntmps102
                            go_wp2_with (go_at_call 128; (with_reducible refine (CB.out _ ((Below.refl _ _).alloc (Nat.le_refl _) _)).mono ?_); rintro e w' ⟨rfl, rfl⟩)
                            go_quiet (first | (go_at_call 94; exact quiet_w (ck _)) | (go_at_call 96; exact quiet_w (cs _)))
                            go_wp2
                            go_ret
                            exact ⟨rfl, below_drewN ((Below.refl _ _).alloc (Nat.le_refl _) _) _⟩
end Go.Proofs.YtdbnlngkmfmnnaaGreatDoor

/- row.Decode. -/
namespace Go.Proofs.YtdbnlngkmfmnnaaGreatDoor
open Go.RowKit

def headK : List Nat := [1, 4, 3, 2, 3, 1]
def rowOf (i0 i1 i2 i3 i4 : It) (c : List It) : RowD := ⟨i1.x, decide (i0.n = 1), c.map (·.x), i2.n, i3.n, i4.n⟩
def rowDec2 (L : List Nat) (i0 i1 i2 i3 i4 i5 : It) (a : Nat) : Option RowD :=
  if i0.n ≤ 1 ∧ i5.n ≤ 4 then
    match takeAll (L.drop a) (List.replicate i5.n 4) 0 with
    | some (c, m) => if a + m = L.length ∧ okRow (rowOf i0 i1 i2 i3 i4 c) = true then some (rowOf i0 i1 i2 i3 i4 c) else none
    | none => none
  else none
/-- The row of bytes. -/
def rowDec (L : List Nat) : Option RowD :=
  match takeAll L headK 0 with
  | some ([i0, i1, i2, i3, i4, i5], a) => rowDec2 L i0 i1 i2 i3 i4 i5 a
  | _ => none

def RowOut (w : World) (o : Option RowD) (e : Ending) (w' : World) : Prop := Below w.heap.size w w' ∧ match o with
  | some d => ∃ A c, e = .returned (.tuple #[.agg (d.cells A c), .int .i64 0]) ∧ FN w w' A d.cols ∧ d.cols.length ≤ c ∧ (A = none → c = 0)
  | none => e = .returned (.tuple #[zeroRow, .int .i64 4])

theorem take_c {b off c ck : Nat} {Ak : Option Addr} {L K : List Nat} {w W : World} {n k : Nat} (hb : Below w.heap.size w W) (hB : BC w w.heap.size (some ⟨b, off, none⟩) L) (hK : IC W W.heap.size Ak K) (hk : ∀ k ∈ K, 1 ≤ k ∧ k ≤ 4) (hnl : L.length = n) (hkl : K.length = k) (hn : n ≤ 1000) (mk : k ≤ 1000) (hc : n ≤ c) (hc2 : c ≤ 9223372036854775807) :
    Calls Tryz.prog 117 #[.slice (some ⟨b, off, none⟩) n c, .slice Ak k ck] W fun e w' => Below w.heap.size w w' ∧ Below W.heap.size W w' ∧ match takeAll L K 0 with
      | some (l, a) => ∃ v, e = .returned (.tuple #[v, .int .i64 (a : Nat), .int .i64 0]) ∧ w'.ownsRow W.heap.size 123 4 v l.length (cellsOf l)
      | none => e = .returned (.tuple #[.slice none 0 0, .int .i64 0, .int .i64 4]) := by
  subst hnl hkl
  exact (take_any b off c ck Ak L K W ((hB.below hb).more hb.size) hK hk hn mk hc hc2).mono fun e w' ⟨h1, h2⟩ => ⟨hb.trans (h1.mono hb.size), h1, h2⟩

theorem headK_ok : ∀ k ∈ headK, 1 ≤ k ∧ k ≤ 4 := by decide

theorem six {W : World} {B : Nat} {a0 a1 a2 a3 a4 a5 : Value} {t : TypeId} (h : W.heap[B]? = some (.cells #[a0, a1, a2, a3, a4, a5] t (0, 0))) :
    (W.cell? ⟨B, 0, none⟩ = some a0 ∧ W.cell? ⟨B, 1, none⟩ = some a1 ∧ W.cell? ⟨B, 2, none⟩ = some a2 ∧ W.cell? ⟨B, 3, none⟩ = some a3 ∧ W.cell? ⟨B, 4, none⟩ = some a4 ∧ W.cell? ⟨B, 5, none⟩ = some a5) ∧
    (W.frozen? ⟨B, 0, none⟩ = false ∧ W.frozen? ⟨B, 1, none⟩ = false ∧ W.frozen? ⟨B, 2, none⟩ = false ∧ W.frozen? ⟨B, 3, none⟩ = false ∧ W.frozen? ⟨B, 4, none⟩ = false ∧ W.frozen? ⟨B, 5, none⟩ = false) := by
  refine ⟨⟨?_, ?_, ?_, ?_, ?_, ?_⟩, frozen_of_row W B 0 _ _ h, frozen_of_row W B 1 _ _ h, frozen_of_row W B 2 _ _ h, frozen_of_row W B 3 _ _ h, frozen_of_row W B 4 _ _ h, frozen_of_row W B 5 _ _ h⟩
  all_goals
    rw [cell_of_row W B _ _ _ _ h]; rfl
theorem below_six {w W : World} {B : Nat} (h : Below B w W) (hB : B ≤ w.heap.size) (H : Nat) (hH : B ≤ H) (a0 a1 a2 a3 a4 a5 : Value) :
    Below B w ((((((W.setCell ⟨H, 0, none⟩ a0).setCell ⟨H, 1, none⟩ a1).setCell ⟨H, 2, none⟩ a2).setCell ⟨H, 3, none⟩ a3).setCell ⟨H, 4, none⟩ a4).setCell ⟨H, 5, none⟩ a5) :=
  (((((h.setCell (p := ⟨H, 0, none⟩) hH _).setCell (p := ⟨H, 1, none⟩) hH _).setCell (p := ⟨H, 2, none⟩) hH _).setCell (p := ⟨H, 3, none⟩) hH _).setCell (p := ⟨H, 4, none⟩) hH _).setCell (p := ⟨H, 5, none⟩) hH _

set_option maxHeartbeats 2000000 in
theorem rowdec_none (b off c : Nat) (L : List Nat) (w : World) (hB : BC w w.heap.size (some ⟨b, off, none⟩) L) (hn : L.length ≤ 1000) (hc : L.length ≤ c) (hc2 : c ≤ 9223372036854775807) (ho : takeAll L headK 0 = none) :
    Calls Tryz.prog 92 #[.slice (some ⟨b, off, none⟩) L.length c] w fun e w' => e = .returned (.tuple #[zeroRow, .int .i64 4]) ∧ Below w.heap.size w w' := by
  obtain ⟨n, hln⟩ : ∃ n, L.length = n := ⟨_, rfl⟩
  rw [hln] at hn hc ⊢
  obtain ⟨W0, hW0⟩ : ∃ W0, w.alloc (.cells #[.float .f64 0, .bool false, .slice none 0 0, .int .i64 0, .int .i64 0, .int .i64 0] 30) = W0 := ⟨_, rfl⟩
  have hb0 : Below w.heap.size w W0 := hW0 ▸ (Below.refl w.heap.size w).alloc (Nat.le_refl _) _
  have hk0 := heap_alloc_new w (.cells #[.float .f64 0, .bool false, .slice none 0 0, .int .i64 0, .int .i64 0, .int .i64 0] 30)
  have hsz : w.heap.size < W0.heap.size := by rw [← hW0]; simp
  rw [hW0] at hk0
  have hB0 := (hB.below hb0).more hb0.size
  have C1 : Hid (∀ A ck W, Below W0.heap.size W0 W → IC W W.heap.size A headK → Calls Tryz.prog 117 #[.slice (some ⟨b, off, none⟩) n c, .slice A 6 ck] W fun e w' => e = .returned (.tuple #[.slice none 0 0, .int .i64 0, .int .i64 4]) ∧ Below w.heap.size w w' ∧ w'.heap[w.heap.size]? = some (.cells #[.float .f64 0, .bool false, .slice none 0 0, .int .i64 0, .int .i64 0, .int .i64 0] 30 (0, 0))) := fun A ck W hb hK =>
    (take_c hb hB0 hK headK_ok hln rfl hn (by decide) hc hc2).mono fun e w' ⟨h1, h2, h3⟩ => by
      rw [ho] at h3
      exact ⟨h3, hb0.trans (h1.mono hb0.size), (h1.block _ hsz).trans hk0⟩
  clear hB hB0 ho hln hk0 hb0
  subst hW0
  clear hsz
  have hsf := run_store_f64
  go_enter Tryz.func92, Tryz.ntmps92
  go_wp2_with (first
    | (go_at_call 103; (with_reducible refine (head_any _).mono ?_); rintro e w1 ⟨A, ck, rfl, hic, hb1⟩; have HIC := Lib.hid hic; have HB1 := Lib.hid hb1; clear hic hb1)
    | (go_at_call 117; (with_reducible refine (C1.out _ _ _ HB1.out HIC.out).mono ?_); rintro e w2 ⟨rfl, hb2, hk⟩; obtain ⟨⟨g0, g1, g2, g3, g4, g5⟩, ⟨q0, q1, q2, q3, q4, q5⟩⟩ := six hk; have HB2 := Lib.hid hb2; clear hk hb2))
  refine bodyPost_ret (v := .tuple #[zeroRow, .int .i64 4]) (by simp [results, Tryz.results92, go_sem, zeroRow, g0, g1, g2, g3, g4, g5]) rfl ?_
  exact ⟨rfl, below_six HB2.out (Nat.le_refl _) _ (Nat.le_refl _) _ _ _ _ _ _⟩
end Go.Proofs.YtdbnlngkmfmnnaaGreatDoor

/- row.Decode: what is taken first is right. -/
namespace Go.Proofs.YtdbnlngkmfmnnaaGreatDoor
open Go.RowKit

theorem BC.drop {w : World} {B b off : Nat} {l : List Nat} (h : BC w B (some ⟨b, off, none⟩) l) (a : Nat) : BC w B (some ⟨b, off + a, none⟩) (l.drop a) :=
  ⟨fun x hx => h.1 x (List.mem_of_mem_drop hx), fun hl => by
    obtain ⟨b', off', e, hB, hc⟩ := h.2 (by rw [List.length_drop] at hl; omega)
    injection e with e
    injection e with e1 e2
    subst e1 e2
    refine ⟨b, off + a, rfl, hB, fun j x hx => ?_⟩
    rw [List.getElem?_drop] at hx
    rw [Nat.add_assoc]
    exact hc _ _ hx⟩

theorem takeOne_end {L : List Nat} {k a : Nat} {i : It} {e : Nat} (h : takeOne L k a = some (i, e)) : e = a + (if k = 4 then 8 else wid k) ∧ e ≤ L.length ∧ i.x < 18446744073709551616 ∨ ¬ (∀ x ∈ L, x < 256) := by
  by_cases hL : ∀ x ∈ L, x < 256
  · left
    unfold takeOne at h
    by_cases hk : k = 4
    · rw [if_pos hk] at h ⊢
      split at h
      · split at h
        · rename_i h1 _
          injection h with h
          injection h with h2 h3
          refine ⟨h3.symm, by omega, ?_⟩
          rw [← h2]
          have := beN_lt ((L.drop a).take 8) fun x hx => hL x (List.mem_of_mem_drop (List.mem_of_mem_take hx))
          have hl : ((L.drop a).take 8).length = 8 := by rw [List.length_take, List.length_drop]; omega
          rw [hl] at this
          exact Nat.lt_of_lt_of_le this (by decide)
        · cases h
      · cases h
    · rw [if_neg hk] at h ⊢
      split at h
      · split at h
        · rename_i h1 _
          injection h with h
          injection h with h2 h3
          refine ⟨h3.symm, by omega, ?_⟩
          rw [← h2]
          show (0 : Nat) < 18446744073709551616
          omega
        · cases h
      · cases h
  · right; exact hL

theorem takeAll_end {L : List Nat} (hL : ∀ x ∈ L, x < 256) : ∀ {K : List Nat} {a : Nat} {l : List It} {e : Nat}, a ≤ L.length → takeAll L K a = some (l, e) → e = a + (K.map fun k => if k = 4 then 8 else wid k).sum ∧ e ≤ L.length ∧ ∀ i ∈ l, i.x < 18446744073709551616
  | [], a, l, e, ha, h => by
    simp [takeAll] at h
    obtain ⟨h1, h2⟩ := h
    subst h1 h2
    exact ⟨by simp, ha, by simp⟩
  | k :: ks, a, l, e, ha, h => by
    unfold takeAll at h
    cases h1 : takeOne L k a with
    | none => rw [h1] at h; cases h
    | some r =>
      obtain ⟨i, a'⟩ := r
      rw [h1] at h
      simp only at h
      cases h2 : takeAll L ks a' with
      | none => rw [h2] at h; cases h
      | some r2 =>
        obtain ⟨l2, e2⟩ := r2
        rw [h2] at h
        simp only [Option.some.injEq, Prod.mk.injEq] at h
        obtain ⟨q1, q2⟩ := h
        subst q1 q2
        rcases takeOne_end h1 with ⟨g1, g2, g3⟩ | g
        · obtain ⟨g4, g5, g6⟩ := takeAll_end hL g2 h2
          refine ⟨by rw [List.map_cons, List.sum_cons, g4, g1]; omega, g5, fun y hy => ?_⟩
          rcases List.mem_cons.1 hy with rfl | hy
          · exact g3
          · exact g6 y hy
        · exact absurd hL g

theorem headK_end {L : List Nat} (hL : ∀ x ∈ L, x < 256) {l : List It} {e : Nat} (h : takeAll L headK 0 = some (l, e)) : e = 20 ∧ 20 ≤ L.length ∧ (∀ i ∈ l, i.x < 18446744073709551616) ∧ ∃ i0 i1 i2 i3 i4 i5, l = [i0, i1, i2, i3, i4, i5] := by
  obtain ⟨h1, h2, h3⟩ := takeAll_end hL (Nat.zero_le _) h
  have h4 : (headK.map fun k => if k = 4 then 8 else wid k).sum = 20 := by decide
  rw [h4] at h1
  have h5 := takeAll_len h
  refine ⟨by omega, by omega, h3, ?_⟩
  match l, h5 with
  | [a0, a1, a2, a3, a4, a5], _ => exact ⟨_, _, _, _, _, _, rfl⟩

/-- The box of the row that is handed back, ahead of all else. -/
def zbox : Obj := .cells #[.float .f64 0, .bool false, .slice none 0 0, .int .i64 0, .int .i64 0, .int .i64 0] 30 (0, 0)

/-- What the first taking leaves. -/
structure Hd (w W : World) (g : Nat) (i0 i1 i2 i3 i4 i5 : It) : Prop where
  below : Below w.heap.size w W
  box : W.heap[w.heap.size]? = some zbox
  gt : w.heap.size < g
  lt : g < W.heap.size
  c0 : W.cell? ⟨g, 1, none⟩ = some (.int .i64 (i0.n : Nat))
  c1 : W.cell? ⟨g, 6, none⟩ = some (.float .f64 i1.x)
  c2 : W.cell? ⟨g, 9, none⟩ = some (.int .i64 (i2.n : Nat))
  c3 : W.cell? ⟨g, 13, none⟩ = some (.int .i64 (i3.n : Nat))
  c4 : W.cell? ⟨g, 17, none⟩ = some (.int .i64 (i4.n : Nat))
  c5 : W.cell? ⟨g, 21, none⟩ = some (.int .i64 (i5.n : Nat))
theorem Hd.on {w W W' : World} {g : Nat} {i0 i1 i2 i3 i4 i5 : It} (h : Hd w W g i0 i1 i2 i3 i4 i5) (hb : Below W.heap.size W W') : Hd w W' g i0 i1 i2 i3 i4 i5 := by
  have hl := h.lt
  have hw := h.gt
  exact ⟨h.below.trans (hb.mono h.below.size), (hb.block _ (by omega)).trans h.box, h.gt, Nat.lt_of_lt_of_le h.lt hb.size,
    (hb.cell (p := ⟨g, 1, none⟩) hl).trans h.c0, (hb.cell (p := ⟨g, 6, none⟩) hl).trans h.c1, (hb.cell (p := ⟨g, 9, none⟩) hl).trans h.c2, (hb.cell (p := ⟨g, 13, none⟩) hl).trans h.c3, (hb.cell (p := ⟨g, 17, none⟩) hl).trans h.c4, (hb.cell (p := ⟨g, 21, none⟩) hl).trans h.c5⟩

theorem head_take {b off c : Nat} {L : List Nat} {w : World} {n a : Nat} {i0 i1 i2 i3 i4 i5 : It} (hB : BC w w.heap.size (some ⟨b, off, none⟩) L) (hnl : L.length = n) (hn : n ≤ 1000) (hc : n ≤ c) (hc2 : c ≤ 9223372036854775807) (ho : takeAll L headK 0 = some ([i0, i1, i2, i3, i4, i5], a))
    (A : Option Addr) (ck : Nat) (W : World) (hb : Below (w.alloc zbox).heap.size (w.alloc zbox) W) (hK : IC W W.heap.size A headK) :
    Calls Tryz.prog 117 #[.slice (some ⟨b, off, none⟩) n c, .slice A 6 ck] W fun e w' => ∃ g cap, e = .returned (.tuple #[.slice (some ⟨g, 0, none⟩) 6 cap, .int .i64 (a : Nat), .int .i64 0]) ∧ Hd w w' g i0 i1 i2 i3 i4 i5 := by
  have hb0 : Below w.heap.size w (w.alloc zbox) := (Below.refl w.heap.size w).alloc (Nat.le_refl _) _
  have hk0 := heap_alloc_new w zbox
  have hsz : w.heap.size < (w.alloc zbox).heap.size := by simp
  have hB0 := (hB.below hb0).more hb0.size
  refine (take_c hb hB0 hK headK_ok hnl rfl hn (by decide) hc hc2).mono fun e w' ⟨h1, h2, h3⟩ => ?_
  rw [ho] at h3
  obtain ⟨v, he, hown⟩ := h3
  obtain ⟨g, cap, rfl, hge, hlt⟩ := hown.form (by simp)
  refine ⟨g, cap, he, hb0.trans (h1.mono hb0.size), (h1.block _ hsz).trans hk0, Nat.lt_of_lt_of_le hsz (Nat.le_trans hb.size hge), hlt, ?_, ?_, ?_, ?_, ?_, ?_⟩
  all_goals
    rw [hown.cellAt _ (by simp)]
    rfl
end Go.Proofs.YtdbnlngkmfmnnaaGreatDoor

/- row.Decode: the ways that end early. -/
namespace Go.Proofs.YtdbnlngkmfmnnaaGreatDoor
open Go.RowKit

set_option maxHeartbeats 2000000 in
theorem rowdec_big (b off c : Nat) (L : List Nat) (w : World) (hB : BC w w.heap.size (some ⟨b, off, none⟩) L) (hn : L.length ≤ 1000) (hc : L.length ≤ c) (hc2 : c ≤ 9223372036854775807) (i0 i1 i2 i3 i4 i5 : It) (a : Nat) (ho : takeAll L headK 0 = some ([i0, i1, i2, i3, i4, i5], a)) (hx : ¬ (i0.n ≤ 1 ∧ i5.n ≤ 4)) :
    Calls Tryz.prog 92 #[.slice (some ⟨b, off, none⟩) L.length c] w fun e w' => e = .returned (.tuple #[zeroRow, .int .i64 4]) ∧ Below w.heap.size w w' := by
  obtain ⟨n, hln⟩ : ∃ n, L.length = n := ⟨_, rfl⟩
  rw [hln] at hn hc ⊢
  have C1 := Lib.hid (head_take hB hln hn hc hc2 ho)
  clear hB ho hln
  unfold zbox at C1
  have hsf := run_store_f64
  by_cases h0 : 1 < i0.n
  · have h0' : (1 : Int) < (i0.n : Int) := by omega
    clear hx
    go_enter Tryz.func92, Tryz.ntmps92
    go_wp2_with (first
      | (go_at_call 103; (with_reducible refine (head_any _).mono ?_); rintro e w1 ⟨A, ck, rfl, hic, hb1⟩; have HIC := Lib.hid hic; have HB1 := Lib.hid hb1; clear hic hb1)
      | (go_at_call 117; (with_reducible refine (C1.out _ _ _ HB1.out HIC.out).mono ?_); rintro e w2 ⟨g, cap, rfl, hd⟩; obtain ⟨⟨g0, g1, g2, g3, g4, g5⟩, ⟨q0, q1, q2, q3, q4, q5⟩⟩ := six hd.box; have c0 := hd.c0; have c5 := hd.c5; have HD := Lib.hid hd; clear hd))
    refine bodyPost_ret (v := .tuple #[zeroRow, .int .i64 4]) (by simp [results, Tryz.results92, go_sem, zeroRow, g0, g1, g2, g3, g4, g5]) rfl ?_
    exact ⟨rfl, below_six HD.out.below (Nat.le_refl _) _ (Nat.le_refl _) _ _ _ _ _ _⟩
  · have h0' : ¬ (1 : Int) < (i0.n : Int) := by omega
    have h5' : (4 : Int) < (i5.n : Int) := by omega
    clear hx h0
    go_enter Tryz.func92, Tryz.ntmps92
    go_wp2_with (first
      | (go_at_call 103; (with_reducible refine (head_any _).mono ?_); rintro e w1 ⟨A, ck, rfl, hic, hb1⟩; have HIC := Lib.hid hic; have HB1 := Lib.hid hb1; clear hic hb1)
      | (go_at_call 117; (with_reducible refine (C1.out _ _ _ HB1.out HIC.out).mono ?_); rintro e w2 ⟨g, cap, rfl, hd⟩; obtain ⟨⟨g0, g1, g2, g3, g4, g5⟩, ⟨q0, q1, q2, q3, q4, q5⟩⟩ := six hd.box; have c0 := hd.c0; have c5 := hd.c5; have HD := Lib.hid hd; clear hd))
    refine bodyPost_ret (v := .tuple #[zeroRow, .int .i64 4]) (by simp [results, Tryz.results92, go_sem, zeroRow, g0, g1, g2, g3, g4, g5]) rfl ?_
    exact ⟨rfl, below_six HD.out.below (Nat.le_refl _) _ (Nat.le_refl _) _ _ _ _ _ _⟩

theorem rep_drew (W : World) (k : Nat) (hk : k ≤ 4) : Calls Tryz.prog 118 #[.slice (some ⟨W.heap.size, 0, none⟩) 1 1, .int .i64 (k : Nat)] (W.alloc (.cells #[.int .i64 4] 3)).drew fun e w' => ∃ A c, e = .returned (.slice A k c) ∧ IC w' w'.heap.size A (List.replicate k 4) ∧ Below W.heap.size W w' :=
  (repeat_all W.heap.size k (W.alloc (.cells #[.int .i64 4] 3)).drew (heap_alloc_new W _) hk).mono fun e w' ⟨A, c, h1, h2, h3⟩ => ⟨A, c, h1, h2, ((Below.refl _ _).alloc (Nat.le_refl _) _).drew.trans (h3.mono (by simp))⟩

set_option maxHeartbeats 2000000 in
theorem rowdec_cut (b off c : Nat) (L : List Nat) (w : World) (hB : BC w w.heap.size (some ⟨b, off, none⟩) L) (hn : L.length ≤ 1000) (hc : L.length ≤ c) (h21 : 21 ≤ c) (hc2 : c ≤ 9223372036854775807) (i0 i1 i2 i3 i4 i5 : It) (ho : takeAll L headK 0 = some ([i0, i1, i2, i3, i4, i5], 20)) (h20 : 20 ≤ L.length) (hx0 : i0.n ≤ 1) (hx5 : i5.n ≤ 4)
    (ho2 : takeAll (L.drop 20) (List.replicate i5.n 4) 0 = none) :
    Calls Tryz.prog 92 #[.slice (some ⟨b, off, none⟩) L.length c] w fun e w' => e = .returned (.tuple #[zeroRow, .int .i64 4]) ∧ Below w.heap.size w w' := by
  obtain ⟨n, hln⟩ : ∃ n, L.length = n := ⟨_, rfl⟩
  rw [hln] at hn hc h20 ⊢
  have C1 := Lib.hid (head_take hB hln hn hc hc2 ho)
  have C2 : Hid (∀ {W : World} {g : Nat} (hd : Hd w W g i0 i1 i2 i3 i4 i5) (A : Option Addr) (ck : Nat) (W1 : World) (hb : Below W.heap.size W W1) (hK : IC W1 W1.heap.size A (List.replicate i5.n 4)), Calls Tryz.prog 117 #[.slice (some ⟨b, off + 20, none⟩) (n - 20) (c - 20), .slice A i5.n ck] W1 fun e w' => e = .returned (.tuple #[.slice none 0 0, .int .i64 0, .int .i64 4]) ∧ Hd w w' g i0 i1 i2 i3 i4 i5) := fun hd A ck W1 hb hK =>
    (take_c hb (((hB.drop 20).below hd.below).more hd.below.size) hK (by simp [List.mem_replicate]) (by rw [List.length_drop, hln]) (List.length_replicate) (by omega) (by omega) (by omega) (by omega)).mono fun e w' ⟨h1, h2, h3⟩ => by
      rw [ho2] at h3
      exact ⟨h3, hd.on h1⟩
  clear hB ho hln ho2
  unfold zbox at C1
  have hsf := run_store_f64
  have h0' : ¬ (1 : Int) < (i0.n : Int) := by omega
  have h5' : ¬ (4 : Int) < (i5.n : Int) := by omega
  have hne : ¬ c = 20 := by omega
  have n20 : (20 : Int) ≤ (n : Int) := by omega
  have nc : (n : Int) ≤ (c : Int) := by omega
  go_enter Tryz.func92, Tryz.ntmps92
  go_wp2_with (first
    | (go_at_call 103; (with_reducible refine (head_any _).mono ?_); rintro e w1 ⟨A, ck, rfl, hic, hb1⟩; have HIC := Lib.hid hic; have HB1 := Lib.hid hb1; clear hic hb1)
    | (go_at_call 117; (with_reducible refine (C1.out _ _ _ HB1.out HIC.out).mono ?_); rintro e w2 ⟨g, cap, rfl, hd⟩; obtain ⟨⟨g0, g1, g2, g3, g4, g5⟩, ⟨q0, q1, q2, q3, q4, q5⟩⟩ := six hd.box; have c0 := hd.c0; have c5 := hd.c5; have c5a := cell_on c5 (.cells #[.int .i64 4] 3); have HD := Lib.hid hd; clear hd))
  go_region_held3 (fun w' => w'.cell? ⟨g, 21, none⟩ = some (.int .i64 (i5.n : Nat)))
    (first | go_keep | exact HD3.out.c5)
    (first
    | (go_at_call 118; (with_reducible refine (rep_drew _ _ hx5).mono ?_); rintro e w3 ⟨A2, ck2, rfl, hic2, hb3⟩; have HIC2 := Lib.hid hic2; have HB3 := Lib.hid hb3; have HD3 := Lib.hid (HD.out.on hb3); clear hic2 hb3)
    | (go_at_call 117; (with_reducible refine (C2.out HD.out _ _ _ HB3.out HIC2.out).mono ?_); rintro e w4 ⟨rfl, hd⟩; obtain ⟨⟨h0, h1, h2, h3, h4, h5⟩, ⟨r0, r1, r2, r3, r4, r5⟩⟩ := six hd.box; have d0 := hd.c0; have d1 := hd.c1; have d2 := hd.c2; have d3 := hd.c3; have d4 := hd.c4; clear HD3; have HD3 := Lib.hid hd; clear hd))
  go_wp2
  go_region_held3 (fun w' => w'.cell? ⟨g, 1, none⟩ = some (.int .i64 (i0.n : Nat)) ∧ w'.cell? ⟨g, 6, none⟩ = some (.float .f64 i1.x) ∧ w'.cell? ⟨g, 9, none⟩ = some (.int .i64 (i2.n : Nat)) ∧ w'.cell? ⟨g, 13, none⟩ = some (.int .i64 (i3.n : Nat)) ∧ w'.cell? ⟨g, 17, none⟩ = some (.int .i64 (i4.n : Nat))) (first | go_keep | exact ⟨d0, d1, d2, d3, d4⟩) (fail)
  go_wp2
  go_loopw [75] (fun i wr => i = .int .i64 0 ∧ Hd w wr g i0 i1 i2 i3 i4 i5) (fun _ _ => 0)
  case atStart => exact ⟨rfl, HD3.out.on (((Below.refl _ _).drew).alloc (by simp) _)⟩
  case round =>
    obtain ⟨rfl, hd⟩ := hrel
    obtain ⟨⟨g0, g1, g2, g3, g4, g5⟩, ⟨q0, q1, q2, q3, q4, q5⟩⟩ := six hd.box
    have HD4 := Lib.hid hd
    clear hd
    go_wp2
    refine bodyPost_ret (v := .tuple #[zeroRow, .int .i64 4]) (by simp [results, Tryz.results92, go_sem, zeroRow, g0, g1, g2, g3, g4, g5]) rfl ?_
    exact ⟨rfl, below_six HD4.out.below (Nat.le_refl _) _ (Nat.le_refl _) _ _ _ _ _ _⟩
end Go.Proofs.YtdbnlngkmfmnnaaGreatDoor

/- row.Decode: the columns gathered. -/
namespace Go.Proofs.YtdbnlngkmfmnnaaGreatDoor
open Go.RowKit

/-- Items that were taken, as a slice. -/
def IX (w : World) (A : Option Addr) (l : List It) : Prop := ∀ (i : Nat) (it : It), l[i]? = some it → ∃ g, A = some ⟨g, 0, none⟩ ∧ g < w.heap.size ∧
  w.cell? ⟨g, i * 4, none⟩ = some (.int .i64 (it.k : Nat)) ∧ w.cell? ⟨g, i * 4 + 1, none⟩ = some (.int .i64 (it.n : Nat)) ∧ w.cell? ⟨g, i * 4 + 2, none⟩ = some (.float .f64 it.x) ∧ w.cell? ⟨g, i * 4 + 3, none⟩ = some (.string ⟨#[]⟩)
theorem IX.of_own {w : World} {base : Nat} {v : Value} {l : List It} (h : w.ownsRow base 123 4 v l.length (cellsOf l)) : ∃ A c, v = .slice A l.length c ∧ IX w A l := by
  rcases Nat.eq_zero_or_pos l.length with h0 | hp
  · rcases h.2 with ⟨rfl, _⟩ | ⟨g, cap, cur, rfl, _⟩
    · exact ⟨none, 0, by rw [h0], fun i it hi => by have := (List.getElem?_eq_some_iff.1 hi).1; omega⟩
    · exact ⟨_, _, rfl, fun i it hi => by have := (List.getElem?_eq_some_iff.1 hi).1; omega⟩
  · obtain ⟨g, cap, e, hg, hc⟩ := (Got.of_own h hp).is
    refine ⟨_, _, e, fun i it hi => ?_⟩
    obtain ⟨h1, h2, h3, h4⟩ := hc i it hi
    exact ⟨g, rfl, hg, h3, h1, h2, h4⟩
theorem IX.on {w w' : World} {A : Option Addr} {l : List It} (h : IX w A l) (hb : Below w.heap.size w w') : IX w' A l := fun i it hi => by
  obtain ⟨g, e, hg, h1, h2, h3, h4⟩ := h i it hi
  exact ⟨g, e, Nat.lt_of_lt_of_le hg hb.size, (hb.cell (p := ⟨g, i * 4, none⟩) hg).trans h1, (hb.cell (p := ⟨g, i * 4 + 1, none⟩) hg).trans h2, (hb.cell (p := ⟨g, i * 4 + 2, none⟩) hg).trans h3, (hb.cell (p := ⟨g, i * 4 + 3, none⟩) hg).trans h4⟩

/-- The row that is made, and its columns so far. -/
structure InR (w : World) (key : Nat) (dead : Bool) (x y z : Nat) (u : Value) (l : List Nat) (W : World) : Prop where
  below : Below w.heap.size w W
  row : W.heap[w.heap.size]? = some (.cells #[.float .f64 key, .bool dead, u, .int .i64 (x : Nat), .int .i64 (y : Nat), .int .i64 (z : Nat)] 30 (0, 0))
  own : W.ownsRow (w.heap.size + 1) 25 1 u l.length (l.map (Value.float .f64))

theorem InR.lt {w W : World} {key x y z : Nat} {dead : Bool} {u : Value} {l : List Nat} (h : InR w key dead x y z u l W) : w.heap.size < W.heap.size := (Array.getElem?_eq_some_iff.1 h.row).1
theorem InR.same {w W W' : World} {key x y z : Nat} {dead : Bool} {u : Value} {l : List Nat} (h : InR w key dead x y z u l W) (hb : Below W.heap.size W W') : InR w key dead x y z u l W' :=
  ⟨h.below.trans (hb.mono h.below.size), (hb.block _ h.lt).trans h.row, h.own.kept (below_grown hb none) (by cases u.ownBlock <;> simp)⟩
theorem row_set {W : World} {j : Nat} {a0 a1 a2 a3 a4 a5 v : Value} {t : TypeId} (h : W.heap[j]? = some (.cells #[a0, a1, a2, a3, a4, a5] t (0, 0))) : (W.setCell ⟨j, 2, none⟩ v).heap[j]? = some (.cells #[a0, a1, v, a3, a4, a5] t (0, 0)) := by
  rw [heap_setCell_same _ _ _ _ _ _ h]; rfl
theorem InR.done {w W w1 : World} {key x y z : Nat} {dead : Bool} {u u' : Value} {l l' : List Nat} (h : InR w key dead x y z u l W) (hown : w1.ownsRow (w.heap.size + 1) 25 1 u' l'.length (l'.map (Value.float .f64))) (hg : W.grownBy w1 u.ownBlock) :
    InR w key dead x y z u' l' (w1.setCell ⟨w.heap.size, 2, none⟩ u') := by
  have hnb : ∀ b, u.ownBlock = some b → w.heap.size + 1 ≤ b := fun b hb => (h.own.lt b hb).1
  have hl := h.lt
  refine ⟨(h.below.grown hg (by omega) fun k hk => by have := hnb k hk; omega).setCell (p := ⟨w.heap.size, 2, none⟩) (Nat.le_refl _) _, ?_, ?_⟩
  · exact row_set ((hg.block _ hl (fun e => by have := hnb _ e.symm; omega)).trans h.row)
  · refine hown.kept (grown_one w1 (T := w.heap.size) (p := ⟨w.heap.size, 2, none⟩) u' rfl) ?_
    cases hb : u'.ownBlock with
    | none => exact .inl rfl
    | some g => refine .inr fun e => ?_; injection e with e; have := (hown.lt g hb).1; omega

theorem InR.start (w : World) (key : Nat) (dead : Bool) (x y z : Nat) : InR w key dead x y z (.slice none 0 0) [] (w.drew.alloc (.cells #[.float .f64 key, .bool dead, .slice none 0 0, .int .i64 (x : Nat), .int .i64 (y : Nat), .int .i64 (z : Nat)] 30)) :=
  ⟨((Below.refl _ _).drew).alloc (by simp) _, heap_alloc_new w.drew _, World.ownsRow_nil _ _ _ _⟩

/-- The loop's append. -/
theorem add_col {ops : Array Oper} {rest : List Oper} {o : Oper} {a : Act} {Q : Exit → Act → World → Prop} (hgd : o.guard = none) (s e : Operand)
    (ho : o.op = .call { callee := .builtin .append, args := #[s, e], argTypes := #[26, 26] })
    {w W : World} {key x y z : Nat} {dead : Bool} {u : Value} {l : List Nat} (h : InR w key dead x y z u l W) (c : Nat) (hs : a.eval s = u) (he : a.eval e = .slice (some ⟨W.heap.size, 0, none⟩) 1 1) {q : Nat} (hq : l.length = q) (hm : q ≤ 1000)
    (hK : ∀ g cap w', InR w key dead x y z (.slice (some ⟨g, 0, none⟩) (q + 1) cap) (l ++ [c]) (w'.setCell ⟨w.heap.size, 2, none⟩ (.slice (some ⟨g, 0, none⟩) (q + 1) cap)) → w'.cell? ⟨w.heap.size, 2, none⟩ = some u → w'.frozen? ⟨w.heap.size, 2, none⟩ = false →
      wpList Tryz.prog ops Q rest (a.put o.dst (.slice (some ⟨g, 0, none⟩) (q + 1) cap)) w') : wpList Tryz.prog ops Q (o :: rest) a (W.alloc (.cells #[.float .f64 c] 25)) := by
  subst hq
  obtain ⟨i0, hi0, hz0, hz1, hz2⟩ := info_parts info25
  have h' := h.same ((Below.refl _ _).alloc (Nat.le_refl _) (.cells #[.float .f64 c] 25))
  have hl := h'.lt
  refine wpList_append_lies (W.alloc (.cells #[.float .f64 c] 25)) hgd s e 26 ho (w.heap.size + 1) 25 i0 (.float .f64 0) 1 8 Tryz.underlying26 hi0 hz0 hz1 hz2 rfl (by decide) u l.length (l.map (Value.float .f64)) hs h'.own ⟨W.heap.size, 0, none⟩ 1 1
    [.float .f64 c] he rfl (World.news_of_block (heap_alloc_new W _)) (by intro z hz; simp only [List.mem_cons, List.not_mem_nil, or_false] at hz; rcases hz with rfl; rfl) (by omega) (by unfold maxLen; omega) (by omega) (by omega) _ rfl ?_
  intro g cap w' hown hgrow hat hlt
  have e1 : (l ++ [c]).length = l.length + 1 := by simp
  have e2 : (l ++ [c]).map (Value.float .f64) = l.map (Value.float .f64) ++ [.float .f64 c] := by simp
  have hd := h'.done (u' := .slice (some ⟨g, 0, none⟩) (l.length + 1) cap) (l' := l ++ [c]) (by rw [e1, e2]; exact hown) hgrow
  have hnb : ∀ b, u.ownBlock = some b → w.heap.size + 1 ≤ b := fun b hb => (h.own.lt b hb).1
  refine hK g cap w' hd ?_ ?_
  · rw [hgrow.cell_far ⟨w.heap.size, 2, none⟩ hl (fun e => by have := hnb w.heap.size e.symm; omega), cell_of_row _ _ 2 _ _ _ h'.row]; rfl
  · rw [hgrow.frozen_far ⟨w.heap.size, 2, none⟩ hl (fun e => by have := hnb w.heap.size e.symm; omega)]; exact frozen_of_row _ _ 2 _ _ h'.row

theorem FN.on {w w' w'' : World} {A : Option Addr} {l : List Nat} (h : FN w w' A l) (hb : Below w'.heap.size w' w'') : FN w w'' A l :=
  ⟨h.1, fun hl => by
    obtain ⟨b, off, e, h1, h2, hc⟩ := h.2 hl
    exact ⟨b, off, e, h1, Nat.lt_of_lt_of_le h2 hb.size, fun j x hx => (hb.cell (p := ⟨b, off + j, none⟩) h2).trans (hc j x hx)⟩⟩
theorem InR.cols {w W : World} {key x y z : Nat} {dead : Bool} {u : Value} {l : List Nat} (h : InR w key dead x y z u l W) (hl : ∀ x ∈ l, x < 18446744073709551616) : ∃ A c, u = .slice A l.length c ∧ FN w W A l ∧ l.length ≤ c ∧ (A = none → c = 0) := by
  have h1 : W.ownsRow (w.alloc zbox).heap.size 25 1 u l.length (l.map (Value.float .f64)) := by
    have e : (w.alloc zbox).heap.size = w.heap.size + 1 := by simp
    rw [e]; exact h.own
  obtain ⟨A, c, e, h2, h3, h4⟩ := own1_form hl h1
  exact ⟨A, c, e, h2.early (by simp), h3, h4⟩
theorem FN.six {w W : World} {A : Option Addr} {l : List Nat} {H : Nat} (h : FN w W A l) (hH : H < w.heap.size) (a0 a1 a2 a3 a4 a5 : Value) :
    FN w ((((((W.setCell ⟨H, 0, none⟩ a0).setCell ⟨H, 1, none⟩ a1).setCell ⟨H, 2, none⟩ a2).setCell ⟨H, 3, none⟩ a3).setCell ⟨H, 4, none⟩ a4).setCell ⟨H, 5, none⟩ a5) A l :=
  (((((h.set (p := ⟨H, 0, none⟩) hH _).set (p := ⟨H, 1, none⟩) hH _).set (p := ⟨H, 2, none⟩) hH _).set (p := ⟨H, 3, none⟩) hH _).set (p := ⟨H, 4, none⟩) hH _).set (p := ⟨H, 5, none⟩) hH _
end Go.Proofs.YtdbnlngkmfmnnaaGreatDoor
