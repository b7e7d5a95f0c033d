/- ModelLays: the walk. -/
import Derived.Test.YtpcahemjcmccjaaV
import Derived.Test.YtpcahemjcmccjaaAw
namespace Go.Proofs.Ytpcahemjcmccjaa
open Go.RowKit

set_option maxHeartbeats 4000000 in
theorem lays_any (As Aw : Option Addr) (cs cw : Nat) (ls lw : List RowD) (w : World) (hs : Rd w As cs ls) (hw : Rd w Aw cw lw) (ms : ls.length ≤ maxLen) (mw : lw.length ≤ maxLen) :
    Calls Try.prog 3 #[.slice As ls.length cs, .slice Aw lw.length cw] w fun e w' => e = .returned (.bool true) ∧ Below w.heap.size w w' := by
  have HM := Lib.hid (may_c hs ms)
  have HS := Lib.hid hs
  have HW := Lib.hid hw
  have MW := Lib.hid mw
  clear hs hw ms mw
  have fn : Fit [] := fun d hd => by cases hd
  have rn : Rising [] := List.Pairwise.nil
  obtain ⟨P, hP⟩ : ∃ P, P = layP [] ls := ⟨_, rfl⟩
  obtain ⟨Q, hQ⟩ : ∃ Q, Q = layP P lw := ⟨_, rfl⟩
  have rp : Rising P := by rw [hP]; exact (layP_rising _ rn).1
  have rq : Rising Q := by rw [hQ]; exact (layP_rising _ rp).1
  have hQQ : Q = layP Q lw := by rw [hQ]; exact (layP_twice rp lw).symm
  have fp : Fit ls → Fit P := fun h => by rw [hP]; exact layP_all (fun d h => h.bare) _ _ fn h
  have fq : Fit ls → Fit lw → Fit Q := fun h h2 => by rw [hQ]; exact layP_all (fun d h => h.bare) _ _ (fp h) h2
  have mp : Nobody ls → P.length ≤ 60 := fun h => by have := layP_length ls []; rw [← hP] at this; have := h.1.1; simp only [List.length_nil] at *; omega
  have mq : Nobody ls → Nobody lw → Q.length ≤ 120 := fun h h2 => by have h3 := layP_length lw P; rw [← hQ] at h3; have := mp h; have := h2.1.1; omega
  have C1 : Hid (∀ W, Below w.heap.size w W → Nobody ls ∧ Fit ls → Calls Try.prog 6 #[.slice none 0 0, .slice As ls.length cs] W fun e w' => ∃ A c, e = .returned (.slice A P.length c) ∧ Rd w' A c P ∧ Below W.heap.size W w') := fun W hb h =>
    lay_c (ls := []) (Rd.nil W) (HS.out.on hb) (by simp) (by have := h.1.1.1; omega) fn h.2 rn hP
  have C2 : Hid (∀ W, Below w.heap.size w W → Nobody ls ∧ Fit ls → Calls Try.prog 8 #[.slice none 0 0, .slice As ls.length cs] W fun e w' => ∃ A c, e = .returned (.slice A P.length c) ∧ Rd w' A c P ∧ Below W.heap.size W w') := fun W hb h =>
    refLay_c (ls := []) (Rd.nil W) (HS.out.on hb) (by simp) (by have := h.1.1.1; omega) fn h.2 rn hP
  have C4 : Hid (∀ W A c, Below w.heap.size w W → Rd W A c P → Nobody ls ∧ Fit ls → Nobody lw ∧ Fit lw → Calls Try.prog 6 #[.slice A P.length c, .slice Aw lw.length cw] W fun e w' => ∃ A c, e = .returned (.slice A Q.length c) ∧ Rd w' A c Q ∧ Below W.heap.size W w') := fun W A c hb hr h h2 =>
    lay_c hr (HW.out.on hb) (by have := mp h.1; omega) (by have := h2.1.1.1; omega) (fp h.2) h2.2 rp hQ
  have C5 : Hid (∀ W A c, Below w.heap.size w W → Rd W A c P → Nobody ls ∧ Fit ls → Nobody lw ∧ Fit lw → Calls Try.prog 8 #[.slice A P.length c, .slice Aw lw.length cw] W fun e w' => ∃ A c, e = .returned (.slice A Q.length c) ∧ Rd w' A c Q ∧ Below W.heap.size W w') := fun W A c hb hr h h2 =>
    refLay_c hr (HW.out.on hb) (by have := mp h.1; omega) (by have := h2.1.1.1; omega) (fp h.2) h2.2 rp hQ
  have C6 : Hid (∀ W A c, Below w.heap.size w W → Rd W A c Q → Nobody ls ∧ Fit ls → Nobody lw ∧ Fit lw → Calls Try.prog 6 #[.slice A Q.length c, .slice Aw lw.length cw] W fun e w' => ∃ A c, e = .returned (.slice A Q.length c) ∧ Rd w' A c Q ∧ Below W.heap.size W w') := fun W A c hb hr h h2 =>
    lay_c hr (HW.out.on hb) (by have := mq h.1 h2.1; omega) (by have := h2.1.1.1; omega) (fq h.2 h2.2) h2.2 rq hQQ
  have MP : Hid (Nobody ls ∧ Fit ls → P.length ≤ 10000) := fun h => by have := mp h.1; omega
  have MQ : Hid (Nobody ls ∧ Fit ls → Nobody lw ∧ Fit lw → Q.length ≤ 10000) := fun h h2 => by have := mq h.1 h2.1; omega
  clear fn rn rp rq hQQ fp fq mp mq hP hQ
  go_enter Try.func3, Try.ntmps3
  go_wp2_with (first
    | (go_at_call 4; (with_reducible refine HM.out.mono ?_); rintro e w1 ⟨b1, rfl, hb1, hb⟩; have HB1 := Lib.hid hb; have H1 := Lib.hid hb1; have HM2 := Lib.hid (may_c (HW.out.on hb) MW.out); clear hb hb1; cases b1)
    | (go_at_call 4; (with_reducible refine HM2.out.mono ?_); rintro e w2 ⟨b2, rfl, hb2, hb⟩; have HB2 := Lib.hid (HB1.out.trans (hb.mono HB1.out.size)); have H2 := Lib.hid hb2; clear hb hb2; cases b2)
    | (go_at_call 6; (with_reducible refine (C1.out _ HB2.out (H1.out (by trivial))).mono ?_); rintro e w3 ⟨A3, c3, rfl, hr, hb⟩; have HB3 := Lib.hid (HB2.out.trans (hb.mono HB2.out.size)); have R3 := Lib.hid hr; clear hr; clear hb)
    | (go_at_call 8; (with_reducible refine (C2.out _ HB3.out (H1.out (by trivial))).mono ?_); rintro e w4 ⟨A4, c4, rfl, hr, hb⟩; have HB4 := Lib.hid (HB3.out.trans (hb.mono HB3.out.size)); have R3a := Lib.hid (R3.out.on hb); have R4 := Lib.hid hr; clear hr; clear hb)
    | (go_at_call 7; (with_reducible refine (rows_c R3a.out R4.out (MP.out (H1.out (by trivial)))).mono ?_); rintro e w5 ⟨rfl, hb⟩; have HB5 := Lib.hid (HB4.out.trans (hb.mono HB4.out.size)); have R3b := Lib.hid (R3a.out.on hb); clear hb)
    | (go_at_call 6; (with_reducible refine (C4.out _ A3 c3 HB5.out R3b.out (H1.out (by trivial)) (H2.out (by trivial))).mono ?_); rintro e w6 ⟨A6, c6, rfl, hr, hb⟩; have HB6 := Lib.hid (HB5.out.trans (hb.mono HB5.out.size)); have R3c := Lib.hid (R3b.out.on hb); have R6 := Lib.hid hr; clear hr; clear hb)
    | (go_at_call 8; (with_reducible refine (C5.out _ A3 c3 HB6.out R3c.out (H1.out (by trivial)) (H2.out (by trivial))).mono ?_); rintro e w7 ⟨A7, c7, rfl, hr, hb⟩; have HB7 := Lib.hid (HB6.out.trans (hb.mono HB6.out.size)); have R3d := Lib.hid (R3c.out.on hb); have R6a := Lib.hid (R6.out.on hb); have R7 := Lib.hid hr; clear hr; clear hb)
    | (go_at_call 7; (with_reducible refine (rows_c R6a.out R7.out (MQ.out (H1.out (by trivial)) (H2.out (by trivial)))).mono ?_); rintro e w8 ⟨rfl, hb⟩; have HB8 := Lib.hid (HB7.out.trans (hb.mono HB7.out.size)); have R3e := Lib.hid (R3d.out.on hb); clear hb)
    | (go_at_call 6; (with_reducible refine (C4.out _ A3 c3 HB8.out R3e.out (H1.out (by trivial)) (H2.out (by trivial))).mono ?_); rintro e w9 ⟨A9, c9, rfl, hr, hb⟩; have HB9 := Lib.hid (HB8.out.trans (hb.mono HB8.out.size)); have R3f := Lib.hid (R3e.out.on hb); have R9 := Lib.hid hr; clear hr; clear hb)
    | (go_at_call 6; (with_reducible refine (C6.out _ A9 c9 HB9.out R9.out (H1.out (by trivial)) (H2.out (by trivial))).mono ?_); rintro e w10 ⟨A10, c10, rfl, hr, hb⟩; have HB10 := Lib.hid (HB9.out.trans (hb.mono HB9.out.size)); have R3g := Lib.hid (R3f.out.on hb); have R10 := Lib.hid hr; clear hr; clear hb)
    | (go_at_call 6; (with_reducible refine (C4.out _ A3 c3 HB10.out R3g.out (H1.out (by trivial)) (H2.out (by trivial))).mono ?_); rintro e w11 ⟨A11, c11, rfl, hr, hb⟩; have HB11 := Lib.hid (HB10.out.trans (hb.mono HB10.out.size)); have R10a := Lib.hid (R10.out.on hb); have R11 := Lib.hid hr; clear hr; clear hb)
    | (go_at_call 7; (with_reducible refine (rows_c R10a.out R11.out (MQ.out (H1.out (by trivial)) (H2.out (by trivial)))).mono ?_); rintro e w12 ⟨rfl, hb⟩; have HB12 := Lib.hid (HB11.out.trans (hb.mono HB11.out.size)); clear hb)
    | (go_at_call 5; (with_reducible refine (awake_any _).mono ?_); rintro e wz ⟨rfl, hb⟩; have HBA := Lib.hid hb; clear hb))
  · go_ret
    exact ⟨rfl, HB1.out.trans (HBA.out.mono HB1.out.size)⟩
  · go_ret
    exact ⟨rfl, HB2.out.trans (HBA.out.mono HB2.out.size)⟩
  · go_ret
    exact ⟨rfl, HB12.out.trans (HBA.out.mono HB12.out.size)⟩
end Go.Proofs.Ytpcahemjcmccjaa
