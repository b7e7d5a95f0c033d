/- ModelLays: the contracts of its parts in one form. -/
import Derived.Test.YtpcahemjcmccjaaU
namespace Go.Proofs.Ytpcahemjcmccjaa
open Go.RowKit

/-- A slice that reads as these rows, there and in all worlds behind. -/
def Rd (w : World) (A : Option Addr) (c : Nat) (l : List RowD) : Prop := RC w w.heap.size A l ∧ (A = none → c = 0)
theorem Rd.on {w w' : World} {A : Option Addr} {c : Nat} {l : List RowD} (h : Rd w A c l) (hb : Below w.heap.size w w') : Rd w' A c l := ⟨(h.1.below hb).more hb.size, h.2⟩
theorem Rd.nil (w : World) : Rd w none 0 [] := ⟨⟨by simp, by simp⟩, fun _ => rfl⟩

theorem fit_of {w : World} {A : Option Addr} {c : Nat} {l : List RowD} (h : Rd w A c l) (hn : Nobody l) : Fit l := by
  intro d hd
  obtain ⟨k, hk⟩ := List.mem_iff_getElem?.1 hd
  obtain ⟨b, off, A', c', _, _, h2, _, _, h5, _⟩ := h.1.at_ hk
  exact ⟨h5, hn.1.2 d hd, h2.1⟩

theorem lay_c {As Aw : Option Addr} {cs cw : Nat} {ls lw : List RowD} {w : World} (hs : Rd w As cs ls) (hw : Rd w Aw cw lw) (ms : ls.length ≤ 300) (mw : lw.length ≤ 300) (fs : Fit ls) (fw : Fit lw) (rs : Rising ls) {P : List RowD} (hP : P = layP ls lw) :
    Calls Try.prog 6 #[.slice As ls.length cs, .slice Aw lw.length cw] w fun e w' => ∃ A c, e = .returned (.slice A P.length c) ∧ Rd w' A c P ∧ Below w.heap.size w w' := by
  subst hP
  refine (lay_any As Aw cs cw ls lw w hs.1 hw.1 hs.2 ms mw fs fw rs).mono ?_
  rintro e w' ⟨v', rfl, ho, hb⟩
  have ft : Fit (layP ls lw) := layP_all (fun d h => h.bare) _ _ fs fw
  obtain ⟨A, c, rfl, h1, h2, _⟩ := ho.reads ft.rc
  exact ⟨A, c, rfl, ⟨h1, h2⟩, hb⟩

theorem refLay_c {As Aw : Option Addr} {cs cw : Nat} {ls lw : List RowD} {w : World} (hs : Rd w As cs ls) (hw : Rd w Aw cw lw) (ms : ls.length ≤ 300) (mw : lw.length ≤ 300) (fs : Fit ls) (fw : Fit lw) (rs : Rising ls) {P : List RowD} (hP : P = layP ls lw) :
    Calls Try.prog 8 #[.slice As ls.length cs, .slice Aw lw.length cw] w fun e w' => ∃ A c, e = .returned (.slice A P.length c) ∧ Rd w' A c P ∧ Below w.heap.size w w' := by
  subst hP
  refine (refLay_any As Aw cs cw ls lw w hs.1 hw.1 hs.2 ms mw fs fw rs).mono ?_
  rintro e w' ⟨A, c, rfl, h1, h2, hb⟩
  exact ⟨A, c, rfl, ⟨h1, h2⟩, hb⟩

theorem rows_c {A1 A2 : Option Addr} {c1 c2 : Nat} {l : List RowD} {w : World} (h1 : Rd w A1 c1 l) (h2 : Rd w A2 c2 l) (m : l.length ≤ 10000) :
    Calls Try.prog 7 #[.slice A1 l.length c1, .slice A2 l.length c2] w fun e w' => e = .returned (.bool true) ∧ Below w.heap.size w w' := by
  refine (rows_any A1 A2 c1 c2 l l w h1.1 h2.1 (by unfold maxLen; omega) (by unfold maxLen; omega)).mono fun e w' h => ?_
  rw [decide_eq_true rfl] at h
  exact h

theorem may_c {A : Option Addr} {c : Nat} {l : List RowD} {w : World} (h : Rd w A c l) (m : l.length ≤ maxLen) :
    Calls Try.prog 4 #[.slice A l.length c] w fun e w' => ∃ b, e = .returned (.bool b) ∧ (b = true → Nobody l ∧ Fit l) ∧ Below w.heap.size w w' :=
  (may_any A c l w h.1 m).mono fun _ _ ⟨b, h1, h2, h3⟩ => ⟨b, h1, fun hb => ⟨h2 hb, fit_of h (h2 hb)⟩, h3⟩
end Go.Proofs.Ytpcahemjcmccjaa
