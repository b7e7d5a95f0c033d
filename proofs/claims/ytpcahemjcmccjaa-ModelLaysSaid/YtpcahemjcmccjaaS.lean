/- model.Lay: the walk. -/
import Derived.Test.YtpcahemjcmccjaaR
namespace Go.Proofs.Ytpcahemjcmccjaa
open Go.RowKit

def Laid (l : List RowD) (w : World) (e : Ending) (w' : World) : Prop := ∃ v', e = .returned v' ∧ Own w' w.heap.size v' l ∧ Below w.heap.size w w'
/-- The state of a round. -/
def LayRel (ls lw : List RowD) (w : World) (nw : Nat) (v i : Value) (wr : World) : Prop :=
  ∃ (k : Nat) (A : Option Addr) (c : Nat), k ≤ nw ∧ i = .int .i64 k ∧ v = .slice A (layP ls (lw.take k)).length c ∧ Own wr w.heap.size (.slice A (layP ls (lw.take k)).length c) (layP ls (lw.take k)) ∧ Below w.heap.size w wr

theorem step_of {L : List RowD} {d : RowD} {i : Nat} {f : Bool} (h : Stands L d.rank i f) :
    layStep L d = bif d.dead then (bif f then L.take i ++ L.drop (i + 1) else L) else (bif f then L.set i d.bareD else L.take i ++ ([d.bareD] ++ L.drop i)) := by
  obtain ⟨h1, h2⟩ := pos_of h
  unfold layStep
  rw [h1, h2]

theorem lt_of_stands {L : List RowD} {r i : Nat} (h : Stands L r i true) : i < L.length := by
  obtain ⟨d, hd, _⟩ := h.2.2.2.1 rfl
  exact (List.getElem?_eq_some_iff.1 hd).1

/-- A round's end. -/
theorem round_end {ls lw L : List RowD} {w w1 : World} {nw k i : Nat} {A : Option Addr} {c : Nat} {d : RowD} {f : Bool} (hk : k < nw) (hb : Below w.heap.size w w1)
    (hs : layP ls (lw.take (k + 1)) = layStep L d) (hst : Stands L d.rank i f) {L' : List RowD} (he : (bif d.dead then (bif f then L.take i ++ L.drop (i + 1) else L) else (bif f then L.set i d.bareD else L.take i ++ ([d.bareD] ++ L.drop i))) = L')
    (ho : Own w1 w.heap.size (.slice A L'.length c) L') :
    LayRel ls lw w nw (.slice A L'.length c) (.int .i64 ((k : Int) + 1)) w1 ∧ nw - (intOf (.int .i64 ((k : Int) + 1))).toNat < nw - (intOf (.int .i64 (k : Int))).toNat := by
  have e : layP ls (lw.take (k + 1)) = L' := by rw [hs, step_of hst, he]
  refine ⟨⟨k + 1, A, c, by omega, by go_num, by rw [e], by rw [e]; exact ho, hb⟩, by simp [intOf]; omega⟩

set_option maxHeartbeats 4000000 in
set_option maxRecDepth 1000000 in
theorem lay_any (As Aw : Option Addr) (cs cw : Nat) (ls lw : List RowD) (w : World) (hs : RC w w.heap.size As ls) (hw : RC w w.heap.size Aw lw) (hAs : As = none → cs = 0) (ms : ls.length ≤ 300) (mw : lw.length ≤ 300) (fs : Fit ls) (fw : Fit lw) (rs : Rising ls) :
    Calls Try.prog 6 #[.slice As ls.length cs, .slice Aw lw.length cw] w (Laid (layP ls lw) w) := by
  have hc := mrows_any As cs ls w hs hAs (by omega) (fun d hd => (fs d hd).2.1)
  have HC := Lib.hid hc
  obtain ⟨nw, hnw⟩ : ∃ nw, lw.length = nw := ⟨_, rfl⟩
  obtain ⟨ns, hns⟩ : ∃ ns, ls.length = ns := ⟨_, rfl⟩
  rw [hnw] at mw ⊢
  rw [hns] at HC ms ⊢
  have HW := Lib.hid hw
  have NW := Lib.hid hnw
  have NS := Lib.hid hns
  have FS := Lib.hid fs
  have FW := Lib.hid fw
  have RS := Lib.hid rs
  have MS := Lib.hid ms
  clear hs hw hAs hc hnw hns fs fw rs ms
  have hsf := run_store_f64
  go_enter Try.func6, Try.ntmps6
  go_wp2_with (go_at_call 13; (with_reducible refine HC.out.mono ?_); rintro e w1 ⟨v', rfl, hown, hb1⟩; obtain ⟨A1, c1, hv, _, _⟩ := own_form hown; subst hv; have HO := Lib.hid hown; have HB := Lib.hid hb1; clear hown hb1)
  go_loopw [5, 14] (fun v i wr => LayRel ls lw w nw v i wr) (fun _ i _ => nw - (intOf i).toNat)
  case atStart => exact ⟨0, A1, c1, Nat.zero_le _, rfl, rfl, HO.out, HB.out⟩
  case round =>
    obtain ⟨k, A, c, hk, rfl, rfl, ho, hb⟩ := hrel
    have HOr := Lib.hid ho
    have HBr := Lib.hid hb
    clear ho hb
    by_cases hlt : k < nw
    · obtain ⟨d, hd⟩ := get_at NW hlt
      have HS : Hid (layP ls (lw.take (k + 1)) = layStep (layP ls (lw.take k)) d) := by
        rw [take_at hd]
        show (lw.take k ++ [d]).foldl layStep ls = _
        rw [List.foldl_append]
        exact rfl
      have FL : Hid (Fit (layP ls (lw.take k))) := layP_all (fun d h => h.bare) _ _ FS.out (fun x hx => FW.out x (List.mem_of_mem_take hx))
      have RL : Hid (Rising (layP ls (lw.take k))) := (layP_rising _ RS.out).1
      have ML : (layP ls (lw.take k)).length ≤ 600 := by
        have h1 := layP_length (lw.take k) ls
        have h2 := NS.out
        have h3 := MS.out
        rw [List.length_take] at h1
        omega
      obtain ⟨b1, o1, A2, c2, e1, q1, q2, q3, q4, q5, q6, r0, r1, r2, r3, r4, r5⟩ := (HW.out.below HBr.out).at_ hd
      subst e1
      have hOk := FW.out d (List.mem_of_getElem? hd)
      have FC2 := Lib.hid (q2.more HBr.out.size)
      have Q3 := Lib.hid q3
      have Q4 := Lib.hid q4
      have HK := Lib.hid hOk
      have HBS := Lib.hid HBr.out.size
      obtain ⟨L, hL⟩ : ∃ L, L = layP ls (lw.take k) := ⟨_, rfl⟩
      rw [← hL] at HOr HS FL RL ML ⊢
      have HLL := Lib.hid hL
      clear hL q1 q2 q3 q4 q5 q6 hd hOk
      have ho2 : Own (wr.alloc (.cells (d.cells A2 c2) 33)) w.heap.size (.slice A L.length c) L := HOr.out.below ((Below.refl _ _).alloc (Nat.le_refl _) _)
      have cat := at_own ho2 FL.out RL.out (by omega) d.key HK.out.1 _ (Below.refl _ _)
      have HO2 := Lib.hid ho2
      obtain ⟨key, dead, cols, x, y, z⟩ := d
      have hL1000 : L.length ≤ 1000 := by omega
      have hm10 : cols.length ≤ 1000 := by have := HK.out.2.1; simp only at this; omega
      simp only [RowD.cells] at cat r0 r1 r2 r3 r4 r5
      have CAT := Lib.hid cat
      clear ho2 cat
      cases dead with
      | true =>
        go_wp2_with (first
          | (go_at_call 14; (with_reducible refine CAT.out.mono ?_); rintro e w1 ⟨i, f, rfl, hst, hb1⟩; have k1 := one_box hb1; have e0 := cell_of_row w1 wr.heap.size 0 _ _ _ k1; have e1 := cell_of_row w1 wr.heap.size 1 _ _ _ k1; have e2 := cell_of_row w1 wr.heap.size 2 _ _ _ k1; have e3 := cell_of_row w1 wr.heap.size 3 _ _ _ k1; have e4 := cell_of_row w1 wr.heap.size 4 _ _ _ k1; have e5 := cell_of_row w1 wr.heap.size 5 _ _ _ k1; simp only [List.getElem?_toArray, List.getElem?_cons_succ, List.getElem?_cons_zero] at e0 e1 e2 e3 e4 e5; have hi6 : i ≤ 600 := Nat.le_trans hst.1 ML; have hiL : i ≤ L.length := hst.1; have HST := Lib.hid hst; have hw1 : Below w.heap.size w w1 := (HBr.out.alloc HBS.out _).trans (hb1.mono (Nat.le_trans HBS.out (by simp))); have HB1 := Lib.hid hw1; have ho1 := HO2.out.below hb1; have HO1 := Lib.hid ho1; clear hst hw1 ho1 k1; have hbr : Below wr.heap.size wr w1 := ((Below.refl _ _).alloc (Nat.le_refl _) _).trans (hb1.mono (by simp)); have HBW := Lib.hid hbr; clear hb1 hbr; cases f)
          | (go_at_call 15; (with_reducible refine (delete_op HO1.out HB1.out.size (lt_of_stands HST.out)).mono ?_); rintro e w2 ⟨L', A', c', hL', rfl, hown2, hb2⟩; have HL' := Lib.hid hL'; have HO2' := Lib.hid hown2; have HB2 := Lib.hid hb2; clear hL' hown2 hb2))
        · exact round_end hlt HB1.out HS.out HST.out rfl HO1.out
        · exact round_end hlt (HB1.out.trans HB2.out) HS.out HST.out HL'.out HO2'.out
      | false =>
        go_wp2_with (first
          | (go_at_call 17; (with_reducible refine (insert_new HO2'.out HB2'.out.size hiL hL1000 HFN.out (own_block_lt HO1.out) HNC.out HAC.out).mono ?_); rintro e w3 ⟨L', A3, c3, hL', rfl, hown3, hb3⟩; have HL' := Lib.hid hL'; have HO3 := Lib.hid hown3; have HB3 := Lib.hid hb3; clear hL' hown3 hb3)
          | (go_at_call 14; (with_reducible refine CAT.out.mono ?_); rintro e w1 ⟨i, f, rfl, hst, hb1⟩; have k1 := one_box hb1; have e0 := cell_of_row w1 wr.heap.size 0 _ _ _ k1; have e1 := cell_of_row w1 wr.heap.size 1 _ _ _ k1; have e2 := cell_of_row w1 wr.heap.size 2 _ _ _ k1; have e3 := cell_of_row w1 wr.heap.size 3 _ _ _ k1; have e4 := cell_of_row w1 wr.heap.size 4 _ _ _ k1; have e5 := cell_of_row w1 wr.heap.size 5 _ _ _ k1; simp only [List.getElem?_toArray, List.getElem?_cons_succ, List.getElem?_cons_zero] at e0 e1 e2 e3 e4 e5; have hi6 : i ≤ 600 := Nat.le_trans hst.1 ML; have hiL : i ≤ L.length := hst.1; have HST := Lib.hid hst; have hw1 : Below w.heap.size w w1 := (HBr.out.alloc HBS.out _).trans (hb1.mono (Nat.le_trans HBS.out (by simp))); have HB1 := Lib.hid hw1; have ho1 := HO2.out.below hb1; have HO1 := Lib.hid ho1; clear hst hw1 ho1 k1; have hbr : Below wr.heap.size wr w1 := ((Below.refl _ _).alloc (Nat.le_refl _) _).trans (hb1.mono (by simp)); have HBW := Lib.hid hbr; clear hb1 hbr; cases f)
          | (go_at_call 16; ((with_reducible refine (bare_op key false cols x y z A2 c2 w1 ((FC2.out.below HBW.out).more HBW.out.size) Q4.out hm10).mono ?_); rintro e w2 ⟨A', c', rfl, hfn, hnc, hAc, hb2⟩; have hlt2 := lt_of_stands HST.out; obtain ⟨d2, hd2⟩ := get_at rfl hlt2; obtain ⟨A0, c0, he0, hc0, hg0⟩ := own_form HO1.out; obtain ⟨g, rfl, hgb, hgs⟩ := hg0 (by omega); injection he0 with he1 _ he2; subst he1 he2; have ho2 := HO1.out.below hb2; obtain ⟨A3, c3, u0, u1, u2, u3, u4, u5, u6, u7, u8⟩ := Own.at_ ho2 rfl hd2; have HO2' := Lib.hid ho2; have v0 := Own.free ho2 rfl (i * 6); have v1 := Own.free ho2 rfl (i * 6 + 1); have v2 := Own.free ho2 rfl (i * 6 + 2); have v3 := Own.free ho2 rfl (i * 6 + 3); have v4 := Own.free ho2 rfl (i * 6 + 4); have v5 := Own.free ho2 rfl (i * 6 + 5); have HFN := Lib.hid hfn; have HNC := Lib.hid hnc; have HAC := Lib.hid hAc; have HB2 := Lib.hid hb2; have HG := Lib.hid hgs; have HGB := Lib.hid hgb; have HD2 := Lib.hid hd2; clear hfn hnc hAc hb2 ho2 u0 u1 u2 hc0 hg0 hgb hgs hd2))
          | (go_at_call 16; ((with_reducible refine (bare_op key false cols x y z A2 c2 w1 ((FC2.out.below HBW.out).more HBW.out.size) Q4.out hm10).mono ?_); rintro e w2 ⟨A', c', rfl, hfn, hnc, hAc, hb2⟩; have HFN := Lib.hid hfn; have HNC := Lib.hid hnc; have HAC := Lib.hid hAc; have HO2' := Lib.hid (HO1.out.below hb2); have HB2' := Lib.hid (HB1.out.trans (hb2.mono HB1.out.size)); clear hfn hnc hAc hb2)))
        case roundEnd => exact round_end hlt (HB2'.out.trans HB3.out) HS.out HST.out HL'.out HO3.out
        case roundEnd =>
          have e : L.length = (L.set i (RowD.bareD ⟨key, false, cols, x, y, z⟩)).length := List.length_set.symm
          rw [e]
          refine round_end hlt (((HB1.out.trans (HB2.out.mono HB1.out.size)).grown (put6_grown w2 g i (RowD.bareD ⟨key, false, cols, x, y, z⟩) A' c') (Nat.le_trans HB1.out.size HB2.out.size) fun k hk => ?_)) HS.out HST.out rfl ?_
          · cases hk; exact HGB.out
          · rw [List.length_set]
            exact own_set HO2'.out rfl HD2.out (HFN.out.to_FX fun g' h => by cases h; exact HG.out) HNC.out HAC.out
    · have hkn : k = nw := by omega
      subst hkn
      go_wp2
      go_ret
      refine ⟨_, rfl, ?_, HBr.out⟩
      have e : lw.take k = lw := List.take_of_length_le (by have := NW.out; omega)
      have ho := HOr.out
      rw [e] at ho ⊢
      exact ho
end Go.Proofs.Ytpcahemjcmccjaa
