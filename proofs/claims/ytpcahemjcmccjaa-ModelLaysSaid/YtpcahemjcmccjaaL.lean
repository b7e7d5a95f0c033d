/- Rows of their own memory. -/
import Derived.Test.YtpcahemjcmccjaaK
namespace Go.Proofs.Ytpcahemjcmccjaa
open Go.RowKit

theorem own_form {w : World} {base : Nat} {v : Value} {l : List RowD} (h : Own w base v l) :
    ∃ A c, v = .slice A l.length c ∧ l.length ≤ c ∧ (0 < l.length → ∃ g, A = some ⟨g, 0, none⟩ ∧ base ≤ g ∧ g < w.heap.size) := by
  obtain ⟨xs, h1, _⟩ := h
  rcases h1.2 with ⟨rfl, h0⟩ | ⟨g, cap, cur, rfl, hb, hh, hnc, hcm, hcs, htake⟩
  · exact ⟨none, 0, by rw [h0], by omega, fun h => by omega⟩
  · refine ⟨_, cap, rfl, hnc, fun _ => ⟨g, rfl, hb, ?_⟩⟩
    rcases Nat.lt_or_ge g w.heap.size with hlt | hge
    · exact hlt
    · rw [Array.getElem?_eq_none hge] at hh; cases hh

theorem set6 {α : Type} (xs : List α) (i : Nat) (a0 a1 a2 a3 a4 a5 : α) (h : i + 6 ≤ xs.length) :
    ((((((xs.set i a0).set (i + 1) a1).set (i + 2) a2).set (i + 3) a3).set (i + 4) a4).set (i + 5) a5) = xs.take i ++ ([a0, a1, a2, a3, a4, a5] ++ xs.drop (i + 6)) := by
  apply List.ext_getElem?
  intro j
  simp only [List.getElem?_set, List.length_set]
  rcases Nat.lt_or_ge j i with hj | hj
  · rw [List.getElem?_append_left (by rw [List.length_take]; omega), List.getElem?_take, if_pos hj]
    rw [if_neg (by omega), if_neg (by omega), if_neg (by omega), if_neg (by omega), if_neg (by omega), if_neg (by omega)]
  · rw [List.getElem?_append_right (by rw [List.length_take]; omega), List.length_take, Nat.min_eq_left (by omega)]
    rcases Nat.lt_or_ge j (i + 6) with h6 | h6
    · rw [List.getElem?_append_left (by simp; omega)]
      obtain ⟨m, rfl⟩ : ∃ m, j = i + m := ⟨j - i, by omega⟩
      rw [Nat.add_sub_cancel_left]
      have hm : m < 6 := by omega
      match m, hm with
      | 0, _ => rw [if_neg (by omega), if_neg (by omega), if_neg (by omega), if_neg (by omega), if_neg (by omega), if_pos (by omega), if_pos (by omega)]; rfl
      | 1, _ => rw [if_neg (by omega), if_neg (by omega), if_neg (by omega), if_neg (by omega), if_pos (by omega), if_pos (by omega)]; rfl
      | 2, _ => rw [if_neg (by omega), if_neg (by omega), if_neg (by omega), if_pos (by omega), if_pos (by omega)]; rfl
      | 3, _ => rw [if_neg (by omega), if_neg (by omega), if_pos (by omega), if_pos (by omega)]; rfl
      | 4, _ => rw [if_neg (by omega), if_pos (by omega), if_pos (by omega)]; rfl
      | 5, _ => rw [if_pos (by omega), if_pos (by omega)]; rfl
    · rw [List.getElem?_append_right (by simp; omega), List.getElem?_drop]
      rw [if_neg (by omega), if_neg (by omega), if_neg (by omega), if_neg (by omega), if_neg (by omega), if_neg (by omega)]
      congr 1
      simp
      omega

/-- A row at k is another one. -/
theorem RX.put {w : World} {o : Option Nat} {l : List RowD} {xs : List Value} (h : RX w o l xs) {k : Nat} {d d' : RowD} (hd : l[k]? = some d) {A : Option Addr} {c : Nat} (h1 : FX w o A d'.cols) (h2 : d'.cols.length ≤ c) (h3 : A = none → c = 0) :
    RX w o (l.set k d') (xs.take (k * 6) ++ ((d'.cells A c).toList ++ xs.drop (k * 6 + 6))) := by
  have hk := (List.getElem?_eq_some_iff.1 hd).1
  have e : l.set k d' = l.take k ++ ([d'] ++ l.drop (k + 1)) := by
    rw [List.set_eq_take_append_cons_drop, if_pos hk]; rfl
  rw [e]
  have e2 : k * 6 + 6 = (k + 1) * 6 := by omega
  rw [e2]
  exact (h.split k).1.append ((RX.one h1 h2 h3).append (h.split (k + 1)).2)

/-- A row stored at k, cell by cell. -/
def put6 (w : World) (g k : Nat) (d : RowD) (A : Option Addr) (c : Nat) : World :=
  (((((w.setCell ⟨g, k * 6, none⟩ (.float .f64 d.key)).setCell ⟨g, k * 6 + 1, none⟩ (.bool d.dead)).setCell ⟨g, k * 6 + 2, none⟩ (.slice A d.cols.length c)).setCell ⟨g, k * 6 + 3, none⟩ (.int .i64 d.wr)).setCell ⟨g, k * 6 + 4, none⟩ (.int .i64 d.rc)).setCell ⟨g, k * 6 + 5, none⟩ (.int .i64 d.rn)

theorem grown_set (W : World) {g : Nat} {p : Addr} (u : Value) (hp : p.block = g) : W.grownBy (W.setCell p u) (some g) :=
  ⟨rfl, rfl, rfl, by simp [World.setCell], fun i _ hne => Below.heap_setCell W p u i (fun e => hne (by rw [e, hp]))⟩
theorem put6_grown (w : World) (g k : Nat) (d : RowD) (A : Option Addr) (c : Nat) : w.grownBy (put6 w g k d A c) (some g) := by
  unfold put6
  refine (grown_set (p := ⟨g, k * 6, none⟩) w (.float .f64 d.key) rfl).trans ?_
  refine (grown_set (p := ⟨g, k * 6 + 1, none⟩) _ (.bool d.dead) rfl).trans ?_
  refine (grown_set (p := ⟨g, k * 6 + 2, none⟩) _ (.slice A d.cols.length c) rfl).trans ?_
  refine (grown_set (p := ⟨g, k * 6 + 3, none⟩) _ (.int .i64 d.wr) rfl).trans ?_
  refine (grown_set (p := ⟨g, k * 6 + 4, none⟩) _ (.int .i64 d.rc) rfl).trans ?_
  exact grown_set (p := ⟨g, k * 6 + 5, none⟩) _ (.int .i64 d.rn) rfl

theorem own_set {w : World} {base g n cap : Nat} {l : List RowD} (h : Own w base (.slice (some ⟨g, 0, none⟩) n cap) l) (hn : l.length = n) {k : Nat} {d d' : RowD} (hd : l[k]? = some d)
    {A : Option Addr} {c : Nat} (g1 : FX w (some g) A d'.cols) (g2 : d'.cols.length ≤ c) (g3 : A = none → c = 0) :
    Own (put6 w g k d' A c) base (.slice (some ⟨g, 0, none⟩) n cap) (l.set k d') := by
  obtain ⟨xs, h1, h2⟩ := h
  rw [hn] at h1
  have h2 : RX w (some g) l xs := h2
  have hk := (List.getElem?_eq_some_iff.1 hd).1
  have hx := h2.len
  have s := ((((((h1.stored (k * 6) (.float .f64 d'.key)).1.stored (k * 6 + 1) (.bool d'.dead)).1.stored (k * 6 + 2) (.slice A d'.cols.length c)).1.stored (k * 6 + 3) (.int .i64 d'.wr)).1.stored (k * 6 + 4) (.int .i64 d'.rc)).1.stored (k * 6 + 5) (.int .i64 d'.rn)).1
  rw [set6 xs (k * 6) _ _ _ _ _ _ (by omega)] at s
  have hl : (l.set k d').length = n := by rw [List.length_set, hn]
  exact ⟨_, by rw [hl]; exact s, (h2.put hd g1 g2 g3).grown (put6_grown w g k d' A c)⟩

/-- The cells of the row at k, and that they may be written. -/
theorem Own.at_ {w : World} {base g n cap : Nat} {l : List RowD} (h : Own w base (.slice (some ⟨g, 0, none⟩) n cap) l) (hn : l.length = n) {k : Nat} {d : RowD} (hd : l[k]? = some d) :
    ∃ A c, FX w (some g) A d.cols ∧ d.cols.length ≤ c ∧ (A = none → c = 0) ∧
      w.cell? ⟨g, k * 6, none⟩ = some (.float .f64 d.key) ∧ w.cell? ⟨g, k * 6 + 1, none⟩ = some (.bool d.dead) ∧ w.cell? ⟨g, k * 6 + 2, none⟩ = some (.slice A d.cols.length c) ∧
      w.cell? ⟨g, k * 6 + 3, none⟩ = some (.int .i64 d.wr) ∧ w.cell? ⟨g, k * 6 + 4, none⟩ = some (.int .i64 d.rc) ∧ w.cell? ⟨g, k * 6 + 5, none⟩ = some (.int .i64 d.rn) := by
  obtain ⟨xs, h1, h2⟩ := h
  rw [hn] at h1
  have hk := (List.getElem?_eq_some_iff.1 hd).1
  obtain ⟨A, c, q1, q2, q3, _, q5⟩ := RX.at_ (show RX w (some g) l xs from h2) hd
  have hc : ∀ j v, (d.cells A c)[j]? = some v → w.cell? ⟨g, k * 6 + j, none⟩ = some v := fun j v hv => by
    have hj : j < 6 := by
      have := (Array.getElem?_eq_some_iff.1 hv).1
      simpa [RowD.cells] using this
    rw [h1.cellAt (k * 6 + j) (by omega)]
    exact q5 j v hv
  exact ⟨A, c, q1, q2, q3, hc 0 _ rfl, hc 1 _ rfl, hc 2 _ rfl, hc 3 _ rfl, hc 4 _ rfl, hc 5 _ rfl⟩
theorem Own.free {w : World} {base g n cap : Nat} {l : List RowD} (h : Own w base (.slice (some ⟨g, 0, none⟩) n cap) l) (hn : l.length = n) (j : Nat) : w.frozen? ⟨g, j, none⟩ = false := by
  obtain ⟨xs, h1, h2⟩ := h
  rw [hn] at h1
  exact h1.frozenAt j

theorem set_same {α : Type} {l : List α} {k : Nat} {d : α} (h : l[k]? = some d) : l.set k d = l := by
  obtain ⟨hk, rfl⟩ := List.getElem?_eq_some_iff.1 h
  exact List.set_getElem_self hk
theorem one_box {w w1 : World} {a : Array Value} {t : TypeId} (hb : Below (w.alloc (.cells a t)).heap.size (w.alloc (.cells a t)) w1) : w1.heap[w.heap.size]? = some (.cells a t (0, 0)) := by
  rw [hb.block _ (by simp)]; exact heap_alloc_new w _

set_option maxHeartbeats 4000000 in
theorem mrows_any (A : Option Addr) (c : Nat) (l : List RowD) (w : World) (h : RC w w.heap.size A l) (hA : A = none → c = 0) (m : l.length ≤ 1000) (hm : ∀ d ∈ l, d.cols.length ≤ 10) :
    Calls Try.prog 13 #[.slice A l.length c] w fun e w' => ∃ v', e = .returned v' ∧ Own w' w.heap.size v' l ∧ Below w.heap.size w w' := by
  have hc := clone6_any A c l w h hA m
  obtain ⟨n, hn⟩ : ∃ n, l.length = n := ⟨_, rfl⟩
  rw [hn] at m hc ⊢
  have N := Lib.hid hn
  have HC := Lib.hid hc
  have HM := Lib.hid hm
  clear h hA hc hn hm
  have hsf := run_store_f64
  go_enter Try.func13, Try.ntmps13
  go_wp2_with (go_at_call 31; (with_reducible refine HC.out.mono ?_); rintro e w1 ⟨v', rfl, hown, hb1⟩; obtain ⟨A1, c1, hv, _, hf⟩ := own_form hown; rw [N.out] at hv hf; subst hv; have HO := Lib.hid hown; have HB := Lib.hid hb1; have HF := Lib.hid hf; clear hown hb1 hf)
  go_loopw [9] (fun i wr => ∃ k : Nat, k ≤ n ∧ i = .int .i64 k ∧ Own wr w.heap.size (.slice A1 n c1) l ∧ Below w.heap.size w wr) (fun i _ => n - (intOf i).toNat)
  case atStart => exact ⟨0, Nat.zero_le _, rfl, HO.out, HB.out⟩
  case round =>
    obtain ⟨k, hk, rfl, ho, hb⟩ := hrel
    have HOr := Lib.hid ho
    have HBr := Lib.hid hb
    clear ho hb
    by_cases hlt : k < n
    · obtain ⟨g, hg, hg1, hg2⟩ := HF.out (by omega)
      subst hg
      obtain ⟨d, hd⟩ := get_at N hlt
      obtain ⟨A2, c2, q1, q2, q3, r0, r1, r2, r3, r4, r5⟩ := HOr.out.at_ N.out hd
      have cc := fun W (hb : Below wr.heap.size wr W) => clone1_fn A2 c2 d.cols W ((q1.to_FC.below hb).more hb.size) q3 (by have := HM.out d (List.mem_of_getElem? hd); omega)
      have hgr : g < wr.heap.size := block_lt_of_cell r0
      have f0 := HOr.out.free N.out (k * 6)
      have f1 := HOr.out.free N.out (k * 6 + 1)
      have f2 := HOr.out.free N.out (k * 6 + 2)
      have f3 := HOr.out.free N.out (k * 6 + 3)
      have f4 := HOr.out.free N.out (k * 6 + 4)
      have f5 := HOr.out.free N.out (k * 6 + 5)
      have HD := Lib.hid hd
      have HG := Lib.hid hg1
      have ne1 : ¬ wr.heap.size = g := by omega
      have ne2 : ¬ g = wr.heap.size := by omega
      clear q1 q2 q3 hd hg1 hg2
      obtain ⟨key, dead, cols, x, y, z⟩ := d
      simp only at cc r0 r1 r2 r3 r4 r5
      have CC := Lib.hid cc
      clear cc
      go_wp2_with (go_at_call 32; (with_reducible refine (CC.out _ ((Below.refl _ _).alloc (Nat.le_refl _) _)).mono ?_); rintro e w2 ⟨A', c', rfl, hfn, hnc, hAc, hb2⟩; have HFN := Lib.hid hfn; have HNC := Lib.hid hnc; have HAC := Lib.hid hAc; clear hfn hnc hAc; have k1 := one_box hb2; have hb3 : Below wr.heap.size wr w2 := ((Below.refl _ _).alloc (Nat.le_refl _) _).trans (hb2.mono (by simp)); have b0 := cell_of_row w2 wr.heap.size 0 _ _ _ k1; have b1 := cell_of_row w2 wr.heap.size 1 _ _ _ k1; have b2 := cell_of_row w2 wr.heap.size 2 _ _ _ k1; have b3 := cell_of_row w2 wr.heap.size 3 _ _ _ k1; have b4 := cell_of_row w2 wr.heap.size 4 _ _ _ k1; have b5 := cell_of_row w2 wr.heap.size 5 _ _ _ k1; simp only [List.getElem?_toArray, List.getElem?_cons_succ, List.getElem?_cons_zero] at b0 b1 b2 b3 b4 b5; have e2 := frozen_of_row w2 wr.heap.size 2 _ _ k1; have s0 := (hb3.cell (p := ⟨g, k * 6, none⟩) hgr).trans r0; have s1 := (hb3.cell (p := ⟨g, k * 6 + 1, none⟩) hgr).trans r1; have s2 := (hb3.cell (p := ⟨g, k * 6 + 2, none⟩) hgr).trans r2; have s3 := (hb3.cell (p := ⟨g, k * 6 + 3, none⟩) hgr).trans r3; have s4 := (hb3.cell (p := ⟨g, k * 6 + 4, none⟩) hgr).trans r4; have s5 := (hb3.cell (p := ⟨g, k * 6 + 5, none⟩) hgr).trans r5; have t0 := (hb3.frozen (p := ⟨g, k * 6, none⟩) hgr).trans f0; have t1 := (hb3.frozen (p := ⟨g, k * 6 + 1, none⟩) hgr).trans f1; have t2 := (hb3.frozen (p := ⟨g, k * 6 + 2, none⟩) hgr).trans f2; have t3 := (hb3.frozen (p := ⟨g, k * 6 + 3, none⟩) hgr).trans f3; have t4 := (hb3.frozen (p := ⟨g, k * 6 + 4, none⟩) hgr).trans f4; have t5 := (hb3.frozen (p := ⟨g, k * 6 + 5, none⟩) hgr).trans f5; have HB3 := Lib.hid hb3; clear hb2 hb3 k1)
      have hbw : Below wr.heap.size wr (w2.setCell ⟨wr.heap.size, 2, none⟩ (.slice A' cols.length c')) := HB3.out.setCell (Nat.le_refl _) _
      have ho2 := own_set (HOr.out.below hbw) N.out HD.out (d' := ⟨key, dead, cols, x, y, z⟩) ((HFN.out.set (p := ⟨wr.heap.size, 2, none⟩) (by simp) _).to_FX (o := some g) (fun g' hg' => by injection hg' with hg'; simp; omega)) HNC.out HAC.out
      rw [set_same HD.out] at ho2
      have hbz : Below w.heap.size w (w2.setCell ⟨wr.heap.size, 2, none⟩ (.slice A' cols.length c')) := HBr.out.trans (hbw.mono HBr.out.size)
      exact ⟨⟨k + 1, by omega, by go_num, ho2, hbz.grown (put6_grown _ g k ⟨key, dead, cols, x, y, z⟩ A' c') hbz.size (fun g' hg' => by injection hg' with hg'; have := HG.out; omega)⟩, by simp [intOf]; omega⟩
    · go_wp2
      go_ret
      exact ⟨_, rfl, HOr.out, HBr.out⟩
theorem mrows_of (A : Option Addr) (c : Nat) (l : List RowD) (w W : World) (hb : Below w.heap.size w W) (h : RC w w.heap.size A l) (hA : A = none → c = 0) (m : l.length ≤ 1000) (hm : ∀ d ∈ l, d.cols.length ≤ 10) :
    Calls Try.prog 13 #[.slice A l.length c] W fun e w' => ∃ v', e = .returned v' ∧ Own w' W.heap.size v' l ∧ Below W.heap.size W w' :=
  mrows_any A c l W ((h.below hb).more hb.size) hA m hm
end Go.Proofs.Ytpcahemjcmccjaa
