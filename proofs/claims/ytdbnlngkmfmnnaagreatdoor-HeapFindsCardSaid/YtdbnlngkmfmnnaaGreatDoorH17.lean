/- Two slices of rows compared. -/
import Derived.Test.YtdbnlngkmfmnnaaGreatDoorH16
import Derived.Deep.RegionWith
import Derived.Test.YtdbnlngkmfmnnaaGreatDoorH11
namespace Go.Proofs.YtdbnlngkmfmnnaaGreatDoor
open Go.RowKit

theorem rowsame_of (a b : RowD) (A1 A2 : Option Addr) (c1 c2 : Nat) (w W : World) (hb : Below w.heap.size w W) (h1 : FC w w.heap.size A1 a.cols) (h2 : FC w w.heap.size A2 b.cols) (m1 : a.cols.length ≤ maxLen) (m2 : b.cols.length ≤ maxLen) :
    Calls Tryz.prog 20 #[.agg (a.cells A1 c1), .agg (b.cells A2 c2)] W fun e w' => e = .returned (.bool (decide (a = b))) ∧ Below w.heap.size w w' :=
  (rowsame_any a b A1 A2 c1 c2 W ((h1.below hb).more hb.size) ((h2.below hb).more hb.size) m1 m2).mono fun _ _ h => ⟨h.1, hb.trans (h.2.mono hb.size)⟩

set_option maxHeartbeats 2000000 in
theorem rrows_any (A1 A2 : Option Addr) (c1 c2 : Nat) (l1 l2 : List RowD) (w : World) (h1 : RC w w.heap.size A1 l1) (h2 : RC w w.heap.size A2 l2) (m1 : l1.length ≤ maxLen) (m2 : l2.length ≤ maxLen) :
    Calls Tryz.prog 16 #[.slice A1 l1.length c1, .slice A2 l2.length c2] w fun e w' => e = .returned (.bool (decide (l1 = l2))) ∧ Below w.heap.size w w' := by
  unfold maxLen at m1 m2
  by_cases hl : l1.length = l2.length
  · rw [← hl]
    obtain ⟨n, hn⟩ : ∃ n, l1.length = n := ⟨_, rfl⟩
    rw [hn] at hl m1 ⊢
    have H1 := Lib.hid h1
    have H2 := Lib.hid h2
    have N1 := Lib.hid hn
    have N2 := Lib.hid hl.symm
    clear h1 h2 hn hl m2
    go_enter Tryz.func16, Tryz.ntmps16
    go_wp2
    go_loopw [5] (fun i wr => ∃ k : Nat, k ≤ n ∧ i = .int .i64 k ∧ l1.take k = l2.take k ∧ Below w.heap.size w wr) (fun i _ => n - (intOf i).toNat)
    case atStart => exact ⟨0, Nat.zero_le _, rfl, rfl, Below.refl _ _⟩
    case round =>
      obtain ⟨k, hk, rfl, ht, hb⟩ := hrel
      have HT := Lib.hid ht
      have HB := Lib.hid hb
      clear ht hb
      by_cases hlt : k < n
      · obtain ⟨d1, hd1⟩ := get_at N1 hlt
        obtain ⟨d2, hd2⟩ := get_at N2 hlt
        obtain ⟨b1, o1, A1', c1', e1, q1, q2, q3, q4, q5, q6, r0, r1, r2, r3, r4, r5⟩ := (H1.out.below HB.out).at_ hd1
        obtain ⟨b2, o2, A2', c2', e2, p1, p2, p3, p4, p5, p6, s0, s1, s2, s3, s4, s5⟩ := (H2.out.below HB.out).at_ hd2
        subst e1 e2
        have cs := fun W (hb : Below wr.heap.size wr W) => rowsame_of d1 d2 A1' A2' c1' c2' wr W hb (q2.more HB.out.size) (p2.more HB.out.size) q6 p6
        have HS1 := Lib.hid (take_at hd1)
        have HS2 := Lib.hid (take_at hd2)
        have HD1 := Lib.hid hd1
        have HD2 := Lib.hid hd2
        clear q1 q2 q3 q4 q5 q6 p1 p2 p3 p4 p5 p6 hd1 hd2
        by_cases hx : d1 = d2
        · have HX := Lib.hid hx
          rw [decide_eq_true hx] at cs
          clear hx
          simp only [RowD.cells] at cs
          have CS := Lib.hid cs
          clear cs
          go_wp2
          go_region_with (go_at_call 20; (with_reducible refine (CS.out _ (Below.refl _ _).drew).mono ?_); rintro e w1 ⟨rfl, hb1⟩)
          all_goals
            go_wp2
            go_roundw
            case rel => exact ⟨k + 1, by omega, by go_num, by rw [HS1.out, HS2.out, HT.out, HX.out], HB.out.trans (hb1.mono HB.out.size)⟩
            case measure => simp [intOf]; omega
        · have HX : Hid (decide (l1 = l2) = false) := by
            refine decide_eq_false fun e => hx ?_
            subst e
            have := HD1.out.symm.trans HD2.out
            injection this
          rw [decide_eq_false hx] at cs
          clear hx
          simp only [RowD.cells] at cs
          have CS := Lib.hid cs
          clear cs
          go_wp2
          go_region_with (go_at_call 20; (with_reducible refine (CS.out _ (Below.refl _ _).drew).mono ?_); rintro e w1 ⟨rfl, hb1⟩)
          all_goals
            go_wp2
            go_ret
            exact ⟨ret_bool HX.out.symm, HB.out.trans (hb1.mono HB.out.size)⟩
      · go_wp2
        go_ret
        refine ⟨ret_bool ?_, HB.out⟩
        have ht := HT.out
        rw [List.take_of_length_le (by have := N1.out; omega), List.take_of_length_le (by have := N2.out; omega)] at ht
        simp [ht]
  · have e : decide (l1 = l2) = false := by simp; rintro rfl; exact hl rfl
    rw [e]
    clear e h1 h2
    go_enter Tryz.func16, Tryz.ntmps16
    go_wp2
    go_ret
    exact ⟨rfl, Below.refl _ _⟩
end Go.Proofs.YtdbnlngkmfmnnaaGreatDoor

/- humuslaw08.Light, humuslaw15.Light. -/
namespace Go.Proofs.YtdbnlngkmfmnnaaGreatDoor
open Go.RowKit

/-- Is a leaf not too great? -/
def LightD (d : LeafD) : Prop := (∀ i s, i < 80 → d.slots[i]? = some s → s.length ≤ 600) ∧ d.slots.length ≤ 80 ∧ d.itl.length ≤ 20
noncomputable def lightD (d : LeafD) : Bool := chk (LightD d)
theorem LightD.all {d : LeafD} (h : LightD d) : ∀ s ∈ d.slots, s.length ≤ 600 := fun s hs => by
  obtain ⟨i, hi⟩ := List.mem_iff_getElem?.1 hs
  have := (List.getElem?_eq_some_iff.1 hi).1
  exact h.1 i s (by have := h.2.1; omega) hi

set_option maxHeartbeats 4000000 in
set_option maxRecDepth 100000 in
theorem light08_any (d : LeafD) (A1 A2 : Option Addr) (c1 c2 : Nat) (w : World) (h2 : SC w w.heap.size A2 d.slots) (m1 : d.itl.length ≤ maxLen) (m2 : d.slots.length ≤ maxLen) :
    Calls Tryz.prog 41 #[.agg (d.cells A1 c1 A2 c2)] w fun e w' => e = .returned (.bool (lightD d)) ∧ Below w.heap.size w w' := by
  obtain ⟨n1, hn1⟩ : ∃ n, d.itl.length = n := ⟨_, rfl⟩
  obtain ⟨n2, hn2⟩ : ∃ n, d.slots.length = n := ⟨_, rfl⟩
  unfold LeafD.cells
  unfold maxLen at m1 m2
  rw [hn1] at m1 ⊢
  rw [hn2] at m2 ⊢
  obtain ⟨R, hR⟩ : ∃ R, lightD d = R := ⟨_, rfl⟩
  rw [hR]
  have HR := Lib.hid hR
  have NO : Hid (¬ LightD d → R = false) := fun h => by rw [← hR]; exact chk_false h
  have MB0 : Hid (MB w (.cells #[.slice A1 n1 c1, .slice A2 n2 c2] 66 (0, 0)) (w.alloc (.cells #[.slice A1 n1 c1, .slice A2 n2 c2] 66))) := ⟨(Below.refl w.heap.size w).alloc (Nat.le_refl _) _, heap_alloc_new _ _⟩
  have N1 := Lib.hid hn1
  have N2 := Lib.hid hn2
  have H2 := Lib.hid h2
  clear h2 hR hn1 hn2
  go_enter Tryz.func41, Tryz.ntmps41
  go_wp2
  go_loopw [3] (fun i wr => ∃ k : Nat, k ≤ n2 ∧ k ≤ 80 ∧ i = .int .i64 k ∧ (∀ i, i < k → ∀ s, d.slots[i]? = some s → s.length ≤ 600) ∧ MB w (.cells #[.slice A1 n1 c1, .slice A2 n2 c2] 66 (0, 0)) wr) (fun i _ => n2 - (intOf i).toNat)
  case atStart => exact ⟨0, Nat.zero_le _, Nat.zero_le _, rfl, fun i hi => absurd hi (Nat.not_lt_zero _), MB0.out⟩
  case round =>
    obtain ⟨k, hk, hk8, rfl, hu, hmb⟩ := hrel
    have HU := Lib.hid hu
    obtain ⟨q0, q1⟩ := hmb.two
    have HMK := Lib.hid hmb
    clear hu hmb
    by_cases hkn : k < n2
    · have hkn' : decide ((k : Int) < (n2 : Int)) = true := by simp; omega
      by_cases hk80 : k < 80
      · have hk80' : decide ((k : Int) < 80) = true := by simp; omega
        obtain ⟨s, hs⟩ := get_at' N2 hkn
        obtain ⟨b, off, A', c', e, _, hc0, _⟩ := (H2.out.below HMK.out.below).at_ hs
        subst e
        have HS := Lib.hid hs
        obtain ⟨y, hy⟩ : ∃ y, s.length = y := ⟨_, rfl⟩
        have HY := Lib.hid hy
        rw [hy] at hc0
        clear hs hy
        by_cases y1 : 600 < y
        · have y1' : decide ((600 : Int) < (y : Int)) = true := by simp; omega
          have hR := NO.out (fun h => by have := h.1 k s hk80 HS.out; rw [HY.out] at this; omega)
          subst hR
          go_wp2
          go_ret
          exact ⟨rfl, HMK.out.below⟩
        · have y1' : decide ((600 : Int) < (y : Int)) = false := by simp; omega
          go_wp2
          exact ⟨⟨k + 1, by omega, by omega, by go_num, fun i hi s' hs' => by
            rcases Nat.lt_or_eq_of_le (Nat.le_of_lt_succ hi) with h3 | rfl
            · exact HU.out i h3 s' hs'
            · rw [HS.out] at hs'; injection hs' with hs'; rw [← hs', HY.out]; omega, HMK.out⟩, by simp [intOf]; omega⟩
      · have hk80' : decide ((k : Int) < 80) = false := by simp; omega
        have e2 : ¬ (n2 : Int) ≤ 80 := by omega
        have hR := NO.out (fun h => by have := h.2.1; rw [N2.out] at this; omega)
        subst hR
        go_wp2
        go_ret
        exact ⟨rfl, HMK.out.below⟩
    · have hkn' : decide ((k : Int) < (n2 : Int)) = false := by simp; omega
      have hkn : k = n2 := by omega
      subst hkn
      have e2 : (k : Int) ≤ 80 := by omega
      by_cases e3 : n1 ≤ 20
      · have e3' : (n1 : Int) ≤ 20 := by omega
        have hR : R = true := by
          rw [← HR.out]
          exact chk_true ⟨fun i s hi hs => HU.out i (by have := (List.getElem?_eq_some_iff.1 hs).1; rw [N2.out] at this; exact this) s hs, by rw [N2.out]; exact hk8, by rw [N1.out]; exact e3⟩
        subst hR
        go_wp2
        go_ret
        exact ⟨rfl, HMK.out.below⟩
      · have e3' : ¬ (n1 : Int) ≤ 20 := by omega
        have hR := NO.out (fun h => e3 (by have := h.2.2; rw [N1.out] at this; exact this))
        subst hR
        go_wp2
        go_ret
        exact ⟨rfl, HMK.out.below⟩

/-- Are leaves not too great? -/
def LightL (l : List LeafD) : Prop := l.length ≤ 8 ∧ ∀ d ∈ l, LightD d
noncomputable def lightL (l : List LeafD) : Bool := chk (LightL l)

set_option maxHeartbeats 4000000 in
set_option maxRecDepth 100000 in
theorem light15_any (A : Option Addr) (c : Nat) (l : List LeafD) (w : World) (h : LC w w.heap.size A l) (m : l.length ≤ maxLen) :
    Calls Tryz.prog 12 #[.slice A l.length c] w fun e w' => e = .returned (.bool (lightL l)) ∧ Below w.heap.size w w' := by
  obtain ⟨n, hn⟩ : ∃ n, l.length = n := ⟨_, rfl⟩
  unfold maxLen at m
  rw [hn] at m ⊢
  obtain ⟨R, hR⟩ : ∃ R, lightL l = R := ⟨_, rfl⟩
  rw [hR]
  have HR := Lib.hid hR
  have NO : Hid (¬ LightL l → R = false) := fun h => by rw [← hR]; exact chk_false h
  have H := Lib.hid h
  have N := Lib.hid hn
  clear h hn hR
  go_enter Tryz.func12, Tryz.ntmps12
  go_wp2
  go_loopw [3] (fun i wr => ∃ j : Nat, j ≤ n ∧ j ≤ 8 ∧ i = .int .i64 j ∧ (∀ d ∈ l.take j, LightD d) ∧ Below w.heap.size w wr) (fun i _ => n - (intOf i).toNat)
  case atStart => exact ⟨0, Nat.zero_le _, Nat.zero_le _, rfl, by simp, Below.refl _ _⟩
  case round =>
    obtain ⟨j, hj, hj8, rfl, hok, hb⟩ := hrel
    have HOK := Lib.hid hok
    have HB := Lib.hid hb
    clear hok hb
    by_cases hlt : j < n
    · have hlt' : decide ((j : Int) < (n : Int)) = true := by simp; omega
      by_cases h8 : j < 8
      · have h8' : decide ((j : Int) < 8) = true := by simp; omega
        obtain ⟨d, hd⟩ := get_at' N hlt
        obtain ⟨b, off, A1, k1, A2, k2, e, hbB, hc0, hc1, hz, hsc, m1, m2, q1, q2, _, _⟩ := (H.out.below HB.out).at_ hd
        subst e
        have ck := light08_any d A1 A2 k1 k2 wr (hsc.more HB.out.size) m1 m2
        obtain ⟨n1, hn1⟩ : ∃ n1, d.itl.length = n1 := ⟨_, rfl⟩
        obtain ⟨n2, hn2⟩ : ∃ n2, d.slots.length = n2 := ⟨_, rfl⟩
        unfold LeafD.cells at ck
        rw [hn1, hn2] at ck
        rw [hn1] at hc0
        rw [hn2] at hc1
        have HD := Lib.hid hd
        cases ho : lightD d with
        | false =>
          rw [ho] at ck
          have CK := Lib.hid ck
          have hR := NO.out (fun h => by rw [show lightD d = true from chk_true (h.2 d (List.mem_of_getElem? hd))] at ho; cases ho)
          subst hR
          clear ck ho hz hsc hd hn1 hn2 m1 m2 q1 q2
          go_wp2_with (go_at_call 41; (with_reducible refine CK.out.mono ?_); rintro e w1 ⟨rfl, hb1⟩)
          go_ret
          exact ⟨rfl, HB.out.trans (hb1.mono HB.out.size)⟩
        | true =>
          rw [ho] at ck
          have CK := Lib.hid ck
          have HO : Hid (LightD d) := chk_iff.1 ho
          clear ck ho hz hsc hd hn1 hn2 m1 m2 q1 q2
          go_wp2_with (go_at_call 41; (with_reducible refine CK.out.mono ?_); rintro e w1 ⟨rfl, hb1⟩; have HB1 := Lib.hid (HB.out.trans (hb1.mono HB.out.size)); clear hb1)
          exact ⟨⟨j + 1, by omega, by omega, by go_num, by rw [take_at' HD.out]; intro x hx; rcases List.mem_append.1 hx with hx | hx; exact HOK.out x hx; rw [List.mem_singleton.1 hx]; exact HO.out, HB1.out⟩, by simp [intOf]; omega⟩
      · have h8' : decide ((j : Int) < 8) = false := by simp; omega
        have e2 : ¬ (n : Int) ≤ 8 := by omega
        have hR := NO.out (fun h => by have := h.1; rw [N.out] at this; omega)
        subst hR
        go_wp2
        go_ret
        exact ⟨rfl, HB.out⟩
    · have hlt' : decide ((j : Int) < (n : Int)) = false := by simp; omega
      have hjn : j = n := by omega
      subst hjn
      have e2 : (j : Int) ≤ 8 := by omega
      have hR : R = true := by
        rw [← HR.out]
        have := HOK.out
        rw [List.take_of_length_le (by rw [N.out]; omega)] at this
        exact chk_true ⟨by rw [N.out]; exact hj8, this⟩
      subst hR
      go_wp2
      go_ret
      exact ⟨rfl, HB.out⟩
end Go.Proofs.YtdbnlngkmfmnnaaGreatDoor

/- humusref15.Find, humusref15.Get. -/
namespace Go.Proofs.YtdbnlngkmfmnnaaGreatDoor
open Go.RowKit

/-- Rows and berths that were made since w0, as they are read. -/
structure RowsIn (w0 : Nat) (W : World) (A Ab : Option Addr) (P : List (RowD × Nat × Nat)) : Prop where
  at_ : ∀ (k : Nat) x, P[k]? = some x → ∃ b A' c' b2, A = some ⟨b, 0, none⟩ ∧ w0 ≤ b ∧ b < W.heap.size ∧ FC W W.heap.size A' x.1.cols ∧ (∀ g, g < w0 → FX W (some g) A' x.1.cols) ∧ x.1.cols.length ≤ c' ∧ (A' = none → c' = 0) ∧
    W.cell? ⟨b, k * 6, none⟩ = some (.float .f64 x.1.key) ∧ W.cell? ⟨b, k * 6 + 1, none⟩ = some (.bool x.1.dead) ∧ W.cell? ⟨b, k * 6 + 2, none⟩ = some (.slice A' x.1.cols.length c') ∧ W.cell? ⟨b, k * 6 + 3, none⟩ = some (.int .i64 x.1.wr) ∧ W.cell? ⟨b, k * 6 + 4, none⟩ = some (.int .i64 x.1.rc) ∧ W.cell? ⟨b, k * 6 + 5, none⟩ = some (.int .i64 x.1.rn) ∧
    Ab = some ⟨b2, 0, none⟩ ∧ w0 ≤ b2 ∧ b2 < W.heap.size ∧ W.cell? ⟨b2, k * 2, none⟩ = some (.int .i64 (x.2.1 : Nat)) ∧ W.cell? ⟨b2, k * 2 + 1, none⟩ = some (.int .i64 (x.2.2 : Nat))
theorem RowsIn.on {w0 : Nat} {W W' : World} {A Ab : Option Addr} {P : List (RowD × Nat × Nat)} (h : RowsIn w0 W A Ab P) (hb : Below W.heap.size W W') : RowsIn w0 W' A Ab P := ⟨fun k x hx => by
  obtain ⟨b, A', c', b2, h1, h2, h3, h4, h5, h6, h7, c0, c1, c2, c3, c4, c5, g1, g2, g3, d0, d1⟩ := h.at_ k x hx
  exact ⟨b, A', c', b2, h1, h2, Nat.lt_of_lt_of_le h3 hb.size, (h4.below hb).more hb.size, fun g hg => (h5 g hg).below hb, h6, h7,
    (hb.cell (p := ⟨b, k * 6, none⟩) h3).trans c0, (hb.cell (p := ⟨b, k * 6 + 1, none⟩) h3).trans c1, (hb.cell (p := ⟨b, k * 6 + 2, none⟩) h3).trans c2, (hb.cell (p := ⟨b, k * 6 + 3, none⟩) h3).trans c3, (hb.cell (p := ⟨b, k * 6 + 4, none⟩) h3).trans c4, (hb.cell (p := ⟨b, k * 6 + 5, none⟩) h3).trans c5,
    g1, g2, Nat.lt_of_lt_of_le g3 hb.size, (hb.cell (p := ⟨b2, k * 2, none⟩) g3).trans d0, (hb.cell (p := ⟨b2, k * 2 + 1, none⟩) g3).trans d1⟩⟩

theorem at_fst {P : List (RowD × Nat × Nat)} {k : Nat} {x : RowD × Nat × Nat} (h : P[k]? = some x) : (P.map (·.1))[k]? = some x.1 ∧ (P.map (·.2))[k]? = some x.2 := by
  rw [List.getElem?_map, List.getElem?_map, h]; exact ⟨rfl, rfl⟩
theorem own_shape {w : World} {base : Nat} {e : TypeId} {size : Nat} {v : Value} {n : Nat} {xs : List Value} (h : w.ownsRow base e size v n xs) : ∃ A c, v = .slice A n c := by
  rcases h.2 with ⟨e, h0⟩ | ⟨g, cap, cur, e, _⟩
  · exact ⟨none, 0, by rw [e, h0]⟩
  · exact ⟨_, _, e⟩
theorem RX.same_at {w : World} {o o2 : Option Nat} {l : List RowD} {xs : List Value} (h : RX w o l xs) (h2 : RX w o2 l xs) {k : Nat} {d : RowD} (hd : l[k]? = some d) {A : Option Addr} {c : Nat} (hx : ∀ j v, (d.cells A c)[j]? = some v → xs[k * 6 + j]? = some v) : FX w o2 A d.cols := by
  obtain ⟨A', c', h3, _, _, _, h4⟩ := h2.at_ hd
  have e1 := hx 2 (.slice A d.cols.length c) rfl
  have e2 := h4 2 (.slice A' d.cols.length c') rfl
  rw [e1] at e2
  injection e2 with e2; injection e2 with e2
  rw [e2]; exact h3

theorem AllP.reads {w W : World} {P : List (RowD × Nat × Nat)} {v vb : Value} (h : AllP w P v vb W) : ∃ A c Ab cb, v = .slice A P.length c ∧ vb = .slice Ab P.length cb ∧ RowsIn w.heap.size W A Ab P := by
  obtain ⟨xs, h1, h2, _, h3⟩ := h.own
  have hb := h.ownb
  obtain ⟨A, c, e⟩ := own_shape h1
  obtain ⟨Ab, cb, eb⟩ := own_shape hb
  rw [List.length_map] at e eb
  refine ⟨A, c, Ab, cb, e, eb, ⟨fun k x hx => ?_⟩⟩
  have hk := (List.getElem?_eq_some_iff.1 hx).1
  obtain ⟨hx1, hx2⟩ := at_fst hx
  obtain ⟨g, cap, e1, hg, hlt⟩ := h1.form (by rw [List.length_map]; omega)
  obtain ⟨g2, cap2, e2, hg2, hlt2⟩ := hb.form (by rw [List.length_map]; omega)
  obtain ⟨A', c', q1, q2, q3, _, q5⟩ := h2.at_ hx1
  rw [e1] at h1
  rw [e2] at hb
  have hcell : ∀ (j : Nat) v, (x.1.cells A' c')[j]? = some v → W.cell? ⟨g, k * 6 + j, none⟩ = some v := fun j v hv => by
    have hj : j < 6 := by
      have := (Array.getElem?_eq_some_iff.1 hv).1
      simpa [RowD.cells] using this
    rw [h1.cellAt _ (by rw [List.length_map]; omega)]
    exact q5 j v hv
  obtain ⟨r1, r2⟩ := cellsB_get hx2
  rw [e] at e1
  rw [eb] at e2
  injection e1 with e1
  injection e2 with e2
  refine ⟨g, A', c', g2, e1, hg, hlt, q1.to_FC, fun g' hg' => RX.same_at h2 (h3 g' hg') hx1 q5, q2, q3, hcell 0 _ rfl, hcell 1 _ rfl, hcell 2 _ rfl, hcell 3 _ rfl, hcell 4 _ rfl, hcell 5 _ rfl, e2, hg2, hlt2, ?_, ?_⟩
  · rw [hb.cellAt _ (by rw [List.length_map]; omega)]; exact r1
  · rw [hb.cellAt _ (by rw [List.length_map]; omega)]; exact r2

def findP (p : RowD × Nat × Nat → Bool) (l : List LeafD) : Option (RowD × Nat × Nat) := (allL l).find? p
theorem find_none {α : Type} {p : α → Bool} {l : List α} (h : ∀ (i : Nat) (x : α), l[i]? = some x → p x = false) : l.find? p = none := by
  rw [List.find?_eq_none]
  intro x hx
  obtain ⟨i, hi⟩ := List.mem_iff_getElem?.1 hx
  rw [h i x hi]
  decide
theorem find_at {α : Type} {p : α → Bool} {l : List α} {k : Nat} {x : α} (h : ∀ i, i < k → ∀ x : α, l[i]? = some x → p x = false) (hx : l[k]? = some x) (hp : p x = true) : l.find? p = some x := by
  rw [split_at hx, List.find?_append, find_none, Option.none_or, List.find?_cons_of_pos hp]
  intro i y hy
  rw [List.getElem?_take] at hy
  split at hy
  · rename_i hi; exact h i hi y hy
  · cases hy

/-- What a look-up of the document answers. -/
def RFind (w : World) (o : Option (RowD × Nat × Nat)) (e : Ending) (w' : World) : Prop := Below w.heap.size w w' ∧ match o with
  | some (d, i, k) => ∃ A c, e = .returned (.tuple #[.agg (d.cells A c), .agg #[.int .i64 (i : Nat), .int .i64 (k : Nat)], .bool true]) ∧ FC w' w'.heap.size A d.cols ∧ d.cols.length ≤ c ∧ d.cols.length ≤ maxLen ∧ d.key < 18446744073709551616
  | none => e = .returned (.tuple #[zeroRow, .agg #[.int .i64 0, .int .i64 0], .bool false])
theorem zero_two (w : World) : ((w.alloc zbox).alloc (.cells #[.int .i64 0, .int .i64 0] 33)).heap[w.heap.size]? = some zbox ∧ ((w.alloc zbox).alloc (.cells #[.int .i64 0, .int .i64 0] 33)).heap[w.heap.size + 1]? = some (.cells #[.int .i64 0, .int .i64 0] 33 (0, 0)) := ⟨heap_alloc2_old w _ _, two_new w _ _⟩

theorem FX.set2 {W : World} {A : Option Addr} {l : List Nat} {g o : Nat} (h1 : FX W (some g) A l) (h2 : FX W (some o) A l) (j : Nat) (v : Value) : FX (W.setCell ⟨g, j, none⟩ v) (some o) A l :=
  ⟨h1.1, fun hl => by
    obtain ⟨b, off, e, hB, hn, hc⟩ := h1.2 hl
    obtain ⟨b', off', e', _, hn', _⟩ := h2.2 hl
    rw [e] at e'
    injection e' with e'; injection e' with e1 e2
    subst e1
    refine ⟨b, off, e, by simpa [World.setCell] using hB, hn', fun i x hx => (World.cell?_setCell_other W _ _ v (fun e => hn (by injection e with e; rw [e]))).trans (hc i x hx)⟩⟩
theorem fx_eight {W : World} {A : Option Addr} {l : List Nat} {B : Nat} (h1 : FX W (some B) A l) (h2 : FX W (some (B + 1)) A l) (a0 a1 a2 a3 a4 a5 a6 a7 : Value) :
    FC ((((((((W.setCell ⟨B, 0, none⟩ a0).setCell ⟨B, 1, none⟩ a1).setCell ⟨B, 2, none⟩ a2).setCell ⟨B, 3, none⟩ a3).setCell ⟨B, 4, none⟩ a4).setCell ⟨B, 5, none⟩ a5).setCell ⟨B + 1, 0, none⟩ a6).setCell ⟨B + 1, 1, none⟩ a7)
      ((((((((W.setCell ⟨B, 0, none⟩ a0).setCell ⟨B, 1, none⟩ a1).setCell ⟨B, 2, none⟩ a2).setCell ⟨B, 3, none⟩ a3).setCell ⟨B, 4, none⟩ a4).setCell ⟨B, 5, none⟩ a5).setCell ⟨B + 1, 0, none⟩ a6).setCell ⟨B + 1, 1, none⟩ a7).heap.size A l := by
  have p0 := h1.set2 h1 0 a0
  have q0 := h1.set2 h2 0 a0
  have p1 := p0.set2 p0 1 a1
  have q1 := p0.set2 q0 1 a1
  have p2 := p1.set2 p1 2 a2
  have q2 := p1.set2 q1 2 a2
  have p3 := p2.set2 p2 3 a3
  have q3 := p2.set2 q2 3 a3
  have p4 := p3.set2 p3 4 a4
  have q4 := p3.set2 q3 4 a4
  have q5 := p4.set2 q4 5 a5
  have q6 := q5.set2 q5 0 a6
  exact (q6.set2 q6 1 a7).to_FC
theorem below_eight {w W : World} (h : Below w.heap.size w W) (a0 a1 a2 a3 a4 a5 a6 a7 : Value) :
    Below w.heap.size w ((((((((W.setCell ⟨w.heap.size, 0, none⟩ a0).setCell ⟨w.heap.size, 1, none⟩ a1).setCell ⟨w.heap.size, 2, none⟩ a2).setCell ⟨w.heap.size, 3, none⟩ a3).setCell ⟨w.heap.size, 4, none⟩ a4).setCell ⟨w.heap.size, 5, none⟩ a5).setCell ⟨w.heap.size + 1, 0, none⟩ a6).setCell ⟨w.heap.size + 1, 1, none⟩ a7) :=
  ((below_six h (Nat.le_refl _) _ (Nat.le_refl _) a0 a1 a2 a3 a4 a5).setCell (p := ⟨w.heap.size + 1, 0, none⟩) (Nat.le_succ _) a6).setCell (p := ⟨w.heap.size + 1, 1, none⟩) (Nat.le_succ _) a7
theorem FC.drew {W : World} {A : Option Addr} {l : List Nat} (h : FC W W.heap.size A l) : FC W.drew W.drew.heap.size A l := h

set_option maxHeartbeats 4000000 in
set_option maxRecDepth 100000 in
theorem rfind_any (A : Option Addr) (c key : Nat) (l : List LeafD) (w : World) (h : LC w w.heap.size A l) (m : l.length ≤ 90) (hs : ∀ d ∈ l, d.slots.length ≤ 1000 ∧ ∀ s ∈ d.slots, s.length ≤ 1000) (bk : key < 18446744073709551616) :
    Calls Tryz.prog 21 #[.slice A l.length c, .float .f64 key] w (RFind w (findP (fun p => decide (p.1.rank = rankN key)) l)) := by
  obtain ⟨n, hn⟩ : ∃ n, l.length = n := ⟨_, rfl⟩
  have hb0 : Below w.heap.size w ((w.alloc zbox).alloc (.cells #[.int .i64 0, .int .i64 0] 33)) := ((Below.refl _ _).alloc (Nat.le_refl _) _).alloc (by simp) _
  have ca := rall_any A c l _ ((h.below hb0).more hb0.size) m hs
  obtain ⟨z0, z1⟩ := zero_two w
  have hsz : ((w.alloc zbox).alloc (.cells #[.int .i64 0, .int .i64 0] 33)).heap.size = w.heap.size + 1 + 1 := by simp
  rw [hn] at ca ⊢
  obtain ⟨O, hO⟩ : ∃ O, findP (fun p => decide (p.1.rank = rankN key)) l = O := ⟨_, rfl⟩
  rw [hO]
  have CA : Hid (Calls Tryz.prog 43 #[.slice A n c] ((w.alloc zbox).alloc (.cells #[.int .i64 0, .int .i64 0] 33)) fun e w' => ∃ A1 k1 Ab cb, e = .returned (.tuple #[.slice A1 (allL l).length k1, .slice Ab (allL l).length cb]) ∧ RowsIn (w.heap.size + 1 + 1) w' A1 Ab (allL l) ∧ Below w.heap.size w w' ∧ w'.heap[w.heap.size]? = some zbox ∧ w'.heap[w.heap.size + 1]? = some (.cells #[.int .i64 0, .int .i64 0] 33 (0, 0))) := ca.mono fun e w' hh => by
    obtain ⟨v, vb, rfl, hp⟩ := hh
    obtain ⟨A1, k1, Ab, cb, e1, e2, h1⟩ := hp.reads
    rw [hsz] at h1
    refine ⟨A1, k1, Ab, cb, by rw [e1, e2], h1, hb0.trans (hp.below.mono hb0.size), (hp.below.block _ (by rw [hsz]; omega)).trans z0, (hp.below.block _ (by rw [hsz]; omega)).trans z1⟩
  have HK : Hid (Keyed2 l) := h.keyed
  have hlen : (allL l).length ≤ 90000 := by
    have := allL_len (fun d hd => (hs d hd).1) l.length
    rw [List.take_length] at this
    omega
  have HO := Lib.hid hO
  have BK := Lib.hid bk
  clear h hn hs ca hb0 z0 z1 hsz hO bk
  obtain ⟨P, hP⟩ : ∃ P, allL l = P := ⟨_, rfl⟩
  have HO2 : Hid (P.find? (fun p => decide (p.1.rank = rankN key)) = O) := by rw [← hP]; exact HO.out
  rw [hP] at CA hlen
  have HKP : Hid (∀ x ∈ P, x.1.key < 18446744073709551616 ∧ x.1.cols.length ≤ maxLen) := fun x hx => HK.out x.1 (by rw [← allL_fst, hP]; exact List.mem_map_of_mem hx)
  clear hP HO
  obtain ⟨z, hz⟩ : ∃ z, P.length = z := ⟨_, rfl⟩
  rw [hz] at CA hlen
  have HZ := Lib.hid hz
  clear hz
  have hsf := run_store_f64
  unfold zbox at CA
  go_enter Tryz.func21, Tryz.ntmps21
  go_wp2_with (go_at_call 43; (with_reducible refine CA.out.mono ?_); rintro e w1 ⟨A1, k1, Ab, cb, rfl, hri, hb1, g0, g1⟩; have HRI := Lib.hid hri; have HB1 := Lib.hid hb1; have G0 := Lib.hid g0; have G1 := Lib.hid g1; clear hri hb1 g0 g1)
  rename World => wo
  go_loopw [9] (fun i wr => ∃ j : Nat, j ≤ z ∧ i = .int .i64 j ∧ (∀ i, i < j → ∀ x : RowD × Nat × Nat, P[i]? = some x → decide (x.1.rank = rankN key) = false) ∧ Below wo.heap.size wo wr) (fun i _ => z - (intOf i).toNat)
  case atStart => exact ⟨0, Nat.zero_le _, rfl, fun i hi => absurd hi (Nat.not_lt_zero _), Below.refl _ _⟩
  case round =>
    obtain ⟨j, hj, rfl, hno, hb⟩ := hrel
    have HNO := Lib.hid hno
    have HB := Lib.hid hb
    clear hno hb
    obtain ⟨⟨g0, g1, g2, g3, g4, g5⟩, ⟨q0, q1, q2, q3, q4, q5⟩⟩ := six ((HB.out.block w.heap.size (Array.getElem?_eq_some_iff.1 G0.out).1).trans G0.out)
    obtain ⟨⟨d0, d1⟩, ⟨p0, p1⟩⟩ := two_cells ((HB.out.block (w.heap.size + 1) (Array.getElem?_eq_some_iff.1 G1.out).1).trans G1.out)
    by_cases hlt : j < z
    · obtain ⟨x, hx⟩ := get_at' HZ hlt
      obtain ⟨b, A', c', b2, e, hbb, hbl, hfc, hfx, hlc, hA', a0, a1, a2, a3, a4, a5, e2, hbb2, hbl2, t0, t1⟩ := (HRI.out.on HB.out).at_ j x hx
      subst e e2
      obtain ⟨hak, hcm⟩ := HKP.out x (List.mem_of_getElem? hx)
      have AL := alike_any x.1.key key hak BK.out
      have hre := rankN_eq x.1.key key hak BK.out
      have HX := Lib.hid hx
      have HFC := Lib.hid hfc
      have HFX := Lib.hid hfx
      have hnb : ¬ b = w.heap.size := by omega
      have hnb2 : ¬ b = w.heap.size + 1 := by omega
      have hnc : ¬ b2 = w.heap.size := by omega
      have hnc2 : ¬ b2 = w.heap.size + 1 := by omega
      have hnb' : ¬ w.heap.size = b := by omega
      have hnb2' : ¬ w.heap.size + 1 = b := by omega
      have hnc' : ¬ w.heap.size = b2 := by omega
      have hnc2' : ¬ w.heap.size + 1 = b2 := by omega
      have HM := Lib.hid hlc
      have HM2 := Lib.hid hcm
      have HAK := Lib.hid hak
      have hjz' : (j : Int) < (z : Int) := by omega
      obtain ⟨⟨key2, dead, cols, wr2, rc, rn⟩, i, k⟩ := x
      simp only at a0 a1 a2 a3 a4 a5 t0 t1 AL hre HFC HFX HM HM2 HAK
      clear hx hfc hfx hbb hbb2 hbl hbl2 hlc hA' hcm hak
      by_cases hr : rankN key2 = rankN key
      · rw [decide_eq_true (hre.1 hr)] at AL
        have HO3 : Hid (O = some (⟨key2, dead, cols, wr2, rc, rn⟩, i, k)) := by
          rw [← HO2.out]
          exact find_at (p := fun p : RowD × Nat × Nat => decide (p.1.rank = rankN key)) HNO.out HX.out (decide_eq_true hr)
        have hO3 := HO3.out
        subst hO3
        clear hre hr
        go_wp2_with (go_at_call 26; (with_reducible refine (AL _).mono ?_); rintro e w' ⟨rfl, rfl⟩)
        go_region
        go_wp2
        refine bodyPost_ret (v := .tuple #[.agg #[.float .f64 key2, .bool dead, .slice A' cols.length c', .int .i64 wr2, .int .i64 rc, .int .i64 rn], .agg #[.int .i64 (i : Nat), .int .i64 (k : Nat)], .bool true]) (by simp [results, Tryz.results21, go_sem, g0, g1, g2, g3, g4, g5, d0, d1]) rfl ?_
        exact ⟨(below_eight (HB1.out.trans (HB.out.mono HB1.out.size)) _ _ _ _ _ _ _ _).drew, A', c', rfl, (fx_eight (HFX.out _ (by omega)) (HFX.out _ (by omega)) _ _ _ _ _ _ _ _).drew, HM.out, HM2.out, HAK.out⟩
      · rw [decide_eq_false (fun h => hr (hre.2 h))] at AL
        have HR : Hid (¬ rankN key2 = rankN key) := hr
        clear hre hr
        go_wp2_with (go_at_call 26; (with_reducible refine (AL _).mono ?_); rintro e w' ⟨rfl, rfl⟩)
        exact ⟨⟨j + 1, by omega, by go_num, fun i' hi y hy => by
          rcases Nat.lt_or_eq_of_le (Nat.le_of_lt_succ hi) with h3 | rfl
          · exact HNO.out i' h3 y hy
          · rw [HX.out] at hy; injection hy with hy; rw [← hy]; exact decide_eq_false HR.out, HB.out⟩, by simp [intOf]; omega⟩
    · have hjz : z = j := by omega
      subst hjz
      have hO3 : O = none := by
        rw [← HO2.out]
        exact find_none fun i x hx => HNO.out i (by have := (List.getElem?_eq_some_iff.1 hx).1; rw [HZ.out] at this; exact this) x hx
      subst hO3
      go_wp2
      refine bodyPost_ret (v := .tuple #[zeroRow, .agg #[.int .i64 0, .int .i64 0], .bool false]) (by simp [results, Tryz.results21, go_sem, zeroRow, g0, g1, g2, g3, g4, g5, d0, d1]) rfl ?_
      exact ⟨below_eight (HB1.out.trans (HB.out.mono HB1.out.size)) _ _ _ _ _ _ _ _, rfl⟩
end Go.Proofs.YtdbnlngkmfmnnaaGreatDoor

/- humusref15.Get. -/
namespace Go.Proofs.YtdbnlngkmfmnnaaGreatDoor
open Go.RowKit

def atP (ax ay : Int) (p : RowD × Nat × Nat) : Bool := decide ((p.2.1 : Int) = ax) && decide ((p.2.2 : Int) = ay)
/-- What a look-up by berth answers. -/
def RGet (w : World) (o : Option (RowD × Nat × Nat)) (e : Ending) (w' : World) : Prop := Below w.heap.size w w' ∧ match o with
  | some (d, _) => ∃ A c, e = .returned (.tuple #[.agg (d.cells A c), .bool true]) ∧ FC w' w'.heap.size A d.cols ∧ d.cols.length ≤ c ∧ d.cols.length ≤ maxLen ∧ d.key < 18446744073709551616
  | none => e = .returned (.tuple #[zeroRow, .bool false])
theorem fx_six {W : World} {A : Option Addr} {l : List Nat} {B : Nat} (h1 : FX W (some B) A l) (a0 a1 a2 a3 a4 a5 : Value) :
    FC ((((((W.setCell ⟨B, 0, none⟩ a0).setCell ⟨B, 1, none⟩ a1).setCell ⟨B, 2, none⟩ a2).setCell ⟨B, 3, none⟩ a3).setCell ⟨B, 4, none⟩ a4).setCell ⟨B, 5, none⟩ a5)
      ((((((W.setCell ⟨B, 0, none⟩ a0).setCell ⟨B, 1, none⟩ a1).setCell ⟨B, 2, none⟩ a2).setCell ⟨B, 3, none⟩ a3).setCell ⟨B, 4, none⟩ a4).setCell ⟨B, 5, none⟩ a5).heap.size A l := by
  have p0 := h1.set2 h1 0 a0
  have p1 := p0.set2 p0 1 a1
  have p2 := p1.set2 p1 2 a2
  have p3 := p2.set2 p2 3 a3
  have p4 := p3.set2 p3 4 a4
  exact (p4.set2 p4 5 a5).to_FC
theorem two_zero (w : World) (ax ay : Int) : ((w.alloc (.cells #[.int .i64 ax, .int .i64 ay] 33)).alloc zbox).heap[w.heap.size]? = some (.cells #[.int .i64 ax, .int .i64 ay] 33 (0, 0)) ∧ ((w.alloc (.cells #[.int .i64 ax, .int .i64 ay] 33)).alloc zbox).heap[w.heap.size + 1]? = some zbox := ⟨heap_alloc2_old w _ _, two_new w _ _⟩

set_option maxHeartbeats 4000000 in
set_option maxRecDepth 100000 in
theorem rget_any (A : Option Addr) (c : Nat) (ax ay : Int) (l : List LeafD) (w : World) (h : LC w w.heap.size A l) (m : l.length ≤ 90) (hs : ∀ d ∈ l, d.slots.length ≤ 1000 ∧ ∀ s ∈ d.slots, s.length ≤ 1000):
    Calls Tryz.prog 22 #[.slice A l.length c, .agg #[.int .i64 ax, .int .i64 ay]] w (RGet w (findP (atP ax ay) l)) := by
  obtain ⟨n, hn⟩ : ∃ n, l.length = n := ⟨_, rfl⟩
  have hb0 : Below w.heap.size w ((w.alloc (.cells #[.int .i64 ax, .int .i64 ay] 33)).alloc zbox) := ((Below.refl _ _).alloc (Nat.le_refl _) _).alloc (by simp) _
  have ca := rall_any A c l _ ((h.below hb0).more hb0.size) m hs
  obtain ⟨z0, z1⟩ := two_zero w ax ay
  have hsz : ((w.alloc (.cells #[.int .i64 ax, .int .i64 ay] 33)).alloc zbox).heap.size = w.heap.size + 1 + 1 := by simp
  rw [hn] at ca ⊢
  obtain ⟨O, hO⟩ : ∃ O, findP (atP ax ay) l = O := ⟨_, rfl⟩
  rw [hO]
  have CA : Hid (Calls Tryz.prog 43 #[.slice A n c] ((w.alloc (.cells #[.int .i64 ax, .int .i64 ay] 33)).alloc zbox) fun e w' => ∃ A1 k1 Ab cb, e = .returned (.tuple #[.slice A1 (allL l).length k1, .slice Ab (allL l).length cb]) ∧ RowsIn (w.heap.size + 1 + 1) w' A1 Ab (allL l) ∧ Below w.heap.size w w' ∧ w'.heap[w.heap.size]? = some (.cells #[.int .i64 ax, .int .i64 ay] 33 (0, 0)) ∧ w'.heap[w.heap.size + 1]? = some zbox) := ca.mono fun e w' hh => by
    obtain ⟨v, vb, rfl, hp⟩ := hh
    obtain ⟨A1, k1, Ab, cb, e1, e2, h1⟩ := hp.reads
    rw [hsz] at h1
    refine ⟨A1, k1, Ab, cb, by rw [e1, e2], h1, hb0.trans (hp.below.mono hb0.size), (hp.below.block _ (by rw [hsz]; omega)).trans z0, (hp.below.block _ (by rw [hsz]; omega)).trans z1⟩
  have HK : Hid (Keyed2 l) := h.keyed
  have hlen : (allL l).length ≤ 90000 := by
    have := allL_len (fun d hd => (hs d hd).1) l.length
    rw [List.take_length] at this
    omega
  have HO := Lib.hid hO
  clear h hn hs ca hb0 z0 z1 hsz hO
  obtain ⟨P, hP⟩ : ∃ P, allL l = P := ⟨_, rfl⟩
  have HO2 : Hid (P.find? (atP ax ay) = O) := by rw [← hP]; exact HO.out
  rw [hP] at CA hlen
  have HKP : Hid (∀ x ∈ P, x.1.key < 18446744073709551616 ∧ x.1.cols.length ≤ maxLen) := fun x hx => HK.out x.1 (by rw [← allL_fst, hP]; exact List.mem_map_of_mem hx)
  clear hP HO
  obtain ⟨z, hz⟩ : ∃ z, P.length = z := ⟨_, rfl⟩
  rw [hz] at CA hlen
  have HZ := Lib.hid hz
  clear hz
  have hsf := run_store_f64
  unfold zbox at CA
  go_enter Tryz.func22, Tryz.ntmps22
  go_wp2_with (go_at_call 43; (with_reducible refine CA.out.mono ?_); rintro e w1 ⟨A1, k1, Ab, cb, rfl, hri, hb1, g0, g1⟩; have HRI := Lib.hid hri; have HB1 := Lib.hid hb1; have G0 := Lib.hid g0; have G1 := Lib.hid g1; clear hri hb1 g0 g1)
  rename World => wo
  go_loopw [8] (fun i wr => ∃ j : Nat, j ≤ z ∧ i = .int .i64 j ∧ (∀ i, i < j → ∀ x : RowD × Nat × Nat, P[i]? = some x → atP ax ay x = false) ∧ Below wo.heap.size wo wr) (fun i _ => z - (intOf i).toNat)
  case atStart => exact ⟨0, Nat.zero_le _, rfl, fun i hi => absurd hi (Nat.not_lt_zero _), Below.refl _ _⟩
  case round =>
    obtain ⟨j, hj, rfl, hno, hb⟩ := hrel
    have HNO := Lib.hid hno
    have HB := Lib.hid hb
    clear hno hb
    obtain ⟨⟨g0, g1, g2, g3, g4, g5⟩, ⟨q0, q1, q2, q3, q4, q5⟩⟩ := six ((HB.out.block (w.heap.size + 1) (Array.getElem?_eq_some_iff.1 G1.out).1).trans G1.out)
    obtain ⟨⟨d0, d1⟩, ⟨p0, p1⟩⟩ := two_cells ((HB.out.block w.heap.size (Array.getElem?_eq_some_iff.1 G0.out).1).trans G0.out)
    by_cases hlt : j < z
    · obtain ⟨x, hx⟩ := get_at' HZ hlt
      obtain ⟨b, A', c', b2, e, hbb, hbl, hfc, hfx, hlc, hA', a0, a1, a2, a3, a4, a5, e2, hbb2, hbl2, t0, t1⟩ := (HRI.out.on HB.out).at_ j x hx
      subst e e2
      obtain ⟨hak, hcm⟩ := HKP.out x (List.mem_of_getElem? hx)
      have HX := Lib.hid hx
      have HFC := Lib.hid hfc
      have HFX := Lib.hid hfx
      have hnb : ¬ b = w.heap.size := by omega
      have hnb2 : ¬ b = w.heap.size + 1 := by omega
      have hnc : ¬ b2 = w.heap.size := by omega
      have hnc2 : ¬ b2 = w.heap.size + 1 := by omega
      have hnb' : ¬ w.heap.size = b := by omega
      have hnb2' : ¬ w.heap.size + 1 = b := by omega
      have hnc' : ¬ w.heap.size = b2 := by omega
      have hnc2' : ¬ w.heap.size + 1 = b2 := by omega
      have HM := Lib.hid hlc
      have HM2 := Lib.hid hcm
      have HAK := Lib.hid hak
      have hjz' : (j : Int) < (z : Int) := by omega
      obtain ⟨⟨key2, dead, cols, wr2, rc, rn⟩, i, k⟩ := x
      simp only at a0 a1 a2 a3 a4 a5 t0 t1 HFC HFX HM HM2 HAK
      clear hx hfc hfx hbb hbb2 hbl hbl2 hlc hA' hcm hak
      by_cases hr : (i : Int) = ax ∧ (k : Int) = ay
      · obtain ⟨rfl, rfl⟩ := hr
        have HO3 : Hid (O = some (⟨key2, dead, cols, wr2, rc, rn⟩, i, k)) := by
          rw [← HO2.out]
          exact find_at (p := atP i k) HNO.out HX.out (by unfold atP; simp)
        have hO3 := HO3.out
        subst hO3
        have e1 : ((i : Int) == (i : Int)) = true := by simp
        have e2 : ((k : Int) == (k : Int)) = true := by simp
        go_wp2
        go_region
        all_goals
          go_wp2
          refine bodyPost_ret (v := .tuple #[.agg #[.float .f64 key2, .bool dead, .slice A' cols.length c', .int .i64 wr2, .int .i64 rc, .int .i64 rn], .bool true]) (by simp [results, Tryz.results22, go_sem, g0, g1, g2, g3, g4, g5]) rfl ?_
          exact ⟨(below_six (HB1.out.trans (HB.out.mono HB1.out.size)) (Nat.le_refl _) (w.heap.size + 1) (Nat.le_succ _) _ _ _ _ _ _).drew, A', c', rfl, (fx_six (HFX.out (w.heap.size + 1) (by omega)) _ _ _ _ _ _).drew, HM.out, HM2.out, HAK.out⟩
      · have HNX : Hid (atP ax ay (⟨key2, dead, cols, wr2, rc, rn⟩, i, k) = false) := by
          unfold atP
          by_cases h1 : (i : Int) = ax
          · have h2 : ¬ (k : Int) = ay := fun h => hr ⟨h1, h⟩
            exact show (decide ((i : Int) = ax) && decide ((k : Int) = ay)) = false by rw [decide_eq_false h2, Bool.and_false]
          · exact show (decide ((i : Int) = ax) && decide ((k : Int) = ay)) = false by rw [decide_eq_false h1, Bool.false_and]
        have fin : Hid ((∀ i', i' < j + 1 → ∀ x : RowD × Nat × Nat, P[i']? = some x → atP ax ay x = false)) := fun i' hi y hy => by
          rcases Nat.lt_or_eq_of_le (Nat.le_of_lt_succ hi) with h3 | rfl
          · exact HNO.out i' h3 y hy
          · rw [HX.out] at hy; injection hy with hy; rw [← hy]; exact HNX.out
        by_cases h1 : (i : Int) = ax
        · have h2 : ¬ (k : Int) = ay := fun h => hr ⟨h1, h⟩
          subst h1
          have e1 : ((i : Int) == (i : Int)) = true := by simp
          have e2 : ((k : Int) == ay) = false := by simpa using h2
          clear hr h2
          go_wp2
          go_region
          all_goals
            go_wp2
            exact ⟨⟨j + 1, by omega, by go_num, fin.out, HB.out.drew⟩, by simp [intOf]; omega⟩
        · have e1 : ((i : Int) == ax) = false := by simpa using h1
          clear hr h1
          go_wp2
          go_region
          all_goals
            go_wp2
            exact ⟨⟨j + 1, by omega, by go_num, fin.out, HB.out.drew⟩, by simp [intOf]; omega⟩
    · have hjz : z = j := by omega
      subst hjz
      have hO3 : O = none := by
        rw [← HO2.out]
        exact find_none fun i x hx => HNO.out i (by have := (List.getElem?_eq_some_iff.1 hx).1; rw [HZ.out] at this; exact this) x hx
      subst hO3
      go_wp2
      refine bodyPost_ret (v := .tuple #[zeroRow, .bool false]) (by simp [results, Tryz.results22, go_sem, zeroRow, g0, g1, g2, g3, g4, g5]) rfl ?_
      exact ⟨below_six (HB1.out.trans (HB.out.mono HB1.out.size)) (Nat.le_refl _) (w.heap.size + 1) (Nat.le_succ _) _ _ _ _ _ _, rfl⟩
end Go.Proofs.YtdbnlngkmfmnnaaGreatDoor

/- heap.get, where there is none. -/
namespace Go.Proofs.YtdbnlngkmfmnnaaGreatDoor
open Go.RowKit

theorem get_miss {w : World} {l : List LeafD} {x y : Int} (h : slotAt l x y = none) {W : World} (hb : Below w.heap.size w W) : GetOut w l x y (.returned (.tuple #[zeroRow, .bool false])) W := by
  unfold GetOut getL
  rw [h]
  exact ⟨hb, zeroD, none, 0, rfl, by decide, fun _ => ⟨rfl, rfl, rfl⟩⟩

set_option maxHeartbeats 4000000 in
set_option maxRecDepth 100000 in
theorem get_out1 (A : Option Addr) (c : Nat) (x y : Int) (l : List LeafD) (w : World) (hx : x < 0 ∨ (l.length : Int) ≤ x ∨ y < 0) :
    Calls Tryz.prog 53 #[.slice A l.length c, .agg #[.int .i64 x, .int .i64 y]] w (GetOut w l x y) := by
  have hsl : slotAt l x y = none := by
    unfold slotAt
    by_cases h : x < 0 ∨ y < 0
    · rw [if_pos h]
    · rw [if_neg h, List.getElem?_eq_none (by omega)]; rfl
  have HSL := Lib.hid hsl
  obtain ⟨n, hn⟩ : ∃ n, l.length = n := ⟨_, rfl⟩
  rw [hn] at hx ⊢
  clear hsl hn
  have hsf := run_store_f64
  have hk := two_six (w := w) (v0 := .int .i64 x) (v1 := .int .i64 y) (t := 33)
  obtain ⟨⟨g0, g1, g2, g3, g4, g5⟩, _⟩ := six hk
  unfold zbox at g0 g1 g2 g3 g4 g5
  clear hk
  have hb : Below w.heap.size w ((w.alloc (.cells #[.int .i64 x, .int .i64 y] 33)).alloc zbox) := ((Below.refl _ _).alloc (Nat.le_refl _) _).alloc (by simp) _
  unfold zbox at hb
  have HB := Lib.hid hb
  clear hb
  by_cases h1 : x < 0
  · have f1 : decide (x < 0) = true := decide_eq_true h1
    clear hx h1
    go_enter Tryz.func53, Tryz.ntmps53
    go_wp2
    go_region
    all_goals
      go_wp2
      refine bodyPost_ret (v := .tuple #[zeroRow, .bool false]) (by simp [results, Tryz.results53, go_sem, zeroRow, g0, g1, g2, g3, g4, g5]) rfl ?_
      exact get_miss HSL.out HB.out.drew
  · have f1 : decide (x < 0) = false := decide_eq_false h1
    by_cases h2 : (n : Int) ≤ x
    · have f2 : decide ((n : Int) ≤ x) = true := decide_eq_true h2
      clear hx h1 h2
      go_enter Tryz.func53, Tryz.ntmps53
      go_wp2
      go_region
      all_goals
        go_wp2
        refine bodyPost_ret (v := .tuple #[zeroRow, .bool false]) (by simp [results, Tryz.results53, go_sem, zeroRow, g0, g1, g2, g3, g4, g5]) rfl ?_
        exact get_miss HSL.out HB.out.drew
    · have f2 : decide ((n : Int) ≤ x) = false := decide_eq_false h2
      have f3 : decide (y < 0) = true := decide_eq_true (by omega)
      clear hx h1 h2
      go_enter Tryz.func53, Tryz.ntmps53
      go_wp2
      go_region
      all_goals
        go_wp2
        refine bodyPost_ret (v := .tuple #[zeroRow, .bool false]) (by simp [results, Tryz.results53, go_sem, zeroRow, g0, g1, g2, g3, g4, g5]) rfl ?_
        exact get_miss HSL.out HB.out.drew

set_option maxHeartbeats 4000000 in
set_option maxRecDepth 100000 in
theorem get_out2 (A : Option Addr) (c i : Nat) (y : Int) (l : List LeafD) (w : World) (h : LC w w.heap.size A l) (d : LeafD) (hd : l[i]? = some d) (hy : (d.slots.length : Int) ≤ y) (m : l.length ≤ maxLen) :
    Calls Tryz.prog 53 #[.slice A l.length c, .agg #[.int .i64 (i : Nat), .int .i64 y]] w (GetOut w l i y) := by
  have hsl : slotAt l i y = none := by
    unfold slotAt
    rw [if_neg (by omega)]
    simp only [Int.toNat_natCast, hd, Option.bind_some]
    exact List.getElem?_eq_none (by omega)
  have HSL := Lib.hid hsl
  obtain ⟨b, off, A1, k1, A2, k2, e, hbB, hc0, hc1, hz, hsc, m1, m2, q1, q2, _, _⟩ := h.at_ hd
  subst e
  obtain ⟨n, hn1⟩ : ∃ n, l.length = n := ⟨_, rfl⟩
  obtain ⟨n2, hn2⟩ : ∃ n, d.slots.length = n := ⟨_, rfl⟩
  have hin : i < n := by have := (List.getElem?_eq_some_iff.1 hd).1; omega
  unfold maxLen at m m2
  rw [hn1] at m ⊢
  rw [hn2] at hc1 m2 hy
  have ca := cell_on (cell_on hc1 (.cells #[.int .i64 (i : Nat), .int .i64 y] 33)) zbox
  clear hsl hn1 hn2 hc0 hc1 hz hsc hd h m1 q1 q2 hbB
  have hsf := run_store_f64
  have hk := two_six (w := w) (v0 := .int .i64 (i : Nat)) (v1 := .int .i64 y) (t := 33)
  obtain ⟨⟨g0, g1, g2, g3, g4, g5⟩, _⟩ := six hk
  have hb : Below w.heap.size w ((w.alloc (.cells #[.int .i64 (i : Nat), .int .i64 y] 33)).alloc zbox) := ((Below.refl _ _).alloc (Nat.le_refl _) _).alloc (by simp) _
  unfold zbox at g0 g1 g2 g3 g4 g5 ca hb
  clear hk
  have HB := Lib.hid hb
  clear hb
  have f1 : decide ((i : Int) < 0) = false := decide_eq_false (by omega)
  have f2 : (i : Int) < (n : Int) := by omega
  have f3 : decide (y < 0) = false := decide_eq_false (by omega)
  have f5 : decide (n ≤ i) = false := decide_eq_false (by omega)
  have f6 : decide ((n2 : Int) ≤ y) = true := decide_eq_true (by omega)
  clear hy hin
  go_enter Tryz.func53, Tryz.ntmps53
  go_wp2
  go_region
  all_goals
    go_wp2
    refine bodyPost_ret (v := .tuple #[zeroRow, .bool false]) (by simp [results, Tryz.results53, go_sem, zeroRow, g0, g1, g2, g3, g4, g5]) rfl ?_
    exact get_miss HSL.out HB.out.drew

/-- **heap.get.** -/
theorem get_any (A : Option Addr) (c : Nat) (x y : Int) (l : List LeafD) (w : World) (h : LC w w.heap.size A l) (hs : ∀ d ∈ l, ∀ s ∈ d.slots, s.length ≤ 1000) (m : l.length ≤ maxLen) :
    Calls Tryz.prog 53 #[.slice A l.length c, .agg #[.int .i64 x, .int .i64 y]] w (GetOut w l x y) := by
  by_cases hx : x < 0 ∨ (l.length : Int) ≤ x ∨ y < 0
  · exact get_out1 A c x y l w hx
  · obtain ⟨i, rfl⟩ : ∃ i : Nat, x = i := ⟨x.toNat, by omega⟩
    obtain ⟨k, rfl⟩ : ∃ k : Nat, y = k := ⟨y.toNat, by omega⟩
    have hi : i < l.length := by omega
    have hd := List.getElem?_eq_getElem hi
    by_cases hk : k < (l[i]).slots.length
    · exact get_in A c i k l w h _ hd _ (List.getElem?_eq_getElem hk) (hs _ (List.getElem_mem _) _ (List.getElem_mem _)) m
    · exact get_out2 A c i k l w h _ hd (by omega) m
end Go.Proofs.YtdbnlngkmfmnnaaGreatDoor
