/- Two slices of rows compared. -/
import Derived.Test.YtdbnlngkmfmnnaaGreatDoorH16
import Derived.Deep.RegionWith
import Derived.Deep.Upon
import Derived.Test.YtdbnlngkmfmnnaaGreatDoorPm3
import Derived.Test.YtdbnlngkmfmnnaaGreatDoorH01
import Derived.KernelRfl
import Derived.Below
import Derived.RecoverIn
namespace Go.Proofs.YtdbnlngkmfmnnaaGreatDoor
open Go.RowKit

theorem rowsame_of (a b : RowD) (A1 A2 : Option Addr) (c1 c2 : Nat) (w W : World) (hb : Below w.heap.size w W) (h1 : FC w w.heap.size A1 a.cols) (h2 : FC w w.heap.size A2 b.cols) (m1 : a.cols.length ≤ maxLen) (m2 : b.cols.length ≤ maxLen) :
    Calls Tryz.prog 20 #[.agg (a.cells A1 c1), .agg (b.cells A2 c2)] W fun e w' => e = .returned (.bool (decide (a = b))) ∧ Below w.heap.size w w' :=
  (rowsame_any a b A1 A2 c1 c2 W ((h1.below hb).more hb.size) ((h2.below hb).more hb.size) m1 m2).mono fun _ _ h => ⟨h.1, hb.trans (h.2.mono hb.size)⟩

set_option maxHeartbeats 2000000 in
theorem rrows_any (A1 A2 : Option Addr) (c1 c2 : Nat) (l1 l2 : List RowD) (w : World) (h1 : RC w w.heap.size A1 l1) (h2 : RC w w.heap.size A2 l2) (m1 : l1.length ≤ maxLen) (m2 : l2.length ≤ maxLen) :
    Calls Tryz.prog 16 #[.slice A1 l1.length c1, .slice A2 l2.length c2] w fun e w' => e = .returned (.bool (decide (l1 = l2))) ∧ Below w.heap.size w w' := by
  unfold maxLen at m1 m2
  by_cases hl : l1.length = l2.length
  · rw [← hl]
    obtain ⟨n, hn⟩ : ∃ n, l1.length = n := ⟨_, rfl⟩
    rw [hn] at hl m1 ⊢
    have H1 := Lib.hid h1
    have H2 := Lib.hid h2
    have N1 := Lib.hid hn
    have N2 := Lib.hid hl.symm
    clear h1 h2 hn hl m2
    go_enter Tryz.func16, Tryz.ntmps16
    go_wp2
    go_loopw [5] (fun i wr => ∃ k : Nat, k ≤ n ∧ i = .int .i64 k ∧ l1.take k = l2.take k ∧ Below w.heap.size w wr) (fun i _ => n - (intOf i).toNat)
    case atStart => exact ⟨0, Nat.zero_le _, rfl, rfl, Below.refl _ _⟩
    case round =>
      obtain ⟨k, hk, rfl, ht, hb⟩ := hrel
      have HT := Lib.hid ht
      have HB := Lib.hid hb
      clear ht hb
      by_cases hlt : k < n
      · obtain ⟨d1, hd1⟩ := get_at N1 hlt
        obtain ⟨d2, hd2⟩ := get_at N2 hlt
        obtain ⟨b1, o1, A1', c1', e1, q1, q2, q3, q4, q5, q6, r0, r1, r2, r3, r4, r5⟩ := (H1.out.below HB.out).at_ hd1
        obtain ⟨b2, o2, A2', c2', e2, p1, p2, p3, p4, p5, p6, s0, s1, s2, s3, s4, s5⟩ := (H2.out.below HB.out).at_ hd2
        subst e1 e2
        have cs := fun W (hb : Below wr.heap.size wr W) => rowsame_of d1 d2 A1' A2' c1' c2' wr W hb (q2.more HB.out.size) (p2.more HB.out.size) q6 p6
        have HS1 := Lib.hid (take_at hd1)
        have HS2 := Lib.hid (take_at hd2)
        have HD1 := Lib.hid hd1
        have HD2 := Lib.hid hd2
        clear q1 q2 q3 q4 q5 q6 p1 p2 p3 p4 p5 p6 hd1 hd2
        by_cases hx : d1 = d2
        · have HX := Lib.hid hx
          rw [decide_eq_true hx] at cs
          clear hx
          simp only [RowD.cells] at cs
          have CS := Lib.hid cs
          clear cs
          go_wp2
          go_region_with (go_at_call 20; (with_reducible refine (CS.out _ (Below.refl _ _).drew).mono ?_); rintro e w1 ⟨rfl, hb1⟩)
          all_goals
            go_wp2
            go_roundw
            case rel => exact ⟨k + 1, by omega, by go_num, by rw [HS1.out, HS2.out, HT.out, HX.out], HB.out.trans (hb1.mono HB.out.size)⟩
            case measure => simp [intOf]; omega
        · have HX : Hid (decide (l1 = l2) = false) := by
            refine decide_eq_false fun e => hx ?_
            subst e
            have := HD1.out.symm.trans HD2.out
            injection this
          rw [decide_eq_false hx] at cs
          clear hx
          simp only [RowD.cells] at cs
          have CS := Lib.hid cs
          clear cs
          go_wp2
          go_region_with (go_at_call 20; (with_reducible refine (CS.out _ (Below.refl _ _).drew).mono ?_); rintro e w1 ⟨rfl, hb1⟩)
          all_goals
            go_wp2
            go_ret
            exact ⟨ret_bool HX.out.symm, HB.out.trans (hb1.mono HB.out.size)⟩
      · go_wp2
        go_ret
        refine ⟨ret_bool ?_, HB.out⟩
        have ht := HT.out
        rw [List.take_of_length_le (by have := N1.out; omega), List.take_of_length_le (by have := N2.out; omega)] at ht
        simp [ht]
  · have e : decide (l1 = l2) = false := by simp; rintro rfl; exact hl rfl
    rw [e]
    clear e h1 h2
    go_enter Tryz.func16, Tryz.ntmps16
    go_wp2
    go_ret
    exact ⟨rfl, Below.refl _ _⟩
end Go.Proofs.YtdbnlngkmfmnnaaGreatDoor

/- humuslaw08.Light, humuslaw15.Light. -/
namespace Go.Proofs.YtdbnlngkmfmnnaaGreatDoor
open Go.RowKit

/-- Is a leaf not too great? -/
def LightD (d : LeafD) : Prop := (∀ i s, i < 80 → d.slots[i]? = some s → s.length ≤ 600) ∧ d.slots.length ≤ 80 ∧ d.itl.length ≤ 20
noncomputable def lightD (d : LeafD) : Bool := chk (LightD d)
theorem LightD.all {d : LeafD} (h : LightD d) : ∀ s ∈ d.slots, s.length ≤ 600 := fun s hs => by
  obtain ⟨i, hi⟩ := List.mem_iff_getElem?.1 hs
  have := (List.getElem?_eq_some_iff.1 hi).1
  exact h.1 i s (by have := h.2.1; omega) hi

set_option maxHeartbeats 4000000 in
set_option maxRecDepth 100000 in
theorem light08_any (d : LeafD) (A1 A2 : Option Addr) (c1 c2 : Nat) (w : World) (h2 : SC w w.heap.size A2 d.slots) (m1 : d.itl.length ≤ maxLen) (m2 : d.slots.length ≤ maxLen) :
    Calls Tryz.prog 41 #[.agg (d.cells A1 c1 A2 c2)] w fun e w' => e = .returned (.bool (lightD d)) ∧ Below w.heap.size w w' := by
  obtain ⟨n1, hn1⟩ : ∃ n, d.itl.length = n := ⟨_, rfl⟩
  obtain ⟨n2, hn2⟩ : ∃ n, d.slots.length = n := ⟨_, rfl⟩
  unfold LeafD.cells
  unfold maxLen at m1 m2
  rw [hn1] at m1 ⊢
  rw [hn2] at m2 ⊢
  obtain ⟨R, hR⟩ : ∃ R, lightD d = R := ⟨_, rfl⟩
  rw [hR]
  have HR := Lib.hid hR
  have NO : Hid (¬ LightD d → R = false) := fun h => by rw [← hR]; exact chk_false h
  have MB0 : Hid (MB w (.cells #[.slice A1 n1 c1, .slice A2 n2 c2] 66 (0, 0)) (w.alloc (.cells #[.slice A1 n1 c1, .slice A2 n2 c2] 66))) := ⟨(Below.refl w.heap.size w).alloc (Nat.le_refl _) _, heap_alloc_new _ _⟩
  have N1 := Lib.hid hn1
  have N2 := Lib.hid hn2
  have H2 := Lib.hid h2
  clear h2 hR hn1 hn2
  go_enter Tryz.func41, Tryz.ntmps41
  go_wp2
  go_loopw [3] (fun i wr => ∃ k : Nat, k ≤ n2 ∧ k ≤ 80 ∧ i = .int .i64 k ∧ (∀ i, i < k → ∀ s, d.slots[i]? = some s → s.length ≤ 600) ∧ MB w (.cells #[.slice A1 n1 c1, .slice A2 n2 c2] 66 (0, 0)) wr) (fun i _ => n2 - (intOf i).toNat)
  case atStart => exact ⟨0, Nat.zero_le _, Nat.zero_le _, rfl, fun i hi => absurd hi (Nat.not_lt_zero _), MB0.out⟩
  case round =>
    obtain ⟨k, hk, hk8, rfl, hu, hmb⟩ := hrel
    have HU := Lib.hid hu
    obtain ⟨q0, q1⟩ := hmb.two
    have HMK := Lib.hid hmb
    clear hu hmb
    by_cases hkn : k < n2
    · have hkn' : decide ((k : Int) < (n2 : Int)) = true := by simp; omega
      by_cases hk80 : k < 80
      · have hk80' : decide ((k : Int) < 80) = true := by simp; omega
        obtain ⟨s, hs⟩ := get_at' N2 hkn
        obtain ⟨b, off, A', c', e, _, hc0, _⟩ := (H2.out.below HMK.out.below).at_ hs
        subst e
        have HS := Lib.hid hs
        obtain ⟨y, hy⟩ : ∃ y, s.length = y := ⟨_, rfl⟩
        have HY := Lib.hid hy
        rw [hy] at hc0
        clear hs hy
        by_cases y1 : 600 < y
        · have y1' : decide ((600 : Int) < (y : Int)) = true := by simp; omega
          have hR := NO.out (fun h => by have := h.1 k s hk80 HS.out; rw [HY.out] at this; omega)
          subst hR
          go_wp2
          go_ret
          exact ⟨rfl, HMK.out.below⟩
        · have y1' : decide ((600 : Int) < (y : Int)) = false := by simp; omega
          go_wp2
          exact ⟨⟨k + 1, by omega, by omega, by go_num, fun i hi s' hs' => by
            rcases Nat.lt_or_eq_of_le (Nat.le_of_lt_succ hi) with h3 | rfl
            · exact HU.out i h3 s' hs'
            · rw [HS.out] at hs'; injection hs' with hs'; rw [← hs', HY.out]; omega, HMK.out⟩, by simp [intOf]; omega⟩
      · have hk80' : decide ((k : Int) < 80) = false := by simp; omega
        have e2 : ¬ (n2 : Int) ≤ 80 := by omega
        have hR := NO.out (fun h => by have := h.2.1; rw [N2.out] at this; omega)
        subst hR
        go_wp2
        go_ret
        exact ⟨rfl, HMK.out.below⟩
    · have hkn' : decide ((k : Int) < (n2 : Int)) = false := by simp; omega
      have hkn : k = n2 := by omega
      subst hkn
      have e2 : (k : Int) ≤ 80 := by omega
      by_cases e3 : n1 ≤ 20
      · have e3' : (n1 : Int) ≤ 20 := by omega
        have hR : R = true := by
          rw [← HR.out]
          exact chk_true ⟨fun i s hi hs => HU.out i (by have := (List.getElem?_eq_some_iff.1 hs).1; rw [N2.out] at this; exact this) s hs, by rw [N2.out]; exact hk8, by rw [N1.out]; exact e3⟩
        subst hR
        go_wp2
        go_ret
        exact ⟨rfl, HMK.out.below⟩
      · have e3' : ¬ (n1 : Int) ≤ 20 := by omega
        have hR := NO.out (fun h => e3 (by have := h.2.2; rw [N1.out] at this; exact this))
        subst hR
        go_wp2
        go_ret
        exact ⟨rfl, HMK.out.below⟩

/-- Are leaves not too great? -/
def LightL (l : List LeafD) : Prop := l.length ≤ 8 ∧ ∀ d ∈ l, LightD d
noncomputable def lightL (l : List LeafD) : Bool := chk (LightL l)

set_option maxHeartbeats 4000000 in
set_option maxRecDepth 100000 in
theorem light15_any (A : Option Addr) (c : Nat) (l : List LeafD) (w : World) (h : LC w w.heap.size A l) (m : l.length ≤ maxLen) :
    Calls Tryz.prog 12 #[.slice A l.length c] w fun e w' => e = .returned (.bool (lightL l)) ∧ Below w.heap.size w w' := by
  obtain ⟨n, hn⟩ : ∃ n, l.length = n := ⟨_, rfl⟩
  unfold maxLen at m
  rw [hn] at m ⊢
  obtain ⟨R, hR⟩ : ∃ R, lightL l = R := ⟨_, rfl⟩
  rw [hR]
  have HR := Lib.hid hR
  have NO : Hid (¬ LightL l → R = false) := fun h => by rw [← hR]; exact chk_false h
  have H := Lib.hid h
  have N := Lib.hid hn
  clear h hn hR
  go_enter Tryz.func12, Tryz.ntmps12
  go_wp2
  go_loopw [3] (fun i wr => ∃ j : Nat, j ≤ n ∧ j ≤ 8 ∧ i = .int .i64 j ∧ (∀ d ∈ l.take j, LightD d) ∧ Below w.heap.size w wr) (fun i _ => n - (intOf i).toNat)
  case atStart => exact ⟨0, Nat.zero_le _, Nat.zero_le _, rfl, by simp, Below.refl _ _⟩
  case round =>
    obtain ⟨j, hj, hj8, rfl, hok, hb⟩ := hrel
    have HOK := Lib.hid hok
    have HB := Lib.hid hb
    clear hok hb
    by_cases hlt : j < n
    · have hlt' : decide ((j : Int) < (n : Int)) = true := by simp; omega
      by_cases h8 : j < 8
      · have h8' : decide ((j : Int) < 8) = true := by simp; omega
        obtain ⟨d, hd⟩ := get_at' N hlt
        obtain ⟨b, off, A1, k1, A2, k2, e, hbB, hc0, hc1, hz, hsc, m1, m2, q1, q2, _, _⟩ := (H.out.below HB.out).at_ hd
        subst e
        have ck := light08_any d A1 A2 k1 k2 wr (hsc.more HB.out.size) m1 m2
        obtain ⟨n1, hn1⟩ : ∃ n1, d.itl.length = n1 := ⟨_, rfl⟩
        obtain ⟨n2, hn2⟩ : ∃ n2, d.slots.length = n2 := ⟨_, rfl⟩
        unfold LeafD.cells at ck
        rw [hn1, hn2] at ck
        rw [hn1] at hc0
        rw [hn2] at hc1
        have HD := Lib.hid hd
        cases ho : lightD d with
        | false =>
          rw [ho] at ck
          have CK := Lib.hid ck
          have hR := NO.out (fun h => by rw [show lightD d = true from chk_true (h.2 d (List.mem_of_getElem? hd))] at ho; cases ho)
          subst hR
          clear ck ho hz hsc hd hn1 hn2 m1 m2 q1 q2
          go_wp2_with (go_at_call 41; (with_reducible refine CK.out.mono ?_); rintro e w1 ⟨rfl, hb1⟩)
          go_ret
          exact ⟨rfl, HB.out.trans (hb1.mono HB.out.size)⟩
        | true =>
          rw [ho] at ck
          have CK := Lib.hid ck
          have HO : Hid (LightD d) := chk_iff.1 ho
          clear ck ho hz hsc hd hn1 hn2 m1 m2 q1 q2
          go_wp2_with (go_at_call 41; (with_reducible refine CK.out.mono ?_); rintro e w1 ⟨rfl, hb1⟩; have HB1 := Lib.hid (HB.out.trans (hb1.mono HB.out.size)); clear hb1)
          exact ⟨⟨j + 1, by omega, by omega, by go_num, by rw [take_at' HD.out]; intro x hx; rcases List.mem_append.1 hx with hx | hx; exact HOK.out x hx; rw [List.mem_singleton.1 hx]; exact HO.out, HB1.out⟩, by simp [intOf]; omega⟩
      · have h8' : decide ((j : Int) < 8) = false := by simp; omega
        have e2 : ¬ (n : Int) ≤ 8 := by omega
        have hR := NO.out (fun h => by have := h.1; rw [N.out] at this; omega)
        subst hR
        go_wp2
        go_ret
        exact ⟨rfl, HB.out⟩
    · have hlt' : decide ((j : Int) < (n : Int)) = false := by simp; omega
      have hjn : j = n := by omega
      subst hjn
      have e2 : (j : Int) ≤ 8 := by omega
      have hR : R = true := by
        rw [← HR.out]
        have := HOK.out
        rw [List.take_of_length_le (by rw [N.out]; omega)] at this
        exact chk_true ⟨by rw [N.out]; exact hj8, this⟩
      subst hR
      go_wp2
      go_ret
      exact ⟨rfl, HB.out⟩
end Go.Proofs.YtdbnlngkmfmnnaaGreatDoor

/- Rows appended to rows; ranges one behind the other: plain. -/
namespace Go.Proofs.YtdbnlngkmfmnnaaGreatDoor
open Go.RowKit

theorem run_append_rows {W : World} {base n m B : Nat} {v : Value} {acc L : List RowD} {A : Option Addr} {c : Nat} (ty : TypeId) (hown : Own W base v acc) (hlen : acc.length = n) (hbase : base ≤ W.heap.size) (hL : RC W B A L) (hLn : L.length = m) (hB : B ≤ base) (h1 : n ≤ 100000) (h2 : m ≤ 100000) :
    ∃ A' c' w', (Builtin.append_ #[22, 22] ty #[v, .slice A m c]).run Tryz.prog W = .ok (.slice A' (n + m) c') w' ∧ Own w' base (.slice A' (n + m) c') (acc ++ L) ∧ Below base W w' := by
  obtain ⟨i0, hi0, hz0, hz1, hz2⟩ := info_parts info30
  obtain ⟨Av, cv, ev, hAv, hcv, hlt⟩ := hown.form
  rcases Nat.eq_zero_or_pos m with hm | hm
  · subst hm
    have hL0 : L = [] := List.eq_nil_of_length_eq_zero hLn
    subst hL0
    refine ⟨Av, cv, W, ?_, ?_, Below.refl _ _⟩
    · rw [ev, hlen]
      refine run_append_nothing W 22 22 ty 30 i0 Tryz.underlying22 hi0 Av n cv (by rw [← hlen]; exact hcv) (.slice A 0 c) ⟨.inl ⟨_, Tryz.underlying22⟩, fun _ => rfl, ?_, ?_, by simp, by simp⟩
      · cases A with
        | none => rfl
        | some ad => exact run_firstCells_some W _ 0 ad 0 c [] (by simp) (by simp)
      · cases A with
        | none => rfl
        | some ad => exact run_firstCells_some W.drew _ 0 ad 0 c [] (by simp) (by simp)
    · rw [List.append_nil, Nat.add_zero, ← hlen, ← ev]; exact hown
  · obtain ⟨news, hrx, hcells⟩ := RX.of_RC hL (Nat.le_trans hB hbase) (o := v.ownBlock) (fun g hg => Nat.le_trans hB (hlt g hg).1)
    obtain ⟨b, off, eA, hbB, _⟩ := hL.2 (by omega)
    obtain ⟨xs, h3, hrx3⟩ := hown
    rw [hlen] at h3
    obtain ⟨g, cap, w', hr, h4, h5, h6, h7⟩ := run_append_lies (P := Tryz.prog) W 22 ty base 30 i0 zeroRow 6 64 Tryz.underlying22 hi0 hz0 hz1 hz2 rfl (by decide) v n xs h3 ⟨b, off, none⟩ m c news (by rw [hrx.len, hLn]) (hcells _ eA) hrx.oneCell hm (by unfold maxLen; omega) (by omega) hbase _ rfl
    refine ⟨some ⟨g, 0, none⟩, cap, w', by rw [eA]; exact hr, ?_, ?_⟩
    · refine own_more (by rw [List.length_append, hlen, hLn]; exact h4) (hrx3.append hrx) h5 ?_
      rcases h6 with h6 | h6
      · exact .inl (by rw [h6]; rfl)
      · exact .inr (by rw [h6]; rfl)
    · exact (Below.refl _ _).grown h5 hbase fun g hg => (hlt g hg).1

theorem wpList_append_rows {ops : Array Oper} {rest : List Oper} {o : Oper} {a : Act} {Q : Exit → Act → World → Prop} (hgd : o.guard = none) (s x : Operand)
    (ho : o.op = .call { callee := .builtin .append, args := #[s, x], argTypes := #[22, 22] })
    {W : World} {base n m B : Nat} {v : Value} {acc L : List RowD} {A : Option Addr} {c : Nat} (hown : Own W base v acc) (hlen : acc.length = n) (hbase : base ≤ W.heap.size) (hs : a.eval s = v) (hx : a.eval x = .slice A m c) (hL : RC W B A L) (hLn : L.length = m) (hB : B ≤ base) (h1 : n ≤ 100000) (h2 : m ≤ 100000)
    (h : ∀ A' c' w', Own w' base (.slice A' (n + m) c') (acc ++ L) → Below base W w' → wpList Tryz.prog ops Q rest (a.put o.dst (.slice A' (n + m) c')) w') :
    wpList Tryz.prog ops Q (o :: rest) a W := by
  obtain ⟨A', c', w', hr, h3, h4⟩ := run_append_rows (c := c) o.type hown hlen hbase hL hLn hB h1 h2
  refine wpList_plain hgd fun K hK => ?_
  unfold Oper.wp execOp
  simp only [ho, resolve, invoke, builtin, Sem.run_bind, Sem.run_pure, Result.andThen_ok, List.map_toArray, List.map_cons, List.map_nil, hs, hx, hr]
  exact hK _ _ (h A' c' w' h3 h4)

theorem strict_eq : ∀ {L M : List RowD}, L.Perm M → L.Pairwise (fun a b => a.rank < b.rank) → M.Pairwise (fun a b => a.rank < b.rank) → L = M := by
  intro L M hp h1 h2
  have k1 : L.Pairwise (fun a b => a = b ∨ a.rank < b.rank) := h1.imp .inr
  have k2 : M.Pairwise (fun a b => a = b ∨ a.rank < b.rank) := h2.imp .inr
  refine hp.eq_of_pairwise ?_ k1 k2
  intro a b _ _ ha hb
  rcases ha with ha | ha
  · exact ha
  · rcases hb with hb | hb
    · exact hb.symm
    · omega

theorem RowsAre.one {l : List LeafD} {lo hi : Nat} {L : List RowD} (h : RowsAre l lo hi L) : L.Pairwise fun a b => a.rank < b.rank := by
  by_cases hok : OkHeap l
  · exact (h.1 hok).2
  · rw [h.2 hok]; exact List.Pairwise.nil
theorem RowsAre.len {l : List LeafD} {lo hi : Nat} {L : List RowD} (h : RowsAre l lo hi L) : L.length ≤ 5000 := by
  by_cases hok : OkHeap l
  · rw [(h.1 hok).1.length_eq]
    have h1 := rowsL_le fun d hd => (hok.2.2.1 d hd).1.2.1
    have h2 := List.length_filter_le (fun d : RowD => betw d.key lo hi) (rowsL l)
    have := hok.2.1
    omega
  · rw [h.2 hok]; simp

theorem filter_split {α : Type} (p q r : α → Bool) : ∀ (l : List α), (∀ x ∈ l, r x = (p x || q x)) → (∀ x ∈ l, p x = true → q x = false) → (l.filter p ++ l.filter q).Perm (l.filter r)
  | [], _, _ => List.Perm.nil
  | x :: l, h1, h2 => by
    have ih := filter_split p q r l (fun y hy => h1 y (List.mem_cons_of_mem _ hy)) (fun y hy => h2 y (List.mem_cons_of_mem _ hy))
    have e1 := h1 x List.mem_cons_self
    have e2 := h2 x List.mem_cons_self
    cases hp : p x with
    | true =>
      rw [List.filter_cons_of_pos hp, List.filter_cons_of_neg (by rw [e2 hp]; decide), List.filter_cons_of_pos (by rw [e1, hp]; rfl), List.cons_append]
      exact ih.cons x
    | false =>
      cases hq : q x with
      | true =>
        rw [List.filter_cons_of_neg (by rw [hp]; decide), List.filter_cons_of_pos hq, List.filter_cons_of_pos (by rw [e1, hp, hq]; rfl)]
        exact List.perm_middle.trans (ih.cons x)
      | false =>
        rw [List.filter_cons_of_neg (by rw [hp]; decide), List.filter_cons_of_neg (by rw [hq]; decide), List.filter_cons_of_neg (by rw [e1, hp, hq]; decide)]
        exact ih

theorem mem_range {l : List LeafD} {lo hi : Nat} {L : List RowD} (hok : OkHeap l) (h : RowsAre l lo hi L) {d : RowD} (hd : d ∈ L) : rankN lo ≤ d.rank ∧ d.rank < rankN hi := by
  have := (h.1 hok).1.mem_iff.1 hd
  have := (List.mem_filter.1 this).2
  unfold betw at this
  unfold RowD.rank
  simpa using this

/-- Ranges one behind the other. -/
theorem rows_join {l : List LeafD} {x0 x1 x2 : Nat} {L1 L2 L3 : List RowD} (h1 : RowsAre l x0 x1 L1) (h2 : RowsAre l x1 x2 L2) (h3 : RowsAre l x0 x2 L3) (hx : rankN x0 ≤ rankN x1) (hy : rankN x1 ≤ rankN x2) : L1 ++ L2 = L3 := by
  by_cases hok : OkHeap l
  · refine strict_eq ?_ (List.pairwise_append.2 ⟨h1.one, h2.one, fun a ha b hb => ?_⟩) h3.one
    · refine (((h1.1 hok).1.append (h2.1 hok).1).trans ?_).trans (h3.1 hok).1.symm
      refine filter_split _ _ _ _ (fun d _ => ?_) (fun d _ hp => ?_)
      · unfold betw
        rw [Bool.eq_iff_iff]
        simp only [Bool.and_eq_true, Bool.or_eq_true, decide_eq_true_eq]
        omega
      · unfold betw at hp ⊢
        simp only [Bool.and_eq_true, decide_eq_true_eq] at hp
        rw [decide_eq_false (by omega)]
        rfl
    · have := (mem_range hok h1 ha).2
      have := (mem_range hok h2 hb).1
      omega
  · rw [h1.2 hok, h2.2 hok, h3.2 hok]; rfl
end Go.Proofs.YtdbnlngkmfmnnaaGreatDoor

/- The small question that a refusal meets: it is answered yes. -/
namespace Go.Proofs.YtdbnlngkmfmnnaaGreatDoor
open Go.Pm
noncomputable section

noncomputable def bT : Tbl := tblOf 8 Tryz.prog.types.toList Tryz.prog.funcs.toList
noncomputable def bExt : FuncId → List Value → Option Value := fun f l => bif Nat.beq f 32 then (match l with | [.float .f64 b] => some (.int .u64 (.ofNat b)) | _ => none) else bif Nat.beq f 44 then (match l with | [.int .u64 (.ofNat b)] => some (.float .f64 b) | _ => none) else none
noncomputable def bIdle : FuncId → Bool := fun f => Nat.beq f 139
noncomputable def bK : Cfg := ⟨bT, Tryz.prog, bExt, fun _ _ _ => none, fun _ => 2, fun _ _ => true, 100000, bIdle, fun _ => none⟩
/-- Does it say yes? -/
noncomputable def yes : Option CRes → Bool
  | some (.s (.bool true), _, _) => true
  | _ => false

theorem bT_names : (Tryz.prog.funcs.toList.all fun fn => !(fn.name == "runtime.NumGoroutine")) = true := by kernel_rfl
theorem bT_mixed : Tryz.prog.follows .mixedOrders = true := by kernel_rfl

theorem bExt_ok : ExtOk Tryz.prog bExt := by
  intro f args v h w
  unfold bExt at h
  cases h1 : Nat.beq f 32 with
  | true =>
    rw [h1] at h
    have := Nat.eq_of_beq_eq_true h1
    subst this
    simp only [cond_true] at h
    split at h
    · cases h
      exact run_bits _ w
    · cases h
  | false =>
    rw [h1] at h
    simp only [cond_false] at h
    cases h2 : Nat.beq f 44 with
    | true =>
      rw [h2] at h
      have := Nat.eq_of_beq_eq_true h2
      subst this
      simp only [cond_true] at h
      split at h
      · cases h
        exact run_frombits _ w
      · cases h
    | false => rw [h2] at h; cases h

theorem f139_at : Tryz.prog.funcs[139]? = some Tryz.f139 := by kernel_rfl
theorem f139_n : (Tryz.f139.name == "runtime.NumGoroutine") = false := by kernel_rfl
noncomputable def c139 : Code := match Tryz.f139.body with | some c => c | none => .skip
theorem f139_b : Tryz.f139.body = some c139 := by kernel_rfl

theorem opsS_val {F : Fence} {n : Nat} {P : Program} {ops : Array Oper} {Q : Exit → Act → List Frame → World → Prop} {i : Nat} {rest : List Nat} {a : Act} {cs : List Frame} {w w' : World} {d : Option Tmp} {op : Op} {ty : TypeId} {p : String} {af : Array Edge} {v : Value}
    (ho : ops[i]? = some ⟨d, op, ty, p, af, none⟩) (hF : ∀ f, F.fn f) (hr : (execOp a.eval ⟨d, op, ty, p, af, none⟩).run P w = .ok (.value v) w') (h : wpOpsSIn F n P ops Q rest (a.put d v) cs w') : wpOpsSIn F n P ops Q (i :: rest) a cs w := by
  unfold wpOpsSIn
  simp only [ho]
  refine ⟨fun f _ => hF f, ?_⟩
  have : Region.wanted (⟨d, op, ty, p, af, none⟩ : Oper) (yielded ops a.tmps) = true := rfl
  rw [if_pos this, hr]
  exact h
theorem opsS_skip {F : Fence} {n : Nat} {P : Program} {ops : Array Oper} {Q : Exit → Act → List Frame → World → Prop} {i : Nat} {rest : List Nat} {a : Act} {cs : List Frame} {w w' : World} {d : Option Tmp} {op : Op} {ty : TypeId} {p : String} {af : Array Edge}
    (ho : ops[i]? = some ⟨d, op, ty, p, af, none⟩) (hF : ∀ f, F.fn f) (hr : (execOp a.eval ⟨d, op, ty, p, af, none⟩).run P w = .ok .skip w') (h : wpOpsSIn F n P ops Q rest (a.put d undef) cs w') : wpOpsSIn F n P ops Q (i :: rest) a cs w := by
  unfold wpOpsSIn
  simp only [ho]
  refine ⟨fun f _ => hF f, ?_⟩
  have : Region.wanted (⟨d, op, ty, p, af, none⟩ : Oper) (yielded ops a.tmps) = true := rfl
  rw [if_pos this, hr]
  exact h
theorem opsS_rec {F : Fence} {n : Nat} {P : Program} {ops : Array Oper} {Q : Exit → Act → List Frame → World → Prop} {i : Nat} {rest : List Nat} {a : Act} {cs : List Frame} {w w' : World} {d : Option Tmp} {op : Op} {ty : TypeId} {p : String} {af : Array Edge}
    (ho : ops[i]? = some ⟨d, op, ty, p, af, none⟩) (hF : ∀ f, F.fn f) (hr : (execOp a.eval ⟨d, op, ty, p, af, none⟩).run P w = .ok .recover w') (hc : recoverD cs = none) (h : wpOpsSIn F n P ops Q rest (a.put d .nilIface) cs w') : wpOpsSIn F n P ops Q (i :: rest) a cs w := by
  unfold wpOpsSIn
  simp only [ho]
  refine ⟨fun f _ => hF f, ?_⟩
  have : Region.wanted (⟨d, op, ty, p, af, none⟩ : Oper) (yielded ops a.tmps) = true := rfl
  rw [if_pos this, hr]
  simp only [hc]
  exact h

theorem idle_ok : IdleOk Tryz.prog bIdle := by
  intro g hg cap w
  have hg' : g = 139 := Nat.eq_of_beq_eq_true hg
  subst hg'
  have hn : ¬ Tryz.f139.name = "runtime.NumGoroutine" := by have := f139_n; simpa using this
  refine ⟨?_, ?_⟩
  · have : (callFunc 139 cap).run Tryz.prog w = .ok (.enter 139 cap) w := by simp [callFunc, f139_at, hn, f139_b]
    simp [invoke, this]
  refine callsDIn_of_wpSIn f139_at f139_b trivial ?_
  intro c0 cs hm
  generalize ha0 : ({ tmps := cap ++ Array.replicate (Tryz.f139.ntmps - cap.size) undef, defers := [] } : Act) = a0
  have hs0 : 11 ≤ a0.tmps.size := by
    have : Tryz.f139.ntmps = 11 := by kernel_rfl
    rw [← ha0, this]; simp; omega
  have hd0 : a0.defers = [] := by rw [← ha0]
  unfold c139
  show Code.wpSIn _ _ _ (Code.seq _ _) _ _ _ _
  refine wpSIn_seq ?_
  refine wpSIn_region ?_
  show wpOpsSIn _ _ _ _ _ [0, 1, 2, 3, 4, 5, 6, 7] _ _ _
  have ev : ∀ (a : Act) (d : Nat) (v : Value), d < a.tmps.size → (a.put (some d) v).eval (.tmp d) = v := fun a d v h => by
    simp only [Act.eval]
    rw [put_get, if_pos ⟨rfl, h⟩]
  have ev2 : ∀ (a : Act) (d t : Nat) (v : Value), d ≠ t → (a.put (some d) v).eval (.tmp t) = a.eval (.tmp t) := fun a d t v h => by
    simp only [Act.eval]
    rw [put_get, if_neg (fun x => h (by injection x.1))]
  have sz : ∀ (a : Act) (d : Option Tmp) (v : Value), (a.put d v).tmps.size = a.tmps.size := fun a d v => (put_size a d v).1
  refine opsS_rec rfl (fun _ => trivial) rfl (by simp [recoverD, hm]) ?_
  generalize h1 : a0.put (some 6) Value.nilIface = a1
  have e1 : a1.eval (.tmp 6) = .nilIface := by rw [← h1]; exact ev _ _ _ (by omega)
  have s1 : 11 ≤ a1.tmps.size := by rw [← h1, sz]; exact hs0
  refine opsS_val rfl (fun _ => trivial) (v := .tuple #[.agg #[.int .i64 0], .bool false]) (w' := w) ?_ ?_
  · simp only [execOp]
    rw [e1]
    kernel_rfl
  generalize h2 : a1.put (some 7) (.tuple #[.agg #[.int .i64 0], .bool false]) = a2
  have e2 : a2.eval (.tmp 7) = .tuple #[.agg #[.int .i64 0], .bool false] := by rw [← h2]; exact ev _ _ _ (by omega)
  have s2 : 11 ≤ a2.tmps.size := by rw [← h2, sz]; exact s1
  refine opsS_val rfl (fun _ => trivial) (v := .tuple #[.agg #[.int .i64 0], .bool false]) (w' := w) ?_ ?_
  · simp only [execOp]
    rw [e2]
    rfl
  generalize h3 : a2.put (some 5) (.tuple #[.agg #[.int .i64 0], .bool false]) = a3
  have e3 : a3.eval (.tmp 5) = .tuple #[.agg #[.int .i64 0], .bool false] := by rw [← h3]; exact ev _ _ _ (by omega)
  have s3 : 11 ≤ a3.tmps.size := by rw [← h3, sz]; exact s2
  refine opsS_val rfl (fun _ => trivial) (v := .agg #[.int .i64 0]) (w' := w) ?_ ?_
  · simp only [execOp]
    rw [e3]
    kernel_rfl
  generalize h4 : a3.put (some 8) (.agg #[.int .i64 0]) = a4
  have e4 : a4.eval (.tmp 8) = .agg #[.int .i64 0] := by rw [← h4]; exact ev _ _ _ (by omega)
  have e4' : a4.eval (.tmp 5) = .tuple #[.agg #[.int .i64 0], .bool false] := by rw [← h4, ev2 _ _ _ _ (by omega)]; exact e3
  have s4 : 11 ≤ a4.tmps.size := by rw [← h4, sz]; exact s3
  refine opsS_val rfl (fun _ => trivial) (v := .bool false) (w' := w) ?_ ?_
  · simp only [execOp]
    rw [e4']
    kernel_rfl
  generalize h5 : a4.put (some 9) (.bool false) = a5
  have e5 : a5.eval (.tmp 9) = .bool false := by rw [← h5]; exact ev _ _ _ (by omega)
  have e5' : a5.eval (.tmp 8) = .agg #[.int .i64 0] := by rw [← h5, ev2 _ _ _ _ (by omega)]; exact e4
  have s5 : 11 ≤ a5.tmps.size := by rw [← h5, sz]; exact s4
  refine opsS_val rfl (fun _ => trivial) (v := .pointer (some ⟨w.heap.size, 0, none⟩)) (w' := pushed w #[.int .i64 0] 162) ?_ ?_
  · simp only [execOp]
    kernel_rfl
  generalize h6 : a5.put (some 3) (.pointer (some ⟨w.heap.size, 0, none⟩)) = a6
  have e6 : a6.eval (.tmp 3) = .pointer (some ⟨w.heap.size, 0, none⟩) := by rw [← h6]; exact ev _ _ _ (by omega)
  have e6' : a6.eval (.tmp 8) = .agg #[.int .i64 0] := by rw [← h6, ev2 _ _ _ _ (by omega)]; exact e5'
  have e6'' : a6.eval (.tmp 9) = .bool false := by rw [← h6, ev2 _ _ _ _ (by omega)]; exact e5
  have s6 : 11 ≤ a6.tmps.size := by rw [← h6, sz]; exact s5
  have hp : (pushed w #[.int .i64 0] 162).heap[w.heap.size]? = some (.cells #[.int .i64 0] 162 (0, 0)) := by
    show (w.heap.push _)[w.heap.size]? = _
    rw [Array.getElem?_push, if_pos rfl]
  obtain ⟨w2, cs2, r1, r4, r6, r2, r3⟩ := storeCells_run (P := Tryz.prog) (o := 0) hp (vs := [.int .i64 0]) (by simp) (by simp [Value.oneCell'])
  have hsz : (sizeOf 162).run Tryz.prog (pushed w #[.int .i64 0] 162) = .ok 1 (pushed w #[.int .i64 0] 162) := by kernel_rfl
  refine opsS_skip rfl (fun _ => trivial) (w' := w2) ?_ ?_
  · simp only [execOp]
    rw [e6, e6']
    simp [Instr.storeAt, Instr.sureAddr, storeVar, hsz, Value.cells, r1]
  generalize h7 : a6.put none undef = a7
  have e7 : a7.eval (.tmp 9) = .bool false := by rw [← h7]; simp only [Act.eval]; rw [put_get, if_neg (fun x => by cases x.1)]; exact e6''
  have s7 : 11 ≤ a7.tmps.size := by rw [← h7, sz]; exact s6
  refine opsS_val rfl (fun _ => trivial) (v := .bool false) (w' := w2) ?_ ?_
  · simp only [execOp]
    rw [e7]
    rfl
  generalize h8 : a7.put (some 4) (.bool false) = a8
  have e8 : a8.eval (.tmp 4) = .bool false := by rw [← h8]; exact ev _ _ _ (by omega)
  have s8 : 11 ≤ a8.tmps.size := by rw [← h8, sz]; exact s7
  show Code.wpSIn _ _ _ (Code.seq _ _) _ _ _ _
  refine wpSIn_seq ?_
  refine wpSIn_region ?_
  show wpOpsSIn _ _ _ _ _ [0] _ _ _
  refine opsS_val rfl (fun _ => trivial) (v := .bool false) (w' := w2) ?_ ?_
  · simp only [execOp]
    rw [e8]
    rfl
  generalize h9 : a8.put (some 10) (.bool false) = a9
  have e9 : a9.eval (.tmp 10) = .bool false := by rw [← h9]; exact ev _ _ _ (by omega)
  show Code.wpSIn _ _ _ (Code.cond _ _ _) _ _ _ _
  refine wpSIn_cond e9 ?_
  have hgr : Grown w w2 := by
    refine ⟨r2.os, r2.tape, r2.output, Nat.le_trans (by simp [pushed]) r2.size, fun b hb => ?_⟩
    rw [r3 b (by omega)]
    show (w.heap.push _)[b]? = _
    rw [Array.getElem?_push, if_neg (by omega)]
  have hdef : a9.defers = [] := by
    rw [← h9, ← h8, ← h7, ← h6, ← h5, ← h4, ← h3, ← h2, ← h1]
    simp [Act.put, hd0]
  show Code.wpSIn _ _ _ Code.skip _ _ _ _
  refine wpSIn_of_wpIn rfl (wpIn_skip ?_)
  refine ⟨hdef, .returning, ?_, .tuple #[], ?_, ⟨_, rfl⟩, rfl, hgr⟩
  · rw [← hm]
  · have : Tryz.f139.results = #[] := by kernel_rfl
    simp [results, this]

theorem bK_ok : bK.Ok where
  T := tblOf_ok 8 bT_mixed
  names f fn h := by
    have h1 : Tryz.prog.funcs[f]? = some fn := (tblOf_ok 8 bT_mixed).func f fn h
    have h2 := List.all_eq_true.1 bT_names fn (by rw [Array.mem_toList_iff]; exact Array.mem_of_getElem? h1)
    simpa using h2
  ext := bExt_ok
  orc := fun f args gl r rb gl' h => by cases h
  idle := idle_ok
  chunk := fun g sT iT h => by cases h

theorem awake_yes : yes (pcall 60 bK false 11 [] GL.nil) = true := by kernel_rfl

/-- Nothing of one's own. -/
noncomputable def noEnv (w : World) : Env := ⟨w, ⟨[], GL.nil⟩, fun _ => (0, 0), fun _ => 0, fun _ => False, fun _ => False⟩

theorem nil_get (x : Nat) : (GL.nil)[x]? = none := by
  exact GL.nil_get x

theorem noEnv_ent (w : World) (r : BRef) : (noEnv w).bs.ent r = none := by
  cases r with
  | loc t k => rfl
  | glob x =>
    show ((GL.nil)[x]?).map (fun b => (0, b.blk?)) = none
    rw [nil_get]; rfl
theorem noEnv_map (w : World) (x : Nat) : (noEnv w).bs.mapAt x = none := by
  show ((GL.nil)[x]?).bind GE.map? = none
  rw [nil_get]; rfl
theorem noEnv_rel (w : World) : Rel (noEnv w) where
  len r g b h := by rw [noEnv_ent] at h; cases h
  phys r g b h := by rw [noEnv_ent] at h; cases h
  own r g b h := by rw [noEnv_ent] at h; cases h
  inj r r' g g' b b' h := by rw [noEnv_ent] at h; cases h
  lt k h := h.elim
  llt k h := h.elim
  apart k h := h.elim
  gl r g b h := by rw [noEnv_ent] at h; cases h
  mps x l h := by rw [noEnv_map] at h; cases h
  minj x y h := by rw [noEnv_map] at h; cases h

theorem awake_any (w : World) : Calls Tryz.prog 11 #[] w fun e w' => e = .returned (.bool true) ∧ Go.RowKit.Below w.heap.size w w' := by
  have h := awake_yes
  unfold yes at h
  split at h
  · rename_i rb gl' he
    refine (pcall_ok 60 false bK_ok 11 [] GL.nil _ rb gl' he (noEnv w) [] rfl (noEnv_rel w) VRl_nil).mono ?_
    rintro e w' ⟨E', v, rfl, rfl, _, hv, hx, _, _⟩
    refine ⟨?_, ⟨hx.os, hx.tape, hx.output, hx.size, fun k hk => hx.keep k hk (fun h => h)⟩⟩
    have h1 : v = .bool true ∧ (Value.bool true).oneCell' = true := by simpa [VR] using hv
    rw [h1.1]
  · cases h
end
end Go.Proofs.YtdbnlngkmfmnnaaGreatDoor
