/- HeapSorts: the walk. -/
import Derived.Test.YtdbnlngkmfmnnaaGreatDoorH17
import Derived.Test.YtdbnlngkmfmnnaaGreatDoorH15
import Derived.Deep.Slices
import Derived.OpenShut
namespace Go.Proofs.YtdbnlngkmfmnnaaGreatDoor
open Go.RowKit

theorem MB.three {w W : World} {v0 v1 v2 : Value} {t : TypeId} (h : MB w (.cells #[v0, v1, v2] t (0, 0)) W) : W.cell? ⟨w.heap.size, 0, none⟩ = some v0 ∧ W.cell? ⟨w.heap.size, 1, none⟩ = some v1 ∧ W.cell? ⟨w.heap.size, 2, none⟩ = some v2 := by
  refine ⟨?_, ?_, ?_⟩
  · rw [cell_of_row _ _ 0 _ _ _ h.box]; rfl
  · rw [cell_of_row _ _ 1 _ _ _ h.box]; rfl
  · rw [cell_of_row _ _ 2 _ _ _ h.box]; rfl

theorem rows_out {w W : World} {A : Option Addr} {c lo hi n : Nat} {l : List LeafD} (hb : Below w.heap.size w W) (h : LC w w.heap.size A l) (hn : l.length = n) (m : n ≤ 90) (bl : lo < 18446744073709551616) (bh : hi < 18446744073709551616) :
    Calls Tryz.prog 15 #[.slice A n c, .float .f64 lo, .float .f64 hi] W fun e w' => ∃ (A1 : Option Addr) (n1 c1 : Nat), e = .returned (.slice A1 n1 c1) ∧ Below W.heap.size W w' ∧ Hid (∃ L, RowsAre l lo hi L ∧ L.length = n1 ∧ RC w' w'.heap.size A1 L) := by
  subst hn
  refine (rows_any A c lo hi l W ((h.below hb).more hb.size) (by unfold maxLen; omega) bl bh).mono fun e w' hh => ?_
  obtain ⟨h1, L, h2, A1, c1, h3, h4, _⟩ := hh
  exact ⟨A1, L.length, c1, h3, h1, L, h2, rfl, h4⟩

theorem own_empty (W : World) : Own (W.alloc (.cells #[] 30)) W.heap.size (.slice (some ⟨W.heap.size, 0, none⟩) 0 0) [] :=
  ⟨[], World.ownsRow_lit (base := W.heap.size) (e := 30) (size := 6) W #[] 0 (Nat.le_refl _) (by unfold maxLen; omega) rfl, rfl⟩
theorem sorts_end {w8 : World} {base n1 n2 n3 c8 c5 : Nat} {A8 A5 : Option Addr} {L1 L2 L3 : List RowD} (h : Own w8 base (.slice A8 (n1 + n2) c8) (L1 ++ L2)) (h3 : RC w8 w8.heap.size A5 L3) (he : L1 ++ L2 = L3) (hn1 : L1.length = n1) (hn2 : L2.length = n2) (hn : L3.length = n3) (m : n3 ≤ 5000) :
    Calls Tryz.prog 16 #[.slice A8 (n1 + n2) c8, .slice A5 n3 c5] w8 fun e w' => e = .returned (.bool true) ∧ Below w8.heap.size w8 w' := by
  obtain ⟨A, c, e, hrc, _⟩ := h.reads (by rw [he]; exact h3.1)
  have hl : (L1 ++ L2).length = n1 + n2 := by rw [List.length_append, hn1, hn2]
  rw [hl] at e
  injection e with e1 _ e2
  subst e1 e2
  have := rrows_any A8 A5 c8 c5 (L1 ++ L2) L3 w8 hrc h3 (by rw [he, hn]; unfold maxLen; omega) (by rw [hn]; unfold maxLen; omega)
  rw [hl, hn, decide_eq_true he] at this
  exact this

set_option maxHeartbeats 4000000 in
set_option maxRecDepth 100000 in
theorem sorts_any (A : Option Addr) (c x0 x1 x2 : Nat) (l : List LeafD) (w : World) (h : LC w w.heap.size A l) (m : l.length ≤ maxLen) (b0 : x0 < 18446744073709551616) (b1 : x1 < 18446744073709551616) (b2 : x2 < 18446744073709551616) :
    Calls Tryz.prog 4 #[.slice A l.length c, .agg #[.float .f64 x0, .float .f64 x1, .float .f64 x2]] w fun e w' => e = .returned (.bool true) ∧ Below w.heap.size w w' := by
  obtain ⟨n, hn⟩ : ∃ n, l.length = n := ⟨_, rfl⟩
  have hb0 : Below w.heap.size w (w.alloc (.cells #[.float .f64 x0, .float .f64 x1, .float .f64 x2] 39)) := (Below.refl _ _).alloc (Nat.le_refl _) _
  have cl := light15_any A c l (w.alloc (.cells #[.float .f64 x0, .float .f64 x1, .float .f64 x2] 39)) ((h.below hb0).more hb0.size) m
  rw [hn] at cl m ⊢
  have HB0 := Lib.hid hb0
  cases hl : lightL l with
  | false =>
    rw [hl] at cl
    have CL := Lib.hid cl
    clear cl hl h hn hb0 b0 b1 b2
    go_enter Tryz.func4, Tryz.ntmps4
    go_wp2_with (first
      | (go_at_call 12; (with_reducible refine CL.out.mono ?_); rintro e w1 ⟨rfl, hb1⟩)
      | (go_at_call 11; (with_reducible refine (awake_any _).mono ?_); rintro e w2 ⟨rfl, hb2⟩))
    go_ret
    exact ⟨rfl, HB0.out.trans ((hb1.trans (hb2.mono hb1.size)).mono HB0.out.size)⟩
  | true =>
    rw [hl] at cl
    have CL := Lib.hid cl
    have hll : LightL l := chk_iff.1 hl
    have h8 : n ≤ 8 := by rw [← hn]; exact hll.1
    have MB0 : Hid (MB w (.cells #[.float .f64 x0, .float .f64 x1, .float .f64 x2] 39 (0, 0)) (w.alloc (.cells #[.float .f64 x0, .float .f64 x1, .float .f64 x2] 39))) := ⟨hb0, heap_alloc_new _ _⟩
    have H := Lib.hid h
    have N := Lib.hid hn
    have CM := Lib.hid (fun W (hb : Below w.heap.size w W) => by
      have := rmay15_any A c l W ((h.below hb).more hb.size) (by omega)
      rw [hn] at this
      exact this)
    have CO := Lib.hid (fun (lo hi : Nat) (hlo : lo < 18446744073709551616) (hhi : hi < 18446744073709551616) W (hb : Below w.heap.size w W) => rows_out (c := c) hb h hn (by omega) hlo hhi)
    have LS1 := less_any x1 x0 b1 b0
    have LS2 := less_any x2 x1 b2 b1
    have HB_0 := Lib.hid b0
    have HB_1 := Lib.hid b1
    have HB_2 := Lib.hid b2
    rw [lessN_rank x1 x0 b1 b0] at LS1
    rw [lessN_rank x2 x1 b2 b1] at LS2
    clear cl hl h hn hb0 b0 b1 b2 hll
    cases ho : okHeapB l with
    | false =>
      rw [ho] at CM
      clear ho
      go_enter Tryz.func4, Tryz.ntmps4
      go_wp2_with (first
        | (go_at_call 12; (with_reducible refine CL.out.mono ?_); rintro e w1 ⟨rfl, hb1⟩; have M1 := Lib.hid (MB0.out.same hb1); clear hb1)
        | (go_at_call 13; (with_reducible refine (CM.out _ M1.out.below).mono ?_); rintro e w2 ⟨rfl, hb2⟩; have M2 := Lib.hid (M1.out.same hb2); clear hb2)
        | (go_at_call 11; (with_reducible refine (awake_any _).mono ?_); rintro e w3 ⟨rfl, hb3⟩; have M3 := Lib.hid (M2.out.same hb3); clear hb3))
      go_ret
      exact ⟨rfl, M3.out.below⟩
    | true =>
      rw [ho] at CM
      clear ho
      by_cases c1 : rankN x1 < rankN x0
      · rw [decide_eq_true c1] at LS1
        clear c1 LS2
        go_enter Tryz.func4, Tryz.ntmps4
        go_wp2_with (first
          | (go_at_call 12; (with_reducible refine CL.out.mono ?_); rintro e w1 ⟨rfl, hb1⟩; have M1 := Lib.hid (MB0.out.same hb1); clear hb1)
          | (go_at_call 13; (with_reducible refine (CM.out _ M1.out.below).mono ?_); rintro e w2 ⟨rfl, hb2⟩; have M2 := Lib.hid (M1.out.same hb2); obtain ⟨q0, q1, q2⟩ := M2.out.three; clear hb2)
          | (go_at_call 14; (with_reducible refine (LS1 _).mono ?_); rintro e w' ⟨rfl, rfl⟩)
          | (go_at_call 11; (with_reducible refine (awake_any _).mono ?_); rintro e w3 ⟨rfl, hb3⟩; have M3 := Lib.hid (M2.out.same hb3); clear hb3))
        go_ret
        exact ⟨rfl, M3.out.below⟩
      · have C1 := Lib.hid c1
        rw [decide_eq_false c1] at LS1
        clear c1
        by_cases c2 : rankN x2 < rankN x1
        · rw [decide_eq_true c2] at LS2
          clear c2
          go_enter Tryz.func4, Tryz.ntmps4
          go_wp2_with (first
            | (go_at_call 12; (with_reducible refine CL.out.mono ?_); rintro e w1 ⟨rfl, hb1⟩; have M1 := Lib.hid (MB0.out.same hb1); clear hb1)
            | (go_at_call 13; (with_reducible refine (CM.out _ M1.out.below).mono ?_); rintro e w2 ⟨rfl, hb2⟩; have M2 := Lib.hid (M1.out.same hb2); obtain ⟨q0, q1, q2⟩ := M2.out.three; clear hb2)
            | (go_at_call 14; (with_reducible refine (LS1 _).mono ?_); rintro e w' ⟨rfl, rfl⟩)
            | (go_at_call 14; (with_reducible refine (LS2 _).mono ?_); rintro e w' ⟨rfl, rfl⟩)
            | (go_at_call 11; (with_reducible refine (awake_any _).mono ?_); rintro e w3 ⟨rfl, hb3⟩; have M3 := Lib.hid (M2.out.same hb3); clear hb3))
          go_ret
          exact ⟨rfl, M3.out.below⟩
        · have C2 := Lib.hid c2
          rw [decide_eq_false c2] at LS2
          clear c2
          go_enter Tryz.func4, Tryz.ntmps4
          go_wp2_with (first
            | (go_at_call 12; (with_reducible refine CL.out.mono ?_); rintro e w1 ⟨rfl, hb1⟩; have M1 := Lib.hid (MB0.out.same hb1); clear hb1)
            | (go_at_call 13; (with_reducible refine (CM.out _ M1.out.below).mono ?_); rintro e w2 ⟨rfl, hb2⟩; have M2 := Lib.hid (M1.out.same hb2); obtain ⟨q0, q1, q2⟩ := M2.out.three; clear hb2)
            | (go_at_call 14; (with_reducible refine (LS1 _).mono ?_); rintro e w' ⟨rfl, rfl⟩)
            | (go_at_call 14; (with_reducible refine (LS2 _).mono ?_); rintro e w' ⟨rfl, rfl⟩))
          have hW := M2.out.drew
          have sS := hW.three
          go_region_held3 (fun w' => w'.cell? ⟨w.heap.size, 0, none⟩ = some (.float .f64 x0) ∧ w'.cell? ⟨w.heap.size, 1, none⟩ = some (.float .f64 x1) ∧ w'.cell? ⟨w.heap.size, 2, none⟩ = some (.float .f64 x2))
            (first | exact sS | go_keep)
            (first
              | (go_at_call 15; (with_reducible refine (CO.out x0 x1 HB_0.out HB_1.out _ hW.below).mono ?_); rintro e w3 ⟨A3, n3, c3, rfl, hb3, ha3⟩; have hW3 := hW.same hb3; clear sS hb3; have sS := hW3.three)
              | (go_at_call 15; (with_reducible refine (CO.out x1 x2 HB_1.out HB_2.out _ hW3.below).mono ?_); rintro e w4 ⟨A4, n4, c4, rfl, hb4, ha4⟩; have hW4 := hW3.same hb4; have HB34 := Lib.hid hb4; clear sS hb4; have sS := hW4.three))
          have M4 := Lib.hid hW4
          obtain ⟨q0, q1, q2⟩ := hW4.three
          have HA3 : Hid (∃ L, RowsAre l x0 x1 L ∧ L.length = n3 ∧ RC w4 w4.heap.size A3 L) := by
            obtain ⟨L, g1, g2, g3⟩ := ha3.out
            exact ⟨L, g1, g2, (g3.below HB34.out).more HB34.out.size⟩
          clear ha3 sS hW hW3 hW4
          go_wp2_with (go_at_call 15; (with_reducible refine (CO.out x0 x2 HB_0.out HB_2.out _ M4.out.below).mono ?_); rintro e w5 ⟨A5, n5, c5, rfl, hb5, ha5⟩; have HB5 := Lib.hid hb5; clear hb5)
          obtain ⟨L1, g1, g2, g3⟩ := HA3.out
          obtain ⟨L2, g4, g5, g6⟩ := ha4.out
          obtain ⟨L3, g7, g8, g9⟩ := ha5.out
          have HJ := Lib.hid (rows_join g1 g4 g7 (Nat.not_lt.1 C1.out) (Nat.not_lt.1 C2.out))
          have G2 := Lib.hid g2
          have G3 := Lib.hid ((g3.below HB5.out).more HB5.out.size)
          have G5 := Lib.hid g5
          have G6 := Lib.hid ((g6.below HB5.out).more HB5.out.size)
          have G8 := Lib.hid g8
          have G9 := Lib.hid g9
          have GS := Lib.hid g7.one
          have k3 : n3 ≤ 5000 := by rw [← g2]; exact g1.len
          have k4 : n4 ≤ 5000 := by rw [← g5]; exact g4.len
          have k5 : n5 ≤ 5000 := by rw [← g8]; exact g7.len
          have HBW := Lib.hid (M4.out.below.trans (HB5.out.mono M4.out.below.size))
          clear g1 g2 g3 g4 g5 g6 g7 g8 g9 q0 q1 q2 ha4 ha5
          go_loopw [8] (fun i wr => ∃ k : Nat, k ≤ n5 + 1 ∧ 1 ≤ k ∧ i = .int .i64 k ∧ Below w5.heap.size w5 wr) (fun i _ => n5 + 1 - (intOf i).toNat)
          case atStart => exact ⟨1, by omega, by omega, rfl, Below.refl _ _⟩
          case round =>
            obtain ⟨k, hk, hk1, rfl, hb⟩ := hrel
            have HB6 := Lib.hid hb
            clear hb
            by_cases hlt : k < n5
            · obtain ⟨d1, hd1⟩ := get_at' G8 (show k - 1 < n5 by omega)
              obtain ⟨d2, hd2⟩ := get_at' G8 hlt
              have hlt2 : d1.rank < d2.rank := by
                have hp := GS.out
                rw [List.pairwise_iff_getElem] at hp
                obtain ⟨i1, e1⟩ := List.getElem?_eq_some_iff.1 hd1
                obtain ⟨i2, e2⟩ := List.getElem?_eq_some_iff.1 hd2
                have := hp (k - 1) k i1 i2 (by omega)
                rwa [e1, e2] at this
              obtain ⟨b, off, _, _, e, _, _, _, _, hk1', _, a0, _⟩ := (G9.out.below HB6.out).at_ hd1
              obtain ⟨b', off', _, _, e', _, _, _, _, hk2', _, a1, _⟩ := (G9.out.below HB6.out).at_ hd2
              subst e
              injection e' with e'; injection e' with e1 e2
              subst e1 e2
              have LS := less_any d1.key d2.key hk1' hk2'
              rw [lessN_rank _ _ hk1' hk2'] at LS
              unfold RowD.rank at hlt2
              rw [decide_eq_true hlt2] at LS
              have f1 : ¬ (k : Int) - 1 < 0 := by omega
              have f2 : (0 : Int) ≤ (k : Int) - 1 := by omega
              have f3 : ((k : Int) - 1).toNat = k - 1 := by omega
              have f4 : (k : Int) - 1 < (n5 : Int) := by omega
              have f5 : (k : Int) < (n5 : Int) := by omega
              have f6 : k ≤ 5001 := by omega
              have f7 : k - 1 < n5 := by omega
              have f8 : IntKind.i64.wrap ((k : Int) - 1) = (k : Int) - 1 := by simp [IntKind.wrap, IntKind.bits, IntKind.signed]; omega
              clear hlt2 hd1 hd2
              go_wp2
              go_region_with (go_at_call 14; (with_reducible refine (LS _).mono ?_); rintro e w' ⟨rfl, rfl⟩)
              all_goals
                go_wp2
                exact ⟨⟨k + 1, by omega, by omega, by go_num, HB6.out.drew⟩, by simp [intOf]; omega⟩
            · have f5 : ¬ (k : Int) < (n5 : Int) := by omega
              have HE6 := Lib.hid (own_empty wr)
              have R1 := Lib.hid ((G3.out.below HB6.out).more HB6.out.size)
              have R2 := Lib.hid ((G6.out.below HB6.out).more HB6.out.size)
              have R3 := Lib.hid ((G9.out.below HB6.out).more HB6.out.size)
              have HB7 := Lib.hid ((Below.refl wr.heap.size wr).alloc (Nat.le_refl _) (.cells #[] 30))
              go_wp2_with (first
                | (at_builtin; (refine wpList_append_rows (n := 0) (c := c3) rfl (.tmp 69) (.tmp 70) rfl HE6.out rfl HB7.out.size (by simp [Act.eval, Act.put]) (by simp [Act.eval, Act.put]) (R1.out.below HB7.out) G2.out (Nat.le_refl _) (Nat.zero_le _) (by omega) ?_); rintro A7 c7 w7 ho7 hb7; have hp7 : Own w7 wr.heap.size (.slice A7 n3 c7) L1 := (by simpa using ho7); have HO7 := Lib.hid hp7; have HB8 := Lib.hid (HB7.out.trans hb7); clear ho7 hb7 hp7)
                | (at_builtin; (refine wpList_append_rows (c := c4) rfl (.tmp 71) (.tmp 72) rfl HO7.out G2.out HB8.out.size (by simp [Act.eval, Act.put]) (by simp [Act.eval, Act.put]) (R2.out.below HB8.out) G5.out (Nat.le_refl _) (by omega) (by omega) ?_); rintro A8 c8 w8 ho8 hb8; have HB9 := Lib.hid (HB8.out.trans hb8); have CE := Lib.hid (sorts_end (c5 := c5) ho8 ((R3.out.below HB9.out).more HB9.out.size) HJ.out G2.out G5.out G8.out k5); clear ho8 hb8)
                | (go_at_call 16; (with_reducible refine CE.out.mono ?_); rintro e w9 ⟨rfl, hb9⟩; have HB10 := Lib.hid (HB9.out.trans (hb9.mono HB9.out.size)); clear hb9)
                | (go_at_call 11; (with_reducible refine (awake_any _).mono ?_); rintro e w10 ⟨rfl, hb10⟩; have HB11 := Lib.hid (HB10.out.trans (hb10.mono HB10.out.size)); clear hb10))
              go_ret
              exact ⟨rfl, HBW.out.trans ((HB6.out.trans (HB11.out.mono HB6.out.size)).mono HBW.out.size)⟩
end Go.Proofs.YtdbnlngkmfmnnaaGreatDoor

/- The arguments opened: leaves, rows and numbers that are read, as cells. -/
namespace Go.Proofs.YtdbnlngkmfmnnaaGreatDoor
open Go.ChangeShapes Go.WideShapes Go.RowKit
set_option maxRecDepth 100000

section
variable {H : Type} {enc : TypeId × Value → H} {w : World} {base : Nat} {spare : Nat → Bool} {held : Bool}

theorem plain_add (b off i : Nat) : (⟨b, off, none⟩ : Addr).add i = ⟨b, off + i, none⟩ := by
  unfold Addr.add
  by_cases hi : i = 0
  · subst hi; simp
  · rw [if_neg hi]

theorem trod_float {t : TypeId} {k : FloatKind} {fuel : Nat} {cs : List Value} {x : DataW H × List MemPlace} (ht : Tryz.prog.underlying t = some (.float k)) (h : DataW.trod enc Tryz.prog w base spare held fuel t cs = some x) : ∃ b, cs = [.float k b] ∧ (Lit.float k b).wf = true := by
  cases fuel with
  | zero => simp [DataW.trod] at h
  | succ n =>
    unfold DataW.trod at h
    rw [ht] at h
    split at h <;> simp_all
theorem trod_key {fuel : Nat} {cs : List Value} {x : DataW H × List MemPlace} (h : DataW.trod enc Tryz.prog w base spare held fuel 25 cs = some x) : ∃ b, cs = [.float .f64 b] ∧ b < 18446744073709551616 := by
  obtain ⟨b, h1, h2⟩ := trod_float Tryz.underlying25 h
  refine ⟨b, h1, ?_⟩
  simpa [Lit.wf] using h2

theorem cell_in {a : Addr} {n i : Nat} {cs : List Value} {v : Value} (h : w.cells? base a n = some cs) (hv : cs[i]? = some v) : w.cell? (a.add i) = some v := by
  obtain ⟨_, h2, h3⟩ := World.cells?_some h
  rw [h3 i (by have := (List.getElem?_eq_some_iff.1 hv).1; omega)]
  exact hv

/-- A slice that is read, whatever its elements. -/
theorem open_slice {α : Type} [Inhabited α] {t e : TypeId} {size : Nat} {E : List Value → α → Prop} (ht : Tryz.prog.underlying t = some (.slice e)) (hc : Tryz.prog.cellsOf e = size)
    (hE : ∀ (fuel : Nat) (cs : List Value) (x : DataW H × List MemPlace), DataW.trod enc Tryz.prog w base spare held fuel e cs = some x → 0 < cs.length ∧ ∃ d, E cs d)
    {fuel : Nat} {cs : List Value} {x : DataW H × List MemPlace} (h : DataW.trod enc Tryz.prog w base spare held fuel t cs = some x) :
    ∃ (A : Option Addr) (l : List α) (c : Nat), cs = [.slice A l.length c] ∧ l.length ≤ c ∧ c ≤ maxLen ∧ (A = none → c = 0) ∧ l.length ≤ maxLen ∧ (∀ d ∈ l, ∃ cs', E cs' d) ∧
      (0 < l.length → ∃ b off, A = some ⟨b, off, none⟩ ∧ b < w.heap.size ∧ ∀ i d, l[i]? = some d → ∃ cs', E cs' d ∧ ∀ j v, cs'[j]? = some v → w.cell? ⟨b, off + i * size + j, none⟩ = some v) := by
  rcases DataW.trod_slice ht h with ⟨rfl, _⟩ | ⟨a, len, cap, elems, rest, n, _, rfl, _, _, hl, hm, hlen, hel, _, _⟩
  · exact ⟨none, [], 0, rfl, Nat.le_refl _, Nat.zero_le _, fun _ => rfl, Nat.zero_le _, by simp, by simp⟩
  · obtain ⟨f, hf⟩ := Go.Deep.choose_lt (α := α) (n := len) (p := fun i d => ∃ cs', E cs' d ∧ 0 < cs'.length ∧ ∀ j v, cs'[j]? = some v → w.cell? (a.add (i * size + j)) = some v) (fun i hi => by
      have h1 := hel i hi
      rw [List.getElem?_eq_getElem (by omega), Option.bind_eq_some_iff] at h1
      obtain ⟨cs', h2, h3⟩ := h1
      obtain ⟨hp, d, hd⟩ := hE _ _ _ h3
      rw [hc] at h2
      refine ⟨d, cs', hd, hp, fun j v hv => ?_⟩
      have := cell_in (i := j) h2 hv
      rwa [Go.Deep.add_add] at this)
    have hle : ((List.range len).map f).length = len := by simp
    refine ⟨some a, (List.range len).map f, cap, by rw [hle], by rw [hle]; exact hl, hm, (fun e => by cases e), by rw [hle]; omega, fun d hd => ?_, fun hp => ?_⟩
    · obtain ⟨i, hi, rfl⟩ := List.mem_map.1 hd
      obtain ⟨cs', h1, _⟩ := hf i (List.mem_range.1 hi)
      exact ⟨cs', h1⟩
    · rw [hle] at hp
      obtain ⟨cs0, _, hp0, h0⟩ := hf 0 hp
      have h0 := h0 0 _ (List.getElem?_eq_getElem hp0)
      obtain ⟨b, off, spot⟩ := a
      have hs : spot = none := by simpa [Addr.add] using World.cell?_spot h0
      subst hs
      have hb : b < w.heap.size := by simpa [Addr.add] using World.block_lt_of_cell? _ _ h0
      refine ⟨b, off, rfl, hb, fun i d hd => ?_⟩
      have hj : i < len := by have := (List.getElem?_eq_some_iff.1 hd).1; omega
      obtain ⟨cs', h1, _, h2⟩ := hf i hj
      have e : f i = d := by simpa [hj] using hd
      rw [e] at h1
      refine ⟨cs', h1, fun j v hv => ?_⟩
      have := h2 j v hv
      rw [plain_add, ← Nat.add_assoc] at this
      exact this

theorem one_of {v : Value} {cs : List Value} (h : cs = [v]) : 0 < cs.length := by rw [h]; exact Nat.zero_lt_one

theorem trod_FC {fuel : Nat} {cs : List Value} {x : DataW H × List MemPlace} (h : DataW.trod enc Tryz.prog w base spare held fuel 26 cs = some x) :
    ∃ (A : Option Addr) (l : List Nat) (c : Nat), cs = [.slice A l.length c] ∧ FC w w.heap.size A l ∧ l.length ≤ c ∧ (A = none → c = 0) ∧ l.length ≤ maxLen ∧ c ≤ maxLen := by
  obtain ⟨A, l, c, h1, h2, h3, h4, h5, h6, h7⟩ := open_slice (size := 1) (E := fun cs b => cs = [.float .f64 b] ∧ b < 18446744073709551616) Tryz.underlying26 (by kernel_rfl) (fun fuel cs x hx => by
    obtain ⟨b, e, hb⟩ := trod_key hx
    exact ⟨one_of e, b, e, hb⟩) h
  refine ⟨A, l, c, h1, ⟨fun x hx => ?_, fun hp => ?_⟩, h2, h4, h5, h3⟩
  · obtain ⟨_, _, hb⟩ := h6 x hx
    exact hb
  · obtain ⟨b, off, e, hb, hc⟩ := h7 hp
    refine ⟨b, off, e, hb, fun j y hy => ?_⟩
    obtain ⟨cs', ⟨rfl, _⟩, h⟩ := hc j y hy
    have := h 0 _ rfl
    simpa using this
theorem trod_ZC {fuel : Nat} {cs : List Value} {x : DataW H × List MemPlace} (h : DataW.trod enc Tryz.prog w base spare held fuel 59 cs = some x) :
    ∃ (A : Option Addr) (l : List Int) (c : Nat), cs = [.slice A l.length c] ∧ ZC w w.heap.size A l ∧ l.length ≤ c ∧ (A = none → c = 0) ∧ l.length ≤ maxLen := by
  obtain ⟨A, l, c, h1, h2, h3, h4, h5, h6, h7⟩ := open_slice (size := 1) (E := fun cs (n : Int) => cs = [.int .i64 n]) Tryz.underlying59 (by kernel_rfl) (fun fuel cs x hx => by
    obtain ⟨n, e, _⟩ := DataW.trod_int Tryz.underlying3 hx
    exact ⟨one_of e, n, e⟩) h
  refine ⟨A, l, c, h1, fun hp => ?_, h2, h4, h5⟩
  obtain ⟨b, off, e, hb, hc⟩ := h7 hp
  refine ⟨b, off, e, hb, fun j y hy => ?_⟩
  obtain ⟨cs', rfl, h⟩ := hc j y hy
  have := h 0 _ rfl
  simpa using this
theorem trod_BC {fuel : Nat} {cs : List Value} {x : DataW H × List MemPlace} (h : DataW.trod enc Tryz.prog w base spare held fuel 53 cs = some x) :
    ∃ (A : Option Addr) (l : List Nat) (c : Nat), cs = [.slice A l.length c] ∧ BC w w.heap.size A l ∧ l.length ≤ c ∧ (A = none → c = 0) ∧ c ≤ maxLen := by
  obtain ⟨A, l, c, h1, h2, h3, h4, h5, h6, h7⟩ := open_slice (size := 1) (E := fun cs (n : Nat) => cs = [.int .u8 (n : Nat)] ∧ n < 256) Tryz.underlying53 (by kernel_rfl) (fun fuel cs x hx => by
    obtain ⟨n, e, _, hw⟩ := DataW.trod_int Tryz.underlying5 hx
    simp [Lit.wf, IntKind.min, IntKind.max, IntKind.signed, IntKind.bits] at hw
    exact ⟨one_of e, n.toNat, by rw [e, Int.toNat_of_nonneg hw.1], by omega⟩) h
  refine ⟨A, l, c, h1, ⟨fun x hx => ?_, fun hp => ?_⟩, h2, h4, h3⟩
  · obtain ⟨_, _, hb⟩ := h6 x hx
    exact hb
  · obtain ⟨b, off, e, hb, hc⟩ := h7 hp
    refine ⟨b, off, e, hb, fun j y hy => ?_⟩
    obtain ⟨cs', ⟨rfl, _⟩, h⟩ := hc j y hy
    have := h 0 _ rfl
    simpa using this
theorem trod_SC {fuel : Nat} {cs : List Value} {x : DataW H × List MemPlace} (h : DataW.trod enc Tryz.prog w base spare held fuel 64 cs = some x) :
    ∃ (A : Option Addr) (l : List (List Nat)) (c : Nat), cs = [.slice A l.length c] ∧ SC w w.heap.size A l ∧ l.length ≤ c ∧ (A = none → c = 0) ∧ l.length ≤ maxLen := by
  obtain ⟨A, l, c, h1, h2, h3, h4, h5, h6, h7⟩ := open_slice (size := 1) (E := fun cs (s : List Nat) => ∃ A' c', cs = [.slice A' s.length c'] ∧ BC w w.heap.size A' s ∧ s.length ≤ c' ∧ c' ≤ maxLen ∧ (A' = none → c' = 0)) Tryz.underlying64 (by kernel_rfl) (fun fuel cs x hx => by
    obtain ⟨A', l', c', e, q1, q2, q3, q4⟩ := trod_BC hx
    exact ⟨one_of e, l', A', c', e, q1, q2, q4, q3⟩) h
  refine ⟨A, l, c, h1, fun hp => ?_, h2, h4, h5⟩
  obtain ⟨b, off, e, hb, hc⟩ := h7 hp
  refine ⟨b, off, e, hb, fun j y hy => ?_⟩
  obtain ⟨cs', ⟨A', c', rfl, q1, q2, q3, q4⟩, h⟩ := hc j y hy
  have := h 0 _ rfl
  exact ⟨A', c', by simpa using this, q1, q2, by unfold maxLen at q3; exact q3, q4⟩

def LeafIs (w : World) (cs : List Value) (d : LeafD) : Prop := ∃ A1 c1 A2 c2, cs = [.slice A1 d.itl.length c1, .slice A2 d.slots.length c2] ∧ ZC w w.heap.size A1 d.itl ∧ SC w w.heap.size A2 d.slots ∧ d.itl.length ≤ maxLen ∧ d.slots.length ≤ maxLen ∧ d.itl.length ≤ c1 ∧ d.slots.length ≤ c2 ∧ (A1 = none → c1 = 0) ∧ (A2 = none → c2 = 0)
set_option maxRecDepth 100000 in
theorem trod_leaf {fuel : Nat} {cs : List Value} {x : DataW H × List MemPlace} (h : DataW.trod enc Tryz.prog w base spare held fuel 66 cs = some x) : ∃ d, LeafIs w cs d := by
  obtain ⟨xs, n, _, _, hlen, hxl, hf⟩ := DataW.trod_struct Tryz.underlying66 h
  have h2 : Tryz.prog.cellsOf 66 = 2 := by kernel_rfl
  rw [h2] at hlen
  match cs, hlen with
  | [c0, c1], _ =>
    have e1 : Tryz.prog.cellsOf 59 = 1 := by kernel_rfl
    have e2 : Tryz.prog.cellsOf 64 = 1 := by kernel_rfl
    have hx : ∀ i, i < 2 → ∃ y, xs[i]? = some y := fun i hi => ⟨_, List.getElem?_eq_getElem (by rw [hxl]; exact hi)⟩
    obtain ⟨y0, g0⟩ := hx 0 (by omega)
    obtain ⟨y1, g1⟩ := hx 1 (by omega)
    have k0 : DataW.trod enc Tryz.prog w base spare held n 59 (([c0, c1].drop 0).take (Tryz.prog.cellsOf 59)) = some y0 := (hf 0 _ rfl).trans g0
    rw [e1] at k0
    have k1 : DataW.trod enc Tryz.prog w base spare held n 64 (([c0, c1].drop 1).take (Tryz.prog.cellsOf 64)) = some y1 := (hf 1 _ rfl).trans g1
    rw [e2] at k1
    obtain ⟨A1, l1, k1', q1, q2, q3, q4, q5⟩ := trod_ZC (cs := [c0]) k0
    obtain ⟨A2, l2, k2', p1, p2, p3, p4, p5⟩ := trod_SC (cs := [c1]) k1
    injection q1 with q1 _
    injection p1 with p1 _
    subst q1 p1
    exact ⟨⟨l1, l2⟩, A1, k1', A2, k2', rfl, q2, p2, q5, p5, q3, p3, q4, p4⟩
instance : Inhabited LeafD := ⟨⟨[], []⟩⟩
instance : Inhabited RowD := ⟨⟨0, false, [], 0, 0, 0⟩⟩
/-- Leaves. -/
theorem trod_LC {fuel : Nat} {cs : List Value} {x : DataW H × List MemPlace} (h : DataW.trod enc Tryz.prog w base spare held fuel 23 cs = some x) :
    ∃ (A : Option Addr) (l : List LeafD) (c : Nat), cs = [.slice A l.length c] ∧ LC w w.heap.size A l ∧ l.length ≤ maxLen := by
  obtain ⟨A, l, c, h1, h2, h3, h4, h5, h6, h7⟩ := open_slice (size := 2) (E := LeafIs w) Tryz.underlying23 (by kernel_rfl) (fun fuel cs x hx => by
    obtain ⟨d, hd⟩ := trod_leaf hx
    refine ⟨?_, d, hd⟩
    obtain ⟨_, _, _, _, rfl, _⟩ := hd
    exact Nat.zero_lt_two) h
  refine ⟨A, l, c, h1, fun hp => ?_, h5⟩
  obtain ⟨b, off, e, hb, hc⟩ := h7 hp
  refine ⟨b, off, e, hb, fun j y hy => ?_⟩
  obtain ⟨cs', ⟨A1, c1, A2, c2, rfl, q⟩, h⟩ := hc j y hy
  exact ⟨A1, c1, A2, c2, h 0 _ rfl, h 1 _ rfl, q⟩

/-- Three numbers. -/
theorem trod_three {fuel : Nat} {cs : List Value} {x : DataW H × List MemPlace} (h : DataW.trod enc Tryz.prog w base spare held fuel 39 cs = some x) : ∃ x0 x1 x2, cs = [.float .f64 x0, .float .f64 x1, .float .f64 x2] ∧ x0 < 18446744073709551616 ∧ x1 < 18446744073709551616 ∧ x2 < 18446744073709551616 := by
  obtain ⟨xs, n, _, _, hlen, hxl, hf⟩ := DataW.trod_array Tryz.underlying39 h
  have h2 : Tryz.prog.cellsOf 39 = 3 := by kernel_rfl
  have e1 : Tryz.prog.cellsOf 25 = 1 := by kernel_rfl
  rw [h2] at hlen
  rw [e1] at hf
  match cs, hlen with
  | [c0, c1, c2], _ =>
    have hx : ∀ i, i < 3 → ∃ y, xs[i]? = some y := fun i hi => ⟨_, List.getElem?_eq_getElem (by rw [hxl]; exact hi)⟩
    obtain ⟨y0, g0⟩ := hx 0 (by omega)
    obtain ⟨y1, g1⟩ := hx 1 (by omega)
    obtain ⟨y2, g2⟩ := hx 2 (by omega)
    obtain ⟨x0, q0, b0⟩ := trod_key (cs := [c0]) ((hf 0 (by omega)).trans g0)
    obtain ⟨x1, q1, b1⟩ := trod_key (cs := [c1]) ((hf 1 (by omega)).trans g1)
    obtain ⟨x2, q2, b2⟩ := trod_key (cs := [c2]) ((hf 2 (by omega)).trans g2)
    injection q0 with q0 _
    injection q1 with q1 _
    injection q2 with q2 _
    subst q0 q1 q2
    exact ⟨x0, x1, x2, rfl, b0, b1, b2⟩
end
theorem okWide_array {w : World} {r : Reach} {base n : Nat} {t e : TypeId} {v : Value} (ht : Tryz.prog.underlying t = some (.array n e)) (h : Value.okWide Tryz.prog w r base t v) : ∃ cs, v = .agg cs ∧ cs.size = Tryz.prog.cellsOf t := by
  simp only [Value.okWide, ht] at h
  obtain ⟨cs, h1, h2, _⟩ := h
  exact ⟨cs, h1, h2⟩
end Go.Proofs.YtdbnlngkmfmnnaaGreatDoor
