/- leaf.Check. -/
import Derived.Test.YtdbnlngkmfmnnaaGreatDoorH09
import Derived.Maps.OwnSet
import Derived.Maps.Own
import Derived.Maps.Views
import Derived.Maps.OwnOps
namespace Go.Proofs.YtdbnlngkmfmnnaaGreatDoor
open Go.RowKit

/-- May those be who write? -/
def OkItl (l : List Int) : Prop := ∀ (i : Nat) (x : Int), l[i]? = some x → 0 ≤ x ∧ x ≤ 2147483647 ∧ (0 < x → ∀ y ∈ l.take i, y ≠ x)
/-- May a leaf be? -/
def OkLeaf (d : LeafD) : Prop := d.itl.length = 4 ∧ d.slots.length ≤ 64 ∧ (∀ s, d.slots.getLast? = some s → s.length ≠ 0) ∧ OkItl d.itl ∧ (∀ s ∈ d.slots, s.length ≤ 255) ∧ needS d.slots ≤ 508
noncomputable def chk (p : Prop) : Bool := @decide p (Classical.propDecidable p)
theorem chk_true {p : Prop} (h : p) : chk p = true := @decide_eq_true p (Classical.propDecidable p) h
theorem chk_false {p : Prop} (h : ¬ p) : chk p = false := @decide_eq_false p (Classical.propDecidable p) h
theorem chk_iff {p : Prop} : chk p = true ↔ p := ⟨fun h => @of_decide_eq_true p (Classical.propDecidable p) h, chk_true⟩
noncomputable def okLeafB (d : LeafD) : Bool := chk (OkLeaf d)
theorem okLeafB_true {d : LeafD} (h : OkLeaf d) : okLeafB d = true := chk_true h
theorem okLeafB_false {d : LeafD} (h : ¬ OkLeaf d) : okLeafB d = false := chk_false h
theorem okLeafB_iff {d : LeafD} : okLeafB d = true ↔ OkLeaf d := chk_iff

def headBad (d : LeafD) : Bool := decide (¬ d.itl.length = 4) || decide (64 < d.slots.length) || (match d.slots.getLast? with | some s => decide (s.length = 0) | none => false)
theorem headBad_true {d : LeafD} (h : headBad d = true) : okLeafB d = false := by
  refine okLeafB_false fun hk => ?_
  unfold headBad at h
  obtain ⟨h1, h2, h3, _⟩ := hk
  rw [decide_eq_false (by omega), decide_eq_false (by omega)] at h
  cases hl : d.slots.getLast? with
  | none => rw [hl] at h; cases h
  | some s =>
    rw [hl] at h
    simp only [Bool.false_or, decide_eq_true_eq] at h
    exact h3 s hl h
theorem headBad_false {d : LeafD} (h : headBad d = false) : d.itl.length = 4 ∧ d.slots.length ≤ 64 ∧ ∀ s, d.slots.getLast? = some s → s.length ≠ 0 := by
  unfold headBad at h
  simp only [Bool.or_eq_false_iff, decide_eq_false_iff_not] at h
  refine ⟨by omega, by omega, fun s hs => ?_⟩
  have := h.2
  rw [hs] at this
  simpa using this
theorem last_at {l : List (List Nat)} {n : Nat} {s : List Nat} (hn : l.length = n) (h : l[n - 1]? = some s) : l.getLast? = some s := by rw [List.getLast?_eq_getElem?, hn]; exact h

theorem itl_step {l : List Int} {j : Nat} {x : Int} (h : ∀ i, i < j → ∀ x, l[i]? = some x → 0 ≤ x ∧ x ≤ 2147483647 ∧ (0 < x → ∀ y ∈ l.take i, y ≠ x)) (hx : l[j]? = some x) (h2 : 0 ≤ x ∧ x ≤ 2147483647 ∧ (0 < x → ∀ y ∈ l.take j, y ≠ x)) :
    ∀ i, i < j + 1 → ∀ x, l[i]? = some x → 0 ≤ x ∧ x ≤ 2147483647 ∧ (0 < x → ∀ y ∈ l.take i, y ≠ x) := by
  intro i hi z hz
  rcases Nat.lt_or_eq_of_le (Nat.le_of_lt_succ hi) with h3 | rfl
  · exact h i h3 z hz
  · rw [hx] at hz; injection hz with hz; rw [← hz]; exact h2

theorem ZC.take {w : World} {B : Nat} {A : Option Addr} {l : List Int} (h : ZC w B A l) (m : Nat) : ZC w B A (l.take m) := fun hl => by
  obtain ⟨b, off, e, hB, hc⟩ := h (by rw [List.length_take] at hl; omega)
  refine ⟨b, off, e, hB, fun j x hx => hc j x ?_⟩
  rw [List.getElem?_take] at hx
  split at hx
  · exact hx
  · cases hx

set_option maxHeartbeats 4000000 in
set_option maxRecDepth 100000 in
theorem leafcheck_any (d : LeafD) (A1 A2 : Option Addr) (c1 c2 : Nat) (w : World) (h1 : ZC w w.heap.size A1 d.itl) (h2 : SC w w.heap.size A2 d.slots) (m1 : d.itl.length ≤ maxLen) (m2 : d.slots.length ≤ maxLen) (k1 : d.itl.length ≤ c1) :
    Calls Tryz.prog 54 #[.agg (d.cells A1 c1 A2 c2)] w fun e w' => e = .returned (.int .i64 (if okLeafB d then 0 else 1)) ∧ Below w.heap.size w w' := by
  obtain ⟨n1, hn1⟩ : ∃ n, d.itl.length = n := ⟨_, rfl⟩
  obtain ⟨n2, hn2⟩ : ∃ n, d.slots.length = n := ⟨_, rfl⟩
  unfold LeafD.cells
  unfold maxLen at m1 m2
  rw [hn1] at m1 k1 ⊢
  rw [hn2] at m2 ⊢
  obtain ⟨R, hR⟩ : ∃ R, okLeafB d = R := ⟨_, rfl⟩
  rw [hR]
  have HR := Lib.hid hR
  have hb0 : Below w.heap.size w (w.alloc (.cells #[.slice A1 n1 c1, .slice A2 n2 c2] 66)) := (Below.refl w.heap.size w).alloc (Nat.le_refl _) _
  have H1 := Lib.hid (h1.below hb0)
  have H2 := Lib.hid (h2.below hb0)
  have N1 := Lib.hid hn1
  have N2 := Lib.hid hn2
  have CC := Lib.hid (fun (j : Nat) (v : Int) (W : World) (hb : Below w.heap.size w W) (hj : j ≤ n1) => (zcontains_any A1 c1 w.heap.size (d.itl.take j) v W ((h1.below hb).take j) (by rw [List.length_take]; unfold maxLen; omega)))
  have CL := Lib.hid (fun (W : World) (hb : Below w.heap.size w W) => (longAny_any A2 c2 w.heap.size d.slots W (h2.below hb) (by unfold maxLen; omega)))
  have CN := Lib.hid (fun (W : World) (hb : Below w.heap.size w W) (h64 : n2 ≤ 64) (hs : ∀ s ∈ d.slots, s.length ≤ 255) => (need_any A1 A2 n1 c1 c2 w.heap.size d.slots W hb.size (h2.below hb) (by omega) hs))
  clear h1 h2 hR hn1 hn2 hb0
  obtain ⟨bad, hbad⟩ : ∃ bad, headBad d = bad := ⟨_, rfl⟩
  have HBAD := Lib.hid hbad
  clear hbad
  go_enter Tryz.func54, Tryz.ntmps54
  go_upto_region 2 with fail
  go_cut [30] (fun s30 wx => s30 = .bool bad ∧ wx = w.alloc (.cells #[.slice A1 n1 c1, .slice A2 n2 c2] 66))
  case first =>
    by_cases e1 : n1 = 4
    · subst e1
      by_cases e2 : 64 < n2
      · have e2' : (64 : Int) < (n2 : Int) := by omega
        go_wp2_with fail
        go_meet
        case rel => exact ⟨by rw [← HBAD.out]; unfold headBad; rw [N1.out, N2.out]; simp [e2], rfl⟩
      · have e2' : ¬ (64 : Int) < (n2 : Int) := by omega
        rcases Nat.eq_zero_or_pos n2 with e3 | e3
        · subst e3
          go_wp2_with fail
          go_meet
          case rel =>
            refine ⟨?_, rfl⟩
            have : d.slots = [] := List.eq_nil_of_length_eq_zero N2.out
            rw [← HBAD.out]; unfold headBad; rw [N1.out, this]; simp
        · obtain ⟨s, hs⟩ := get_at' N2 (show n2 - 1 < n2 by omega)
          obtain ⟨b, off, A', c', e, _, hc0, _⟩ := H2.out.at_ hs
          subst e
          have HS := Lib.hid (last_at N2.out hs)
          have g1 : ¬ (n2 : Int) - 1 < 0 := by omega
          have g3 : ((n2 : Int) - 1).toNat = n2 - 1 := by omega
          have g4 : (0 : Int) < (n2 : Int) := by omega
          have g5 : (n2 : Int) - 1 < (n2 : Int) := by omega
          clear hs
          go_wp2_with fail
          go_meet
          case rel =>
            refine ⟨?_, rfl⟩
            rw [← HBAD.out]; unfold headBad; rw [N1.out, N2.out, HS.out]
            rw [decide_eq_false (show ¬ ¬ (4 : Nat) = 4 by omega), decide_eq_false (show ¬ 64 < n2 by omega)]
            show Value.bool (decide ((s.length : Int) = 0)) = Value.bool (decide (s.length = 0))
            congr 1
            exact decide_eq_decide.2 (by omega)
    · have e1' : ¬ (n1 : Int) = 4 := by omega
      go_wp2_with fail
      go_meet
      case rel => exact ⟨by rw [← HBAD.out]; unfold headBad; rw [N1.out]; simp [e1], rfl⟩
  case rest =>
    obtain ⟨rfl, rfl⟩ := hcut
    cases bad with
    | true =>
      have hR : R = false := by rw [← HR.out]; exact headBad_true HBAD.out
      subst hR
      go_wp2
      go_ret
      exact ⟨rfl, (Below.refl _ _).alloc (Nat.le_refl _) _⟩
    | false =>
      obtain ⟨f1, f2, f3⟩ := headBad_false HBAD.out
      have hn4 : n1 = 4 := by rw [← N1.out]; exact f1
      subst hn4
      have F3 := Lib.hid f3
      have h64 : n2 ≤ 64 := by rw [← N2.out]; exact f2
      clear f1 f2 f3
      go_wp2
      go_loopw [34] (fun i wr => ∃ j : Nat, j ≤ 4 ∧ i = .int .i64 j ∧ (∀ i, i < j → ∀ x, d.itl[i]? = some x → 0 ≤ x ∧ x ≤ 2147483647 ∧ (0 < x → ∀ y ∈ d.itl.take i, y ≠ x)) ∧ wr = w.alloc (.cells #[.slice A1 4 c1, .slice A2 n2 c2] 66)) (fun i _ => 4 - (intOf i).toNat)
      case atStart => exact ⟨0, Nat.zero_le _, rfl, fun i hi => absurd hi (Nat.not_lt_zero _), rfl⟩
      case round =>
        obtain ⟨j, hj, rfl, ht, rfl⟩ := hrel
        have HT := Lib.hid ht
        clear ht
        by_cases hlt : j < 4
        · obtain ⟨x, hx⟩ := get_at' N1 hlt
          obtain ⟨b, off, e, _, hc0⟩ := H1.out.at_ hx
          subst e
          have HX := Lib.hid hx
          have cc := CC.out j x (w.alloc (.cells #[.slice (some ⟨b, off, none⟩) 4 c1, .slice A2 n2 c2] 66)) ((Below.refl _ _).alloc (Nat.le_refl _) _) (by omega)
          rw [List.length_take, N1.out, Nat.min_eq_left (by omega)] at cc
          clear hx
          have kj : (j : Int) ≤ (c1 : Int) := by omega
          have NO : Hid (¬ (0 ≤ x ∧ x ≤ 2147483647 ∧ (0 < x → ∀ y ∈ d.itl.take j, y ≠ x)) → R = false) := fun h => by
            rw [← HR.out]; exact okLeafB_false fun hk => h (hk.2.2.2.1 j x HX.out)
          by_cases x1 : x < 0
          · have hR := NO.out (fun h => by omega)
            subst hR
            go_wp2
            go_ret
            exact ⟨rfl, (Below.refl _ _).alloc (Nat.le_refl _) _⟩
          · by_cases x2 : 2147483647 < x
            · have hR := NO.out (fun h => by omega)
              subst hR
              go_wp2
              go_ret
              exact ⟨rfl, (Below.refl _ _).alloc (Nat.le_refl _) _⟩
            · by_cases x3 : 0 < x
              · cases hq : (d.itl.take j).any fun y => y == x with
                | true =>
                  rw [hq] at cc
                  have CJ := Lib.hid cc
                  have hR := NO.out (fun h => by
                    obtain ⟨y, hy, he⟩ := List.any_eq_true.1 hq
                    exact h.2.2 x3 y hy (by simpa using he))
                  subst hR
                  clear hq cc
                  go_wp2_with (go_at_call 77; (with_reducible refine CJ.out.mono ?_); rintro e w' ⟨rfl, rfl⟩)
                  go_ret
                  exact ⟨rfl, (Below.refl _ _).alloc (Nat.le_refl _) _⟩
                | false =>
                  rw [hq] at cc
                  have CJ := Lib.hid cc
                  have HQ : Hid (∀ y ∈ d.itl.take j, y ≠ x) := fun y hy he => by
                    have := List.any_eq_false.1 hq y hy
                    simp [he] at this
                  clear hq cc
                  go_wp2_with (go_at_call 77; (with_reducible refine CJ.out.mono ?_); rintro e w' ⟨rfl, rfl⟩)
                  exact ⟨⟨j + 1, by omega, by go_num, itl_step HT.out HX.out ⟨by omega, by omega, fun _ => HQ.out⟩, trivial⟩, by simp [intOf]; omega⟩
              · go_wp2
                exact ⟨⟨j + 1, by omega, by go_num, itl_step HT.out HX.out ⟨by omega, by omega, fun h => absurd h (by omega)⟩, trivial⟩, by simp [intOf]; omega⟩
        · have hj4 : j = 4 := by omega
          subst hj4
          have cl := CL.out (w.alloc (.cells #[.slice A1 4 c1, .slice A2 n2 c2] 66)) ((Below.refl _ _).alloc (Nat.le_refl _) _)
          rw [N2.out] at cl
          cases hq : d.slots.any longP with
          | true =>
            rw [hq] at cl
            have CJ := Lib.hid cl
            have hR : R = false := by
              rw [← HR.out]
              refine okLeafB_false fun hk => ?_
              obtain ⟨s, hs, he⟩ := List.any_eq_true.1 hq
              have := hk.2.2.2.2.1 s hs
              unfold longP at he
              simp only [decide_eq_true_eq] at he
              omega
            subst hR
            clear hq cl
            go_wp2_with (go_at_call 73; (with_reducible refine CJ.out.mono ?_); rintro e w' ⟨rfl, rfl⟩)
            go_ret
            exact ⟨rfl, (Below.refl _ _).alloc (Nat.le_refl _) _⟩
          | false =>
            rw [hq] at cl
            have CJ := Lib.hid cl
            have hs : ∀ s ∈ d.slots, s.length ≤ 255 := fun s hs => by
              have := List.any_eq_false.1 hq s hs
              unfold longP at this
              simp only [decide_eq_true_eq] at this
              omega
            have cn := CN.out (w.alloc (.cells #[.slice A1 4 c1, .slice A2 n2 c2] 66)) ((Below.refl _ _).alloc (Nat.le_refl _) _) h64 hs
            rw [N2.out] at cn
            obtain ⟨q, hqq⟩ : ∃ q, needS d.slots = q := ⟨_, rfl⟩
            rw [hqq] at cn
            have CQ := Lib.hid cn
            have HQ := Lib.hid hqq
            have HS := Lib.hid hs
            clear hq cl cn hs hqq
            by_cases x1 : 508 < q
            · have x1' : (508 : Int) < (q : Int) := by omega
              have hR : R = false := by
                rw [← HR.out]
                exact okLeafB_false fun hk => by have := hk.2.2.2.2.2; rw [HQ.out] at this; omega
              subst hR
              go_wp2_with (first
                | (go_at_call 73; (with_reducible refine CJ.out.mono ?_); rintro e w' ⟨rfl, rfl⟩)
                | (go_at_call 91; (with_reducible refine CQ.out.mono ?_); rintro e w' ⟨rfl, hb⟩))
              go_ret
              exact ⟨rfl, ((Below.refl _ _).alloc (Nat.le_refl _) _).trans (hb.mono (by simp))⟩
            · have x1' : ¬ (508 : Int) < (q : Int) := by omega
              have hR : R = true := by
                rw [← HR.out]
                refine okLeafB_true ⟨N1.out, by rw [N2.out]; exact h64, F3.out, fun i x hx => ?_, HS.out, by rw [HQ.out]; omega⟩
                exact HT.out i (by have := (List.getElem?_eq_some_iff.1 hx).1; rw [N1.out] at this; exact this) x hx
              subst hR
              go_wp2_with (first
                | (go_at_call 73; (with_reducible refine CJ.out.mono ?_); rintro e w' ⟨rfl, rfl⟩)
                | (go_at_call 91; (with_reducible refine CQ.out.mono ?_); rintro e w' ⟨rfl, hb⟩))
              go_ret
              exact ⟨rfl, ((Below.refl _ _).alloc (Nat.le_refl _) _).trans (hb.mono (by simp))⟩
end Go.Proofs.YtdbnlngkmfmnnaaGreatDoor

/- Leaves in a slice; which may be; the set of ranks that were met. -/
namespace Go.Proofs.YtdbnlngkmfmnnaaGreatDoor
open Go.RowKit Go.Maps

/-- The cells of leaves. -/
def LC (w : World) (B : Nat) (A : Option Addr) (l : List LeafD) : Prop :=
  0 < l.length → ∃ b off, A = some ⟨b, off, none⟩ ∧ b < B ∧ ∀ i d, l[i]? = some d → ∃ A1 c1 A2 c2, w.cell? ⟨b, off + i * 2, none⟩ = some (.slice A1 d.itl.length c1) ∧ w.cell? ⟨b, off + i * 2 + 1, none⟩ = some (.slice A2 d.slots.length c2) ∧
    ZC w B A1 d.itl ∧ SC w B A2 d.slots ∧ d.itl.length ≤ maxLen ∧ d.slots.length ≤ maxLen ∧ d.itl.length ≤ c1 ∧ d.slots.length ≤ c2 ∧ (A1 = none → c1 = 0) ∧ (A2 = none → c2 = 0)
theorem LC.below {w w' : World} {B : Nat} {A : Option Addr} {l : List LeafD} (h : LC w B A l) (hb : Below B w w') : LC w' B A l := fun hl => by
  obtain ⟨b, off, e, hB, hc⟩ := h hl
  refine ⟨b, off, e, hB, fun i d hd => ?_⟩
  obtain ⟨A1, c1, A2, c2, h1, h2, h3, h4, h5⟩ := hc i d hd
  exact ⟨A1, c1, A2, c2, (hb.cell (p := ⟨b, off + i * 2, none⟩) hB).trans h1, (hb.cell (p := ⟨b, off + i * 2 + 1, none⟩) hB).trans h2, h3.below hb, h4.below hb, h5⟩
theorem LC.more {w : World} {B B' : Nat} {A : Option Addr} {l : List LeafD} (h : LC w B A l) (hb : B ≤ B') : LC w B' A l := fun hl => by
  obtain ⟨b, off, e, hB, hc⟩ := h hl
  refine ⟨b, off, e, by omega, fun i d hd => ?_⟩
  obtain ⟨A1, c1, A2, c2, h1, h2, h3, h4, h5⟩ := hc i d hd
  exact ⟨A1, c1, A2, c2, h1, h2, h3.more hb, h4.more hb, h5⟩
theorem LC.at_ {w : World} {B : Nat} {A : Option Addr} {l : List LeafD} (h : LC w B A l) {k : Nat} {d : LeafD} (hd : l[k]? = some d) :
    ∃ b off A1 c1 A2 c2, A = some ⟨b, off, none⟩ ∧ b < B ∧ w.cell? ⟨b, off + k * 2, none⟩ = some (.slice A1 d.itl.length c1) ∧ w.cell? ⟨b, off + k * 2 + 1, none⟩ = some (.slice A2 d.slots.length c2) ∧
    ZC w B A1 d.itl ∧ SC w B A2 d.slots ∧ d.itl.length ≤ maxLen ∧ d.slots.length ≤ maxLen ∧ d.itl.length ≤ c1 ∧ d.slots.length ≤ c2 ∧ (A1 = none → c1 = 0) ∧ (A2 = none → c2 = 0) := by
  obtain ⟨b, off, e, hB, hc⟩ := h (by have := (List.getElem?_eq_some_iff.1 hd).1; omega)
  obtain ⟨A1, c1, A2, c2, h'⟩ := hc k d hd
  exact ⟨b, off, A1, c1, A2, c2, e, hB, h'⟩

def RowD.rank (d : RowD) : Nat := rankN d.key
/-- The rows of slots, of leaves. -/
def rowsS (ss : List (List Nat)) : List RowD := ss.filterMap decL
def rowsL (l : List LeafD) : List RowD := l.flatMap fun d => rowsS d.slots
def FullS (ss : List (List Nat)) : Prop := ∀ s ∈ ss, s.length ≠ 0 → ∃ d, decL s = some d
/-- May leaves be? -/
def OkHeap (l : List LeafD) : Prop := 1 ≤ l.length ∧ l.length ≤ 62 ∧ (∀ d ∈ l, OkLeaf d ∧ FullS d.slots) ∧ ((rowsL l).map RowD.rank).Nodup
theorem decL_nil {s : List Nat} (h : s.length = 0) : decL s = none := by unfold decL; rw [if_neg (fun hc => by omega)]

theorem rowsS_snoc (ss : List (List Nat)) (s : List Nat) : rowsS (ss ++ [s]) = rowsS ss ++ (decL s).toList := by
  unfold rowsS
  rw [List.filterMap_append]
  cases h : decL s <;> simp [h]
theorem rowsL_snoc (l : List LeafD) (d : LeafD) : rowsL (l ++ [d]) = rowsL l ++ rowsS d.slots := by unfold rowsL; simp

/-- The ranks that were met. -/
def Met (w : World) (M : Nat) (S : List Nat) : Prop := ∃ (n : Nat) (D : DataW Unit), w.ownsMap Tryz.prog 67 (plainElem Tryz.prog 4) M n D ∧ n ≤ S.length ∧ ∀ r : Nat, D.atKey (.int .u64 (r : Int)) (.lit (.bool false)) = .lit (.bool (decide (r ∈ S)))

theorem Met.made (w : World) : Met (w.alloc (.map #[] 0)) w.heap.size [] :=
  ⟨0, .map [], World.ownsMap_made w _ _ _, Nat.le_refl _, fun r => by simp [DataW.atKey]⟩
theorem Met.on {w w' : World} {M : Nat} {S : List Nat} (h : Met w M S) (hb : Below w.heap.size w w') : Met w' M S := by
  obtain ⟨n, D, h1, h2⟩ := h
  exact ⟨n, D, h1.kept (below_grown hb none) (by simp), h2⟩
theorem zero_bool (w : World) : (zeroValue 4).run Tryz.prog w = .ok (.bool false) w := by kernel_rfl
theorem wf_u64 {r : Nat} (h : r < 18446744073709551616) : (Lit.int .u64 (r : Int)).wf = true := by
  simp [Lit.wf, IntKind.min, IntKind.max, IntKind.bits, IntKind.signed]
  omega
theorem Met.look {w : World} {M : Nat} {S : List Nat} (h : Met w M S) {r : Nat} (hr : r < 18446744073709551616) : (Instr.lookup 88 (.map (some M)) (.int .u64 (r : Int)) false).run Tryz.prog w = .ok (.bool (decide (r ∈ S))) w := by
  obtain ⟨n, D, h1, h2, h3⟩ := h
  obtain ⟨v, ps, hrun, hv⟩ := h1.lookup (int_keyed Tryz.underlying67) Tryz.underlying88 (zero_bool w) (plainElem_bool Tryz.underlying4 false) (keyOf_int_mk Tryz.underlying67 (wf_u64 hr))
  rw [h3 r] at hv
  rw [hrun]
  cases v <;> simp [plainElem, Tryz.underlying4] at hv
  rw [hv.1]
theorem Met.put {w : World} {M : Nat} {S : List Nat} (h : Met w M S) {r : Nat} (hr : r < 18446744073709551616) (hS : S.length ≤ 1000000) : ∃ w', (Instr.mapUpdate 88 (.map (some M)) (.int .u64 (r : Int)) (.bool true)).run Tryz.prog w = .ok () w' ∧ Met w' M (S ++ [r]) ∧ w.grownBy w' (some M) := by
  obtain ⟨n, D, h1, h2, h3⟩ := h
  obtain ⟨w', hrun, h4, h5⟩ := h1.update (int_keyed Tryz.underlying67) Tryz.underlying88 (by unfold maxLen; omega) (keyOf_int_mk Tryz.underlying67 (wf_u64 hr)) (plainElem_bool Tryz.underlying4 true)
  refine ⟨w', hrun, ⟨n + 1, _, h4, by rw [List.length_append]; simp; omega, fun q => ?_⟩, h5⟩
  by_cases hq : q = r
  · subst hq
    rw [atKey_put_same h1.isMap (by trivial)]
    simp
  · rw [atKey_put_other (by intro e; injection e with _ e; exact hq (by omega)), h3 q]
    simp [hq]
end Go.Proofs.YtdbnlngkmfmnnaaGreatDoor

/- heap.Check. -/
namespace Go.Proofs.YtdbnlngkmfmnnaaGreatDoor
open Go.RowKit Go.Maps

noncomputable def okHeapB (l : List LeafD) : Bool := chk (OkHeap l)
theorem split_at {α : Type} {l : List α} {k : Nat} {x : α} (h : l[k]? = some x) : l = l.take k ++ x :: l.drop (k + 1) := by
  obtain ⟨hk, rfl⟩ := List.getElem?_eq_some_iff.1 h
  rw [← List.drop_eq_getElem_cons hk, List.take_append_drop]
theorem rowsL_split {l : List LeafD} {j : Nat} {d : LeafD} (h : l[j]? = some d) : rowsL l = rowsL (l.take j) ++ (rowsS d.slots ++ rowsL (l.drop (j + 1))) := by
  conv => lhs; rw [split_at h]
  unfold rowsL
  rw [List.flatMap_append, List.flatMap_cons]
theorem rowsS_split {ss : List (List Nat)} {k : Nat} {s : List Nat} {r : RowD} (h : ss[k]? = some s) (hr : decL s = some r) : rowsS ss = rowsS (ss.take k) ++ (r :: rowsS (ss.drop (k + 1))) := by
  conv => lhs; rw [split_at h]
  unfold rowsS
  rw [List.filterMap_append, List.filterMap_cons, hr]
theorem bad_dup {l : List LeafD} {j k : Nat} {d : LeafD} {s : List Nat} {r : RowD} (hd : l[j]? = some d) (hs : d.slots[k]? = some s) (hr : decL s = some r) (hm : r.rank ∈ (rowsL (l.take j)).map RowD.rank ++ (rowsS (d.slots.take k)).map RowD.rank) : ¬ OkHeap l := by
  intro h
  have hn := h.2.2.2
  rw [rowsL_split hd, rowsS_split hs hr] at hn
  simp only [List.map_append, List.map_cons, List.append_assoc, List.cons_append] at hn
  rw [← List.append_assoc] at hn
  have := (List.nodup_append.1 hn).2.2 _ hm r.rank List.mem_cons_self
  exact this rfl
theorem rowsL_le {l : List LeafD} (h : ∀ d ∈ l, d.slots.length ≤ 64) : (rowsL l).length ≤ 64 * l.length := by
  unfold rowsL
  induction l with
  | nil => simp
  | cons d l ih =>
    have h1 := h d List.mem_cons_self
    have h2 := ih fun x hx => h x (List.mem_cons_of_mem _ hx)
    have h3 := List.length_filterMap_le decL d.slots
    rw [List.flatMap_cons, List.length_append, List.length_cons]
    unfold rowsS
    unfold rowsS at h2
    omega

/-- Those that were met ahead. -/
def ranks (l : List LeafD) (j : Nat) (ss : List (List Nat)) (k : Nat) : List Nat := (rowsL (l.take j)).map RowD.rank ++ (rowsS (ss.take k)).map RowD.rank
theorem ranks_zero (l : List LeafD) (j : Nat) (ss : List (List Nat)) : ranks l j ss 0 = (rowsL (l.take j)).map RowD.rank := by unfold ranks rowsS; simp
theorem ranks_all {l : List LeafD} {j : Nat} {d : LeafD} (hd : l[j]? = some d) : ranks l j d.slots d.slots.length = (rowsL (l.take (j + 1))).map RowD.rank := by
  unfold ranks
  rw [List.take_length, take_at' hd, rowsL_snoc, List.map_append]
theorem ranks_same {l : List LeafD} {j : Nat} {ss : List (List Nat)} {k : Nat} {s : List Nat} (hs : ss[k]? = some s) (hd : decL s = none) : ranks l j ss (k + 1) = ranks l j ss k := by
  unfold ranks; rw [take_at' hs, rowsS_snoc, hd]; simp
theorem ranks_more {l : List LeafD} {j : Nat} {ss : List (List Nat)} {k : Nat} {s : List Nat} {r : RowD} (hs : ss[k]? = some s) (hd : decL s = some r) : ranks l j ss (k + 1) = ranks l j ss k ++ [r.rank] := by
  unfold ranks; rw [take_at' hs, rowsS_snoc, hd]; simp
theorem full_step {ss : List (List Nat)} {k : Nat} {s : List Nat} (h : FullS (ss.take k)) (hs : ss[k]? = some s) (hd : s.length ≠ 0 → ∃ d, decL s = some d) : FullS (ss.take (k + 1)) := by
  rw [take_at' hs]
  intro x hx h0
  rcases List.mem_append.1 hx with hx | hx
  · exact h x hx h0
  · rw [List.mem_singleton.1 hx] at h0 ⊢; exact hd h0
theorem ranks_le {l : List LeafD} {j : Nat} {ss : List (List Nat)} {k : Nat} (h : ∀ d ∈ l.take j, d.slots.length ≤ 64) (hj : j ≤ 62) (hs : ss.length ≤ 64) : (ranks l j ss k).length ≤ 1000000 := by
  unfold ranks
  rw [List.length_append, List.length_map, List.length_map]
  have h1 := rowsL_le h
  have h2 : (rowsS (ss.take k)).length ≤ (ss.take k).length := List.length_filterMap_le _ _
  rw [List.length_take] at h1 h2
  omega

theorem decode_no {A : Option Addr} {c y : Nat} {s : List Nat} {w : World} (h : BC w w.heap.size A s) (hy : s.length = y) (hn : y ≤ 1000) (hc : y ≤ c) (hc2 : c ≤ 9223372036854775807) (hd : decL s = none) :
    Calls Tryz.prog 55 #[.slice A y c] w fun e w' => ∃ key dead A' n c' x z t, e = .returned (.tuple #[.agg #[.float .f64 key, .bool dead, .slice A' n c', .int .i64 x, .int .i64 z, .int .i64 t], .bool false]) ∧ key < 18446744073709551616 ∧ Below w.heap.size w w' := by
  subst hy
  refine (decode_any A c s w h hn hc hc2).mono fun e w' ⟨h1, h2⟩ => ?_
  rw [hd] at h2
  obtain ⟨d, A', c', rfl, hk, _⟩ := h2
  exact ⟨d.key, d.dead, A', d.cols.length, c', d.wr, d.rc, d.rn, rfl, hk, h1⟩
theorem decode_yes {A : Option Addr} {c y : Nat} {s : List Nat} {w : World} {d : RowD} (h : BC w w.heap.size A s) (hy : s.length = y) (hn : y ≤ 1000) (hc : y ≤ c) (hc2 : c ≤ 9223372036854775807) (hd : decL s = some d) :
    Calls Tryz.prog 55 #[.slice A y c] w fun e w' => ∃ A' c', e = .returned (.tuple #[.agg #[.float .f64 d.key, .bool d.dead, .slice A' d.cols.length c', .int .i64 d.wr, .int .i64 d.rc, .int .i64 d.rn], .bool true]) ∧ Below w.heap.size w w' ∧ Hid (FN w w' A' d.cols ∧ d.cols.length ≤ c' ∧ (A' = none → c' = 0) ∧ d.key < 18446744073709551616) := by
  subst hy
  refine (decode_any A c s w h hn hc hc2).mono fun e w' ⟨h1, h2⟩ => ?_
  rw [hd] at h2
  obtain ⟨A', c', rfl, h3⟩ := h2
  exact ⟨A', c', rfl, h1, h3⟩
theorem decL_key {A : Option Addr} {w : World} {B : Nat} {s : List Nat} {d : RowD} (h : BC w B A s) (hd : decL s = some d) : d.key < 18446744073709551616 := by
  unfold decL at hd
  split at hd
  · split at hd
    · rename_i r hr
      split at hd
      · injection hd with hd
        rw [← hd]
        exact rowDec_key (fun x hx => h.1 x (List.mem_of_mem_take hx)) hr
      · cases hd
    · cases hd
  · cases hd
set_option maxHeartbeats 4000000 in
set_option maxRecDepth 100000 in
theorem check_any (A : Option Addr) (c : Nat) (l : List LeafD) (w : World) (h : LC w w.heap.size A l) (m : l.length ≤ maxLen) :
    Calls Tryz.prog 19 #[.slice A l.length c] w fun e w' => e = .returned (.int .i64 (if okHeapB l then 0 else 1)) ∧ Below w.heap.size w w' := by
  obtain ⟨n, hn⟩ : ∃ n, l.length = n := ⟨_, rfl⟩
  unfold maxLen at m
  rw [hn] at m ⊢
  obtain ⟨R, hR⟩ : ∃ R, okHeapB l = R := ⟨_, rfl⟩
  rw [hR]
  have HR := Lib.hid hR
  have NO : Hid (¬ OkHeap l → R = false) := fun h => by rw [← hR]; exact chk_false h
  have H := Lib.hid h
  have N := Lib.hid hn
  clear h hn hR
  have hmm := @run_makeMap Tryz.prog
  have hsf := run_store_f64
  by_cases e0 : n < 1
  · have e0' : (n : Int) < 1 := by omega
    have hR := NO.out fun h => by have := h.1; rw [N.out] at this; omega
    subst hR
    go_enter Tryz.func19, Tryz.ntmps19
    go_wp2
    go_ret
    exact ⟨rfl, Below.refl _ _⟩
  · have e0' : ¬ (n : Int) < 1 := by omega
    by_cases e1 : 62 < n
    · have e1' : (62 : Int) < (n : Int) := by omega
      have hR := NO.out fun h => by have := h.2.1; rw [N.out] at this; omega
      subst hR
      go_enter Tryz.func19, Tryz.ntmps19
      go_wp2
      go_ret
      exact ⟨rfl, Below.refl _ _⟩
    · have e1' : ¬ (62 : Int) < (n : Int) := by omega
      go_enter Tryz.func19, Tryz.ntmps19
      go_wp2
      go_loopw [23] (fun i wr => ∃ j : Nat, j ≤ n ∧ i = .int .i64 j ∧ (∀ d ∈ l.take j, OkLeaf d ∧ FullS d.slots) ∧ ((rowsL (l.take j)).map RowD.rank).Nodup ∧ Met wr w.heap.size ((rowsL (l.take j)).map RowD.rank) ∧ Below w.heap.size w wr) (fun i _ => n - (intOf i).toNat)
      case atStart => exact ⟨0, Nat.zero_le _, rfl, by simp, by simp [rowsL], by simpa [rowsL] using Met.made w, (Below.refl _ _).alloc (Nat.le_refl _) _⟩
      case round =>
        obtain ⟨j, hj, rfl, hok, hnd, hmet, hb⟩ := hrel
        have HOK := Lib.hid hok
        have HND := Lib.hid hnd
        have HMET := Lib.hid hmet
        have HB := Lib.hid hb
        clear hok hnd hmet hb
        by_cases hlt : j < n
        · obtain ⟨d, hd⟩ := get_at' N hlt
          obtain ⟨b, off, A1, k1, A2, k2, e, hbB, hc0, hc1, hz, hs, m1, m2, q1, q2, _, _⟩ := (H.out.below HB.out).at_ hd
          subst e
          have hbw : Below w.heap.size w (wr.alloc (.cells #[.slice A1 d.itl.length k1, .slice A2 d.slots.length k2] 66)) := HB.out.alloc HB.out.size _
          have hbr : Below wr.heap.size wr (wr.alloc (.cells #[.slice A1 d.itl.length k1, .slice A2 d.slots.length k2] 66)) := (Below.refl _ _).alloc (Nat.le_refl _) _
          have ck := leafcheck_any d A1 A2 k1 k2 (wr.alloc (.cells #[.slice A1 d.itl.length k1, .slice A2 d.slots.length k2] 66)) (((hz.more HB.out.size).below hbr).more hbr.size) (((hs.more HB.out.size).below hbr).more hbr.size) m1 m2 q1
          have HS := Lib.hid (hs.below (hbr.mono HB.out.size))
          have hmb := HMET.out.on hbr
          have hkb := heap_alloc_new wr (.cells #[.slice A1 d.itl.length k1, .slice A2 d.slots.length k2] 66)
          have hklt : wr.heap.size < (wr.alloc (.cells #[.slice A1 d.itl.length k1, .slice A2 d.slots.length k2] 66)).heap.size := by simp
          unfold LeafD.cells at ck
          obtain ⟨n1, hn1⟩ : ∃ n, d.itl.length = n := ⟨_, rfl⟩
          obtain ⟨n2, hn2⟩ : ∃ n, d.slots.length = n := ⟨_, rfl⟩
          rw [hn1, hn2] at ck hkb hklt hbw
          rw [hn1] at hc0
          rw [hn2] at hc1 m2 q2
          simp only [hn1, hn2] at hmb HS
          unfold maxLen at m2
          have N2 := Lib.hid hn2
          have HD := Lib.hid hd
          have HBW := Lib.hid hbw
          have HMB := Lib.hid hmb
          have CK : Hid (Calls Tryz.prog 54 #[.agg #[.slice A1 n1 k1, .slice A2 n2 k2]] (wr.alloc (.cells #[.slice A1 n1 k1, .slice A2 n2 k2] 66)) fun e w' => e = .returned (.int .i64 (if okLeafB d then 0 else 1)) ∧ Below w.heap.size w w' ∧ Met w' w.heap.size ((rowsL (l.take j)).map RowD.rank) ∧ w'.heap[wr.heap.size]? = some (.cells #[.slice A1 n1 k1, .slice A2 n2 k2] 66 (0, 0)) ∧ SC w' w.heap.size A2 d.slots) := ck.mono fun e w' hh => ⟨hh.1, HBW.out.trans (hh.2.mono HBW.out.size), HMB.out.on hh.2, (hh.2.block _ hklt).trans hkb, HS.out.below (hh.2.mono HBW.out.size)⟩
          clear ck hz hs hmb hkb hklt hbw hbr hn1 hn2 hd m1 q1 q2 HS HBW HMB hbB
          cases hlf : okLeafB d with
          | false =>
            rw [hlf] at CK
            have hR := NO.out fun h => by
              have := (h.2.2.1 d (List.mem_of_getElem? HD.out)).1
              rw [okLeafB_true this] at hlf
              cases hlf
            subst hR
            go_wp2_with (go_at_call 54; (with_reducible refine CK.out.mono ?_); rintro e w1 ⟨rfl, hb1, _, _, _⟩)
            go_ret
            exact ⟨rfl, hb1⟩
          | true =>
            rw [hlf] at CK
            have hok2 := okLeafB_iff.1 hlf
            have HOK2 := Lib.hid hok2
            clear hlf hok2
            go_wp2_with (go_at_call 54; (with_reducible refine CK.out.mono ?_); rintro e w1 ⟨rfl, hb1, hm1, hk1, hs1⟩; have u1 := cell_of_row _ _ 1 _ _ _ hk1; simp only [List.getElem?_toArray, List.getElem?_cons_succ, List.getElem?_cons_zero] at u1; have HB1 := Lib.hid hb1; have HM1 := Lib.hid hm1; have HS1 := Lib.hid hs1; clear hb1 hm1 hs1 hk1)
            go_loopw [35] (fun i wr => ∃ k : Nat, k ≤ n2 ∧ i = .int .i64 k ∧ FullS (d.slots.take k) ∧ (ranks l j d.slots k).Nodup ∧ Met wr w.heap.size (ranks l j d.slots k) ∧ Below w.heap.size w wr ∧ SC wr w.heap.size A2 d.slots) (fun i _ => n2 - (intOf i).toNat)
            case atStart => exact ⟨0, Nat.zero_le _, rfl, by rw [List.take_zero]; exact fun s hs => absurd hs (by simp), by rw [ranks_zero]; exact HND.out, by rw [ranks_zero]; exact HM1.out, HB1.out, HS1.out⟩
            case round =>
              obtain ⟨k, hk, rfl, hfull, hnd, hmet, hb, hsc⟩ := hrel
              have HFULL := Lib.hid hfull
              have HND2 := Lib.hid hnd
              have HMET2 := Lib.hid hmet
              have HB2 := Lib.hid hb
              have HSC := Lib.hid hsc
              clear hfull hnd hmet hb hsc
              by_cases hlt2 : k < n2
              · obtain ⟨s, hs⟩ := get_at' N2 hlt2
                obtain ⟨b2, off2, A', c', e, hbB2, hc2, hbc, hlc, hcm, _⟩ := HSC.out.at_ hs
                subst e
                have HS := Lib.hid hs
                obtain ⟨y, hy⟩ : ∃ y, s.length = y := ⟨_, rfl⟩
                have HY := Lib.hid hy
                by_cases hy0 : y = 0
                · have hnone := decL_nil (hy.trans hy0)
                  have HR1 := Lib.hid (ranks_same (l := l) (j := j) hs hnone)
                  have HF1 := Lib.hid (full_step HFULL.out hs (fun hx => absurd (hy.trans hy0) hx))
                  rw [hy] at hc2
                  clear hbc hlc hcm hs hy hnone
                  subst hy0
                  go_wp2
                  exact ⟨⟨k + 1, by omega, by go_num, HF1.out, by rw [HR1.out]; exact HND2.out, by rw [HR1.out]; exact HMET2.out, HB2.out, HSC.out⟩, by simp [intOf]; omega⟩
                · have hy0' : ¬ (y : Int) = 0 := by omega
                  have hy255 : y ≤ 255 := by rw [← hy]; exact HOK2.out.2.2.2.2.1 s (List.mem_of_getElem? hs)
                  rw [hy] at hc2 hlc
                  cases hdec : decL s with
                  | none =>
                    have DC := Lib.hid (decode_no (hbc.more HB2.out.size) hy (by omega) hlc hcm hdec)
                    have hR := NO.out fun h => by
                      obtain ⟨x, hx⟩ := (h.2.2.1 d (List.mem_of_getElem? HD.out)).2 s (List.mem_of_getElem? hs) (by omega)
                      rw [hx] at hdec
                      cases hdec
                    subst hR
                    clear hbc hs hy hdec
                    go_wp2_with (first
                      | (go_at_call 55; (with_reducible refine DC.out.mono ?_); rintro e w2 ⟨key, dead, A3, n3, c3, x3, z3, t3, rfl, hkey, hb3⟩; have HKEY := Lib.hid hkey; have HB3 := Lib.hid hb3; clear hkey hb3)
                      | (go_at_call 56; (with_reducible refine (rank_any _ HKEY.out _).mono ?_); rintro e w' ⟨rfl, rfl⟩))
                    go_ret
                    exact ⟨rfl, HB2.out.trans ((HB3.out.alloc HB3.out.size _).mono HB2.out.size)⟩
                  | some r =>
                    have hkey := decL_key hbc hdec
                    have DC := Lib.hid (decode_yes (hbc.more HB2.out.size) hy (by omega) hlc hcm hdec)
                    have HKEY := Lib.hid hkey
                    have HRK := Lib.hid (rankN_lt r.key hkey)
                    have HR1 := Lib.hid (ranks_more (l := l) (j := j) hs hdec)
                    have HF1 := Lib.hid (full_step HFULL.out hs (fun _ => ⟨r, hdec⟩))
                    have HDEC := Lib.hid hdec
                    have HLE := Lib.hid (ranks_le (l := l) (j := j) (ss := d.slots) (k := k) (fun d hd => (HOK.out d hd).1.2.1) (by omega) HOK2.out.2.1)
                    obtain ⟨key, dead, cols, x3, z3, t3⟩ := r
                    simp only [RowD.rank] at HR1 DC HKEY HRK
                    obtain ⟨q, hq⟩ : ∃ q, rankN key = q := ⟨_, rfl⟩
                    rw [hq] at HR1 HRK
                    have RK := rank_any key HKEY.out
                    rw [hq] at RK
                    have HQ := Lib.hid hq
                    clear hbc hs hy hdec hkey hq
                    by_cases hmem : q ∈ ranks l j d.slots k
                    · have hR := NO.out (bad_dup HD.out HS.out HDEC.out (by unfold RowD.rank; rw [HQ.out]; exact hmem))
                      subst hR
                      go_wp2_with (first
                        | (go_at_call 55; (with_reducible refine DC.out.mono ?_); rintro e w2 ⟨A3, c3, rfl, hb3, _⟩; have hlook := (HMET2.out.on (hb3.alloc hb3.size (.cells #[.float .f64 key, .bool dead, .slice A3 cols.length c3, .int .i64 x3, .int .i64 z3, .int .i64 t3] 30))).look HRK.out; rw [decide_eq_true hmem] at hlook; have HB3 := Lib.hid hb3; clear hb3)
                        | (go_at_call 56; (with_reducible refine (RK _).mono ?_); rintro e w' ⟨rfl, rfl⟩))
                      go_ret
                      exact ⟨rfl, HB2.out.trans ((HB3.out.alloc HB3.out.size _).mono HB2.out.size)⟩
                    · go_wp2_with (first
                        | (go_at_call 55; (with_reducible refine DC.out.mono ?_); rintro e w2 ⟨A3, c3, rfl, hb3, _⟩; have hmt := (HMET2.out.on (hb3.alloc hb3.size (.cells #[.float .f64 key, .bool dead, .slice A3 cols.length c3, .int .i64 x3, .int .i64 z3, .int .i64 t3] 30))); have hlook := hmt.look HRK.out; rw [decide_eq_false hmem] at hlook; obtain ⟨w4, hput, hmt4, hg4⟩ := hmt.put HRK.out HLE.out; have HB3 := Lib.hid hb3; have HM4 := Lib.hid hmt4; have HG4 := Lib.hid hg4; clear hb3 hmt4 hg4 hmt)
                        | (go_at_call 56; (with_reducible refine (RK _).mono ?_); rintro e w' ⟨rfl, rfl⟩))
                      have hbx : Below w.heap.size wr w4 := ((HB3.out.alloc HB3.out.size _).mono HB2.out.size).grown HG4.out (Nat.le_trans HB2.out.size (HB3.out.alloc HB3.out.size _).size) (fun z hz => by injection hz with hz; omega)
                      exact ⟨⟨k + 1, by omega, by go_num, HF1.out, by rw [HR1.out]; exact List.nodup_append.2 ⟨HND2.out, by simp, fun a ha b hb => by rw [List.mem_singleton.1 hb]; exact fun e => hmem (e ▸ ha)⟩, by rw [HR1.out]; exact HM4.out, HB2.out.trans hbx, HSC.out.below hbx⟩, by simp [intOf]; omega⟩
              · have hkn : k = n2 := by omega
                subst hkn
                go_wp2
                have hr := ranks_all HD.out
                rw [N2.out] at hr
                refine ⟨⟨j + 1, by omega, by go_num, ?_, by rw [← hr]; exact HND2.out, by rw [← hr]; exact HMET2.out, HB2.out⟩, by simp [intOf]; omega⟩
                rw [take_at' HD.out]
                intro x hx
                rcases List.mem_append.1 hx with hx | hx
                · exact HOK.out x hx
                · rw [List.mem_singleton.1 hx]
                  have hf := HFULL.out
                  rw [List.take_of_length_le (by rw [N2.out]; omega)] at hf
                  exact ⟨HOK2.out, hf⟩
        · have hjn : j = n := by omega
          subst hjn
          have hR : R = true := by
            rw [← HR.out]
            have ho := HOK.out
            have hx := HND.out
            rw [List.take_of_length_le (by rw [N.out]; omega)] at ho hx
            exact chk_true ⟨by rw [N.out]; omega, by rw [N.out]; omega, ho, hx⟩
          subst hR
          go_wp2
          go_ret
          exact ⟨rfl, HB.out⟩
end Go.Proofs.YtdbnlngkmfmnnaaGreatDoor
