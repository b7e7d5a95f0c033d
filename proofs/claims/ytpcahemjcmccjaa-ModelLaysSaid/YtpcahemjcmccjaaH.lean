/- Where a key stands in a state: the search by halves. -/
import Derived.Test.YtpcahemjcmccjaaG
namespace Go.Proofs.Ytpcahemjcmccjaa
open Go.RowKit

def RowD.rank (d : RowD) : Nat := rankN d.key

set_option maxHeartbeats 1000000 in
theorem atcmp_any (a : RowD) (A : Option Addr) (c : Nat) (key : Nat) (w : World) (hk : a.key < 18446744073709551616) (hk2 : key < 18446744073709551616) :
    Calls Try.prog 34 #[.agg (a.cells A c), .float .f64 key] w fun e w' => e = .returned (.int .i64 (cmpZ a.rank (rankN key))) ∧ Below w.heap.size w w' := by
  unfold RowD.rank RowD.cells
  have cc := compare_any a.key key hk hk2
  clear hk hk2
  go_enter Try.func34, Try.ntmps34
  go_wp2_with (go_at_call 35; (with_reducible refine (cc _).mono ?_); rintro e w' ⟨rfl, rfl⟩)
  go_ret
  exact ⟨rfl, (Below.refl _ _).alloc (Nat.le_refl _) _⟩
theorem atcmp_of (a : RowD) (A : Option Addr) (c : Nat) (key : Nat) (w W : World) (hb : Below w.heap.size w W) (hk : a.key < 18446744073709551616) (hk2 : key < 18446744073709551616) :
    Calls Try.prog 34 #[.agg (a.cells A c), .float .f64 key] W fun e w' => e = .returned (.int .i64 (cmpZ a.rank (rankN key))) ∧ Below w.heap.size w w' :=
  (atcmp_any a A c key W hk hk2).mono fun _ _ h => ⟨h.1, hb.trans (h.2.mono hb.size)⟩

/-- Rows by rising rank. -/
def Rising (l : List RowD) : Prop := l.Pairwise fun a b => a.rank < b.rank
/-- Here it stands, or would. -/
def Stands (l : List RowD) (r : Nat) (i : Nat) (f : Bool) : Prop :=
  i ≤ l.length ∧ (∀ d ∈ l.take i, d.rank < r) ∧ (∀ d ∈ l.drop i, r ≤ d.rank) ∧ (f = true ↔ ∃ d, l[i]? = some d ∧ d.rank = r)
def StandsAt (l : List RowD) (r : Nat) (w : World) (e : Ending) (w' : World) : Prop :=
  ∃ (i : Nat) (f : Bool), e = .returned (.tuple #[.int .i64 i, .bool f]) ∧ Stands l r i f ∧ Below w.heap.size w w'

theorem take_up {l : List RowD} {k r : Nat} {d : RowD} (hs : Rising l) (hd : l[k]? = some d) (h : d.rank < r) : ∀ x ∈ l.take (k + 1), x.rank < r := by
  intro x hx
  rw [List.mem_iff_getElem?] at hx
  obtain ⟨i, hi⟩ := hx
  rw [List.getElem?_take] at hi
  split at hi
  · rename_i hlt
    rcases Nat.lt_or_eq_of_le (Nat.le_of_lt_succ hlt) with h1 | rfl
    · obtain ⟨h2, rfl⟩ := List.getElem?_eq_some_iff.1 hd
      obtain ⟨h3, rfl⟩ := List.getElem?_eq_some_iff.1 hi
      have := List.pairwise_iff_getElem.1 hs i k h3 h2 h1
      omega
    · rw [hd] at hi; injection hi with hi; rw [← hi]; exact h
  · cases hi
theorem drop_down {l : List RowD} {k r : Nat} {d : RowD} (hs : Rising l) (hd : l[k]? = some d) (h : ¬ d.rank < r) : ∀ x ∈ l.drop k, r ≤ x.rank := by
  intro x hx
  rw [List.mem_iff_getElem?] at hx
  obtain ⟨i, hi⟩ := hx
  rw [List.getElem?_drop] at hi
  rcases Nat.eq_zero_or_pos i with rfl | h1
  · rw [Nat.add_zero, hd] at hi; injection hi with hi; rw [← hi]; omega
  · obtain ⟨h2, rfl⟩ := List.getElem?_eq_some_iff.1 hd
    obtain ⟨h3, rfl⟩ := List.getElem?_eq_some_iff.1 hi
    have := List.pairwise_iff_getElem.1 hs k (k + i) h2 h3 (by omega)
    omega

theorem cmpZ_neg (a b : Nat) : (cmpZ a b < 0) ↔ a < b := by
  unfold cmpZ
  by_cases h : a < b
  · rw [if_pos h]; simp [h]
  · rw [if_neg h]
    by_cases h2 : b < a
    · rw [if_pos h2]; simp [h]
    · rw [if_neg h2]; simp [h]
theorem cmpZ_zero (a b : Nat) : (cmpZ a b = 0) ↔ a = b := by
  unfold cmpZ
  by_cases h : a < b
  · rw [if_pos h]; constructor <;> intro h' <;> omega
  · rw [if_neg h]
    by_cases h2 : b < a
    · rw [if_pos h2]; constructor <;> intro h' <;> omega
    · rw [if_neg h2]; constructor <;> intro h' <;> omega

set_option maxHeartbeats 4000000 in
set_option maxRecDepth 1000000 in
theorem bsearch_any (A : Option Addr) (c : Nat) (l : List RowD) (key : Nat) (w : World) (h : RC w w.heap.size A l) (m : l.length ≤ 1000000) (hs : Rising l) (hk : key < 18446744073709551616) :
    Calls Try.prog 33 #[.slice A l.length c, .float .f64 key, .func (.func 34) #[] #[]] w (StandsAt l (rankN key) w) := by
  obtain ⟨n, hn⟩ : ∃ n, l.length = n := ⟨_, rfl⟩
  rw [hn] at m ⊢
  have H := Lib.hid h
  have N := Lib.hid hn
  have HS := Lib.hid hs
  have HY := Lib.hid hk
  clear h hn hs hk
  go_enter Try.func33, Try.ntmps33
  go_wp2
  go_loopw [9, 10] (fun i j wr => ∃ a b : Nat, a ≤ b ∧ b ≤ n ∧ i = .int .i64 a ∧ j = .int .i64 b ∧ (∀ d ∈ l.take a, d.rank < rankN key) ∧ (∀ d ∈ l.drop b, rankN key ≤ d.rank) ∧ Below w.heap.size w wr) (fun i j _ => (intOf j - intOf i).toNat)
  case atStart => exact ⟨0, n, Nat.zero_le _, Nat.le_refl _, rfl, rfl, by simp, (by rw [← N.out]; simp), Below.refl _ _⟩
  case round =>
    obtain ⟨a, b, hab, hbn, rfl, rfl, ht, hd, hb⟩ := hrel
    have HB := Lib.hid hb
    have HT := Lib.hid ht
    have HD := Lib.hid hd
    clear hb ht hd
    by_cases hlt : a < b
    · obtain ⟨d1, hd1⟩ := get_at N (show (a + b) / 2 < n by omega)
      obtain ⟨b1, o1, A1', c1', e1, q1, q2, q3, q4, q5, q6, r0, r1, r2, r3, r4, r5⟩ := (H.out.below HB.out).at_ hd1
      subst e1
      have cs := fun W (hb : Below wr.heap.size wr W) => atcmp_of d1 A1' c1' key wr W hb q5 HY.out
      have HD1 := Lib.hid hd1
      clear q1 q2 q3 q4 q5 q6 hd1
      simp only [RowD.cells] at cs
      by_cases hx : d1.rank < rankN key
      · have hz : decide (cmpZ d1.rank (rankN key) < 0) = true := decide_eq_true ((cmpZ_neg _ _).2 hx)
        have HU := Lib.hid (take_up HS.out HD1.out hx)
        have CS := Lib.hid cs
        clear cs hx
        go_wp2_with (go_at_call 34; (with_reducible refine (CS.out _ (Below.refl _ _)).mono ?_); rintro e w1 ⟨rfl, hb1⟩)
        refine ⟨⟨(a + b) / 2 + 1, b, by omega, hbn, ?_, rfl, HU.out, HD.out, HB.out.trans (hb1.mono HB.out.size)⟩, ?_⟩
        · rw [show ((a : Int) + (b : Int)) / 2 + 1 = (((a + b) / 2 + 1 : Nat) : Int) by omega]
        · simp [intOf]; omega
      · have hz : decide (cmpZ d1.rank (rankN key) < 0) = false := decide_eq_false fun h => hx ((cmpZ_neg _ _).1 h)
        have HU := Lib.hid (drop_down HS.out HD1.out hx)
        have CS := Lib.hid cs
        clear cs hx
        go_wp2_with (go_at_call 34; (with_reducible refine (CS.out _ (Below.refl _ _)).mono ?_); rintro e w1 ⟨rfl, hb1⟩)
        refine ⟨⟨a, (a + b) / 2, by omega, by omega, rfl, ?_, HT.out, HU.out, HB.out.trans (hb1.mono HB.out.size)⟩, ?_⟩
        · rw [show ((a : Int) + (b : Int)) / 2 = (((a + b) / 2 : Nat) : Int) by omega]
        · simp [intOf]; omega
    · obtain rfl : a = b := by omega
      by_cases hin : a < n
      · obtain ⟨d1, hd1⟩ := get_at N hin
        obtain ⟨b1, o1, A1', c1', e1, q1, q2, q3, q4, q5, q6, r0, r1, r2, r3, r4, r5⟩ := (H.out.below HB.out).at_ hd1
        subst e1
        have cs := fun W (hb : Below wr.heap.size wr W) => atcmp_of d1 A1' c1' key wr W hb q5 HY.out
        have HD1 := Lib.hid hd1
        clear q1 q2 q3 q4 q5 q6 hd1
        simp only [RowD.cells] at cs
        by_cases hx : d1.rank = rankN key
        · have hz : (cmpZ d1.rank (rankN key) == 0) = true := beq_iff_eq.2 ((cmpZ_zero _ _).2 hx)
          have HX := Lib.hid hx
          have CS := Lib.hid cs
          clear cs hx
          go_wp2_with (go_at_call 34; (with_reducible refine (CS.out _ (Below.refl _ _)).mono ?_); rintro e w1 ⟨rfl, hb1⟩)
          go_ret2
          exact ⟨a, true, rfl, ⟨by rw [N.out]; omega, HT.out, HD.out, ⟨fun _ => ⟨d1, HD1.out, HX.out⟩, fun _ => rfl⟩⟩, HB.out.trans (hb1.mono HB.out.size)⟩
        · have hz : (cmpZ d1.rank (rankN key) == 0) = false := beq_eq_false_iff_ne.2 fun h => hx ((cmpZ_zero _ _).1 h)
          have HX := Lib.hid hx
          have CS := Lib.hid cs
          clear cs hx
          go_wp2_with (go_at_call 34; (with_reducible refine (CS.out _ (Below.refl _ _)).mono ?_); rintro e w1 ⟨rfl, hb1⟩)
          go_ret2
          refine ⟨a, false, rfl, ⟨by rw [N.out]; omega, HT.out, HD.out, ⟨(fun h => by cases h), fun ⟨d, h1, h2⟩ => ?_⟩⟩, HB.out.trans (hb1.mono HB.out.size)⟩
          rw [HD1.out] at h1
          injection h1 with h1
          subst h1
          exact absurd h2 HX.out
      · have HN := Lib.hid (show l[a]? = none from List.getElem?_eq_none (by rw [N.out]; omega))
        go_wp2
        go_ret2
        refine ⟨a, false, rfl, ⟨by rw [N.out]; omega, HT.out, HD.out, ⟨(fun h => by cases h), fun ⟨d, h1, h2⟩ => ?_⟩⟩, HB.out⟩
        rw [HN.out] at h1
        cases h1

theorem bsearch_of (A : Option Addr) (c : Nat) (l : List RowD) (key : Nat) (w W : World) (hb : Below w.heap.size w W) (h : RC w w.heap.size A l) (m : l.length ≤ 1000000) (hs : Rising l) (hk : key < 18446744073709551616) :
    Calls Try.prog 33 #[.slice A l.length c, .float .f64 key, .func (.func 34) #[] #[]] W fun e w' => ∃ (i : Nat) (f : Bool), e = .returned (.tuple #[.int .i64 i, .bool f]) ∧ Stands l (rankN key) i f ∧ Below w.heap.size w w' :=
  (bsearch_any A c l key W ((h.below hb).more hb.size) m hs hk).mono fun _ _ ⟨i, f, h1, h2, h3⟩ => ⟨i, f, h1, h2, hb.trans (h3.mono hb.size)⟩

set_option maxHeartbeats 1000000 in
theorem at_any (A : Option Addr) (c : Nat) (l : List RowD) (key : Nat) (w : World) (h : RC w w.heap.size A l) (m : l.length ≤ 1000000) (hs : Rising l) (hk : key < 18446744073709551616) :
    Calls Try.prog 14 #[.slice A l.length c, .float .f64 key] w (StandsAt l (rankN key) w) := by
  have CS := Lib.hid (fun W (hb : Below w.heap.size w W) => bsearch_of A c l key w W hb h m hs hk)
  clear h m hs hk
  go_enter Try.func14, Try.ntmps14
  go_wp2_with (go_at_call 33; (with_reducible refine (CS.out _ (Below.refl _ _)).mono ?_); rintro e w1 ⟨i, f, rfl, hst, hb1⟩; have HST := Lib.hid hst; clear hst)
  go_ret2
  exact ⟨i, f, rfl, HST.out, hb1⟩
theorem at_of (A : Option Addr) (c : Nat) (l : List RowD) (key : Nat) (w W : World) (hb : Below w.heap.size w W) (h : RC w w.heap.size A l) (m : l.length ≤ 1000000) (hs : Rising l) (hk : key < 18446744073709551616) :
    Calls Try.prog 14 #[.slice A l.length c, .float .f64 key] W fun e w' => ∃ (i : Nat) (f : Bool), e = .returned (.tuple #[.int .i64 i, .bool f]) ∧ Stands l (rankN key) i f ∧ Below w.heap.size w w' :=
  (at_any A c l key W ((h.below hb).more hb.size) m hs hk).mono fun _ _ ⟨i, f, h1, h2, h3⟩ => ⟨i, f, h1, h2, hb.trans (h3.mono hb.size)⟩
end Go.Proofs.Ytpcahemjcmccjaa
