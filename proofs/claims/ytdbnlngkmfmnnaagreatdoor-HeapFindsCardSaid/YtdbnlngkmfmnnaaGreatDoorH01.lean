/- Numbers as keys, in plain Lean: the order of floats is the order of their ranks. No program in sight. -/
import Ieee.Arith
import Derived.Test.YtdbnlngkmfmnnaaGreatDoorRows
import Derived.WalkKit
import Derived.WalkSpells
import Derived.WalkLawsBesides
import Derived.Lib.Hide
import Derived.LoopTactic
import Derived.Deep.LoopGhost
import Derived.Deep.QuietTactic
import Derived.BigQuiet
import Derived.Below
namespace Go.Proofs.YtdbnlngkmfmnnaaGreatDoor

/-- What a rung is worth. -/
def rv (r : Nat) : Nat := if r < 4503599627370496 then r else (4503599627370496 + r % 4503599627370496) * 2 ^ (r / 4503599627370496 - 1)

theorem rv_step (r : Nat) : rv r < rv (r + 1) := by
  unfold rv
  by_cases h : r + 1 < 4503599627370496
  · rw [if_pos (by omega), if_pos h]; omega
  · by_cases h2 : r < 4503599627370496
    · have e : r + 1 = 4503599627370496 := by omega
      rw [if_pos h2, if_neg h, e]
      simp
      omega
    · rw [if_neg h2, if_neg h]
      by_cases h3 : r % 4503599627370496 + 1 = 4503599627370496
      · have e1 : (r + 1) % 4503599627370496 = 0 := by omega
        have e2 : (r + 1) / 4503599627370496 - 1 = (r / 4503599627370496 - 1) + 1 := by omega
        rw [e1, e2, Nat.pow_succ]
        have hp : 0 < 2 ^ (r / 4503599627370496 - 1) := Nat.two_pow_pos _
        generalize 2 ^ (r / 4503599627370496 - 1) = p at hp
        have e3 : r % 4503599627370496 = 4503599627370495 := by omega
        rw [e3]
        omega
      · have e1 : (r + 1) % 4503599627370496 = r % 4503599627370496 + 1 := by omega
        have e2 : (r + 1) / 4503599627370496 = r / 4503599627370496 := by omega
        rw [e1, e2]
        have hp : 0 < 2 ^ (r / 4503599627370496 - 1) := Nat.two_pow_pos _
        exact Nat.mul_lt_mul_of_pos_right (by omega) hp

theorem rv_mono {r s : Nat} (h : r < s) : rv r < rv s := by
  obtain ⟨d, rfl⟩ : ∃ d, s = r + 1 + d := ⟨s - (r + 1), by omega⟩
  clear h
  induction d with
  | zero => exact rv_step r
  | succ d ih => exact Nat.lt_trans ih (rv_step _)
theorem rv_le {r s : Nat} (h : r ≤ s) : rv r ≤ rv s := by
  rcases Nat.lt_or_eq_of_le h with h | rfl
  · exact Nat.le_of_lt (rv_mono h)
  · exact Nat.le_refl _
theorem rv_lt {r s : Nat} : rv r < rv s ↔ r < s := by
  constructor
  · intro h
    rcases Nat.lt_or_ge r s with h' | h'
    · exact h'
    · have := rv_le h'; omega
  · exact rv_mono
theorem rv_zero : rv 0 = 0 := rfl

/-- What a number's bits are worth. -/
def sv (b : Nat) : Int := if b / 9223372036854775808 % 2 = 1 then -(rv (b % 9223372036854775808) : Int) else (rv (b % 9223372036854775808) : Int)

open Ieee

theorem d_sw : double.signWeight = 9223372036854775808 := by decide
theorem d_bi : double.binade = 4503599627370496 := by decide
theorem d_inf : double.infRung = 9218868437227405312 := by decide

/-- place and magnitude of a rung -/
theorem rv_mag (r : Nat) : ∃ m e : Nat, rv r = m * 2 ^ e ∧ (∀ s : Bool, (if r < double.binade then Datum.number s r double.leastPlace else .number s (double.binade + r % double.binade) (double.leastPlace + (r / double.binade - 1 : Nat))) = .number s m (double.leastPlace + (e : Nat))) := by
  rw [d_bi]
  unfold rv
  by_cases h : r < 4503599627370496
  · refine ⟨r, 0, by rw [if_pos h]; simp, fun s => ?_⟩
    rw [if_pos h]
    simp
  · refine ⟨4503599627370496 + r % 4503599627370496, r / 4503599627370496 - 1, by rw [if_neg h], fun s => ?_⟩
    rw [if_neg h]

theorem read_num (b : Nat) (h : b % 9223372036854775808 < 9218868437227405312) :
    ∃ m e : Nat, rv (b % 9223372036854775808) = m * 2 ^ e ∧ double.read b = .number (b / 9223372036854775808 % 2 == 1) m (double.leastPlace + (e : Nat)) := by
  obtain ⟨m, e, h1, h2⟩ := rv_mag (b % 9223372036854775808)
  refine ⟨m, e, h1, ?_⟩
  rw [← h2]
  unfold Format.read
  simp only [d_sw, d_inf]
  rw [if_pos h]

theorem read_inf (b : Nat) (h : b % 9223372036854775808 = 9218868437227405312) : double.read b = .infinity (b / 9223372036854775808 % 2 == 1) := by
  unfold Format.read
  simp only [d_sw, d_inf, d_bi]
  rw [if_neg (by omega), if_neg (by omega), if_pos h]

theorem read_nan (b : Nat) (h : 9218868437227405312 < b % 9223372036854775808) : ∃ x, double.read b = .nan (b / 9223372036854775808 % 2 == 1) x := by
  refine ⟨b % 9223372036854775808 - 9218868437227405312, ?_⟩
  unfold Format.read
  simp only [d_sw, d_inf, d_bi]
  rw [if_neg (by omega), if_neg (by omega), if_neg (by omega)]

theorem signed_eq (s : Bool) (m u : Nat) : signed s m u = (if s then -((m * 2 ^ u : Nat) : Int) else ((m * 2 ^ u : Nat) : Int)) := by
  unfold signed
  rw [Nat.shiftLeft_eq]

theorem cmp_scale (x y : Int) (k : Nat) (hk : 0 < k) : compare (x * k) (y * k) = compare x y := by
  have hk' : (0 : Int) < k := by omega
  simp only [compare, compareOfLessAndEq]
  by_cases h1 : x < y
  · rw [if_pos h1, if_pos (Int.mul_lt_mul_of_pos_right h1 hk')]
  · by_cases h2 : x = y
    · subst h2; simp
    · have h3 : y < x := by omega
      have h4 : y * k < x * k := Int.mul_lt_mul_of_pos_right h3 hk'
      rw [if_neg (by omega), if_neg (by omega), if_neg h1, if_neg h2]

theorem ord_num (s t : Bool) (m n e f : Nat) (L : Int) :
    (Datum.number s m (L + (e : Nat))).order (.number t n (L + (f : Nat))) =
      some (compare (if s then -((m * 2 ^ e : Nat) : Int) else ((m * 2 ^ e : Nat) : Int)) (if t then -((n * 2 ^ f : Nat) : Int) else ((n * 2 ^ f : Nat) : Int))) := by
  simp only [Datum.order]
  congr 1
  rw [signed_eq, signed_eq]
  have key : ∀ (e f : Nat) (d : Nat), d ≤ e → d ≤ f → compare (if s then -((m * 2 ^ e : Nat) : Int) else ((m * 2 ^ e : Nat) : Int)) (if t then -((n * 2 ^ f : Nat) : Int) else ((n * 2 ^ f : Nat) : Int)) =
      compare (if s then -((m * 2 ^ (e - d) : Nat) : Int) else ((m * 2 ^ (e - d) : Nat) : Int)) (if t then -((n * 2 ^ (f - d) : Nat) : Int) else ((n * 2 ^ (f - d) : Nat) : Int)) := by
    intro e f d h1 h2
    have he : m * 2 ^ e = m * 2 ^ (e - d) * 2 ^ d := by rw [Nat.mul_assoc, ← Nat.pow_add, Nat.sub_add_cancel h1]
    have hf : n * 2 ^ f = n * 2 ^ (f - d) * 2 ^ d := by rw [Nat.mul_assoc, ← Nat.pow_add, Nat.sub_add_cancel h2]
    rw [he, hf]
    rw [← cmp_scale (if s then -((m * 2 ^ (e - d) : Nat) : Int) else ((m * 2 ^ (e - d) : Nat) : Int)) _ (2 ^ d) (Nat.two_pow_pos d)]
    congr 1
    · cases s <;> simp [Int.neg_mul]
    · cases t <;> simp [Int.neg_mul]
  rw [key e f (min e f) (Nat.min_le_left _ _) (Nat.min_le_right _ _)]
  have a1 : (L + (e : Nat) - min (L + (e : Nat)) (L + (f : Nat))).toNat = e - min e f := by omega
  have a2 : (L + (f : Nat) - min (L + (e : Nat)) (L + (f : Nat))).toNat = f - min e f := by omega
  rw [a1, a2]

theorem sv_of {b : Nat} {s : Bool} {m e : Nat} (hs : (b / 9223372036854775808 % 2 == 1) = s) (h : rv (b % 9223372036854775808) = m * 2 ^ e) : sv b = (if s then -((m * 2 ^ e : Nat) : Int) else ((m * 2 ^ e : Nat) : Int)) := by
  unfold sv
  rw [h]
  subst hs
  by_cases c : b / 9223372036854775808 % 2 = 1
  · rw [if_pos c]; simp [c]
  · rw [if_neg c]; simp [c]

theorem cmp_self (x : Int) : compare x x = .eq := by simp [compare, compareOfLessAndEq]
theorem cmp_lt {x y : Int} (h : x < y) : compare x y = .lt := by simp [compare, compareOfLessAndEq, h]
theorem cmp_gt {x y : Int} (h : y < x) : compare x y = .gt := by
  simp only [compare, compareOfLessAndEq]
  rw [if_neg (by omega), if_neg (by omega)]

theorem sv_cases (b : Nat) : (b / 9223372036854775808 % 2 = 1 ∧ sv b = -(rv (b % 9223372036854775808) : Int)) ∨ (b / 9223372036854775808 % 2 ≠ 1 ∧ sv b = (rv (b % 9223372036854775808) : Int)) := by
  unfold sv
  by_cases c : b / 9223372036854775808 % 2 = 1
  · exact .inl ⟨c, if_pos c⟩
  · exact .inr ⟨c, if_neg c⟩

theorem order_sv {a b : Nat} (ha : a % 9223372036854775808 ≤ 9218868437227405312) (hb : b % 9223372036854775808 ≤ 9218868437227405312) : double.order a b = some (compare (sv a) (sv b)) := by
  unfold Format.order
  have I : (0 : Int) < rv 9218868437227405312 := by have := rv_mono (show 0 < 9218868437227405312 by omega); rw [rv_zero] at this; omega
  rcases Nat.lt_or_eq_of_le ha with ha' | ha'
  · obtain ⟨m, e, h1, h2⟩ := read_num a ha'
    rcases Nat.lt_or_eq_of_le hb with hb' | hb'
    · obtain ⟨n, f, h3, h4⟩ := read_num b hb'
      rw [h2, h4, ord_num, sv_of rfl h1, sv_of rfl h3]
    · rw [h2, read_inf b hb']
      simp only [Datum.order]
      have hlt := rv_mono ha'
      rcases sv_cases b with ⟨c, e'⟩ | ⟨c, e'⟩ <;> rcases sv_cases a with ⟨c2, e2⟩ | ⟨c2, e2⟩ <;> rw [e', e2, hb']
      · rw [cmp_gt (by omega)]; simp [c]
      · rw [cmp_gt (by omega)]; simp [c]
      · rw [cmp_lt (by omega)]; simp [c]
      · rw [cmp_lt (by omega)]; simp [c]
  · rcases Nat.lt_or_eq_of_le hb with hb' | hb'
    · obtain ⟨n, f, h3, h4⟩ := read_num b hb'
      rw [h4, read_inf a ha']
      simp only [Datum.order]
      have hlt := rv_mono hb'
      rcases sv_cases b with ⟨c, e'⟩ | ⟨c, e'⟩ <;> rcases sv_cases a with ⟨c2, e2⟩ | ⟨c2, e2⟩ <;> rw [e', e2, ha']
      · rw [cmp_lt (by omega)]; simp [c2]
      · rw [cmp_gt (by omega)]; simp [c2]
      · rw [cmp_lt (by omega)]; simp [c2]
      · rw [cmp_gt (by omega)]; simp [c2]
    · rw [read_inf a ha', read_inf b hb']
      simp only [Datum.order]
      rcases sv_cases b with ⟨c, e'⟩ | ⟨c, e'⟩ <;> rcases sv_cases a with ⟨c2, e2⟩ | ⟨c2, e2⟩ <;> rw [e', e2, ha', hb']
      · rw [beq_iff_eq.2 c, beq_iff_eq.2 c2, cmp_self]; rfl
      · rw [cmp_gt (by omega), beq_iff_eq.2 c, beq_eq_false_iff_ne.2 c2]; rfl
      · rw [cmp_lt (by omega), beq_eq_false_iff_ne.2 c, beq_iff_eq.2 c2]; rfl
      · rw [beq_eq_false_iff_ne.2 c, beq_eq_false_iff_ne.2 c2, cmp_self]; rfl

theorem order_nan_l {a b : Nat} (ha : 9218868437227405312 < a % 9223372036854775808) : double.order a b = none := by
  obtain ⟨x, h⟩ := read_nan a ha
  unfold Format.order
  rw [h]
  rfl

/-- the reference's word: no number -/
def nanB (b : Nat) : Bool := decide (b / 4503599627370496 % 2048 = 2047) && !decide (b * 4096 % 18446744073709551616 = 0)
def valN (b : Nat) : Nat := bif nanB b then 9221120237041090561 else b
def keyN (b : Nat) : Nat := bif Nat.beq (valN b) 9223372036854775808 then 0 else valN b
def rankN (b : Nat) : Nat := bif Nat.ble 9223372036854775808 (keyN b) then 18446744073709551615 - keyN b else keyN b + 9223372036854775808
/-- the reference's Less -/
def lessN (a b : Nat) : Bool := bif nanB (keyN a) then false else bif nanB (keyN b) then true else double.order (keyN a) (keyN b) == some .lt

theorem nanB_iff (b : Nat) (_hb : b < 18446744073709551616) : nanB b = true ↔ 9218868437227405312 < b % 9223372036854775808 := by
  unfold nanB
  simp only [Bool.and_eq_true, Bool.not_eq_true', decide_eq_true_eq, decide_eq_false_iff_not]
  constructor
  · rintro ⟨h1, h2⟩; omega
  · intro h; constructor <;> omega

/-- the program's words -/
def isNaNb (b : Nat) : Bool := double.order b b != some .eq
def numValN (b : Nat) : Nat := bif isNaNb b then 9221120237041090561 else b
def numKeyN (b : Nat) : Nat := bif double.order b 0 == some .eq then 0 else numValN b

theorem isNaNb_eq (b : Nat) (hb : b < 18446744073709551616) : isNaNb b = nanB b := by
  unfold isNaNb
  cases h : nanB b with
  | true =>
    rw [nanB_iff b hb] at h
    rw [order_nan_l h]; rfl
  | false =>
    have h' : ¬ 9218868437227405312 < b % 9223372036854775808 := fun x => by rw [(nanB_iff b hb).2 x] at h; cases h
    rw [order_sv (by omega) (by omega), cmp_self]; rfl
theorem numValN_eq (b : Nat) (hb : b < 18446744073709551616) : numValN b = valN b := by unfold numValN valN; rw [isNaNb_eq b hb]

theorem sv_inj_zero (b : Nat) (hb : b < 18446744073709551616) : sv b = 0 ↔ b = 0 ∨ b = 9223372036854775808 := by
  have h0 : ∀ r, rv r = 0 ↔ r = 0 := fun r => ⟨fun h => by
    rcases Nat.eq_zero_or_pos r with h' | h'
    · exact h'
    · have := rv_mono h'; rw [rv_zero] at this; omega, fun h => by rw [h]; rfl⟩
  rcases sv_cases b with ⟨c, e⟩ | ⟨c, e⟩
  · rw [e]
    constructor
    · intro h
      have := (h0 _).1 (show rv (b % 9223372036854775808) = 0 by omega)
      omega
    · intro h
      have : b % 9223372036854775808 = 0 := by omega
      rw [this]; rfl
  · rw [e]
    constructor
    · intro h
      have := (h0 _).1 (show rv (b % 9223372036854775808) = 0 by omega)
      omega
    · intro h
      have : b % 9223372036854775808 = 0 := by omega
      rw [this]; rfl

theorem cmp_eq_iff (x y : Int) : compare x y = .eq ↔ x = y := by
  constructor
  · intro h
    rcases Int.lt_trichotomy x y with h1 | h1 | h1
    · rw [cmp_lt h1] at h; cases h
    · exact h1
    · rw [cmp_gt h1] at h; cases h
  · rintro rfl; exact cmp_self x
theorem cmp_lt_iff (x y : Int) : compare x y = .lt ↔ x < y := by
  constructor
  · intro h
    rcases Int.lt_trichotomy x y with h1 | h1 | h1
    · exact h1
    · rw [h1, cmp_self] at h; cases h
    · rw [cmp_gt h1] at h; cases h
  · exact cmp_lt

theorem numKeyN_eq (b : Nat) (hb : b < 18446744073709551616) : numKeyN b = keyN b := by
  unfold numKeyN keyN
  rw [numValN_eq b hb]
  cases hn : nanB b with
  | true =>
    rw [nanB_iff b hb] at hn
    rw [order_nan_l hn]
    have hv : valN b = 9221120237041090561 := by unfold valN; rw [(nanB_iff b hb).2 hn]; rfl
    rw [hv]; rfl
  | false =>
    have h' : ¬ 9218868437227405312 < b % 9223372036854775808 := fun x => by rw [(nanB_iff b hb).2 x] at hn; cases hn
    have hv : valN b = b := by unfold valN; rw [hn]; rfl
    rw [order_sv (by omega) (by omega), hv]
    have e0 : sv 0 = 0 := by decide
    rw [e0]
    by_cases hz : sv b = 0
    · rw [hz, cmp_self]
      rcases (sv_inj_zero b hb).1 hz with rfl | rfl
      · rfl
      · rfl
    · have h1 : (some (compare (sv b) 0) == some Ordering.eq) = false := by
        cases hc : compare (sv b) 0 with
        | eq => exact absurd ((cmp_eq_iff _ _).1 hc) hz
        | lt => rfl
        | gt => rfl
      rw [h1]
      have h2 : Nat.beq b 9223372036854775808 = false := by
        cases hq : Nat.beq b 9223372036854775808 with
        | false => rfl
        | true => exact absurd ((sv_inj_zero b hb).2 (.inr (Nat.eq_of_beq_eq_true hq))) hz
      rw [h2]

theorem keyN_lt (b : Nat) (hb : b < 18446744073709551616) : keyN b < 18446744073709551616 := by
  unfold keyN valN
  cases nanB b <;> simp only [cond_true, cond_false]
  · cases Nat.beq b 9223372036854775808 <;> simp only [cond_true, cond_false] <;> omega
  · decide
/-- a key: no number is the one word, and no zero has a sign -/
theorem keyN_form (b : Nat) (_hb : b < 18446744073709551616) : keyN b ≠ 9223372036854775808 ∧ (nanB (keyN b) = true → keyN b = 9221120237041090561) := by
  unfold keyN
  cases hn : nanB b with
  | true =>
    have hv : valN b = 9221120237041090561 := by unfold valN; rw [hn]; rfl
    rw [hv]
    exact ⟨by decide, fun _ => rfl⟩
  | false =>
    have hv : valN b = b := by unfold valN; rw [hn]; rfl
    rw [hv]
    cases hq : Nat.beq b 9223372036854775808 with
    | true => simp only [cond_true]; exact ⟨by decide, fun h => absurd h (by decide)⟩
    | false =>
      simp only [cond_false]
      refine ⟨fun h => ?_, fun h => by rw [hn] at h; cases h⟩
      rw [h] at hq; exact absurd hq (by decide)

theorem rankN_lt (b : Nat) (hb : b < 18446744073709551616) : rankN b < 18446744073709551616 := by
  have h := keyN_lt b hb
  unfold rankN
  cases hq : Nat.ble 9223372036854775808 (keyN b) with
  | true => simp only [cond_true]; omega
  | false =>
    simp only [cond_false]
    have : ¬ 9223372036854775808 ≤ keyN b := fun hc => by rw [Nat.ble_eq_true_of_le hc] at hq; cases hq
    omega
theorem rankN_cases (b : Nat) : (9223372036854775808 ≤ keyN b ∧ rankN b = 18446744073709551615 - keyN b) ∨ (keyN b < 9223372036854775808 ∧ rankN b = keyN b + 9223372036854775808) := by
  unfold rankN
  cases hq : Nat.ble 9223372036854775808 (keyN b) with
  | true => exact .inl ⟨Nat.le_of_ble_eq_true hq, rfl⟩
  | false => exact .inr ⟨(by
      rcases Nat.lt_or_ge (keyN b) 9223372036854775808 with h | h
      · exact h
      · rw [Nat.ble_eq_true_of_le h] at hq; cases hq), rfl⟩

theorem rankN_eq (a b : Nat) (ha : a < 18446744073709551616) (hb : b < 18446744073709551616) : rankN a = rankN b ↔ keyN a = keyN b := by
  have h1 := keyN_lt a ha
  have h2 := keyN_lt b hb
  rcases rankN_cases a with ⟨c, e⟩ | ⟨c, e⟩ <;> rcases rankN_cases b with ⟨c', e'⟩ | ⟨c', e'⟩ <;> rw [e, e'] <;> omega

/-- The order of keys is that of their ranks. -/
theorem lessN_rank (a b : Nat) (ha : a < 18446744073709551616) (hb : b < 18446744073709551616) : lessN a b = decide (rankN a < rankN b) := by
  have ha' := keyN_lt a ha
  have hb' := keyN_lt b hb
  obtain ⟨fa, na⟩ := keyN_form a ha
  obtain ⟨fb, nb⟩ := keyN_form b hb
  unfold lessN
  cases hna : nanB (keyN a) with
  | true =>
    have e := na hna
    have r : rankN a = 18444492273895866369 := by unfold rankN; rw [e]; rfl
    rw [r]
    symm
    simp only [cond_true, decide_eq_false_iff_not]
    rcases rankN_cases b with ⟨c, e'⟩ | ⟨c, e'⟩
    · rw [e']; omega
    · rw [e']
      cases hnb : nanB (keyN b) with
      | true => rw [nb hnb]; decide
      | false =>
        have : ¬ 9218868437227405312 < keyN b % 9223372036854775808 := fun x => by rw [(nanB_iff _ hb').2 x] at hnb; cases hnb
        omega
  | false =>
    have ga : ¬ 9218868437227405312 < keyN a % 9223372036854775808 := fun x => by rw [(nanB_iff _ ha').2 x] at hna; cases hna
    simp only [cond_false]
    cases hnb : nanB (keyN b) with
    | true =>
      have e := nb hnb
      have r : rankN b = 18444492273895866369 := by unfold rankN; rw [e]; rfl
      rw [r]
      symm
      simp only [cond_true, decide_eq_true_eq]
      rcases rankN_cases a with ⟨c, e'⟩ | ⟨c, e'⟩ <;> rw [e'] <;> omega
    | false =>
      have gb : ¬ 9218868437227405312 < keyN b % 9223372036854775808 := fun x => by rw [(nanB_iff _ hb').2 x] at hnb; cases hnb
      simp only [cond_false]
      rw [order_sv (by omega) (by omega)]
      have hsv : sv (keyN a) < sv (keyN b) ↔ rankN a < rankN b := by
        rcases rankN_cases a with ⟨c, e⟩ | ⟨c, e⟩ <;> rcases rankN_cases b with ⟨c', e'⟩ | ⟨c', e'⟩ <;> rw [e, e']
        · rcases sv_cases (keyN a) with ⟨d, s⟩ | ⟨d, s⟩
          · rcases sv_cases (keyN b) with ⟨d', s'⟩ | ⟨d', s'⟩
            · rw [s, s']
              have := @rv_lt (keyN b % 9223372036854775808) (keyN a % 9223372036854775808)
              omega
            · omega
          · omega
        · rcases sv_cases (keyN a) with ⟨d, s⟩ | ⟨d, s⟩
          · rcases sv_cases (keyN b) with ⟨d', s'⟩ | ⟨d', s'⟩
            · omega
            · rw [s, s']
              have h0 : rv 0 < rv (keyN a % 9223372036854775808) := rv_mono (by omega)
              rw [rv_zero] at h0
              omega
          · omega
        · rcases sv_cases (keyN a) with ⟨d, s⟩ | ⟨d, s⟩
          · omega
          · rcases sv_cases (keyN b) with ⟨d', s'⟩ | ⟨d', s'⟩
            · rw [s, s']
              omega
            · omega
        · rcases sv_cases (keyN a) with ⟨d, s⟩ | ⟨d, s⟩
          · omega
          · rcases sv_cases (keyN b) with ⟨d', s'⟩ | ⟨d', s'⟩
            · omega
            · rw [s, s']
              have := @rv_lt (keyN a % 9223372036854775808) (keyN b % 9223372036854775808)
              omega
      by_cases h : rankN a < rankN b
      · rw [cmp_lt (hsv.2 h)]; simp [h]
      · have : ¬ compare (sv (keyN a)) (sv (keyN b)) = .lt := fun hc => h (hsv.1 ((cmp_lt_iff _ _).1 hc))
        simp only [h, decide_false]
        cases hc : compare (sv (keyN a)) (sv (keyN b)) with
        | lt => exact absurd hc this
        | eq => rfl
        | gt => rfl
end Go.Proofs.YtdbnlngkmfmnnaaGreatDoor

/- The small functions on numbers that the statement ModelLays comes to: what each call gives, for every argument that is a number's bits. -/
namespace Go.Proofs.YtdbnlngkmfmnnaaGreatDoor
open Go.RowKit

theorem ext_one {P : Program} {f : FuncId} {fn : Func} {e : Array Value → Sem Value} (h1 : P.funcs[f]? = some fn) (h2 : (fn.name == "runtime.NumGoroutine") = false) (h3 : fn.body = none)
    (h4 : Extern.findNext fn = none) (h5 : Extern.find fn = some e) {args : Array Value} {v : Value} (h6 : e args = pure v) (w : World) : (callFunc f args).run P w = .ok (.value v) w := by
  have h2' : ¬ fn.name = "runtime.NumGoroutine" := by simpa using h2
  simp [callFunc, h1, h2', h3, h4, h5, h6]

theorem run_bits (b : Nat) (w : World) : (callFunc 32 #[.float .f64 b]).run Tryz.prog w = .ok (.value (.int .u64 (b : Int))) w :=
  ext_one (fn := Tryz.f32) (e := Extern.MathFloatBits.float64bits) (by kernel_rfl) (by kernel_rfl) (by kernel_rfl) (by kernel_rfl) (by kernel_rfl) rfl w
theorem run_frombits (b : Nat) (w : World) : (callFunc 44 #[.int .u64 (b : Int)]).run Tryz.prog w = .ok (.value (.float .f64 b)) w :=
  ext_one (fn := Tryz.f44) (e := Extern.MathFloatBits.float64frombits) (by kernel_rfl) (by kernel_rfl) (by kernel_rfl) (by kernel_rfl) (by kernel_rfl) rfl w

theorem ret_bool {a b : Bool} (h : a = b) : Ending.returned (.bool a) = .returned (.bool b) := by rw [h]
theorem beq_cast (a b : Nat) : ((a : Int) == (b : Int)) = decide (a = b) := by
  rw [Bool.eq_iff_iff]
  simp only [beq_iff_eq, decide_eq_true_eq]
  omega

set_option maxHeartbeats 400000 in
theorem nan_any (b : Nat) (hb : b < 18446744073709551616) (w : World) :
    Calls Tryz.prog 45 #[.int .u64 (b : Int)] w fun e w' => e = .returned (.bool (nanB b)) ∧ w = w' := by
  by_cases h : b / 4503599627370496 % 2048 = 2047
  · have hn : nanB b = !decide (b * 4096 % 18446744073709551616 = 0) := by simp [nanB, h]
    have h' : (b : Int) / 4503599627370496 % 2048 = 2047 := by omega
    have hw : IntKind.u64.wrap ((b : Int) * 4096) = ((b * 4096 % 18446744073709551616 : Nat) : Int) := by
      show ((b : Int) * 4096) % 18446744073709551616 = _
      omega
    rw [hn]
    clear hn h
    go_enter Tryz.func45, Tryz.ntmps45
    go_wp2
    go_ret
    refine ⟨ret_bool ?_, rfl⟩
    show (((b : Int) * 4096 % 18446744073709551616) != 0) = _
    rw [Bool.eq_iff_iff]
    simp only [bne_iff_ne, Bool.not_eq_true', decide_eq_false_iff_not]
    omega
  · have hn : nanB b = false := by simp [nanB, h]
    have h' : ¬ (b : Int) / 4503599627370496 % 2048 = 2047 := by omega
    rw [hn]
    clear hn h
    go_enter Tryz.func45, Tryz.ntmps45
    go_wp2
    go_ret
    exact ⟨rfl, rfl⟩

set_option maxHeartbeats 400000 in
theorem value_any (b : Nat) (hb : b < 18446744073709551616) (w : World) :
    Calls Tryz.prog 34 #[.float .f64 b] w fun e w' => e = .returned (.int .u64 (valN b : Nat)) ∧ w = w' := by
  have h21 := run_bits
  cases hn : nanB b with
  | true =>
    have hv : valN b = 9221120237041090561 := by unfold valN; rw [hn]; rfl
    rw [hv]
    have c : ∀ w, Calls Tryz.prog 45 #[.int .u64 (b : Int)] w fun e w' => e = .returned (.bool true) ∧ w = w' := fun w => hn ▸ nan_any b hb w
    clear hn hv
    go_enter Tryz.func34, Tryz.ntmps34
    go_wp2_with (go_at_call 45; (with_reducible refine (c _).mono ?_); rintro e w' ⟨rfl, rfl⟩)
    go_ret
    exact ⟨rfl, rfl⟩
  | false =>
    have hv : valN b = b := by unfold valN; rw [hn]; rfl
    rw [hv]
    have c : ∀ w, Calls Tryz.prog 45 #[.int .u64 (b : Int)] w fun e w' => e = .returned (.bool false) ∧ w = w' := fun w => hn ▸ nan_any b hb w
    clear hn hv
    go_enter Tryz.func34, Tryz.ntmps34
    go_wp2_with (go_at_call 45; (with_reducible refine (c _).mono ?_); rintro e w' ⟨rfl, rfl⟩)
    go_ret
    exact ⟨rfl, rfl⟩

set_option maxHeartbeats 400000 in
theorem key_any (b : Nat) (hb : b < 18446744073709551616) (w : World) :
    Calls Tryz.prog 33 #[.float .f64 b] w fun e w' => e = .returned (.int .u64 (keyN b : Nat)) ∧ w = w' := by
  have c := value_any b hb
  unfold keyN
  generalize valN b = v at *
  by_cases h : v = 9223372036854775808
  · subst h
    go_enter Tryz.func33, Tryz.ntmps33
    go_wp2_with (go_at_call 34; (with_reducible refine (c _).mono ?_); rintro e w' ⟨rfl, rfl⟩)
    go_ret
    exact ⟨rfl, rfl⟩
  · have e : Nat.beq v 9223372036854775808 = false := by
      cases hq : Nat.beq v 9223372036854775808 with
      | false => rfl
      | true => exact absurd (Nat.eq_of_beq_eq_true hq) h
    rw [e]
    simp only [cond_false]
    clear e
    have h' : ¬ (v : Int) = 9223372036854775808 := by omega
    go_enter Tryz.func33, Tryz.ntmps33
    go_wp2_with (go_at_call 34; (with_reducible refine (c _).mono ?_); rintro e w' ⟨rfl, rfl⟩)
    go_ret
    exact ⟨rfl, rfl⟩

set_option maxHeartbeats 400000 in
theorem rsame_any (a b : Nat) (w : World) :
    Calls Tryz.prog 57 #[.float .f64 a, .float .f64 b] w fun e w' => e = .returned (.bool (decide (a = b))) ∧ w = w' := by
  have h21 := run_bits
  go_enter Tryz.func57, Tryz.ntmps57
  go_wp2
  go_ret
  refine ⟨ret_bool ?_, rfl⟩
  show ((a : Int) == (b : Int)) = _
  exact beq_cast a b

set_option maxHeartbeats 400000 in
theorem alike_any (a b : Nat) (ha : a < 18446744073709551616) (hb : b < 18446744073709551616) (w : World) :
    Calls Tryz.prog 26 #[.float .f64 a, .float .f64 b] w fun e w' => e = .returned (.bool (decide (keyN a = keyN b))) ∧ w = w' := by
  have c1 := key_any a ha
  have c2 := key_any b hb
  go_enter Tryz.func26, Tryz.ntmps26
  go_wp2_with (go_at_call 33; first | ((with_reducible refine (c1 _).mono ?_); rintro e w' ⟨rfl, rfl⟩) | ((with_reducible refine (c2 _).mono ?_); rintro e w' ⟨rfl, rfl⟩))
  go_ret
  refine ⟨ret_bool ?_, rfl⟩
  show ((keyN a : Int) == (keyN b : Int)) = _
  exact beq_cast _ _

set_option maxHeartbeats 400000 in
theorem less_any (a b : Nat) (ha : a < 18446744073709551616) (hb : b < 18446744073709551616) (w : World) :
    Calls Tryz.prog 14 #[.float .f64 a, .float .f64 b] w fun e w' => e = .returned (.bool (lessN a b)) ∧ w = w' := by
  have c1 := key_any a ha
  have c2 := key_any b hb
  have h40 := run_frombits
  unfold lessN
  have n1 := nan_any (keyN a) (keyN_lt a ha)
  have n2 := nan_any (keyN b) (keyN_lt b hb)
  generalize keyN a = x at *
  generalize keyN b = y at *
  have hd : Ieee.double = FloatKind.f64.format := rfl
  rw [hd]
  clear hd
  cases h1 : nanB x with
  | true =>
    rw [h1] at n1
    clear h1
    go_enter Tryz.func14, Tryz.ntmps14
    go_wp2_with (first | (go_at_call 33; first | ((with_reducible refine (c1 _).mono ?_); rintro e w' ⟨rfl, rfl⟩) | ((with_reducible refine (c2 _).mono ?_); rintro e w' ⟨rfl, rfl⟩)) | (go_at_call 45; first | ((with_reducible refine (n1 _).mono ?_); rintro e w' ⟨rfl, rfl⟩)))
    go_ret
    exact ⟨rfl, rfl⟩
  | false =>
    rw [h1] at n1
    cases h2 : nanB y with
    | true =>
      rw [h2] at n2
      clear h1 h2
      go_enter Tryz.func14, Tryz.ntmps14
      go_wp2_with (first | (go_at_call 33; first | ((with_reducible refine (c1 _).mono ?_); rintro e w' ⟨rfl, rfl⟩) | ((with_reducible refine (c2 _).mono ?_); rintro e w' ⟨rfl, rfl⟩)) | (go_at_call 45; first | ((with_reducible refine (n1 _).mono ?_); rintro e w' ⟨rfl, rfl⟩) | ((with_reducible refine (n2 _).mono ?_); rintro e w' ⟨rfl, rfl⟩)))
      go_ret
      exact ⟨rfl, rfl⟩
    | false =>
      rw [h2] at n2
      clear h1 h2
      go_enter Tryz.func14, Tryz.ntmps14
      go_wp2_with (first | (go_at_call 33; first | ((with_reducible refine (c1 _).mono ?_); rintro e w' ⟨rfl, rfl⟩) | ((with_reducible refine (c2 _).mono ?_); rintro e w' ⟨rfl, rfl⟩)) | (go_at_call 45; first | ((with_reducible refine (n1 _).mono ?_); rintro e w' ⟨rfl, rfl⟩) | ((with_reducible refine (n2 _).mono ?_); rintro e w' ⟨rfl, rfl⟩)))
      go_ret
      exact ⟨rfl, rfl⟩

set_option maxHeartbeats 400000 in
theorem isnan_any (b : Nat) (w : World) :
    Calls Tryz.prog 146 #[.float .f64 b] w fun e w' => e = .returned (.bool (isNaNb b)) ∧ w = w' := by
  go_enter Tryz.func146, Tryz.ntmps146
  go_wp2
  go_ret
  exact ⟨rfl, rfl⟩

set_option maxHeartbeats 400000 in
theorem nvalue_any (b : Nat) (w : World) :
    Calls Tryz.prog 126 #[.float .f64 b] w fun e w' => e = .returned (.float .f64 (numValN b)) ∧ w = w' := by
  have c := isnan_any b
  have h40 : ∀ w, (callFunc 44 #[.int .u64 9221120237041090561]).run Tryz.prog w = .ok (.value (.float .f64 9221120237041090561)) w := run_frombits 9221120237041090561
  unfold numValN
  cases h : isNaNb b with
  | true =>
    rw [h] at c
    clear h
    go_enter Tryz.func126, Tryz.ntmps126
    go_wp2_with (go_at_call 146; (with_reducible refine (c _).mono ?_); rintro e w' ⟨rfl, rfl⟩)
    go_ret
    exact ⟨rfl, rfl⟩
  | false =>
    rw [h] at c
    clear h
    go_enter Tryz.func126, Tryz.ntmps126
    go_wp2_with (go_at_call 146; (with_reducible refine (c _).mono ?_); rintro e w' ⟨rfl, rfl⟩)
    go_ret
    exact ⟨rfl, rfl⟩

set_option maxHeartbeats 400000 in
theorem nkey_any (b : Nat) (w : World) :
    Calls Tryz.prog 94 #[.float .f64 b] w fun e w' => e = .returned (.float .f64 (numKeyN b)) ∧ w = w' := by
  have c := nvalue_any b
  unfold numKeyN
  have hd : Ieee.double = FloatKind.f64.format := rfl
  rw [hd]
  clear hd
  cases h : (FloatKind.f64.format.order b 0 == some .eq) with
  | true =>
    go_enter Tryz.func94, Tryz.ntmps94
    go_wp2_with (go_at_call 126; (with_reducible refine (c _).mono ?_); rintro e w' ⟨rfl, rfl⟩)
    go_ret
    exact ⟨rfl, rfl⟩
  | false =>
    go_enter Tryz.func94, Tryz.ntmps94
    go_wp2_with (go_at_call 126; (with_reducible refine (c _).mono ?_); rintro e w' ⟨rfl, rfl⟩)
    go_ret
    exact ⟨rfl, rfl⟩

theorem ofInt_u64 (a : Nat) (ha : a < 18446744073709551616) : (BitVec.ofInt 64 (a : Int)).toNat = a := by
  rw [BitVec.ofInt_natCast, BitVec.toNat_ofNat]; exact Nat.mod_eq_of_lt (by omega)
theorem and_lo (x : Nat) (h : x < 9223372036854775808) : x &&& 9223372036854775808 = 0 := by
  apply Nat.eq_of_testBit_eq
  intro i
  rw [Nat.testBit_and, show (9223372036854775808 : Nat) = 2 ^ 63 by decide, Nat.testBit_two_pow, Nat.zero_testBit]
  by_cases hi : 63 = i
  · subst hi
    rw [Nat.testBit_lt_two_pow (by omega)]; rfl
  · simp [hi]
theorem and_hi (x : Nat) (h : 9223372036854775808 ≤ x) (h2 : x < 18446744073709551616) : x &&& 9223372036854775808 = 9223372036854775808 := by
  apply Nat.eq_of_testBit_eq
  intro i
  rw [Nat.testBit_and, show (9223372036854775808 : Nat) = 2 ^ 63 by decide, Nat.testBit_two_pow]
  by_cases hi : 63 = i
  · subst hi
    have : x.testBit 63 = true := by
      rw [Nat.testBit_eq_decide_div_mod_eq]
      simp only [decide_eq_true_eq]
      omega
    rw [this]; rfl
  · simp [hi]
theorem or_lo (x : Nat) (h : x < 9223372036854775808) : x ||| 9223372036854775808 = x + 9223372036854775808 := by
  have := Nat.two_pow_add_eq_or_of_lt (i := 63) (b := x) (by omega) 1
  rw [Nat.or_comm, show (9223372036854775808 : Nat) = 2 ^ 63 * 1 by decide, ← this]
  omega
theorem xor_all (x : Nat) (h : x < 18446744073709551616) : 18446744073709551615 ^^^ x = 18446744073709551615 - x := by
  have e : (18446744073709551615 : Nat) - x = 2 ^ 64 - (x + 1) := by omega
  rw [e]
  apply Nat.eq_of_testBit_eq
  intro i
  rw [Nat.testBit_xor, Nat.testBit_two_pow_sub_succ (by omega), show (18446744073709551615 : Nat) = 2 ^ 64 - 1 by decide, Nat.testBit_two_pow_sub_one]
  by_cases hi : i < 64
  · simp [hi]
  · rw [Nat.testBit_lt_two_pow (x := x) (i := i) (Nat.lt_of_lt_of_le h (by
      show 2 ^ 64 ≤ 2 ^ i
      exact Nat.pow_le_pow_right (by omega) (by omega)))]
    simp [hi]

theorem u64_and (x y : Nat) (hx : x < 18446744073709551616) (hy : y < 18446744073709551616) : bits .and .u64 (x : Int) (y : Int) = ((x &&& y : Nat) : Int) := by
  have h : x &&& y < 2 ^ 64 := Nat.and_lt_two_pow _ (by omega)
  show IntKind.u64.wrap ((BitVec.ofInt 64 (x : Int) &&& BitVec.ofInt 64 (y : Int)).toNat : Int) = _
  rw [BitVec.toNat_and, ofInt_u64 x hx, ofInt_u64 y hy]
  show ((x &&& y : Nat) : Int) % 18446744073709551616 = _
  omega
theorem u64_or (x y : Nat) (hx : x < 18446744073709551616) (hy : y < 18446744073709551616) : bits .or .u64 (x : Int) (y : Int) = ((x ||| y : Nat) : Int) := by
  have h : x ||| y < 2 ^ 64 := Nat.or_lt_two_pow (by omega) (by omega)
  show IntKind.u64.wrap ((BitVec.ofInt 64 (x : Int) ||| BitVec.ofInt 64 (y : Int)).toNat : Int) = _
  rw [BitVec.toNat_or, ofInt_u64 x hx, ofInt_u64 y hy]
  show ((x ||| y : Nat) : Int) % 18446744073709551616 = _
  omega
theorem u64_xor (x y : Nat) (hx : x < 18446744073709551616) (hy : y < 18446744073709551616) : bits .xor .u64 (x : Int) (y : Int) = ((x ^^^ y : Nat) : Int) := by
  have h : x ^^^ y < 2 ^ 64 := Nat.xor_lt_two_pow (by omega) (by omega)
  show IntKind.u64.wrap ((BitVec.ofInt 64 (x : Int) ^^^ BitVec.ofInt 64 (y : Int)).toNat : Int) = _
  rw [BitVec.toNat_xor, ofInt_u64 x hx, ofInt_u64 y hy]
  show ((x ^^^ y : Nat) : Int) % 18446744073709551616 = _
  omega

set_option maxHeartbeats 400000 in
theorem rank_any (b : Nat) (hb : b < 18446744073709551616) (w : World) :
    Calls Tryz.prog 56 #[.float .f64 b] w fun e w' => e = .returned (.int .u64 (rankN b : Nat)) ∧ w = w' := by
  have c := nkey_any b
  rw [numKeyN_eq b hb] at c
  have h21 := run_bits (keyN b)
  have hl := keyN_lt b hb
  unfold rankN
  generalize keyN b = x at *
  cases h : Nat.ble 9223372036854775808 x with
  | true =>
    have h' := Nat.le_of_ble_eq_true h
    clear h
    simp only [cond_true]
    have h1 : (bits .and .u64 (x : Int) 9223372036854775808 != 0) = true := by
      rw [show (9223372036854775808 : Int) = ((9223372036854775808 : Nat) : Int) from rfl, u64_and x _ hl (by omega), and_hi x h' hl]; rfl
    have h2 : bits .xor .u64 IntKind.u64.max (x : Int) = ((18446744073709551615 - x : Nat) : Int) := by
      rw [show IntKind.u64.max = ((18446744073709551615 : Nat) : Int) from rfl, u64_xor _ x (by omega) hl, xor_all x hl]
    go_enter Tryz.func56, Tryz.ntmps56
    go_wp2_with (go_at_call 94; (with_reducible refine (c _).mono ?_); rintro e w' ⟨rfl, rfl⟩)
    go_ret
    exact ⟨rfl, rfl⟩
  | false =>
    have h' : ¬ 9223372036854775808 ≤ x := fun hc => by rw [Nat.ble_eq_true_of_le hc] at h; cases h
    clear h
    simp only [cond_false]
    have h1 : (bits .and .u64 (x : Int) 9223372036854775808 != 0) = false := by
      rw [show (9223372036854775808 : Int) = ((9223372036854775808 : Nat) : Int) from rfl, u64_and x _ hl (by omega), and_lo x (by omega)]; rfl
    have h2 : bits .or .u64 (x : Int) 9223372036854775808 = ((x + 9223372036854775808 : Nat) : Int) := by
      rw [show (9223372036854775808 : Int) = ((9223372036854775808 : Nat) : Int) from rfl, u64_or x _ hl (by omega), or_lo x (by omega)]
    go_enter Tryz.func56, Tryz.ntmps56
    go_wp2_with (go_at_call 94; (with_reducible refine (c _).mono ?_); rintro e w' ⟨rfl, rfl⟩)
    go_ret
    exact ⟨rfl, rfl⟩

set_option maxHeartbeats 400000 in
theorem isnan64_any (b : Nat) (w : World) :
    Calls Tryz.prog 116 #[.int .u64 (b : Int)] w fun e w' => e = .returned (.bool false) ∧ w = w' := by
  go_enter Tryz.func116, Tryz.ntmps116
  go_wp2
  go_ret
  exact ⟨rfl, rfl⟩

/-- how two ranks stand -/
def cmpZ (a b : Nat) : Int := if a < b then -1 else if b < a then 1 else 0

set_option maxHeartbeats 400000 in
theorem cmp64_any (a b : Nat) (w : World) :
    Calls Tryz.prog 89 #[.int .u64 (a : Int), .int .u64 (b : Int)] w fun e w' => e = .returned (.int .i64 (cmpZ a b)) ∧ w = w' := by
  unfold cmpZ
  by_cases h : a < b
  · rw [if_pos h]
    go_enter Tryz.func89, Tryz.ntmps89
    go_wp2_with (go_at_call 116; (with_reducible refine (isnan64_any _ _).mono ?_); rintro e w' ⟨rfl, rfl⟩)
    go_ret
    exact ⟨rfl, rfl⟩
  · rw [if_neg h]
    by_cases h2 : b < a
    · rw [if_pos h2]
      go_enter Tryz.func89, Tryz.ntmps89
      go_wp2_with (go_at_call 116; (with_reducible refine (isnan64_any _ _).mono ?_); rintro e w' ⟨rfl, rfl⟩)
      go_ret
      exact ⟨rfl, rfl⟩
    · rw [if_neg h2]
      go_enter Tryz.func89, Tryz.ntmps89
      go_wp2_with (go_at_call 116; (with_reducible refine (isnan64_any _ _).mono ?_); rintro e w' ⟨rfl, rfl⟩)
      go_ret
      exact ⟨rfl, rfl⟩

set_option maxHeartbeats 400000 in
theorem compare_any (a b : Nat) (ha : a < 18446744073709551616) (hb : b < 18446744073709551616) (w : World) :
    Calls Tryz.prog 51 #[.float .f64 a, .float .f64 b] w fun e w' => e = .returned (.int .i64 (cmpZ (rankN a) (rankN b))) ∧ w = w' := by
  have c1 := rank_any a ha
  have c2 := rank_any b hb
  go_enter Tryz.func51, Tryz.ntmps51
  go_wp2_with (first | (go_at_call 56; first | ((with_reducible refine (c1 _).mono ?_); rintro e w' ⟨rfl, rfl⟩) | ((with_reducible refine (c2 _).mono ?_); rintro e w' ⟨rfl, rfl⟩)) | (go_at_call 89; (with_reducible refine (cmp64_any _ _ _).mono ?_); rintro e w' ⟨rfl, rfl⟩))
  go_ret
  exact ⟨rfl, rfl⟩
theorem puts : (∀ (a : Act) (d : Tmp) (v : Value), a.put (some d) v = { tmps := a.tmps.setIfInBounds d v, defers := a.defers }) ∧ (∀ (a : Act) (v : Value), a.put none v = a) ∧
    (∀ {α : Type} (l : List α) (i : Nat) (a : α), l.toArray.setIfInBounds i a = (l.set i a).toArray) ∧ (∀ {α : Type} {x : α} {xs : List α} {a : α}, (x :: xs).set 0 a = a :: xs) ∧ (∀ {α : Type} {x : α} {xs : List α} {i : Nat} {a : α}, (x :: xs).set (i + 1) a = x :: xs.set i a) ∧
    (∀ {α : Type} {xs : List α} {i : Nat} (h : i < xs.toArray.size), xs.toArray[i]'h = xs[i]'(by simpa using h)) ∧ (∀ {α : Type} (a : α) (l : List α) (i : Nat) (h : i + 1 < (a :: l).length), (a :: l)[i + 1]'h = l[i]'(Nat.lt_of_succ_lt_succ h)) ∧ (∀ {α : Type} (a : α) (l : List α) (h : 0 < (a :: l).length), (a :: l)[0] = a) :=
  ⟨fun _ _ _ => rfl, fun _ _ => rfl, List.setIfInBounds_toArray, List.set_cons_zero, List.set_cons_succ, List.getElem_toArray, List.getElem_cons_succ, List.getElem_cons_zero⟩
end Go.Proofs.YtdbnlngkmfmnnaaGreatDoor

/- What a slice of numbers, and of rows, reads as; and the functions that only read them. -/
namespace Go.Proofs.YtdbnlngkmfmnnaaGreatDoor
open Go.RowKit

/-- The cells of numbers. -/
def FC (w : World) (B : Nat) (A : Option Addr) (l : List Nat) : Prop :=
  (∀ x ∈ l, x < 18446744073709551616) ∧ (0 < l.length → ∃ b off, A = some ⟨b, off, none⟩ ∧ b < B ∧ ∀ j x, l[j]? = some x → w.cell? ⟨b, off + j, none⟩ = some (.float .f64 x))

theorem FC.below {w w' : World} {B : Nat} {A : Option Addr} {l : List Nat} (h : FC w B A l) (hb : Below B w w') : FC w' B A l :=
  ⟨h.1, fun hl => by
    obtain ⟨b, off, e, hB, hc⟩ := h.2 hl
    exact ⟨b, off, e, hB, fun j x hx => (hb.cell (p := ⟨b, off + j, none⟩) hB).trans (hc j x hx)⟩⟩
theorem FC.more {w : World} {B B' : Nat} {A : Option Addr} {l : List Nat} (h : FC w B A l) (hb : B ≤ B') : FC w B' A l :=
  ⟨h.1, fun hl => by
    obtain ⟨b, off, e, hB, hc⟩ := h.2 hl
    exact ⟨b, off, e, by omega, hc⟩⟩

theorem below_drewN {B : Nat} {a w : World} (h : Below B a w) (n : Nat) : Below B a (w.drewN n) := ⟨h.os, h.tape, h.output, h.size, h.block⟩

/-- A call that turns nothing, in a region that draws. -/
theorem quiet_w {P : Program} {f : FuncId} {args : Array Value} {w : World} {n : Nat} {v : Value}
    (h : Calls P f args (w.drewN n) fun e w' => e = .returned v ∧ w.drewN n = w') : Calls P f args (w.drewN n) fun e w' => e = .returned v ∧ ∃ m, w' = w.drewN m :=
  h.mono fun _ _ h' => ⟨h'.1, n, h'.2.symm⟩

set_option maxHeartbeats 1000000 in
theorem list_any (A1 A2 : Option Addr) (c1 c2 : Nat) (l1 l2 : List Nat) (w : World) (h1 : FC w w.heap.size A1 l1) (h2 : FC w w.heap.size A2 l2) (m1 : l1.length ≤ maxLen) (m2 : l2.length ≤ maxLen) :
    Calls Tryz.prog 58 #[.slice A1 l1.length c1, .slice A2 l2.length c2] w fun e w' => e = .returned (.bool (decide (l1 = l2))) ∧ Below w.heap.size w w' := by
  unfold maxLen at m1 m2
  by_cases hl : l1.length = l2.length
  · rw [← hl]
    obtain ⟨n, hn⟩ : ∃ n, l1.length = n := ⟨_, rfl⟩
    rw [hn] at hl m1 ⊢
    have H1 := Lib.hid h1
    have H2 := Lib.hid h2
    have N1 := Lib.hid hn
    have N2 := Lib.hid hl
    clear h1 h2 hn hl m2
    go_enter Tryz.func58, Tryz.ntmps58
    go_wp2
    go_loopw [5] (fun i wr => ∃ k : Nat, k ≤ n ∧ i = .int .i64 k ∧ l1.take k = l2.take k ∧ Below w.heap.size w wr) (fun i _ => n - (intOf i).toNat)
    case atStart => exact ⟨0, Nat.zero_le _, rfl, rfl, Below.refl _ _⟩
    case round =>
      obtain ⟨k, hk, rfl, ht, hb⟩ := hrel
      have HT := Lib.hid ht
      have HB := Lib.hid hb
      clear ht hb
      by_cases hlt : k < n
      · obtain ⟨b1, o1, e1, q1, r1⟩ := (H1.out.below HB.out).2 (by have := N1.out; omega)
        obtain ⟨b2, o2, e2, q2, r2⟩ := (H2.out.below HB.out).2 (by have := N2.out; omega)
        subst e1 e2
        have g1 := r1 k _ (List.getElem?_eq_getElem (by have := N1.out; omega))
        have g2 := r2 k _ (List.getElem?_eq_getElem (by have := N2.out; omega))
        clear r1 r2 q1 q2
        have s1 := List.take_succ_eq_append_getElem (l := l1) (i := k) (by have := N1.out; omega)
        have s2 := List.take_succ_eq_append_getElem (l := l2) (i := k) (by have := N2.out; omega)
        by_cases hx : l1[k]'(by have := N1.out; omega) = l2[k]'(by have := N2.out; omega)
        · have HS : Hid (l1.take (k + 1) = l2.take (k + 1)) := by rw [s1, s2, HT.out, hx]; exact rfl
          have c := fun W => rsame_any (l1[k]'(by have := N1.out; omega)) (l2[k]'(by have := N2.out; omega)) W
          rw [decide_eq_true hx] at c
          clear s1 s2 hx
          go_wp2
          go_quiet ((go_at_call 57; exact quiet_w (c _)))
          go_wp2
          go_roundw
          case rel => exact ⟨k + 1, by omega, by go_num, HS.out, below_drewN HB.out _⟩
          case measure => simp [intOf]; omega
        · have HS : Hid (decide (l1 = l2) = false) := by
            refine decide_eq_false fun e => hx ?_
            subst e
            rfl
          have c := fun W => rsame_any (l1[k]'(by have := N1.out; omega)) (l2[k]'(by have := N2.out; omega)) W
          rw [decide_eq_false hx] at c
          clear s1 s2 hx
          go_wp2
          go_quiet ((go_at_call 57; exact quiet_w (c _)))
          go_wp2
          go_ret
          exact ⟨ret_bool HS.out.symm, below_drewN HB.out _⟩
      · go_wp2
        go_ret
        have : k = n := by omega
        subst this
        refine ⟨ret_bool ?_, HB.out⟩
        have ht := HT.out
        rw [List.take_of_length_le (Nat.le_of_eq N1.out), List.take_of_length_le (Nat.le_of_eq N2.out.symm)] at ht
        simp [ht]
  · have e : decide (l1 = l2) = false := by simp; rintro rfl; exact hl rfl
    rw [e]
    clear e h1 h2
    go_enter Tryz.func58, Tryz.ntmps58
    go_wp2
    go_ret
    exact ⟨rfl, Below.refl _ _⟩

theorem list_of (A1 A2 : Option Addr) (c1 c2 : Nat) (l1 l2 : List Nat) (w W : World) (hb : Below w.heap.size w W) (h1 : FC w w.heap.size A1 l1) (h2 : FC w w.heap.size A2 l2) (m1 : l1.length ≤ maxLen) (m2 : l2.length ≤ maxLen) :
    Calls Tryz.prog 58 #[.slice A1 l1.length c1, .slice A2 l2.length c2] W fun e w' => e = .returned (.bool (decide (l1 = l2))) ∧ Below w.heap.size w w' :=
  (list_any A1 A2 c1 c2 l1 l2 W ((h1.below hb).more hb.size) ((h2.below hb).more hb.size) m1 m2).mono fun _ _ h => ⟨h.1, hb.trans (h.2.mono hb.size)⟩
end Go.Proofs.YtdbnlngkmfmnnaaGreatDoor
