/- Numbers as keys, in plain Lean: the order of floats is the order of their ranks. No program in sight. -/
import Ieee.Arith
namespace Go.Proofs.Ytpcahemjcmccjaa

/-- What a rung is worth. -/
def rv (r : Nat) : Nat := if r < 4503599627370496 then r else (4503599627370496 + r % 4503599627370496) * 2 ^ (r / 4503599627370496 - 1)

theorem rv_step (r : Nat) : rv r < rv (r + 1) := by
  unfold rv
  by_cases h : r + 1 < 4503599627370496
  · rw [if_pos (by omega), if_pos h]; omega
  · by_cases h2 : r < 4503599627370496
    · have e : r + 1 = 4503599627370496 := by omega
      rw [if_pos h2, if_neg h, e]
      simp
      omega
    · rw [if_neg h2, if_neg h]
      by_cases h3 : r % 4503599627370496 + 1 = 4503599627370496
      · have e1 : (r + 1) % 4503599627370496 = 0 := by omega
        have e2 : (r + 1) / 4503599627370496 - 1 = (r / 4503599627370496 - 1) + 1 := by omega
        rw [e1, e2, Nat.pow_succ]
        have hp : 0 < 2 ^ (r / 4503599627370496 - 1) := Nat.two_pow_pos _
        generalize 2 ^ (r / 4503599627370496 - 1) = p at hp
        have e3 : r % 4503599627370496 = 4503599627370495 := by omega
        rw [e3]
        omega
      · have e1 : (r + 1) % 4503599627370496 = r % 4503599627370496 + 1 := by omega
        have e2 : (r + 1) / 4503599627370496 = r / 4503599627370496 := by omega
        rw [e1, e2]
        have hp : 0 < 2 ^ (r / 4503599627370496 - 1) := Nat.two_pow_pos _
        exact Nat.mul_lt_mul_of_pos_right (by omega) hp

theorem rv_mono {r s : Nat} (h : r < s) : rv r < rv s := by
  obtain ⟨d, rfl⟩ : ∃ d, s = r + 1 + d := ⟨s - (r + 1), by omega⟩
  clear h
  induction d with
  | zero => exact rv_step r
  | succ d ih => exact Nat.lt_trans ih (rv_step _)
theorem rv_le {r s : Nat} (h : r ≤ s) : rv r ≤ rv s := by
  rcases Nat.lt_or_eq_of_le h with h | rfl
  · exact Nat.le_of_lt (rv_mono h)
  · exact Nat.le_refl _
theorem rv_lt {r s : Nat} : rv r < rv s ↔ r < s := by
  constructor
  · intro h
    rcases Nat.lt_or_ge r s with h' | h'
    · exact h'
    · have := rv_le h'; omega
  · exact rv_mono
theorem rv_zero : rv 0 = 0 := rfl

/-- What a number's bits are worth. -/
def sv (b : Nat) : Int := if b / 9223372036854775808 % 2 = 1 then -(rv (b % 9223372036854775808) : Int) else (rv (b % 9223372036854775808) : Int)

open Ieee

theorem d_sw : double.signWeight = 9223372036854775808 := by decide
theorem d_bi : double.binade = 4503599627370496 := by decide
theorem d_inf : double.infRung = 9218868437227405312 := by decide

/-- place and magnitude of a rung -/
theorem rv_mag (r : Nat) : ∃ m e : Nat, rv r = m * 2 ^ e ∧ (∀ s : Bool, (if r < double.binade then Datum.number s r double.leastPlace else .number s (double.binade + r % double.binade) (double.leastPlace + (r / double.binade - 1 : Nat))) = .number s m (double.leastPlace + (e : Nat))) := by
  rw [d_bi]
  unfold rv
  by_cases h : r < 4503599627370496
  · refine ⟨r, 0, by rw [if_pos h]; simp, fun s => ?_⟩
    rw [if_pos h]
    simp
  · refine ⟨4503599627370496 + r % 4503599627370496, r / 4503599627370496 - 1, by rw [if_neg h], fun s => ?_⟩
    rw [if_neg h]

theorem read_num (b : Nat) (h : b % 9223372036854775808 < 9218868437227405312) :
    ∃ m e : Nat, rv (b % 9223372036854775808) = m * 2 ^ e ∧ double.read b = .number (b / 9223372036854775808 % 2 == 1) m (double.leastPlace + (e : Nat)) := by
  obtain ⟨m, e, h1, h2⟩ := rv_mag (b % 9223372036854775808)
  refine ⟨m, e, h1, ?_⟩
  rw [← h2]
  unfold Format.read
  simp only [d_sw, d_inf]
  rw [if_pos h]

theorem read_inf (b : Nat) (h : b % 9223372036854775808 = 9218868437227405312) : double.read b = .infinity (b / 9223372036854775808 % 2 == 1) := by
  unfold Format.read
  simp only [d_sw, d_inf, d_bi]
  rw [if_neg (by omega), if_neg (by omega), if_pos h]

theorem read_nan (b : Nat) (h : 9218868437227405312 < b % 9223372036854775808) : ∃ x, double.read b = .nan (b / 9223372036854775808 % 2 == 1) x := by
  refine ⟨b % 9223372036854775808 - 9218868437227405312, ?_⟩
  unfold Format.read
  simp only [d_sw, d_inf, d_bi]
  rw [if_neg (by omega), if_neg (by omega), if_neg (by omega)]

theorem signed_eq (s : Bool) (m u : Nat) : signed s m u = (if s then -((m * 2 ^ u : Nat) : Int) else ((m * 2 ^ u : Nat) : Int)) := by
  unfold signed
  rw [Nat.shiftLeft_eq]

theorem cmp_scale (x y : Int) (k : Nat) (hk : 0 < k) : compare (x * k) (y * k) = compare x y := by
  have hk' : (0 : Int) < k := by omega
  simp only [compare, compareOfLessAndEq]
  by_cases h1 : x < y
  · rw [if_pos h1, if_pos (Int.mul_lt_mul_of_pos_right h1 hk')]
  · by_cases h2 : x = y
    · subst h2; simp
    · have h3 : y < x := by omega
      have h4 : y * k < x * k := Int.mul_lt_mul_of_pos_right h3 hk'
      rw [if_neg (by omega), if_neg (by omega), if_neg h1, if_neg h2]

theorem ord_num (s t : Bool) (m n e f : Nat) (L : Int) :
    (Datum.number s m (L + (e : Nat))).order (.number t n (L + (f : Nat))) =
      some (compare (if s then -((m * 2 ^ e : Nat) : Int) else ((m * 2 ^ e : Nat) : Int)) (if t then -((n * 2 ^ f : Nat) : Int) else ((n * 2 ^ f : Nat) : Int))) := by
  simp only [Datum.order]
  congr 1
  rw [signed_eq, signed_eq]
  have key : ∀ (e f : Nat) (d : Nat), d ≤ e → d ≤ f → compare (if s then -((m * 2 ^ e : Nat) : Int) else ((m * 2 ^ e : Nat) : Int)) (if t then -((n * 2 ^ f : Nat) : Int) else ((n * 2 ^ f : Nat) : Int)) =
      compare (if s then -((m * 2 ^ (e - d) : Nat) : Int) else ((m * 2 ^ (e - d) : Nat) : Int)) (if t then -((n * 2 ^ (f - d) : Nat) : Int) else ((n * 2 ^ (f - d) : Nat) : Int)) := by
    intro e f d h1 h2
    have he : m * 2 ^ e = m * 2 ^ (e - d) * 2 ^ d := by rw [Nat.mul_assoc, ← Nat.pow_add, Nat.sub_add_cancel h1]
    have hf : n * 2 ^ f = n * 2 ^ (f - d) * 2 ^ d := by rw [Nat.mul_assoc, ← Nat.pow_add, Nat.sub_add_cancel h2]
    rw [he, hf]
    rw [← cmp_scale (if s then -((m * 2 ^ (e - d) : Nat) : Int) else ((m * 2 ^ (e - d) : Nat) : Int)) _ (2 ^ d) (Nat.two_pow_pos d)]
    congr 1
    · cases s <;> simp [Int.neg_mul]
    · cases t <;> simp [Int.neg_mul]
  rw [key e f (min e f) (Nat.min_le_left _ _) (Nat.min_le_right _ _)]
  have a1 : (L + (e : Nat) - min (L + (e : Nat)) (L + (f : Nat))).toNat = e - min e f := by omega
  have a2 : (L + (f : Nat) - min (L + (e : Nat)) (L + (f : Nat))).toNat = f - min e f := by omega
  rw [a1, a2]

theorem sv_of {b : Nat} {s : Bool} {m e : Nat} (hs : (b / 9223372036854775808 % 2 == 1) = s) (h : rv (b % 9223372036854775808) = m * 2 ^ e) : sv b = (if s then -((m * 2 ^ e : Nat) : Int) else ((m * 2 ^ e : Nat) : Int)) := by
  unfold sv
  rw [h]
  subst hs
  by_cases c : b / 9223372036854775808 % 2 = 1
  · rw [if_pos c]; simp [c]
  · rw [if_neg c]; simp [c]

theorem cmp_self (x : Int) : compare x x = .eq := by simp [compare, compareOfLessAndEq]
theorem cmp_lt {x y : Int} (h : x < y) : compare x y = .lt := by simp [compare, compareOfLessAndEq, h]
theorem cmp_gt {x y : Int} (h : y < x) : compare x y = .gt := by
  simp only [compare, compareOfLessAndEq]
  rw [if_neg (by omega), if_neg (by omega)]

theorem sv_cases (b : Nat) : (b / 9223372036854775808 % 2 = 1 ∧ sv b = -(rv (b % 9223372036854775808) : Int)) ∨ (b / 9223372036854775808 % 2 ≠ 1 ∧ sv b = (rv (b % 9223372036854775808) : Int)) := by
  unfold sv
  by_cases c : b / 9223372036854775808 % 2 = 1
  · exact .inl ⟨c, if_pos c⟩
  · exact .inr ⟨c, if_neg c⟩

theorem order_sv {a b : Nat} (ha : a % 9223372036854775808 ≤ 9218868437227405312) (hb : b % 9223372036854775808 ≤ 9218868437227405312) : double.order a b = some (compare (sv a) (sv b)) := by
  unfold Format.order
  have I : (0 : Int) < rv 9218868437227405312 := by have := rv_mono (show 0 < 9218868437227405312 by omega); rw [rv_zero] at this; omega
  rcases Nat.lt_or_eq_of_le ha with ha' | ha'
  · obtain ⟨m, e, h1, h2⟩ := read_num a ha'
    rcases Nat.lt_or_eq_of_le hb with hb' | hb'
    · obtain ⟨n, f, h3, h4⟩ := read_num b hb'
      rw [h2, h4, ord_num, sv_of rfl h1, sv_of rfl h3]
    · rw [h2, read_inf b hb']
      simp only [Datum.order]
      have hlt := rv_mono ha'
      rcases sv_cases b with ⟨c, e'⟩ | ⟨c, e'⟩ <;> rcases sv_cases a with ⟨c2, e2⟩ | ⟨c2, e2⟩ <;> rw [e', e2, hb']
      · rw [cmp_gt (by omega)]; simp [c]
      · rw [cmp_gt (by omega)]; simp [c]
      · rw [cmp_lt (by omega)]; simp [c]
      · rw [cmp_lt (by omega)]; simp [c]
  · rcases Nat.lt_or_eq_of_le hb with hb' | hb'
    · obtain ⟨n, f, h3, h4⟩ := read_num b hb'
      rw [h4, read_inf a ha']
      simp only [Datum.order]
      have hlt := rv_mono hb'
      rcases sv_cases b with ⟨c, e'⟩ | ⟨c, e'⟩ <;> rcases sv_cases a with ⟨c2, e2⟩ | ⟨c2, e2⟩ <;> rw [e', e2, ha']
      · rw [cmp_lt (by omega)]; simp [c2]
      · rw [cmp_gt (by omega)]; simp [c2]
      · rw [cmp_lt (by omega)]; simp [c2]
      · rw [cmp_gt (by omega)]; simp [c2]
    · rw [read_inf a ha', read_inf b hb']
      simp only [Datum.order]
      rcases sv_cases b with ⟨c, e'⟩ | ⟨c, e'⟩ <;> rcases sv_cases a with ⟨c2, e2⟩ | ⟨c2, e2⟩ <;> rw [e', e2, ha', hb']
      · rw [beq_iff_eq.2 c, beq_iff_eq.2 c2, cmp_self]; rfl
      · rw [cmp_gt (by omega), beq_iff_eq.2 c, beq_eq_false_iff_ne.2 c2]; rfl
      · rw [cmp_lt (by omega), beq_eq_false_iff_ne.2 c, beq_iff_eq.2 c2]; rfl
      · rw [beq_eq_false_iff_ne.2 c, beq_eq_false_iff_ne.2 c2, cmp_self]; rfl

theorem order_nan_l {a b : Nat} (ha : 9218868437227405312 < a % 9223372036854775808) : double.order a b = none := by
  obtain ⟨x, h⟩ := read_nan a ha
  unfold Format.order
  rw [h]
  rfl
theorem order_nan_r {a b : Nat} (ha : 9218868437227405312 < b % 9223372036854775808) : double.order a b = none := by
  obtain ⟨x, h⟩ := read_nan b ha
  unfold Format.order
  rw [h]
  cases double.read a <;> rfl

/-- the reference's word: no number -/
def nanB (b : Nat) : Bool := decide (b / 4503599627370496 % 2048 = 2047) && !decide (b * 4096 % 18446744073709551616 = 0)
def valN (b : Nat) : Nat := bif nanB b then 9221120237041090561 else b
def keyN (b : Nat) : Nat := bif Nat.beq (valN b) 9223372036854775808 then 0 else valN b
def rankN (b : Nat) : Nat := bif Nat.ble 9223372036854775808 (keyN b) then 18446744073709551615 - keyN b else keyN b + 9223372036854775808
/-- the reference's Less -/
def lessN (a b : Nat) : Bool := bif nanB (keyN a) then false else bif nanB (keyN b) then true else double.order (keyN a) (keyN b) == some .lt

theorem nanB_iff (b : Nat) (_hb : b < 18446744073709551616) : nanB b = true ↔ 9218868437227405312 < b % 9223372036854775808 := by
  unfold nanB
  simp only [Bool.and_eq_true, Bool.not_eq_true', decide_eq_true_eq, decide_eq_false_iff_not]
  constructor
  · rintro ⟨h1, h2⟩; omega
  · intro h; constructor <;> omega

/-- the program's words -/
def isNaNb (b : Nat) : Bool := double.order b b != some .eq
def numValN (b : Nat) : Nat := bif isNaNb b then 9221120237041090561 else b
def numKeyN (b : Nat) : Nat := bif double.order b 0 == some .eq then 0 else numValN b

theorem isNaNb_eq (b : Nat) (hb : b < 18446744073709551616) : isNaNb b = nanB b := by
  unfold isNaNb
  cases h : nanB b with
  | true =>
    rw [nanB_iff b hb] at h
    rw [order_nan_l h]; rfl
  | false =>
    have h' : ¬ 9218868437227405312 < b % 9223372036854775808 := fun x => by rw [(nanB_iff b hb).2 x] at h; cases h
    rw [order_sv (by omega) (by omega), cmp_self]; rfl
theorem numValN_eq (b : Nat) (hb : b < 18446744073709551616) : numValN b = valN b := by unfold numValN valN; rw [isNaNb_eq b hb]

theorem sv_inj_zero (b : Nat) (hb : b < 18446744073709551616) : sv b = 0 ↔ b = 0 ∨ b = 9223372036854775808 := by
  have h0 : ∀ r, rv r = 0 ↔ r = 0 := fun r => ⟨fun h => by
    rcases Nat.eq_zero_or_pos r with h' | h'
    · exact h'
    · have := rv_mono h'; rw [rv_zero] at this; omega, fun h => by rw [h]; rfl⟩
  rcases sv_cases b with ⟨c, e⟩ | ⟨c, e⟩
  · rw [e]
    constructor
    · intro h
      have := (h0 _).1 (show rv (b % 9223372036854775808) = 0 by omega)
      omega
    · intro h
      have : b % 9223372036854775808 = 0 := by omega
      rw [this]; rfl
  · rw [e]
    constructor
    · intro h
      have := (h0 _).1 (show rv (b % 9223372036854775808) = 0 by omega)
      omega
    · intro h
      have : b % 9223372036854775808 = 0 := by omega
      rw [this]; rfl

theorem cmp_eq_iff (x y : Int) : compare x y = .eq ↔ x = y := by
  constructor
  · intro h
    rcases Int.lt_trichotomy x y with h1 | h1 | h1
    · rw [cmp_lt h1] at h; cases h
    · exact h1
    · rw [cmp_gt h1] at h; cases h
  · rintro rfl; exact cmp_self x
theorem cmp_lt_iff (x y : Int) : compare x y = .lt ↔ x < y := by
  constructor
  · intro h
    rcases Int.lt_trichotomy x y with h1 | h1 | h1
    · exact h1
    · rw [h1, cmp_self] at h; cases h
    · rw [cmp_gt h1] at h; cases h
  · exact cmp_lt

theorem numKeyN_eq (b : Nat) (hb : b < 18446744073709551616) : numKeyN b = keyN b := by
  unfold numKeyN keyN
  rw [numValN_eq b hb]
  cases hn : nanB b with
  | true =>
    rw [nanB_iff b hb] at hn
    rw [order_nan_l hn]
    have hv : valN b = 9221120237041090561 := by unfold valN; rw [(nanB_iff b hb).2 hn]; rfl
    rw [hv]; rfl
  | false =>
    have h' : ¬ 9218868437227405312 < b % 9223372036854775808 := fun x => by rw [(nanB_iff b hb).2 x] at hn; cases hn
    have hv : valN b = b := by unfold valN; rw [hn]; rfl
    rw [order_sv (by omega) (by omega), hv]
    have e0 : sv 0 = 0 := by decide
    rw [e0]
    by_cases hz : sv b = 0
    · rw [hz, cmp_self]
      rcases (sv_inj_zero b hb).1 hz with rfl | rfl
      · rfl
      · rfl
    · have h1 : (some (compare (sv b) 0) == some Ordering.eq) = false := by
        cases hc : compare (sv b) 0 with
        | eq => exact absurd ((cmp_eq_iff _ _).1 hc) hz
        | lt => rfl
        | gt => rfl
      rw [h1]
      have h2 : Nat.beq b 9223372036854775808 = false := by
        cases hq : Nat.beq b 9223372036854775808 with
        | false => rfl
        | true => exact absurd ((sv_inj_zero b hb).2 (.inr (Nat.eq_of_beq_eq_true hq))) hz
      rw [h2]

theorem keyN_lt (b : Nat) (hb : b < 18446744073709551616) : keyN b < 18446744073709551616 := by
  unfold keyN valN
  cases nanB b <;> simp only [cond_true, cond_false]
  · cases Nat.beq b 9223372036854775808 <;> simp only [cond_true, cond_false] <;> omega
  · decide
/-- a key: no number is the one word, and no zero has a sign -/
theorem keyN_form (b : Nat) (_hb : b < 18446744073709551616) : keyN b ≠ 9223372036854775808 ∧ (nanB (keyN b) = true → keyN b = 9221120237041090561) := by
  unfold keyN
  cases hn : nanB b with
  | true =>
    have hv : valN b = 9221120237041090561 := by unfold valN; rw [hn]; rfl
    rw [hv]
    exact ⟨by decide, fun _ => rfl⟩
  | false =>
    have hv : valN b = b := by unfold valN; rw [hn]; rfl
    rw [hv]
    cases hq : Nat.beq b 9223372036854775808 with
    | true => simp only [cond_true]; exact ⟨by decide, fun h => absurd h (by decide)⟩
    | false =>
      simp only [cond_false]
      refine ⟨fun h => ?_, fun h => by rw [hn] at h; cases h⟩
      rw [h] at hq; exact absurd hq (by decide)
theorem keyN_keyN (b : Nat) (hb : b < 18446744073709551616) : keyN (keyN b) = keyN b := by
  obtain ⟨h1, h2⟩ := keyN_form b hb
  unfold keyN at h1 h2 ⊢
  generalize hk : (bif Nat.beq (valN b) 9223372036854775808 then 0 else valN b) = k at *
  have hv : valN k = k := by
    unfold valN
    cases hn : nanB k with
    | true => exact (h2 hn).symm
    | false => rfl
  rw [hv]
  cases hq : Nat.beq k 9223372036854775808 with
  | true => exact absurd (Nat.eq_of_beq_eq_true hq) h1
  | false => rfl

theorem rankN_lt (b : Nat) (hb : b < 18446744073709551616) : rankN b < 18446744073709551616 := by
  have h := keyN_lt b hb
  unfold rankN
  cases hq : Nat.ble 9223372036854775808 (keyN b) with
  | true => simp only [cond_true]; omega
  | false =>
    simp only [cond_false]
    have : ¬ 9223372036854775808 ≤ keyN b := fun hc => by rw [Nat.ble_eq_true_of_le hc] at hq; cases hq
    omega
theorem rankN_cases (b : Nat) : (9223372036854775808 ≤ keyN b ∧ rankN b = 18446744073709551615 - keyN b) ∨ (keyN b < 9223372036854775808 ∧ rankN b = keyN b + 9223372036854775808) := by
  unfold rankN
  cases hq : Nat.ble 9223372036854775808 (keyN b) with
  | true => exact .inl ⟨Nat.le_of_ble_eq_true hq, rfl⟩
  | false => exact .inr ⟨(by
      rcases Nat.lt_or_ge (keyN b) 9223372036854775808 with h | h
      · exact h
      · rw [Nat.ble_eq_true_of_le h] at hq; cases hq), rfl⟩

theorem rankN_eq (a b : Nat) (ha : a < 18446744073709551616) (hb : b < 18446744073709551616) : rankN a = rankN b ↔ keyN a = keyN b := by
  have h1 := keyN_lt a ha
  have h2 := keyN_lt b hb
  rcases rankN_cases a with ⟨c, e⟩ | ⟨c, e⟩ <;> rcases rankN_cases b with ⟨c', e'⟩ | ⟨c', e'⟩ <;> rw [e, e'] <;> omega

/-- The order of keys is that of their ranks. -/
theorem lessN_rank (a b : Nat) (ha : a < 18446744073709551616) (hb : b < 18446744073709551616) : lessN a b = decide (rankN a < rankN b) := by
  have ha' := keyN_lt a ha
  have hb' := keyN_lt b hb
  obtain ⟨fa, na⟩ := keyN_form a ha
  obtain ⟨fb, nb⟩ := keyN_form b hb
  unfold lessN
  cases hna : nanB (keyN a) with
  | true =>
    have e := na hna
    have r : rankN a = 18444492273895866369 := by unfold rankN; rw [e]; rfl
    rw [r]
    symm
    simp only [cond_true, decide_eq_false_iff_not]
    rcases rankN_cases b with ⟨c, e'⟩ | ⟨c, e'⟩
    · rw [e']; omega
    · rw [e']
      cases hnb : nanB (keyN b) with
      | true => rw [nb hnb]; decide
      | false =>
        have : ¬ 9218868437227405312 < keyN b % 9223372036854775808 := fun x => by rw [(nanB_iff _ hb').2 x] at hnb; cases hnb
        omega
  | false =>
    have ga : ¬ 9218868437227405312 < keyN a % 9223372036854775808 := fun x => by rw [(nanB_iff _ ha').2 x] at hna; cases hna
    simp only [cond_false]
    cases hnb : nanB (keyN b) with
    | true =>
      have e := nb hnb
      have r : rankN b = 18444492273895866369 := by unfold rankN; rw [e]; rfl
      rw [r]
      symm
      simp only [cond_true, decide_eq_true_eq]
      rcases rankN_cases a with ⟨c, e'⟩ | ⟨c, e'⟩ <;> rw [e'] <;> omega
    | false =>
      have gb : ¬ 9218868437227405312 < keyN b % 9223372036854775808 := fun x => by rw [(nanB_iff _ hb').2 x] at hnb; cases hnb
      simp only [cond_false]
      rw [order_sv (by omega) (by omega)]
      have hsv : sv (keyN a) < sv (keyN b) ↔ rankN a < rankN b := by
        rcases rankN_cases a with ⟨c, e⟩ | ⟨c, e⟩ <;> rcases rankN_cases b with ⟨c', e'⟩ | ⟨c', e'⟩ <;> rw [e, e']
        · rcases sv_cases (keyN a) with ⟨d, s⟩ | ⟨d, s⟩
          · rcases sv_cases (keyN b) with ⟨d', s'⟩ | ⟨d', s'⟩
            · rw [s, s']
              have := @rv_lt (keyN b % 9223372036854775808) (keyN a % 9223372036854775808)
              omega
            · omega
          · omega
        · rcases sv_cases (keyN a) with ⟨d, s⟩ | ⟨d, s⟩
          · rcases sv_cases (keyN b) with ⟨d', s'⟩ | ⟨d', s'⟩
            · omega
            · rw [s, s']
              have h0 : rv 0 < rv (keyN a % 9223372036854775808) := rv_mono (by omega)
              rw [rv_zero] at h0
              omega
          · omega
        · rcases sv_cases (keyN a) with ⟨d, s⟩ | ⟨d, s⟩
          · omega
          · rcases sv_cases (keyN b) with ⟨d', s'⟩ | ⟨d', s'⟩
            · rw [s, s']
              omega
            · omega
        · rcases sv_cases (keyN a) with ⟨d, s⟩ | ⟨d, s⟩
          · omega
          · rcases sv_cases (keyN b) with ⟨d', s'⟩ | ⟨d', s'⟩
            · omega
            · rw [s, s']
              have := @rv_lt (keyN a % 9223372036854775808) (keyN b % 9223372036854775808)
              omega
      by_cases h : rankN a < rankN b
      · rw [cmp_lt (hsv.2 h)]; simp [h]
      · have : ¬ compare (sv (keyN a)) (sv (keyN b)) = .lt := fun hc => h (hsv.1 ((cmp_lt_iff _ _).1 hc))
        simp only [h, decide_false]
        cases hc : compare (sv (keyN a)) (sv (keyN b)) with
        | lt => exact absurd hc this
        | eq => rfl
        | gt => rfl
end Go.Proofs.Ytpcahemjcmccjaa
