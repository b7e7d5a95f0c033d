/- The small functions on numbers that the statement ModelLays comes to: what each call gives, for every argument that is a number's bits. -/
import Derived.Test.YtpcahemjcmccjaaRows
import Derived.Test.YtpcahemjcmccjaaF
import Derived.WalkKit
import Derived.WalkSpells
import Derived.WalkLawsBesides
import Derived.Lib.Hide
namespace Go.Proofs.Ytpcahemjcmccjaa
open Go.RowKit

theorem ext_one {P : Program} {f : FuncId} {fn : Func} {e : Array Value → Sem Value} (h1 : P.funcs[f]? = some fn) (h2 : (fn.name == "runtime.NumGoroutine") = false) (h3 : fn.body = none)
    (h4 : Extern.findNext fn = none) (h5 : Extern.find fn = some e) {args : Array Value} {v : Value} (h6 : e args = pure v) (w : World) : (callFunc f args).run P w = .ok (.value v) w := by
  have h2' : ¬ fn.name = "runtime.NumGoroutine" := by simpa using h2
  simp [callFunc, h1, h2', h3, h4, h5, h6]

theorem run_bits (b : Nat) (w : World) : (callFunc 21 #[.float .f64 b]).run Try.prog w = .ok (.value (.int .u64 (b : Int))) w :=
  ext_one (fn := Try.f21) (e := Extern.MathFloatBits.float64bits) (by kernel_rfl) (by kernel_rfl) (by kernel_rfl) (by kernel_rfl) (by kernel_rfl) rfl w
theorem run_frombits (b : Nat) (w : World) : (callFunc 40 #[.int .u64 (b : Int)]).run Try.prog w = .ok (.value (.float .f64 b)) w :=
  ext_one (fn := Try.f40) (e := Extern.MathFloatBits.float64frombits) (by kernel_rfl) (by kernel_rfl) (by kernel_rfl) (by kernel_rfl) (by kernel_rfl) rfl w

theorem ret_bool {a b : Bool} (h : a = b) : Ending.returned (.bool a) = .returned (.bool b) := by rw [h]
theorem beq_cast (a b : Nat) : ((a : Int) == (b : Int)) = decide (a = b) := by
  rw [Bool.eq_iff_iff]
  simp only [beq_iff_eq, decide_eq_true_eq]
  omega
theorem ret_int {k : IntKind} {a b : Int} (h : a = b) : Ending.returned (.int k a) = .returned (.int k b) := by rw [h]
theorem ret_float {a b : Nat} (h : a = b) : Ending.returned (.float .f64 a) = .returned (.float .f64 b) := by rw [h]

set_option maxHeartbeats 400000 in
theorem nan_any (b : Nat) (hb : b < 18446744073709551616) (w : World) :
    Calls Try.prog 41 #[.int .u64 (b : Int)] w fun e w' => e = .returned (.bool (nanB b)) ∧ w = w' := by
  by_cases h : b / 4503599627370496 % 2048 = 2047
  · have hn : nanB b = !decide (b * 4096 % 18446744073709551616 = 0) := by simp [nanB, h]
    have h' : (b : Int) / 4503599627370496 % 2048 = 2047 := by omega
    have hw : IntKind.u64.wrap ((b : Int) * 4096) = ((b * 4096 % 18446744073709551616 : Nat) : Int) := by
      show ((b : Int) * 4096) % 18446744073709551616 = _
      omega
    rw [hn]
    clear hn h
    go_enter Try.func41, Try.ntmps41
    go_wp2
    go_ret
    refine ⟨ret_bool ?_, rfl⟩
    show (((b : Int) * 4096 % 18446744073709551616) != 0) = _
    rw [Bool.eq_iff_iff]
    simp only [bne_iff_ne, Bool.not_eq_true', decide_eq_false_iff_not]
    omega
  · have hn : nanB b = false := by simp [nanB, h]
    have h' : ¬ (b : Int) / 4503599627370496 % 2048 = 2047 := by omega
    rw [hn]
    clear hn h
    go_enter Try.func41, Try.ntmps41
    go_wp2
    go_ret
    exact ⟨rfl, rfl⟩

set_option maxHeartbeats 400000 in
theorem value_any (b : Nat) (hb : b < 18446744073709551616) (w : World) :
    Calls Try.prog 23 #[.float .f64 b] w fun e w' => e = .returned (.int .u64 (valN b : Nat)) ∧ w = w' := by
  have h21 := run_bits
  cases hn : nanB b with
  | true =>
    have hv : valN b = 9221120237041090561 := by unfold valN; rw [hn]; rfl
    rw [hv]
    have c : ∀ w, Calls Try.prog 41 #[.int .u64 (b : Int)] w fun e w' => e = .returned (.bool true) ∧ w = w' := fun w => hn ▸ nan_any b hb w
    clear hn hv
    go_enter Try.func23, Try.ntmps23
    go_wp2_with (go_at_call 41; (with_reducible refine (c _).mono ?_); rintro e w' ⟨rfl, rfl⟩)
    go_ret
    exact ⟨rfl, rfl⟩
  | false =>
    have hv : valN b = b := by unfold valN; rw [hn]; rfl
    rw [hv]
    have c : ∀ w, Calls Try.prog 41 #[.int .u64 (b : Int)] w fun e w' => e = .returned (.bool false) ∧ w = w' := fun w => hn ▸ nan_any b hb w
    clear hn hv
    go_enter Try.func23, Try.ntmps23
    go_wp2_with (go_at_call 41; (with_reducible refine (c _).mono ?_); rintro e w' ⟨rfl, rfl⟩)
    go_ret
    exact ⟨rfl, rfl⟩

set_option maxHeartbeats 400000 in
theorem key_any (b : Nat) (hb : b < 18446744073709551616) (w : World) :
    Calls Try.prog 22 #[.float .f64 b] w fun e w' => e = .returned (.int .u64 (keyN b : Nat)) ∧ w = w' := by
  have c := value_any b hb
  unfold keyN
  generalize valN b = v at *
  by_cases h : v = 9223372036854775808
  · subst h
    go_enter Try.func22, Try.ntmps22
    go_wp2_with (go_at_call 23; (with_reducible refine (c _).mono ?_); rintro e w' ⟨rfl, rfl⟩)
    go_ret
    exact ⟨rfl, rfl⟩
  · have e : Nat.beq v 9223372036854775808 = false := by
      cases hq : Nat.beq v 9223372036854775808 with
      | false => rfl
      | true => exact absurd (Nat.eq_of_beq_eq_true hq) h
    rw [e]
    simp only [cond_false]
    clear e
    have h' : ¬ (v : Int) = 9223372036854775808 := by omega
    go_enter Try.func22, Try.ntmps22
    go_wp2_with (go_at_call 23; (with_reducible refine (c _).mono ?_); rintro e w' ⟨rfl, rfl⟩)
    go_ret
    exact ⟨rfl, rfl⟩

set_option maxHeartbeats 400000 in
theorem rsame_any (a b : Nat) (w : World) :
    Calls Try.prog 38 #[.float .f64 a, .float .f64 b] w fun e w' => e = .returned (.bool (decide (a = b))) ∧ w = w' := by
  have h21 := run_bits
  go_enter Try.func38, Try.ntmps38
  go_wp2
  go_ret
  refine ⟨ret_bool ?_, rfl⟩
  show ((a : Int) == (b : Int)) = _
  exact beq_cast a b

set_option maxHeartbeats 400000 in
theorem alike_any (a b : Nat) (ha : a < 18446744073709551616) (hb : b < 18446744073709551616) (w : World) :
    Calls Try.prog 20 #[.float .f64 a, .float .f64 b] w fun e w' => e = .returned (.bool (decide (keyN a = keyN b))) ∧ w = w' := by
  have c1 := key_any a ha
  have c2 := key_any b hb
  go_enter Try.func20, Try.ntmps20
  go_wp2_with (go_at_call 22; first | ((with_reducible refine (c1 _).mono ?_); rintro e w' ⟨rfl, rfl⟩) | ((with_reducible refine (c2 _).mono ?_); rintro e w' ⟨rfl, rfl⟩))
  go_ret
  refine ⟨ret_bool ?_, rfl⟩
  show ((keyN a : Int) == (keyN b : Int)) = _
  exact beq_cast _ _

set_option maxHeartbeats 400000 in
theorem less_any (a b : Nat) (ha : a < 18446744073709551616) (hb : b < 18446744073709551616) (w : World) :
    Calls Try.prog 19 #[.float .f64 a, .float .f64 b] w fun e w' => e = .returned (.bool (lessN a b)) ∧ w = w' := by
  have c1 := key_any a ha
  have c2 := key_any b hb
  have h40 := run_frombits
  unfold lessN
  have n1 := nan_any (keyN a) (keyN_lt a ha)
  have n2 := nan_any (keyN b) (keyN_lt b hb)
  generalize keyN a = x at *
  generalize keyN b = y at *
  have hd : Ieee.double = FloatKind.f64.format := rfl
  rw [hd]
  clear hd
  cases h1 : nanB x with
  | true =>
    rw [h1] at n1
    clear h1
    go_enter Try.func19, Try.ntmps19
    go_wp2_with (first | (go_at_call 22; first | ((with_reducible refine (c1 _).mono ?_); rintro e w' ⟨rfl, rfl⟩) | ((with_reducible refine (c2 _).mono ?_); rintro e w' ⟨rfl, rfl⟩)) | (go_at_call 41; first | ((with_reducible refine (n1 _).mono ?_); rintro e w' ⟨rfl, rfl⟩)))
    go_ret
    exact ⟨rfl, rfl⟩
  | false =>
    rw [h1] at n1
    cases h2 : nanB y with
    | true =>
      rw [h2] at n2
      clear h1 h2
      go_enter Try.func19, Try.ntmps19
      go_wp2_with (first | (go_at_call 22; first | ((with_reducible refine (c1 _).mono ?_); rintro e w' ⟨rfl, rfl⟩) | ((with_reducible refine (c2 _).mono ?_); rintro e w' ⟨rfl, rfl⟩)) | (go_at_call 41; first | ((with_reducible refine (n1 _).mono ?_); rintro e w' ⟨rfl, rfl⟩) | ((with_reducible refine (n2 _).mono ?_); rintro e w' ⟨rfl, rfl⟩)))
      go_ret
      exact ⟨rfl, rfl⟩
    | false =>
      rw [h2] at n2
      clear h1 h2
      go_enter Try.func19, Try.ntmps19
      go_wp2_with (first | (go_at_call 22; first | ((with_reducible refine (c1 _).mono ?_); rintro e w' ⟨rfl, rfl⟩) | ((with_reducible refine (c2 _).mono ?_); rintro e w' ⟨rfl, rfl⟩)) | (go_at_call 41; first | ((with_reducible refine (n1 _).mono ?_); rintro e w' ⟨rfl, rfl⟩) | ((with_reducible refine (n2 _).mono ?_); rintro e w' ⟨rfl, rfl⟩)))
      go_ret
      exact ⟨rfl, rfl⟩

set_option maxHeartbeats 400000 in
theorem isnan_any (b : Nat) (w : World) :
    Calls Try.prog 78 #[.float .f64 b] w fun e w' => e = .returned (.bool (isNaNb b)) ∧ w = w' := by
  go_enter Try.func78, Try.ntmps78
  go_wp2
  go_ret
  exact ⟨rfl, rfl⟩

set_option maxHeartbeats 400000 in
theorem nvalue_any (b : Nat) (w : World) :
    Calls Try.prog 68 #[.float .f64 b] w fun e w' => e = .returned (.float .f64 (numValN b)) ∧ w = w' := by
  have c := isnan_any b
  have h40 : ∀ w, (callFunc 40 #[.int .u64 9221120237041090561]).run Try.prog w = .ok (.value (.float .f64 9221120237041090561)) w := run_frombits 9221120237041090561
  unfold numValN
  cases h : isNaNb b with
  | true =>
    rw [h] at c
    clear h
    go_enter Try.func68, Try.ntmps68
    go_wp2_with (go_at_call 78; (with_reducible refine (c _).mono ?_); rintro e w' ⟨rfl, rfl⟩)
    go_ret
    exact ⟨rfl, rfl⟩
  | false =>
    rw [h] at c
    clear h
    go_enter Try.func68, Try.ntmps68
    go_wp2_with (go_at_call 78; (with_reducible refine (c _).mono ?_); rintro e w' ⟨rfl, rfl⟩)
    go_ret
    exact ⟨rfl, rfl⟩

set_option maxHeartbeats 400000 in
theorem nkey_any (b : Nat) (w : World) :
    Calls Try.prog 61 #[.float .f64 b] w fun e w' => e = .returned (.float .f64 (numKeyN b)) ∧ w = w' := by
  have c := nvalue_any b
  unfold numKeyN
  have hd : Ieee.double = FloatKind.f64.format := rfl
  rw [hd]
  clear hd
  cases h : (FloatKind.f64.format.order b 0 == some .eq) with
  | true =>
    go_enter Try.func61, Try.ntmps61
    go_wp2_with (go_at_call 68; (with_reducible refine (c _).mono ?_); rintro e w' ⟨rfl, rfl⟩)
    go_ret
    exact ⟨rfl, rfl⟩
  | false =>
    go_enter Try.func61, Try.ntmps61
    go_wp2_with (go_at_call 68; (with_reducible refine (c _).mono ?_); rintro e w' ⟨rfl, rfl⟩)
    go_ret
    exact ⟨rfl, rfl⟩

theorem ofInt_u64 (a : Nat) (ha : a < 18446744073709551616) : (BitVec.ofInt 64 (a : Int)).toNat = a := by
  rw [BitVec.ofInt_natCast, BitVec.toNat_ofNat]; exact Nat.mod_eq_of_lt (by omega)
theorem and_lo (x : Nat) (h : x < 9223372036854775808) : x &&& 9223372036854775808 = 0 := by
  apply Nat.eq_of_testBit_eq
  intro i
  rw [Nat.testBit_and, show (9223372036854775808 : Nat) = 2 ^ 63 by decide, Nat.testBit_two_pow, Nat.zero_testBit]
  by_cases hi : 63 = i
  · subst hi
    rw [Nat.testBit_lt_two_pow (by omega)]; rfl
  · simp [hi]
theorem and_hi (x : Nat) (h : 9223372036854775808 ≤ x) (h2 : x < 18446744073709551616) : x &&& 9223372036854775808 = 9223372036854775808 := by
  apply Nat.eq_of_testBit_eq
  intro i
  rw [Nat.testBit_and, show (9223372036854775808 : Nat) = 2 ^ 63 by decide, Nat.testBit_two_pow]
  by_cases hi : 63 = i
  · subst hi
    have : x.testBit 63 = true := by
      rw [Nat.testBit_eq_decide_div_mod_eq]
      simp only [decide_eq_true_eq]
      omega
    rw [this]; rfl
  · simp [hi]
theorem or_lo (x : Nat) (h : x < 9223372036854775808) : x ||| 9223372036854775808 = x + 9223372036854775808 := by
  have := Nat.two_pow_add_eq_or_of_lt (i := 63) (b := x) (by omega) 1
  rw [Nat.or_comm, show (9223372036854775808 : Nat) = 2 ^ 63 * 1 by decide, ← this]
  omega
theorem xor_all (x : Nat) (h : x < 18446744073709551616) : 18446744073709551615 ^^^ x = 18446744073709551615 - x := by
  have e : (18446744073709551615 : Nat) - x = 2 ^ 64 - (x + 1) := by omega
  rw [e]
  apply Nat.eq_of_testBit_eq
  intro i
  rw [Nat.testBit_xor, Nat.testBit_two_pow_sub_succ (by omega), show (18446744073709551615 : Nat) = 2 ^ 64 - 1 by decide, Nat.testBit_two_pow_sub_one]
  by_cases hi : i < 64
  · simp [hi]
  · rw [Nat.testBit_lt_two_pow (x := x) (i := i) (Nat.lt_of_lt_of_le h (by
      show 2 ^ 64 ≤ 2 ^ i
      exact Nat.pow_le_pow_right (by omega) (by omega)))]
    simp [hi]

theorem u64_and (x y : Nat) (hx : x < 18446744073709551616) (hy : y < 18446744073709551616) : bits .and .u64 (x : Int) (y : Int) = ((x &&& y : Nat) : Int) := by
  have h : x &&& y < 2 ^ 64 := Nat.and_lt_two_pow _ (by omega)
  show IntKind.u64.wrap ((BitVec.ofInt 64 (x : Int) &&& BitVec.ofInt 64 (y : Int)).toNat : Int) = _
  rw [BitVec.toNat_and, ofInt_u64 x hx, ofInt_u64 y hy]
  show ((x &&& y : Nat) : Int) % 18446744073709551616 = _
  omega
theorem u64_or (x y : Nat) (hx : x < 18446744073709551616) (hy : y < 18446744073709551616) : bits .or .u64 (x : Int) (y : Int) = ((x ||| y : Nat) : Int) := by
  have h : x ||| y < 2 ^ 64 := Nat.or_lt_two_pow (by omega) (by omega)
  show IntKind.u64.wrap ((BitVec.ofInt 64 (x : Int) ||| BitVec.ofInt 64 (y : Int)).toNat : Int) = _
  rw [BitVec.toNat_or, ofInt_u64 x hx, ofInt_u64 y hy]
  show ((x ||| y : Nat) : Int) % 18446744073709551616 = _
  omega
theorem u64_xor (x y : Nat) (hx : x < 18446744073709551616) (hy : y < 18446744073709551616) : bits .xor .u64 (x : Int) (y : Int) = ((x ^^^ y : Nat) : Int) := by
  have h : x ^^^ y < 2 ^ 64 := Nat.xor_lt_two_pow (by omega) (by omega)
  show IntKind.u64.wrap ((BitVec.ofInt 64 (x : Int) ^^^ BitVec.ofInt 64 (y : Int)).toNat : Int) = _
  rw [BitVec.toNat_xor, ofInt_u64 x hx, ofInt_u64 y hy]
  show ((x ^^^ y : Nat) : Int) % 18446744073709551616 = _
  omega

set_option maxHeartbeats 400000 in
theorem rank_any (b : Nat) (hb : b < 18446744073709551616) (w : World) :
    Calls Try.prog 52 #[.float .f64 b] w fun e w' => e = .returned (.int .u64 (rankN b : Nat)) ∧ w = w' := by
  have c := nkey_any b
  rw [numKeyN_eq b hb] at c
  have h21 := run_bits (keyN b)
  have hl := keyN_lt b hb
  unfold rankN
  generalize keyN b = x at *
  cases h : Nat.ble 9223372036854775808 x with
  | true =>
    have h' := Nat.le_of_ble_eq_true h
    clear h
    simp only [cond_true]
    have h1 : (bits .and .u64 (x : Int) 9223372036854775808 != 0) = true := by
      rw [show (9223372036854775808 : Int) = ((9223372036854775808 : Nat) : Int) from rfl, u64_and x _ hl (by omega), and_hi x h' hl]; rfl
    have h2 : bits .xor .u64 IntKind.u64.max (x : Int) = ((18446744073709551615 - x : Nat) : Int) := by
      rw [show IntKind.u64.max = ((18446744073709551615 : Nat) : Int) from rfl, u64_xor _ x (by omega) hl, xor_all x hl]
    go_enter Try.func52, Try.ntmps52
    go_wp2_with (go_at_call 61; (with_reducible refine (c _).mono ?_); rintro e w' ⟨rfl, rfl⟩)
    go_ret
    exact ⟨rfl, rfl⟩
  | false =>
    have h' : ¬ 9223372036854775808 ≤ x := fun hc => by rw [Nat.ble_eq_true_of_le hc] at h; cases h
    clear h
    simp only [cond_false]
    have h1 : (bits .and .u64 (x : Int) 9223372036854775808 != 0) = false := by
      rw [show (9223372036854775808 : Int) = ((9223372036854775808 : Nat) : Int) from rfl, u64_and x _ hl (by omega), and_lo x (by omega)]; rfl
    have h2 : bits .or .u64 (x : Int) 9223372036854775808 = ((x + 9223372036854775808 : Nat) : Int) := by
      rw [show (9223372036854775808 : Int) = ((9223372036854775808 : Nat) : Int) from rfl, u64_or x _ hl (by omega), or_lo x (by omega)]
    go_enter Try.func52, Try.ntmps52
    go_wp2_with (go_at_call 61; (with_reducible refine (c _).mono ?_); rintro e w' ⟨rfl, rfl⟩)
    go_ret
    exact ⟨rfl, rfl⟩

set_option maxHeartbeats 400000 in
theorem isnan64_any (b : Nat) (w : World) :
    Calls Try.prog 60 #[.int .u64 (b : Int)] w fun e w' => e = .returned (.bool false) ∧ w = w' := by
  go_enter Try.func60, Try.ntmps60
  go_wp2
  go_ret
  exact ⟨rfl, rfl⟩

/-- how two ranks stand -/
def cmpZ (a b : Nat) : Int := if a < b then -1 else if b < a then 1 else 0

set_option maxHeartbeats 400000 in
theorem cmp64_any (a b : Nat) (w : World) :
    Calls Try.prog 51 #[.int .u64 (a : Int), .int .u64 (b : Int)] w fun e w' => e = .returned (.int .i64 (cmpZ a b)) ∧ w = w' := by
  unfold cmpZ
  by_cases h : a < b
  · rw [if_pos h]
    go_enter Try.func51, Try.ntmps51
    go_wp2_with (go_at_call 60; (with_reducible refine (isnan64_any _ _).mono ?_); rintro e w' ⟨rfl, rfl⟩)
    go_ret
    exact ⟨rfl, rfl⟩
  · rw [if_neg h]
    by_cases h2 : b < a
    · rw [if_pos h2]
      go_enter Try.func51, Try.ntmps51
      go_wp2_with (go_at_call 60; (with_reducible refine (isnan64_any _ _).mono ?_); rintro e w' ⟨rfl, rfl⟩)
      go_ret
      exact ⟨rfl, rfl⟩
    · rw [if_neg h2]
      go_enter Try.func51, Try.ntmps51
      go_wp2_with (go_at_call 60; (with_reducible refine (isnan64_any _ _).mono ?_); rintro e w' ⟨rfl, rfl⟩)
      go_ret
      exact ⟨rfl, rfl⟩

set_option maxHeartbeats 400000 in
theorem compare_any (a b : Nat) (ha : a < 18446744073709551616) (hb : b < 18446744073709551616) (w : World) :
    Calls Try.prog 35 #[.float .f64 a, .float .f64 b] w fun e w' => e = .returned (.int .i64 (cmpZ (rankN a) (rankN b))) ∧ w = w' := by
  have c1 := rank_any a ha
  have c2 := rank_any b hb
  go_enter Try.func35, Try.ntmps35
  go_wp2_with (first | (go_at_call 52; first | ((with_reducible refine (c1 _).mono ?_); rintro e w' ⟨rfl, rfl⟩) | ((with_reducible refine (c2 _).mono ?_); rintro e w' ⟨rfl, rfl⟩)) | (go_at_call 51; (with_reducible refine (cmp64_any _ _ _).mono ?_); rintro e w' ⟨rfl, rfl⟩))
  go_ret
  exact ⟨rfl, rfl⟩
end Go.Proofs.Ytpcahemjcmccjaa
