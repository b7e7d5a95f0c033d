/- The document's items: bytes of numbers, which items may be. -/
import Derived.Test.YtdbnlngkmfmnnaaGreatDoorH06
import Derived.Laws.IdiomStrings
import Derived.Test.YtdbnlngkmfmnnaaGreatDoorH05
namespace Go.Proofs.YtdbnlngkmfmnnaaGreatDoor
open Go.RowKit

/-- A number's bytes, so many, the greatest first. -/
def be (n u : Nat) : List Nat := (List.range n).map fun i => u / 256 ^ (n - 1 - i) % 256
theorem be_len (n u : Nat) : (be n u).length = n := by simp [be]
theorem be_lt (n u : Nat) : ∀ x ∈ be n u, x < 256 := by
  intro x hx
  obtain ⟨i, _, rfl⟩ := List.mem_map.1 hx
  exact Nat.mod_lt _ (by omega)
theorem be_succ (n u : Nat) : be (n + 1) u = be n (u / 256) ++ [u % 256] := by
  unfold be
  rw [List.range_succ, List.map_append]
  congr 1
  · refine List.map_congr_left fun i hi => ?_
    have hi := List.mem_range.1 hi
    rw [Nat.div_div_eq_div_mul, show n + 1 - 1 - i = (n - 1 - i) + 1 by omega, Nat.pow_succ, Nat.mul_comm]
  · simp
/-- .. and back. -/
theorem be_beN : ∀ (n : Nat) (l : List Nat), l.length = n → (∀ x ∈ l, x < 256) → be n (beN l) = l
  | 0, l, h, _ => by rw [List.eq_nil_of_length_eq_zero h]; rfl
  | n + 1, l, h, hl => by
    obtain ⟨m, c, rfl⟩ : ∃ m c, l = m ++ [c] := ⟨l.dropLast, l.getLast (by intro e; rw [e] at h; cases h), (List.dropLast_concat_getLast _).symm⟩
    have hc := hl c (by simp)
    rw [be_succ, beN_snoc]
    have e1 : (beN m * 256 + c) / 256 = beN m := by omega
    have e2 : (beN m * 256 + c) % 256 = c := by omega
    rw [e1, e2, be_beN n m (by simpa using h) fun x hx => hl x (by simp [hx])]
theorem beN_be (n u : Nat) (h : u < 256 ^ n) : beN (be n u) = u := by
  induction n generalizing u with
  | zero => simp at h; subst h; rfl
  | succ n ih =>
    rw [be_succ, beN_snoc, ih (u / 256) (by rw [Nat.pow_succ] at h; omega)]
    omega

theorem info5 : (Tryz.prog.info? 5).map (fun i => (i.zero, i.size, i.bytes)) = some (some (.int .u8 0), 1, 1) := by kernel_rfl
theorem make_bytes (k : Nat) (hk : k ≤ 8) (w : World) : (Instr.makeSlice 53 (.int .i64 (k : Nat)) (.int .i64 (k : Nat))).run Tryz.prog w = .ok (.slice (some ⟨w.heap.size, 0, none⟩) k k) (w.alloc (.cells (List.replicate k (.int .u8 0)).toArray 5)) := by
  obtain ⟨i0, hi0, hz0, hz1, hz2⟩ := info_parts info5
  have h := run_make w 53 5 i0 (.int .u8 0) Tryz.underlying53 hi0 hz0 .i64 .i64 k k (by omega) (by omega) (by rw [hz2]; omega) (by omega)
  rw [hz1, Int.toNat_natCast] at h
  have e : madeCells (Value.int .u8 0).cells (k * 1) = (List.replicate k (Value.int .u8 0)).toArray := by
    rw [Nat.mul_one]
    apply Array.toList_inj.1
    rw [show (Value.int .u8 0).cells = #[.int .u8 0] from rfl, toList_madeCells_one, List.toList_toArray]
  rw [e] at h
  exact h

/-- The bytes from i on stand. -/
structure Big (w : World) (n u i : Nat) (W : World) : Prop where
  below : Below w.heap.size w W
  is : ∃ cur : List Value, W.heap[w.heap.size]? = some (.cells cur.toArray 5 (0, 0)) ∧ cur.length = n ∧ ∀ j, i ≤ j → j < n → cur[j]? = some (.int .u8 ((u / 256 ^ (n - 1 - j) % 256 : Nat) : Int))
theorem Big.step {w W : World} {n u i : Nat} (h : Big w n u (i + 1) W) (hi : i < n) : Big w n u i (W.setCell ⟨w.heap.size, i, none⟩ (.int .u8 ((u / 256 ^ (n - 1 - i) % 256 : Nat) : Int))) := by
  obtain ⟨hb, cur, h1, h2, h3⟩ := h
  refine ⟨hb.setCell (p := ⟨w.heap.size, i, none⟩) (Nat.le_refl _) _, cur.set i (.int .u8 ((u / 256 ^ (n - 1 - i) % 256 : Nat) : Int)), ?_, by simpa using h2, fun j hj hn => ?_⟩
  · rw [heap_setCell_same _ _ _ _ _ _ h1]
    simp
  · rw [List.getElem?_set]
    by_cases e : i = j
    · subst e
      rw [if_pos rfl, if_pos (by omega)]
    · rw [if_neg e]
      exact h3 j (by omega) hn
theorem Big.at_ {w W : World} {n u i j : Nat} (h : Big w n u i W) (hj : j < n) : ∃ v, W.cell? ⟨w.heap.size, j, none⟩ = some v ∧ W.frozen? ⟨w.heap.size, j, none⟩ = false := by
  obtain ⟨_, cur, h1, h2, _⟩ := h
  refine ⟨cur[j]'(by omega), ?_, frozen_of_row W w.heap.size j _ _ h1⟩
  rw [cell_of_row W w.heap.size j _ _ _ h1]
  simp [h2, hj]
theorem Big.done {w W : World} {n u : Nat} (h : Big w n u 0 W) : BC W W.heap.size (some ⟨w.heap.size, 0, none⟩) (be n u) := by
  obtain ⟨_, cur, h1, h2, h3⟩ := h
  refine ⟨be_lt n u, fun _ => ⟨w.heap.size, 0, rfl, (Array.getElem?_eq_some_iff.1 h1).1, fun j x hx => ?_⟩⟩
  have hj : j < n := by have := (List.getElem?_eq_some_iff.1 hx).1; rwa [be_len] at this
  rw [Nat.zero_add, cell_of_row W w.heap.size j _ _ _ h1, List.getElem?_toArray, h3 j (Nat.zero_le _) hj]
  unfold be at hx
  rw [List.getElem?_map, List.getElem?_range hj] at hx
  injection hx with hx
  rw [← hx]

set_option maxHeartbeats 2000000 in
theorem big_any (n u : Nat) (hn1 : 1 ≤ n) (hn : n ≤ 8) (hu : u < 18446744073709551616) (w : World) :
    Calls Tryz.prog 158 #[.int .u64 (u : Nat), .int .i64 (n : Nat)] w fun e w' => ∃ g c, e = .returned (.slice (some ⟨g, 0, none⟩) n c) ∧ BC w' w'.heap.size (some ⟨g, 0, none⟩) (be n u) ∧ n ≤ c ∧ c ≤ 9223372036854775807 ∧ Below w.heap.size w w' := by
  have hmk := make_bytes n hn
  have HU := Lib.hid hu
  clear hu
  go_enter Tryz.func158, Tryz.ntmps158
  go_wp2
  go_loopw [6, 0] (fun i v wr => ∃ j : Nat, j ≤ n ∧ i = .int .i64 ((j : Int) - 1) ∧ v = .int .u64 ((u / 256 ^ (n - j) : Nat) : Int) ∧ Big w n u j wr) (fun i _ _ => (intOf i + 1).toNat)
  case atStart => exact ⟨n, Nat.le_refl _, rfl, by simp, (Below.refl _ _).alloc (Nat.le_refl _) _, _, heap_alloc_new w _, by simp, fun j h1 h2 => absurd h2 (by omega)⟩
  case round =>
    obtain ⟨j, hj, rfl, rfl, hbig⟩ := hrel
    rcases Nat.eq_zero_or_pos j with rfl | hp
    · have HB := Lib.hid hbig
      clear hbig
      go_wp2
      go_ret
      exact ⟨w.heap.size, n, rfl, HB.out.done, Nat.le_refl _, by omega, HB.out.below⟩
    · obtain ⟨i, rfl⟩ : ∃ i, j = i + 1 := ⟨j - 1, by omega⟩
      obtain ⟨v0, hc0, hf0⟩ := hbig.at_ (show i < n by omega)
      have hst := hbig.step (show i < n by omega)
      have e0 : n - 1 - i = n - (i + 1) := by omega
      rw [e0] at hst
      have HST := Lib.hid hst
      have hd : u / 256 ^ (n - (i + 1)) < 18446744073709551616 := Nat.lt_of_le_of_lt (Nat.div_le_self _ _) HU.out
      have HE : Hid (u / 256 ^ (n - (i + 1)) / 256 = u / 256 ^ (n - i)) := by
        rw [Nat.div_div_eq_div_mul, show n - i = (n - (i + 1)) + 1 by omega, Nat.pow_succ]; exact rfl
      obtain ⟨q, hq⟩ : ∃ q, u / 256 ^ (n - (i + 1)) = q := ⟨_, rfl⟩
      rw [hq] at HST HE hd ⊢
      have g0 : ¬ ((i + 1 : Nat) : Int) - 1 < 0 := by omega
      have g1 : ((i + 1 : Nat) : Int) - 1 = (i : Int) := by omega
      rw [g1]
      clear hbig hst hq g0 g1
      go_wp2
      refine ⟨⟨i, by omega, rfl, by rw [← HE.out, Int.natCast_ediv]; exact rfl, ?_⟩, by simp [intOf]⟩
      have := HST.out
      rwa [Int.natCast_emod] at this

set_option maxRecDepth 100000 in
set_option maxHeartbeats 1000000 in
/-- May an item of a number be? -/
theorem ritem_num (k n : Nat) (hk : 1 ≤ k) (hk3 : k ≤ 3) (w : World) :
    Calls Tryz.prog 147 #[.agg #[.int .i64 (k : Nat), .int .i64 (n : Nat), .float .f64 0, .string ⟨#[]⟩]] w fun e w' => e = .returned (.bool (fitsN k n)) ∧ Below w.heap.size w w' := by
  have cs := rsame_any 0 0
  rw [decide_eq_true rfl] at cs
  have hb : Below w.heap.size w (w.alloc (.cells #[.int .i64 (k : Nat), .int .i64 (n : Nat), .float .f64 0, .string ⟨#[]⟩] 123)) := (Below.refl _ _).alloc (Nat.le_refl _) _
  have HB := Lib.hid hb
  clear hb
  have : k = 1 ∨ k = 2 ∨ k = 3 := by omega
  rcases this with rfl | rfl | rfl
  · have hf : fitsN 1 n = decide (n < 256) := by unfold fitsN wid; exact decide_eq_decide.2 (by simp <;> omega)
    rw [hf]
    have h0 : decide ((0 : Int) ≤ (n : Int)) = true := decide_eq_true (by omega)
    by_cases h : n < 256
    · have h' : (n : Int) < 256 := by omega
      rw [decide_eq_true h]
      clear hk hk3 hf
      go_enter Tryz.func147, Tryz.ntmps147
      go_wp2_with (go_at_call 57; (with_reducible refine (cs _).mono ?_); rintro e w' ⟨rfl, rfl⟩)
      go_ret
      exact ⟨rfl, HB.out⟩
    · have h' : decide ((n : Int) < 256) = false := decide_eq_false (by omega)
      rw [decide_eq_false h]
      clear hk hk3 hf h
      go_enter Tryz.func147, Tryz.ntmps147
      go_wp2_with (go_at_call 57; (with_reducible refine (cs _).mono ?_); rintro e w' ⟨rfl, rfl⟩)
      go_ret
      exact ⟨rfl, HB.out⟩
  · have hf : fitsN 2 n = decide (n < 65536) := by unfold fitsN wid; exact decide_eq_decide.2 (by simp <;> omega)
    rw [hf]
    by_cases h : n < 65536
    · have h' : (n : Int) < 65536 := by omega
      rw [decide_eq_true h]
      clear hk hk3 hf
      go_enter Tryz.func147, Tryz.ntmps147
      go_wp2_with (go_at_call 57; (with_reducible refine (cs _).mono ?_); rintro e w' ⟨rfl, rfl⟩)
      go_ret
      exact ⟨rfl, HB.out⟩
    · have h' : decide ((n : Int) < 65536) = false := decide_eq_false (by omega)
      rw [decide_eq_false h]
      clear hk hk3 hf h
      go_enter Tryz.func147, Tryz.ntmps147
      go_wp2_with (go_at_call 57; (with_reducible refine (cs _).mono ?_); rintro e w' ⟨rfl, rfl⟩)
      go_ret
      exact ⟨rfl, HB.out⟩
  · have hf : fitsN 3 n = decide (n < 2147483648) := by unfold fitsN wid; exact decide_eq_decide.2 (by simp <;> omega)
    rw [hf]
    by_cases h : n < 2147483648
    · have h' : (n : Int) < 2147483648 := by omega
      rw [decide_eq_true h]
      clear hk hk3 hf
      go_enter Tryz.func147, Tryz.ntmps147
      go_wp2_with (go_at_call 57; (with_reducible refine (cs _).mono ?_); rintro e w' ⟨rfl, rfl⟩)
      go_ret
      exact ⟨rfl, HB.out⟩
    · have h' : decide ((n : Int) < 2147483648) = false := decide_eq_false (by omega)
      rw [decide_eq_false h]
      clear hk hk3 hf h
      go_enter Tryz.func147, Tryz.ntmps147
      go_wp2_with (go_at_call 57; (with_reducible refine (cs _).mono ?_); rintro e w' ⟨rfl, rfl⟩)
      go_ret
      exact ⟨rfl, HB.out⟩

theorem ritem_flt (x : Nat) (w : World) :
    Calls Tryz.prog 147 #[.agg #[.int .i64 4, .int .i64 0, .float .f64 x, .string ⟨#[]⟩]] w fun e w' => e = .returned (.bool true) ∧ Below w.heap.size w w' := by
  have cs := rsame_any x 0
  have hb : Below w.heap.size w (w.alloc (.cells #[.int .i64 4, .int .i64 0, .float .f64 x, .string ⟨#[]⟩] 123)) := (Below.refl _ _).alloc (Nat.le_refl _) _
  have HB := Lib.hid hb
  clear hb
  go_enter Tryz.func147, Tryz.ntmps147
  go_wp2_with (go_at_call 57; (with_reducible refine (cs _).mono ?_); rintro e w' ⟨rfl, rfl⟩)
  go_ret
  exact ⟨rfl, HB.out⟩

/-- What an item's bytes are. -/
def BigOut (w : World) (X : List Nat) (e : Ending) (w' : World) : Prop := ∃ g c, e = .returned (.slice (some ⟨g, 0, none⟩) X.length c) ∧ BC w' w'.heap.size (some ⟨g, 0, none⟩) X ∧ X.length ≤ c ∧ c ≤ 9223372036854775807 ∧ Below w.heap.size w w'
theorem big_c (n u : Nat) (hn1 : 1 ≤ n) (hn : n ≤ 8) (hu : u < 18446744073709551616) (w W : World) (hb : Below w.heap.size w W) : Calls Tryz.prog 158 #[.int .u64 (u : Nat), .int .i64 (n : Nat)] W fun e w' => ∃ g c, e = .returned (.slice (some ⟨g, 0, none⟩) n c) ∧ Hid (BC w' w'.heap.size (some ⟨g, 0, none⟩) (be n u) ∧ n ≤ c ∧ c ≤ 9223372036854775807 ∧ Below w.heap.size w w') :=
  (big_any n u hn1 hn hu W).mono fun e w' ⟨g, c, h1, h2, h3, h4, h5⟩ => ⟨g, c, h1, h2, h3, h4, hb.trans (h5.mono hb.size)⟩

set_option maxHeartbeats 1000000 in
theorem one_num (k n : Nat) (hk : 1 ≤ k) (hk3 : k ≤ 3) (hn : n < 4294967296) (w : World) :
    Calls Tryz.prog 148 #[.agg #[.int .i64 (k : Nat), .int .i64 (n : Nat), .float .f64 0, .string ⟨#[]⟩]] w (BigOut w (be (wid k) n)) := by
  have hb : ∀ v, Below w.heap.size w (w.alloc (.cells #[v, .int .i64 (n : Nat), .float .f64 0, .string ⟨#[]⟩] 123)) := fun v => (Below.refl _ _).alloc (Nat.le_refl _) _
  have : k = 1 ∨ k = 2 ∨ k = 3 := by omega
  rcases this with rfl | rfl | rfl
  all_goals
    clear hk hk3
  · have c1 : Calls Tryz.prog 158 #[.int .u64 (n : Nat), .int .i64 1] _ _ := big_c 1 n (by omega) (by omega) (by omega) w _ (hb (.int .i64 1))
    have C1 := Lib.hid c1
    clear c1 hb
    go_enter Tryz.func148, Tryz.ntmps148
    go_wp2_with (go_at_call 158; (with_reducible refine C1.out.mono ?_); rintro e w' ⟨g, c, rfl, h⟩)
    go_ret
    exact ⟨g, c, by rw [be_len]; exact rfl, h.out.1, by rw [be_len]; exact h.out.2.1, h.out.2.2.1, h.out.2.2.2⟩
  · have c1 : Calls Tryz.prog 158 #[.int .u64 (n : Nat), .int .i64 2] _ _ := big_c 2 n (by omega) (by omega) (by omega) w _ (hb (.int .i64 2))
    have C1 := Lib.hid c1
    clear c1 hb
    go_enter Tryz.func148, Tryz.ntmps148
    go_wp2_with (go_at_call 158; (with_reducible refine C1.out.mono ?_); rintro e w' ⟨g, c, rfl, h⟩)
    go_ret
    exact ⟨g, c, by rw [be_len]; exact rfl, h.out.1, by rw [be_len]; exact h.out.2.1, h.out.2.2.1, h.out.2.2.2⟩
  · have c1 : Calls Tryz.prog 158 #[.int .u64 (n : Nat), .int .i64 4] _ _ := big_c 4 n (by omega) (by omega) (by omega) w _ (hb (.int .i64 3))
    have C1 := Lib.hid c1
    clear c1 hb
    go_enter Tryz.func148, Tryz.ntmps148
    go_wp2_with (go_at_call 158; (with_reducible refine C1.out.mono ?_); rintro e w' ⟨g, c, rfl, h⟩)
    go_ret
    exact ⟨g, c, by rw [be_len]; exact rfl, h.out.1, by rw [be_len]; exact h.out.2.1, h.out.2.2.1, h.out.2.2.2⟩

set_option maxHeartbeats 1000000 in
theorem one_flt (x : Nat) (hx : x < 18446744073709551616) (w : World) :
    Calls Tryz.prog 148 #[.agg #[.int .i64 4, .int .i64 0, .float .f64 x, .string ⟨#[]⟩]] w (BigOut w (be 8 (valN x))) := by
  have hb : Below w.heap.size w (w.alloc (.cells #[.int .i64 4, .int .i64 0, .float .f64 x, .string ⟨#[]⟩] 123)) := (Below.refl _ _).alloc (Nat.le_refl _) _
  have cv := value_any x hx
  have hv : valN x < 18446744073709551616 := by
    unfold valN
    cases nanB x <;> simp only [cond_true, cond_false] <;> omega
  obtain ⟨v, hvv⟩ : ∃ v, valN x = v := ⟨_, rfl⟩
  rw [hvv] at cv hv ⊢
  have c1 : Calls Tryz.prog 158 #[.int .u64 (v : Nat), .int .i64 8] _ _ := big_c 8 v (by omega) (by omega) hv w _ hb
  have C1 := Lib.hid c1
  clear c1 hb hvv hx hv
  go_enter Tryz.func148, Tryz.ntmps148
  go_wp2_with (first
    | (go_at_call 34; (with_reducible refine (cv _).mono ?_); rintro e w' ⟨rfl, rfl⟩)
    | (go_at_call 158; (with_reducible refine C1.out.mono ?_); rintro e w' ⟨g, c, rfl, h⟩))
  go_ret
  exact ⟨g, c, by rw [be_len]; exact rfl, h.out.1, by rw [be_len]; exact h.out.2.1, h.out.2.2.1, h.out.2.2.2⟩
end Go.Proofs.YtdbnlngkmfmnnaaGreatDoor

/- The document's Take: what its steps need. -/
namespace Go.Proofs.YtdbnlngkmfmnnaaGreatDoor
open Go.RowKit

/-- Bytes as a string. -/
def strB (L : List Nat) : ByteArray := ⟨(L.map UInt8.ofNat).toArray⟩
theorem strB_inj {a b : List Nat} (ha : ∀ x ∈ a, x < 256) (hb : ∀ x ∈ b, x < 256) (h : strB a = strB b) : a = b := by
  unfold strB at h
  injection h with h
  have h2 : a.map UInt8.ofNat = b.map UInt8.ofNat := by
    have := congrArg Array.toList h
    simpa using this
  have h3 : (a.map UInt8.ofNat).map UInt8.toNat = (b.map UInt8.ofNat).map UInt8.toNat := by rw [h2]
  rw [List.map_map, List.map_map] at h3
  have e : ∀ l : List Nat, (∀ x ∈ l, x < 256) → l.map (UInt8.toNat ∘ UInt8.ofNat) = l := fun l hl => by
    conv => rhs; rw [← List.map_id l]
    refine List.map_congr_left fun x hx => ?_
    have := hl x hx
    simp
    omega
  rwa [e a ha, e b hb] at h3
theorem conv_bytes {W : World} {B n c : Nat} {A : Option Addr} {L : List Nat} (h : BC W B A L) (hn : L.length = n) (h0 : 0 < n) : (convert 53 9 (.slice A n c)).run Tryz.prog W = .ok (.string (strB L)) W := by
  subst hn
  obtain ⟨b, off, e, _, hc⟩ := h.2 h0
  subst e
  have hr := run_convert_bytes_back (P := Tryz.prog) W 53 9 5 ⟨b, off, none⟩ c (L.map UInt8.ofNat) Tryz.underlying53 Tryz.underlying5 Tryz.underlying9 (fun j hj => by
    have hj' : j < L.length := by simpa using hj
    have := hc j _ (List.getElem?_eq_getElem hj')
    unfold Addr.add
    have hx := h.1 _ (List.getElem_mem hj')
    have e : (((L.map UInt8.ofNat)[j]).toNat : Int) = (L[j] : Nat) := by
      simp
      omega
    rw [e]
    by_cases h0 : j = 0
    · subst h0; simpa using this
    · rw [if_neg h0]; exact this)
  rw [List.length_map] at hr
  exact hr

/-- The world within Take's second loop. -/
structure RT (w : World) (v : Value) (I : List It) (W : World) : Prop where
  below : Below w.heap.size w W
  lt : w.heap.size < W.heap.size
  sz : W.heap[w.heap.size]? = some (.cells #[.int .i64 0, .int .i64 1, .int .i64 2, .int .i64 4, .int .i64 8, .int .i64 1] 3 (0, 0))
  own : W.ownsRow (w.heap.size + 1) 123 4 v I.length (cellsOf I)
theorem RT.same {w W W' : World} {v : Value} {I : List It} (h : RT w v I W) (hb : Below W.heap.size W W') : RT w v I W' :=
  ⟨h.below.trans (hb.mono h.below.size), Nat.lt_of_lt_of_le h.lt hb.size, (hb.block _ h.lt).trans h.sz, h.own.kept (below_grown hb none) (by cases v.ownBlock <;> simp)⟩
theorem RT.start (w : World) : RT w (.slice (some ⟨w.heap.size + 1, 0, none⟩) 0 0) [] ((w.alloc (.cells #[.int .i64 0, .int .i64 1, .int .i64 2, .int .i64 4, .int .i64 8, .int .i64 1] 3)).alloc (.cells #[] 123)) := by
  have hb : Below w.heap.size w (w.alloc (.cells #[.int .i64 0, .int .i64 1, .int .i64 2, .int .i64 4, .int .i64 8, .int .i64 1] 3)) := (Below.refl _ _).alloc (Nat.le_refl _) _
  refine ⟨hb.alloc (by simp) _, by simp; omega, heap_alloc2_old w _ _, ?_⟩
  have h := World.ownsRow_lit (base := w.heap.size + 1) (e := 123) (size := 4) (w.alloc (.cells #[.int .i64 0, .int .i64 1, .int .i64 2, .int .i64 4, .int .i64 8, .int .i64 1] 3)) #[] 0 (by simp) (by unfold maxLen; omega) rfl
  rw [show (w.alloc (.cells #[.int .i64 0, .int .i64 1, .int .i64 2, .int .i64 4, .int .i64 8, .int .i64 1] 3)).heap.size = w.heap.size + 1 by simp] at h
  exact h

/-- The append of an item. -/
theorem add_item {ops : Array Oper} {rest : List Oper} {o : Oper} {a : Act} {Q : Exit → Act → World → Prop} (hgd : o.guard = none) (s e : Operand)
    (ho : o.op = .call { callee := .builtin .append, args := #[s, e], argTypes := #[124, 124] })
    {w W : World} {v : Value} {I : List It} {q : Nat} (h : RT w v I W) (i : It) (hs : a.eval s = v) (he : a.eval e = .slice (some ⟨W.heap.size, 0, none⟩) 1 1) (hq : I.length = q) (hm : q ≤ 1000)
    (hK : ∀ g cap w', RT w (.slice (some ⟨g, 0, none⟩) (q + 1) cap) (I ++ [i]) w' → wpList Tryz.prog ops Q rest (a.put o.dst (.slice (some ⟨g, 0, none⟩) (q + 1) cap)) w') :
    wpList Tryz.prog ops Q (o :: rest) a (W.alloc (.cells #[.int .i64 (i.k : Nat), .int .i64 (i.n : Nat), .float .f64 i.x, .string ⟨#[]⟩] 123)) := by
  subst hq
  obtain ⟨i0, hi0, hz0, hz1, hz2⟩ := info_parts info123
  have h' := h.same ((Below.refl _ _).alloc (Nat.le_refl _) (.cells #[.int .i64 (i.k : Nat), .int .i64 (i.n : Nat), .float .f64 i.x, .string ⟨#[]⟩] 123))
  refine wpList_append_lies (W.alloc (.cells #[.int .i64 (i.k : Nat), .int .i64 (i.n : Nat), .float .f64 i.x, .string ⟨#[]⟩] 123)) hgd s e 124 ho (w.heap.size + 1) 123 i0 zeroItem 4 40 Tryz.underlying124 hi0 hz0 hz1 hz2 rfl (by decide) v I.length (cellsOf I) hs h'.own ⟨W.heap.size, 0, none⟩ 1 1
    (It.cells i) he rfl (World.news_of_block (heap_alloc_new W _)) (by intro z hz; simp only [It.cells, List.mem_cons, List.not_mem_nil, or_false] at hz; rcases hz with rfl | rfl | rfl | rfl <;> rfl) (by omega) (by unfold maxLen; omega) (by omega) h'.lt _ rfl ?_
  intro g cap w' hown hgrow hat hlt
  have hnb : ∀ b, v.ownBlock = some b → w.heap.size + 1 ≤ b := fun b hb => (h.own.lt b hb).1
  refine hK g cap w' ⟨h'.below.grown hgrow (Nat.le_of_lt h'.lt) fun b hb => by have := hnb b hb; omega, Nat.lt_of_lt_of_le h'.lt hgrow.size, (hgrow.block _ h'.lt (fun e => by have := hnb _ e.symm; omega)).trans h'.sz, ?_⟩
  have e1 : (I ++ [i]).length = I.length + 1 := by simp
  have e2 : cellsOf (I ++ [i]) = cellsOf I ++ It.cells i := by simp [cellsOf]
  rw [e1, e2]
  exact hown

def RTaken (w : World) (o : Option (List It × Nat)) (e : Ending) (w' : World) : Prop := Below w.heap.size w w' ∧ match o with
  | some (l, a) => ∃ A c, e = .returned (.tuple #[.slice A l.length c, .int .i64 (a : Nat), .int .i64 0]) ∧ IX w' A l
  | none => e = .returned (.tuple #[.slice none 0 0, .int .i64 0, .int .i64 4])

def wd (k : Nat) : Nat := if k = 4 then 8 else wid k
theorem wd_le {k : Nat} (h1 : 1 ≤ k) (h4 : k ≤ 4) : 1 ≤ wd k ∧ wd k ≤ 8 := by
  have : k = 1 ∨ k = 2 ∨ k = 3 ∨ k = 4 := by omega
  rcases this with rfl | rfl | rfl | rfl <;> decide
theorem RT.width {w W : World} {v : Value} {I : List It} (h : RT w v I W) {k : Nat} (h1 : 1 ≤ k) (h4 : k ≤ 4) : W.cell? ⟨w.heap.size, k, none⟩ = some (.int .i64 (wd k : Nat)) := by
  have : k = 1 ∨ k = 2 ∨ k = 3 ∨ k = 4 := by omega
  rw [cell_of_row _ _ k _ _ _ h.sz]
  rcases this with rfl | rfl | rfl | rfl <;> rfl
theorem takeOne_short {L : List Nat} {k a : Nat} (h : ¬ a + wd k ≤ L.length) : takeOne L k a = none := by
  unfold takeOne
  unfold wd at h
  by_cases hk : k = 4
  · rw [if_pos hk] at h ⊢; rw [if_neg h]
  · rw [if_neg hk] at h ⊢; rw [if_neg h]
theorem takeOne_num {L : List Nat} {k a : Nat} (hk : k ≠ 4) (h : a + wd k ≤ L.length) : takeOne L k a = if fitsN k (beN ((L.drop a).take (wd k))) = true then some (⟨k, beN ((L.drop a).take (wd k)), 0⟩, a + wd k) else none := by
  unfold takeOne
  simp only [wd, if_neg hk] at h ⊢
  rw [if_pos h]
theorem takeOne_flt {L : List Nat} {a : Nat} (h : a + 8 ≤ L.length) : takeOne L 4 a = if numValN (beN ((L.drop a).take 8)) = beN ((L.drop a).take 8) then some (⟨4, 0, beN ((L.drop a).take 8)⟩, a + 8) else none := by
  unfold takeOne
  rw [if_pos rfl, if_pos h]
theorem takeAll_none {L K : List Nat} {q a k : Nat} {I : List It} (hk : K[q]? = some k) (h : takeAll L K 0 = (takeAll L (K.drop q) a).map (fun r => (I ++ r.1, r.2))) (ho : takeOne L k a = none) : takeAll L K 0 = none := by
  have hd : K.drop q = k :: K.drop (q + 1) := by
    obtain ⟨h1, rfl⟩ := List.getElem?_eq_some_iff.1 hk
    exact List.drop_eq_getElem_cons h1
  rw [h, hd]
  simp [takeAll, ho]
theorem takeAll_some {L K : List Nat} {q a a' k : Nat} {I : List It} {i : It} (hk : K[q]? = some k) (h : takeAll L K 0 = (takeAll L (K.drop q) a).map (fun r => (I ++ r.1, r.2))) (ho : takeOne L k a = some (i, a')) : takeAll L K 0 = (takeAll L (K.drop (q + 1)) a').map (fun r => ((I ++ [i]) ++ r.1, r.2)) := by
  have hd : K.drop q = k :: K.drop (q + 1) := by
    obtain ⟨h1, rfl⟩ := List.getElem?_eq_some_iff.1 hk
    exact List.drop_eq_getElem_cons h1
  rw [hd] at h
  simp only [takeAll] at h
  exact take_step (k := k) h ho
end Go.Proofs.YtdbnlngkmfmnnaaGreatDoor
