/- pack.taker: bytes and numbers taken. -/
import Derived.Test.YtdbnlngkmfmnnaaGreatDoorH01
import Derived.Deep.RegionHeld3
import Derived.Defers
import Derived.Recover
namespace Go.Proofs.YtdbnlngkmfmnnaaGreatDoor
open Go.RowKit

/-- The cells of bytes. -/
def BC (w : World) (B : Nat) (A : Option Addr) (l : List Nat) : Prop :=
  (∀ x ∈ l, x < 256) ∧ (0 < l.length → ∃ b off, A = some ⟨b, off, none⟩ ∧ b < B ∧ ∀ j x, l[j]? = some x → w.cell? ⟨b, off + j, none⟩ = some (.int .u8 (x : Nat)))

theorem BC.below {w w' : World} {B : Nat} {A : Option Addr} {l : List Nat} (h : BC w B A l) (hb : Below B w w') : BC w' B A l :=
  ⟨h.1, fun hl => by
    obtain ⟨b, off, e, hB, hc⟩ := h.2 hl
    exact ⟨b, off, e, hB, fun j x hx => (hb.cell (p := ⟨b, off + j, none⟩) hB).trans (hc j x hx)⟩⟩
theorem BC.more {w : World} {B B' : Nat} {A : Option Addr} {l : List Nat} (h : BC w B A l) (hb : B ≤ B') : BC w B' A l :=
  ⟨h.1, fun hl => by
    obtain ⟨b, off, e, hB, hc⟩ := h.2 hl
    exact ⟨b, off, e, by omega, hc⟩⟩

/-- A taker. -/
structure TK (w : World) (T : Nat) (A : Option Addr) (n c at_ : Nat) : Prop where
  b : w.cell? ⟨T, 0, none⟩ = some (.slice A n c)
  a : w.cell? ⟨T, 1, none⟩ = some (.int .i64 (at_ : Nat))
  f : w.frozen? ⟨T, 1, none⟩ = false

def shortV (at_ : Nat) : List PanicEntry := [{ v := .iface 162 (.agg #[.int .i64 (at_ : Nat)]), recovered := false }]

theorem grown_drewN {w w1 : World} {r : Option Nat} (h : w.grownBy w1 r) (m : Nat) : w.grownBy (w1.drewN m) r := by
  have hb := below_drewN (Below.refl w1.heap.size w1) m
  refine ⟨hb.os.trans h.os, hb.tape.trans h.tape, hb.output.trans h.output, Nat.le_trans h.size hb.size, fun k hk hne => ?_⟩
  rw [hb.block k (Nat.lt_of_lt_of_le hk h.size)]
  exact h.block k hk hne
theorem grown_refl (w : World) (r : Option Nat) : w.grownBy w r := ⟨rfl, rfl, rfl, Nat.le_refl _, fun _ _ _ => rfl⟩
theorem grown_one (W : World) {T : Nat} {p : Addr} (u : Value) (hp : p.block = T) : W.grownBy (W.setCell p u) (some T) :=
  ⟨rfl, rfl, rfl, by simp [World.setCell], fun i _ hne => Below.heap_setCell W p u i (fun e => hne (by rw [e, hp]))⟩

/-- A call that ends so or throws so. -/
def Took (w : World) (T : Nat) (A : Option Addr) (n c at_ k : Nat) (v : Value) (e : Ending) (w' : World) : Prop :=
  (at_ + k ≤ n ∧ e = .returned v ∧ TK w' T A n c (at_ + k) ∧ w.grownBy w' (some T)) ∨ (n < at_ + k ∧ e = .panicked (shortV at_) ∧ TK w' T A n c at_ ∧ w.grownBy w' (some T))

theorem TK.drewN {w : World} {T : Nat} {A : Option Addr} {n c at_ : Nat} (h : TK w T A n c at_) (m : Nat) : TK (w.drewN m) T A n c at_ :=
  ⟨by simpa using h.b, by simpa using h.a, by simpa using h.f⟩
theorem TK.step {w : World} {T : Nat} {A : Option Addr} {n c at_ : Nat} (h : TK w T A n c at_) (k : Nat) : TK (w.setCell ⟨T, 1, none⟩ (.int .i64 (k : Nat))) T A n c k := by
  refine ⟨?_, ?_, ?_⟩
  · rw [World.cell?_setCell_other _ _ _ _ (by simp)]; exact h.b
  · exact World.cell?_setCell_same _ _ _ h.a
  · rw [World.frozen?_setCell]; exact h.f

set_option maxHeartbeats 1000000 in
theorem tbytes_any (T b off n c at_ k : Nat) (w : World) (h : TK w T (some ⟨b, off, none⟩) n c at_) (hn : n ≤ 1000000) (hat : at_ ≤ n) (hk : 1 ≤ k) (hk2 : k ≤ 1000) (hc : n ≤ c) (_hc2 : c ≤ 9223372036854775807) :
    Calls Tryz.prog 153 #[.pointer (some ⟨T, 0, none⟩), .int .i64 (k : Nat)] w (Took w T (some ⟨b, off, none⟩) n c at_ k (.slice (some ⟨b, off + at_, none⟩) k (c - at_))) := by
  have HT := Lib.hid h
  obtain ⟨h0, h1, h2⟩ := h
  by_cases hs : at_ + k ≤ n
  · refine Calls.mono (R := fun e w' => e = .returned (.slice (some ⟨b, off + at_, none⟩) k (c - at_)) ∧ ∃ m m', w' = ((w.drewN m).setCell ⟨T, 1, none⟩ (.int .i64 (at_ + k : Nat))).drewN m') ?_ fun e w' ⟨h, m, m', hw⟩ => .inl ⟨hs, h, ?_, ?_⟩
    · have hlt : ¬ (n : Int) - (at_ : Int) < (k : Int) := by omega
      have hne : ¬ c = at_ := by omega
      go_enter Tryz.func153, Tryz.ntmps153
      go_wp2
      go_quiet (fail)
      go_wp2
      go_quiet (fail)
      go_wp2
      go_ret
      have e : at_ + k - at_ = k := by omega
      refine ⟨?_, _, _, rfl⟩
      show Ending.returned (.slice (some ⟨b, off + at_, none⟩) (at_ + k - at_) (c - at_)) = _
      rw [e]
    · rw [hw]; exact ((HT.out.drewN m).step (at_ + k)).drewN m'
    · rw [hw]; exact grown_drewN ((grown_drewN (grown_refl w _) m).trans (grown_one _ _ rfl)) m'
  · refine Calls.mono (R := fun e w' => e = .panicked (shortV at_) ∧ ∃ m, w' = w.drewN m) ?_ fun e w' ⟨h, m, hw⟩ => .inr ⟨by omega, h, ?_, ?_⟩
    · have hlt : (n : Int) - (at_ : Int) < (k : Int) := by omega
      go_enter Tryz.func153, Tryz.ntmps153
      go_wp2
      go_quiet (fail)
      go_wp2
      exact ⟨rfl, rfl, _, rfl⟩
    · rw [hw]; exact HT.out.drewN m
    · rw [hw]; exact grown_drewN (grown_refl w _) m

theorem took_ok {f : FuncId} {args : Array Value} {w : World} {T : Nat} {A : Option Addr} {n c at_ k : Nat} {v : Value} (h : Calls Tryz.prog f args w (Took w T A n c at_ k v)) (hs : at_ + k ≤ n) :
    Calls Tryz.prog f args w fun e w' => e = .returned v ∧ TK w' T A n c (at_ + k) ∧ w.grownBy w' (some T) := h.mono fun _ _ h => by
  rcases h with ⟨_, h⟩ | ⟨hx, _⟩
  · exact h
  · exact absurd hs (Nat.not_le.2 hx)
theorem took_no {f : FuncId} {args : Array Value} {w : World} {T : Nat} {A : Option Addr} {n c at_ k : Nat} {v : Value} (h : Calls Tryz.prog f args w (Took w T A n c at_ k v)) (hs : n < at_ + k) :
    Calls Tryz.prog f args w fun e w' => e = .panicked (shortV at_) ∧ TK w' T A n c at_ ∧ w.grownBy w' (some T) := h.mono fun _ _ h => by
  rcases h with ⟨hx, _⟩ | ⟨_, h⟩
  · exact absurd hx (Nat.not_le.2 hs)
  · exact h
end Go.Proofs.YtdbnlngkmfmnnaaGreatDoor

/- pack.taker: numbers. -/
namespace Go.Proofs.YtdbnlngkmfmnnaaGreatDoor
open Go.RowKit

/-- A number of bytes, the greatest first. -/
def beN (l : List Nat) : Nat := l.foldl (fun u c => u * 256 + c) 0
theorem beN_snoc (l : List Nat) (c : Nat) : beN (l ++ [c]) = beN l * 256 + c := by unfold beN; rw [List.foldl_append]; rfl
theorem beN_fold : ∀ (l : List Nat) (u m : Nat), u < m → (∀ x ∈ l, x < 256) → l.foldl (fun u c => u * 256 + c) u < m * 256 ^ l.length
  | [], u, m, h, _ => by simpa using h
  | c :: l, u, m, h, hl => by
    have h2 := hl c List.mem_cons_self
    have := beN_fold l (u * 256 + c) (m * 256) (by omega) fun x hx => hl x (List.mem_cons_of_mem _ hx)
    rw [List.length_cons, Nat.pow_succ, Nat.mul_comm (256 ^ l.length) 256, ← Nat.mul_assoc]
    exact this
theorem beN_lt (l : List Nat) (h : ∀ x ∈ l, x < 256) : beN l < 256 ^ l.length := by
  have := beN_fold l 0 1 (by omega) h
  rwa [Nat.one_mul] at this

theorem u64_or2 (a b : Nat) (ha : a < 18446744073709551616) (hb : b < 18446744073709551616) : bits .or .u64 (a : Int) (b : Int) = ((a ||| b : Nat) : Int) := by
  have hx : a ||| b < 2 ^ 64 := Nat.or_lt_two_pow (by omega) (by omega)
  show IntKind.u64.wrap ((BitVec.ofInt 64 (a : Int) ||| BitVec.ofInt 64 (b : Int)).toNat : Int) = _
  have e : ∀ n : Nat, n < 18446744073709551616 → (BitVec.ofInt 64 (n : Int)).toNat = n := fun n hn => by
    rw [BitVec.toNat_ofInt]
    have : (n : Int) % ((2 ^ 64 : Nat) : Int) = n := by
      show (n : Int) % 18446744073709551616 = n
      omega
    rw [this]; rfl
  rw [BitVec.toNat_or, e a ha, e b hb]
  show ((a ||| b : Nat) : Int) % 18446744073709551616 = _
  omega
theorem or_add (u x : Nat) (hx : x < 256) : u * 256 ||| x = u * 256 + x := by
  have := Nat.shiftLeft_add_eq_or_of_lt (i := 8) (b := x) (by omega) u
  rw [Nat.shiftLeft_eq] at this
  exact this.symm

set_option maxHeartbeats 1000000 in
theorem tnumber_any (T B b off n c at_ k : Nat) (L : List Nat) (w : World) (h : TK w T (some ⟨b, off, none⟩) n c at_) (hB : BC w B (some ⟨b, off, none⟩) L) (hBT : B ≤ T) (hBs : B ≤ w.heap.size) (hl : L.length = n) (hn : n ≤ 1000000) (hat : at_ ≤ n) (hk : 1 ≤ k) (hk2 : k ≤ 8) (hc : n ≤ c) (hc2 : c ≤ 9223372036854775807) :
    Calls Tryz.prog 152 #[.pointer (some ⟨T, 0, none⟩), .int .i64 (k : Nat)] w (Took w T (some ⟨b, off, none⟩) n c at_ k (.int .u64 (beN ((L.drop at_).take k) : Nat))) := by
  have hc1 := tbytes_any T b off n c at_ k w h hn hat hk (by omega) hc hc2
  have HC := Lib.hid hc1
  have HL := Lib.hid hl
  have HB := Lib.hid hB
  clear hc1 h hl hB
  by_cases hs : at_ + k ≤ n
  · refine Calls.mono (R := fun e w' => e = .returned (.int .u64 (beN ((L.drop at_).take k) : Nat)) ∧ TK w' T (some ⟨b, off, none⟩) n c (at_ + k) ∧ w.grownBy w' (some T)) ?_ fun e w' h => .inl ⟨hs, h⟩
    have HC1 := Lib.hid (took_ok HC.out hs)
    go_enter Tryz.func152, Tryz.ntmps152
    go_wp2_with (go_at_call 153; (with_reducible refine HC1.out.mono ?_); rintro e w1 ⟨rfl, ht, hg⟩; have HT := Lib.hid ht; have HG := Lib.hid hg; clear ht hg)
    go_loopw [12, 5] (fun i u wr => ∃ j : Nat, j ≤ k ∧ i = .int .i64 j ∧ u = .int .u64 (beN ((L.drop at_).take j) : Nat) ∧ wr = w1) (fun i _ _ => k - (intOf i).toNat)
    case atStart => exact ⟨0, Nat.zero_le _, rfl, rfl, rfl⟩
    case round =>
      obtain ⟨j, hj, rfl, rfl, rfl⟩ := hrel
      by_cases hlt : j < k
      · have hLj : at_ + j < L.length := by have := HL.out; omega
        obtain ⟨x, hx⟩ : ∃ x, L[at_ + j]? = some x := ⟨_, List.getElem?_eq_getElem hLj⟩
        have hbel : Below B w wr := (Below.refl B w).grown HG.out hBs fun k hk => by injection hk with hk; omega
        obtain ⟨b', off', e, _, hcell⟩ := (HB.out.below hbel).2 (by omega)
        injection e with e
        injection e with e1 e2
        subst e1 e2
        have hc0 := hcell _ _ hx
        have hx8 : x < 256 := HB.out.1 x (List.mem_of_getElem? hx)
        rw [← Nat.add_assoc] at hc0
        have ht : (L.drop at_).take (j + 1) = (L.drop at_).take j ++ [x] := by
          rw [List.take_add_one, List.getElem?_drop, hx]; rfl
        have HN : Hid (beN ((L.drop at_).take (j + 1)) = beN ((L.drop at_).take j) * 256 + x) := by rw [ht, beN_snoc]; exact rfl
        have hlen : ((L.drop at_).take j).length = j := by rw [List.length_take, List.length_drop]; omega
        have hu := beN_lt ((L.drop at_).take j) fun y hy => HB.out.1 y (List.mem_of_mem_drop (List.mem_of_mem_take hy))
        rw [hlen] at hu
        have hu2 : beN ((L.drop at_).take j) < 72057594037927936 := Nat.lt_of_lt_of_le hu (by
          have : 256 ^ j ≤ 256 ^ 7 := Nat.pow_le_pow_right (by omega) (by omega)
          exact Nat.le_trans this (by decide))
        obtain ⟨u, hu3⟩ : ∃ u, beN ((L.drop at_).take j) = u := ⟨_, rfl⟩
        rw [hu3] at HN hu2 ⊢
        clear hu hu3 hlen ht hx hcell hLj hbel
        go_wp2
        have e : bits .or .u64 ((u : Int) * 256) (x : Int) = ((u * 256 + x : Nat) : Int) := by
          rw [← or_add u x hx8, ← u64_or2 (u * 256) x (by omega) (by omega)]
          rw [Int.natCast_mul]; rfl
        exact ⟨⟨j + 1, by omega, by go_num, by rw [e, HN.out], trivial⟩, by simp [intOf]; omega⟩
      · have hjk : j = k := by omega
        subst hjk
        go_wp2
        go_ret
        exact ⟨rfl, HT.out, HG.out⟩
  · refine Calls.mono (R := fun e w' => e = .panicked (shortV at_) ∧ TK w' T (some ⟨b, off, none⟩) n c at_ ∧ w.grownBy w' (some T)) ?_ fun e w' h => .inr ⟨by omega, h⟩
    have HC1 := Lib.hid (took_no HC.out (Nat.not_le.1 hs))
    go_enter Tryz.func152, Tryz.ntmps152
    go_wp2_with (go_at_call 153; (with_reducible refine HC1.out.mono ?_); rintro e w1 ⟨rfl, ht, hg⟩; have HT := Lib.hid ht; have HG := Lib.hid hg; clear ht hg)
    exact ⟨rfl, rfl, HT.out, HG.out⟩
end Go.Proofs.YtdbnlngkmfmnnaaGreatDoor

/- pack: items of numbers checked. -/
namespace Go.Proofs.YtdbnlngkmfmnnaaGreatDoor
open Go.RowKit

def wid (k : Nat) : Nat := if k = 1 then 1 else if k = 2 then 2 else if k = 3 then 4 else 0
def itemV (k n x : Nat) : Value := .agg #[.int .i64 (k : Nat), .int .i64 (n : Nat), .float .f64 x, .string ⟨#[]⟩]

set_option maxHeartbeats 1000000 in
theorem nsame_any (a b : Nat) (w : World) :
    Calls Tryz.prog 96 #[.float .f64 a, .float .f64 b] w fun e w' => e = .returned (.bool (decide (a = b))) ∧ w = w' := by
  have h32 := run_bits
  go_enter Tryz.func96, Tryz.ntmps96
  go_wp2
  go_ret
  exact ⟨ret_bool (beq_cast a b), rfl⟩

set_option maxHeartbeats 1000000 in
theorem width_any (k : Nat) (hk : 1 ≤ k) (hk4 : k ≤ 4) (w : World) :
    Calls Tryz.prog 132 #[.int .i64 (k : Nat)] w fun e w' => e = .returned (.int .i64 (wid k : Nat)) ∧ w = w' := by
  have : k = 1 ∨ k = 2 ∨ k = 3 ∨ k = 4 := by omega
  rcases this with rfl | rfl | rfl | rfl
  all_goals
    clear hk hk4
    go_enter Tryz.func132, Tryz.ntmps132
    go_wp2
    go_ret
    exact ⟨rfl, rfl⟩

set_option maxHeartbeats 1000000 in
theorem psame_any (k n : Nat) (w : World) :
    Calls Tryz.prog 150 #[itemV k n 0, itemV k n 0] w fun e w' => e = .returned (.bool true) ∧ Below w.heap.size w w' := by
  have c := nsame_any
  unfold itemV
  go_enter Tryz.func150, Tryz.ntmps150
  go_wp2_with (go_at_call 96; (with_reducible refine (c _ _ _).mono ?_); rintro e w' ⟨rfl, rfl⟩)
  go_ret
  exact ⟨rfl, ((Below.refl _ _).alloc (Nat.le_refl _) _).alloc (by simp) _⟩

theorem one_box {w w1 : World} {a : Array Value} {t : TypeId} (hb : Below (w.alloc (.cells a t)).heap.size (w.alloc (.cells a t)) w1) : w1.heap[w.heap.size]? = some (.cells a t (0, 0)) := by
  rw [hb.block _ (by simp)]; exact heap_alloc_new w _

/-- Is a number one of that many bytes? -/
def fitsN (k n : Nat) : Bool := decide (n ≤ min 2147483647 (256 ^ wid k - 1))

set_option maxHeartbeats 2000000 in
theorem pcheck_num (k n : Nat) (hk : 1 ≤ k) (hk3 : k ≤ 3) (w : World) :
    Calls Tryz.prog 130 #[itemV k n 0] w fun e w' => e = .returned (.int .i64 (if fitsN k n then 0 else 1)) ∧ Below w.heap.size w w' := by
  have cs := fun W W' (hb : Below W.heap.size W W') => (psame_any k n W').mono fun _ _ h => (⟨h.1, hb.trans (h.2.mono hb.size)⟩ : _ ∧ Below W.heap.size W _)
  have cw := width_any k hk (by omega)
  obtain ⟨m, hm⟩ : ∃ m, wid k = m := ⟨_, rfl⟩
  have hm4 : m = 1 ∨ m = 2 ∨ m = 4 := by
    have : k = 1 ∨ k = 2 ∨ k = 3 := by omega
    rcases this with rfl | rfl | rfl <;> simp [wid] at hm <;> omega
  rw [hm] at cw
  unfold fitsN
  rw [hm]
  unfold itemV at cs ⊢
  have CS := Lib.hid cs
  have CW := Lib.hid cw
  clear cs cw hm hk hk3
  rcases hm4 with rfl | rfl | rfl
  · have hsh : ∀ W, (Op.shift .shl .i64 1 .i64 (IntKind.i64.wrap 8)).run Tryz.prog W = .ok (.int .i64 256) W := fun W => rfl
    have hwr : IntKind.i64.wrap 255 = 255 := by decide
    by_cases h : n ≤ 255
    · rw [if_pos (by simp; omega)]
      have h1 : decide ((n : Int) ≤ 255) = true := decide_eq_true (by omega)
      go_enter Tryz.func130, Tryz.ntmps130
      go_wp2_with (go_at_call 132; (with_reducible refine (CW.out _).mono ?_); rintro e w1 ⟨rfl, rfl⟩)
      go_region_held3 (fun w' => w'.cell? ⟨w.heap.size, 0, none⟩ = some (.int .i64 (k : Nat)) ∧ w'.cell? ⟨w.heap.size, 1, none⟩ = some (.int .i64 (n : Nat)) ∧ w'.cell? ⟨w.heap.size, 2, none⟩ = some (.float .f64 0) ∧ w'.cell? ⟨w.heap.size, 3, none⟩ = some (.string ⟨#[]⟩))
        (first | go_keep | (exact ⟨g0, g1, g2, g3⟩))
        (first | (go_at_call 150; (with_reducible refine (CS.out _ _ (Below.refl _ _).drew).mono ?_); rintro e w1 ⟨rfl, hb⟩; have k1 := one_box hb; have g0 := cell_of_row w1 w.heap.size 0 _ _ _ k1; have g1 := cell_of_row w1 w.heap.size 1 _ _ _ k1; have g2 := cell_of_row w1 w.heap.size 2 _ _ _ k1; have g3 := cell_of_row w1 w.heap.size 3 _ _ _ k1; simp only [List.getElem?_toArray, List.getElem?_cons_succ, List.getElem?_cons_zero] at g0 g1 g2 g3; clear k1; have HB := Lib.hid hb; clear hb))
      go_wp2
      go_ret
      exact ⟨rfl, ((Below.refl _ _).alloc (Nat.le_refl _) _).trans (HB.out.mono (by simp))⟩
    · rw [if_neg (by simp; omega)]
      have h1 : decide ((n : Int) ≤ 255) = false := decide_eq_false (by omega)
      go_enter Tryz.func130, Tryz.ntmps130
      go_wp2_with (go_at_call 132; (with_reducible refine (CW.out _).mono ?_); rintro e w1 ⟨rfl, rfl⟩)
      go_quiet (fail)
      go_wp2
      go_ret
      exact ⟨rfl, below_drewN ((Below.refl _ _).alloc (Nat.le_refl _) _) _⟩
  · have hsh : ∀ W, (Op.shift .shl .i64 1 .i64 (IntKind.i64.wrap 16)).run Tryz.prog W = .ok (.int .i64 65536) W := fun W => rfl
    have hwr : IntKind.i64.wrap 65535 = 65535 := by decide
    by_cases h : n ≤ 65535
    · rw [if_pos (by simp; omega)]
      have h1 : decide ((n : Int) ≤ 65535) = true := decide_eq_true (by omega)
      go_enter Tryz.func130, Tryz.ntmps130
      go_wp2_with (go_at_call 132; (with_reducible refine (CW.out _).mono ?_); rintro e w1 ⟨rfl, rfl⟩)
      go_region_held3 (fun w' => w'.cell? ⟨w.heap.size, 0, none⟩ = some (.int .i64 (k : Nat)) ∧ w'.cell? ⟨w.heap.size, 1, none⟩ = some (.int .i64 (n : Nat)) ∧ w'.cell? ⟨w.heap.size, 2, none⟩ = some (.float .f64 0) ∧ w'.cell? ⟨w.heap.size, 3, none⟩ = some (.string ⟨#[]⟩))
        (first | go_keep | (exact ⟨g0, g1, g2, g3⟩))
        (first | (go_at_call 150; (with_reducible refine (CS.out _ _ (Below.refl _ _).drew).mono ?_); rintro e w1 ⟨rfl, hb⟩; have k1 := one_box hb; have g0 := cell_of_row w1 w.heap.size 0 _ _ _ k1; have g1 := cell_of_row w1 w.heap.size 1 _ _ _ k1; have g2 := cell_of_row w1 w.heap.size 2 _ _ _ k1; have g3 := cell_of_row w1 w.heap.size 3 _ _ _ k1; simp only [List.getElem?_toArray, List.getElem?_cons_succ, List.getElem?_cons_zero] at g0 g1 g2 g3; clear k1; have HB := Lib.hid hb; clear hb))
      go_wp2
      go_ret
      exact ⟨rfl, ((Below.refl _ _).alloc (Nat.le_refl _) _).trans (HB.out.mono (by simp))⟩
    · rw [if_neg (by simp; omega)]
      have h1 : decide ((n : Int) ≤ 65535) = false := decide_eq_false (by omega)
      go_enter Tryz.func130, Tryz.ntmps130
      go_wp2_with (go_at_call 132; (with_reducible refine (CW.out _).mono ?_); rintro e w1 ⟨rfl, rfl⟩)
      go_quiet (fail)
      go_wp2
      go_ret
      exact ⟨rfl, below_drewN ((Below.refl _ _).alloc (Nat.le_refl _) _) _⟩
  · have hsh : ∀ W, (Op.shift .shl .i64 1 .i64 (IntKind.i64.wrap 32)).run Tryz.prog W = .ok (.int .i64 4294967296) W := fun W => rfl
    have hwr : IntKind.i64.wrap 4294967295 = 4294967295 := by decide
    by_cases h : n ≤ 2147483647
    · rw [if_pos (by simp; omega)]
      have h1 : decide ((n : Int) ≤ 2147483647) = true := decide_eq_true (by omega)
      go_enter Tryz.func130, Tryz.ntmps130
      go_wp2_with (go_at_call 132; (with_reducible refine (CW.out _).mono ?_); rintro e w1 ⟨rfl, rfl⟩)
      go_region_held3 (fun w' => w'.cell? ⟨w.heap.size, 0, none⟩ = some (.int .i64 (k : Nat)) ∧ w'.cell? ⟨w.heap.size, 1, none⟩ = some (.int .i64 (n : Nat)) ∧ w'.cell? ⟨w.heap.size, 2, none⟩ = some (.float .f64 0) ∧ w'.cell? ⟨w.heap.size, 3, none⟩ = some (.string ⟨#[]⟩))
        (first | go_keep | (exact ⟨g0, g1, g2, g3⟩))
        (first | (go_at_call 150; (with_reducible refine (CS.out _ _ (Below.refl _ _).drew).mono ?_); rintro e w1 ⟨rfl, hb⟩; have k1 := one_box hb; have g0 := cell_of_row w1 w.heap.size 0 _ _ _ k1; have g1 := cell_of_row w1 w.heap.size 1 _ _ _ k1; have g2 := cell_of_row w1 w.heap.size 2 _ _ _ k1; have g3 := cell_of_row w1 w.heap.size 3 _ _ _ k1; simp only [List.getElem?_toArray, List.getElem?_cons_succ, List.getElem?_cons_zero] at g0 g1 g2 g3; clear k1; have HB := Lib.hid hb; clear hb))
      go_wp2
      go_ret
      exact ⟨rfl, ((Below.refl _ _).alloc (Nat.le_refl _) _).trans (HB.out.mono (by simp))⟩
    · rw [if_neg (by simp; omega)]
      have h1 : decide ((n : Int) ≤ 2147483647) = false := decide_eq_false (by omega)
      go_enter Tryz.func130, Tryz.ntmps130
      go_wp2_with (go_at_call 132; (with_reducible refine (CW.out _).mono ?_); rintro e w1 ⟨rfl, rfl⟩)
      go_quiet (fail)
      go_wp2
      go_ret
      exact ⟨rfl, below_drewN ((Below.refl _ _).alloc (Nat.le_refl _) _) _⟩

set_option maxHeartbeats 2000000 in
theorem pcheck_flt (x : Nat) (w : World) :
    Calls Tryz.prog 130 #[itemV 4 0 x] w fun e w' => e = .returned (.int .i64 0) ∧ Below w.heap.size w w' := by
  have cw : ∀ w, Calls Tryz.prog 132 #[.int .i64 4] w fun e w' => e = .returned (.int .i64 0) ∧ w = w' := width_any 4 (by omega) (by omega)
  show Calls Tryz.prog 130 #[.agg #[.int .i64 4, .int .i64 0, .float .f64 x, .string ⟨#[]⟩]] w _
  go_enter Tryz.func130, Tryz.ntmps130
  go_wp2_with (go_at_call 132; (with_reducible refine (cw _).mono ?_); rintro e w1 ⟨rfl, rfl⟩)
  go_ret
  exact ⟨rfl, (Below.refl _ _).alloc (Nat.le_refl _) _⟩
end Go.Proofs.YtdbnlngkmfmnnaaGreatDoor

/- pack.taker: items. -/
namespace Go.Proofs.YtdbnlngkmfmnnaaGreatDoor
open Go.RowKit

theorem TK.lt {w : World} {T : Nat} {A : Option Addr} {n c at_ : Nat} (h : TK w T A n c at_) : T < w.heap.size := World.block_lt_of_cell? _ _ h.a
theorem TK.keep {w w' : World} {T : Nat} {A : Option Addr} {n c at_ : Nat} (h : TK w T A n c at_) (hb : Below w.heap.size w w') : TK w' T A n c at_ :=
  ⟨(hb.cell (p := ⟨T, 0, none⟩) h.lt).trans h.b, (hb.cell (p := ⟨T, 1, none⟩) h.lt).trans h.a, (hb.frozen (p := ⟨T, 1, none⟩) h.lt).trans h.f⟩
theorem grown_box {W w1 : World} {T j : Nat} {o : Obj} (hg : W.grownBy w1 (some T)) (h : W.heap[j]? = some o) (hne : j ≠ T) : w1.heap[j]? = some o := by
  rw [hg.block j (Array.getElem?_eq_some_iff.1 h).1 (by simp [hne])]
  exact h
theorem grown_below' {w w1 w2 : World} {T : Nat} (h : w.grownBy w1 (some T)) (hb : Below w1.heap.size w1 w2) : w.grownBy w2 (some T) :=
  h.trans ⟨hb.os, hb.tape, hb.output, hb.size, fun k hk _ => hb.block k hk⟩
theorem two_new (w : World) (o1 o2 : Obj) : ((w.alloc o1).alloc o2).heap[w.heap.size + 1]? = some o2 := by
  have := heap_alloc_new (w.alloc o1) o2
  rwa [World.size_alloc] at this

theorem run_store_f64 (W : World) (a : Addr) (m : Mode) (b : Nat) : (store a (.float .f64 b) m).run Tryz.prog W = stored Tryz.prog W a (.float .f64 b) m := run_store Tryz.prog W a _ m rfl

theorem run_store_str (W : World) (a : Addr) (m : Mode) (b : ByteArray) : (store a (.string b) m).run Tryz.prog W = stored Tryz.prog W a (.string b) m := run_store Tryz.prog W a _ m rfl

theorem box_set {W : World} {j : Nat} {a0 a1 a2 a3 v : Value} {t : TypeId} (h : W.heap[j]? = some (.cells #[a0, a1, a2, a3] t (0, 0))) : (W.setCell ⟨j, 1, none⟩ v).heap[j]? = some (.cells #[a0, v, a2, a3] t (0, 0)) := by
  rw [heap_setCell_same _ _ _ _ _ _ h]; rfl

theorem TK.far {w : World} {T : Nat} {A : Option Addr} {n c at_ : Nat} (h : TK w T A n c at_) {p : Addr} (hp : p.block ≠ T) (u : Value) : TK (w.setCell p u) T A n c at_ :=
  ⟨(World.cell?_setCell_other _ _ _ _ (fun e => hp (by rw [e]))).trans h.b, (World.cell?_setCell_other _ _ _ _ (fun e => hp (by rw [e]))).trans h.a, by rw [World.frozen?_setCell]; exact h.f⟩
theorem grown_set_new {w w' : World} {r : Option Nat} (h : w.grownBy w' r) {p : Addr} (hp : w.heap.size ≤ p.block) (u : Value) : w.grownBy (w'.setCell p u) r :=
  ⟨h.os, h.tape, h.output, by simpa [World.setCell] using h.size, fun k hk hne => (Below.heap_setCell _ _ _ _ (by omega)).trans (h.block k hk hne)⟩
theorem below_grown {w w' : World} (h : Below w.heap.size w w') (r : Option Nat) : w.grownBy w' r := ⟨h.os, h.tape, h.output, h.size, fun k hk _ => h.block k hk⟩

/-- What an item taken does. -/
def TookI (w : World) (T : Nat) (A : Option Addr) (n c : Nat) (o : Option Value) (at2 : Nat) (e : Ending) (w' : World) : Prop :=
  w.grownBy w' (some T) ∧ match o with
  | some v => e = .returned v ∧ TK w' T A n c at2
  | none => ∃ a, e = .panicked (shortV a)

def takeNum (L : List Nat) (at_ k : Nat) : Option Value :=
  if at_ + wid k ≤ L.length then (if fitsN k (beN ((L.drop at_).take (wid k))) then some (itemV k (beN ((L.drop at_).take (wid k))) 0) else none) else none

set_option maxHeartbeats 2000000 in
theorem titem_num (T B b off n c at_ k : Nat) (L : List Nat) (w : World) (h : TK w T (some ⟨b, off, none⟩) n c at_) (hB : BC w B (some ⟨b, off, none⟩) L) (hBT : B ≤ T) (hBs : B ≤ w.heap.size) (hl : L.length = n) (hn : n ≤ 1000000) (hat : at_ ≤ n) (hk : 1 ≤ k) (hk3 : k ≤ 3) (hc : n ≤ c) (hc2 : c ≤ 9223372036854775807) :
    Calls Tryz.prog 140 #[.pointer (some ⟨T, 0, none⟩), .int .i64 (k : Nat)] w (TookI w T (some ⟨b, off, none⟩) n c (takeNum L at_ k) (at_ + wid k)) := by
  have cw := width_any k hk (by omega)
  have hm1 : 1 ≤ wid k ∧ wid k ≤ 4 := by
    have : k = 1 ∨ k = 2 ∨ k = 3 := by omega
    rcases this with rfl | rfl | rfl <;> decide
  have cn : ∀ W, TK W T (some ⟨b, off, none⟩) n c at_ → Below B w W → Calls Tryz.prog 152 #[.pointer (some ⟨T, 0, none⟩), .int .i64 (wid k : Nat)] W (Took W T (some ⟨b, off, none⟩) n c at_ (wid k) (.int .u64 (beN ((L.drop at_).take (wid k)) : Nat))) := fun W h1 h2 =>
    tnumber_any T B b off n c at_ (wid k) L W h1 (hB.below h2) hBT (Nat.le_trans hBs h2.size) hl hn hat hm1.1 (by omega) hc hc2
  have cc := pcheck_num k (beN ((L.drop at_).take (wid k))) hk hk3
  unfold takeNum
  rw [hl]
  have hu : beN ((L.drop at_).take (wid k)) < 4294967296 := by
    have h1 := beN_lt ((L.drop at_).take (wid k)) fun y hy => hB.1 y (List.mem_of_mem_drop (List.mem_of_mem_take hy))
    refine Nat.lt_of_lt_of_le h1 ?_
    have : 256 ^ ((L.drop at_).take (wid k)).length ≤ 256 ^ 4 := Nat.pow_le_pow_right (by omega) (by rw [List.length_take]; omega)
    exact Nat.le_trans this (by decide)
  obtain ⟨u, hu2⟩ : ∃ u, beN ((L.drop at_).take (wid k)) = u := ⟨_, rfl⟩
  rw [hu2] at cc hu cn ⊢
  obtain ⟨m, hm⟩ : ∃ m, wid k = m := ⟨_, rfl⟩
  rw [hm] at cn cw hm1 ⊢
  have hTs := h.lt
  have HTK := Lib.hid h
  have CN := Lib.hid cn
  have CW := Lib.hid cw
  unfold itemV at *
  have CC := Lib.hid cc
  have hk4 : ¬ k = 4 := by omega
  have hk5 : ¬ k = 5 := by omega
  clear cw cn cc hu2 hm h hB hl
  have hb0 : Below w.heap.size w ((w.alloc (.cells #[.int .i64 0, .int .i64 0, .float .f64 0, .string ⟨#[]⟩] 123)).alloc (.cells #[.int .i64 (k : Nat), .int .i64 0, .float .f64 0, .string ⟨#[]⟩] 123)) := ((Below.refl _ _).alloc (Nat.le_refl _) _).alloc (by simp) _
  have C1 := Lib.hid (CN.out _ (HTK.out.keep hb0) (hb0.mono hBs))
  have HB0 := Lib.hid hb0
  clear hb0
  have hsf := run_store_f64
  have hss := run_store_str
  by_cases hs : at_ + m ≤ n
  · rw [if_pos hs]
    have C2 := Lib.hid (took_ok C1.out hs)
    by_cases hf : fitsN k u = true
    · rw [if_pos hf]
      rw [if_pos hf] at CC
      go_enter Tryz.func140, Tryz.ntmps140
      go_wp2_with (first
        | (go_at_call 132; (with_reducible refine (CW.out _).mono ?_); rintro e w1 ⟨rfl, rfl⟩)
        | (go_at_call 152; (with_reducible refine C2.out.mono ?_); rintro e w1 ⟨rfl, ht, hg⟩; have k5 := grown_box hg (two_new w _ _) (by omega); have k4 := grown_box hg (heap_alloc2_old w _ _) (by omega); have g0 := cell_of_row w1 (w.heap.size + 1) 0 _ _ _ k5; have g1 := cell_of_row w1 (w.heap.size + 1) 1 _ _ _ k5; have g2 := cell_of_row w1 (w.heap.size + 1) 2 _ _ _ k5; have g3 := cell_of_row w1 (w.heap.size + 1) 3 _ _ _ k5; have f1 := frozen_of_row w1 (w.heap.size + 1) 1 _ _ k5; simp only [List.getElem?_toArray, List.getElem?_cons_succ, List.getElem?_cons_zero] at g0 g1 g2 g3; have HT := Lib.hid ht; have HG := Lib.hid hg; have K4 := Lib.hid k4; have K5 := Lib.hid k5; clear ht hg k4 k5)
        | (go_at_call 130; (with_reducible refine (CC.out _).mono ?_); rintro e w2 ⟨rfl, hb⟩; have j5 := K5.out; replace j5 := (hb.block (w.heap.size + 1) (by have := (Array.getElem?_eq_some_iff.1 j5).1; simpa [World.setCell] using this)).trans (box_set j5); have j4 := K4.out; replace j4 := (hb.block w.heap.size (by have := (Array.getElem?_eq_some_iff.1 j4).1; simpa [World.setCell] using this)).trans ((Below.heap_setCell _ _ _ _ (by simp)).trans j4); have x0 := cell_of_row w2 (w.heap.size + 1) 0 _ _ _ j5; have x1 := cell_of_row w2 (w.heap.size + 1) 1 _ _ _ j5; have x2 := cell_of_row w2 (w.heap.size + 1) 2 _ _ _ j5; have x3 := cell_of_row w2 (w.heap.size + 1) 3 _ _ _ j5; have y0 := cell_of_row w2 w.heap.size 0 _ _ _ j4; have y1 := cell_of_row w2 w.heap.size 1 _ _ _ j4; have y2 := cell_of_row w2 w.heap.size 2 _ _ _ j4; have y3 := cell_of_row w2 w.heap.size 3 _ _ _ j4; have z0 := frozen_of_row w2 w.heap.size 0 _ _ j4; have z1 := frozen_of_row w2 w.heap.size 1 _ _ j4; have z2 := frozen_of_row w2 w.heap.size 2 _ _ j4; have z3 := frozen_of_row w2 w.heap.size 3 _ _ j4; simp only [List.getElem?_toArray, List.getElem?_cons_succ, List.getElem?_cons_zero] at x0 x1 x2 x3 y0 y1 y2 y3; have tk := (HT.out.far (p := ⟨w.heap.size + 1, 1, none⟩) (by show w.heap.size + 1 ≠ T; omega) _).keep hb; have ta := tk.a; have TK2 := Lib.hid tk; have G2 := Lib.hid (grown_below' (grown_set_new ((below_grown HB0.out (some T)).trans HG.out) (p := ⟨w.heap.size + 1, 1, none⟩) (by show w.heap.size ≤ w.heap.size + 1; omega) _) hb); clear hb j4 j5 tk))
      refine bodyPost_ret (v := .agg #[.int .i64 (k : Nat), .int .i64 (u : Nat), .float .f64 0, .string ⟨#[]⟩]) (by simp [results, Tryz.results140, go_sem, y0, y1, y2, y3]) rfl ?_
      refine ⟨grown_set_new (grown_set_new (grown_set_new (grown_set_new G2.out (p := ⟨w.heap.size, 0, none⟩) (Nat.le_refl _) _) (p := ⟨w.heap.size, 1, none⟩) (Nat.le_refl _) _) (p := ⟨w.heap.size, 2, none⟩) (Nat.le_refl _) _) (p := ⟨w.heap.size, 3, none⟩) (Nat.le_refl _) _, rfl, ?_⟩
      exact (((TK2.out.far (p := ⟨w.heap.size, 0, none⟩) (by show w.heap.size ≠ T; omega) _).far (p := ⟨w.heap.size, 1, none⟩) (by show w.heap.size ≠ T; omega) _).far (p := ⟨w.heap.size, 2, none⟩) (by show w.heap.size ≠ T; omega) _).far (p := ⟨w.heap.size, 3, none⟩) (by show w.heap.size ≠ T; omega) _
    · rw [if_neg hf]
      rw [if_neg hf] at CC
      go_enter Tryz.func140, Tryz.ntmps140
      go_wp2_with (first
        | (go_at_call 132; (with_reducible refine (CW.out _).mono ?_); rintro e w1 ⟨rfl, rfl⟩)
        | (go_at_call 152; (with_reducible refine C2.out.mono ?_); rintro e w1 ⟨rfl, ht, hg⟩; have k5 := grown_box hg (two_new w _ _) (by omega); have k4 := grown_box hg (heap_alloc2_old w _ _) (by omega); have g0 := cell_of_row w1 (w.heap.size + 1) 0 _ _ _ k5; have g1 := cell_of_row w1 (w.heap.size + 1) 1 _ _ _ k5; have g2 := cell_of_row w1 (w.heap.size + 1) 2 _ _ _ k5; have g3 := cell_of_row w1 (w.heap.size + 1) 3 _ _ _ k5; have f1 := frozen_of_row w1 (w.heap.size + 1) 1 _ _ k5; simp only [List.getElem?_toArray, List.getElem?_cons_succ, List.getElem?_cons_zero] at g0 g1 g2 g3; have HT := Lib.hid ht; have HG := Lib.hid hg; have K4 := Lib.hid k4; have K5 := Lib.hid k5; clear ht hg k4 k5)
        | (go_at_call 130; (with_reducible refine (CC.out _).mono ?_); rintro e w2 ⟨rfl, hb⟩; have j5 := K5.out; replace j5 := (hb.block (w.heap.size + 1) (by have := (Array.getElem?_eq_some_iff.1 j5).1; simpa [World.setCell] using this)).trans (box_set j5); have j4 := K4.out; replace j4 := (hb.block w.heap.size (by have := (Array.getElem?_eq_some_iff.1 j4).1; simpa [World.setCell] using this)).trans ((Below.heap_setCell _ _ _ _ (by simp)).trans j4); have x0 := cell_of_row w2 (w.heap.size + 1) 0 _ _ _ j5; have x1 := cell_of_row w2 (w.heap.size + 1) 1 _ _ _ j5; have x2 := cell_of_row w2 (w.heap.size + 1) 2 _ _ _ j5; have x3 := cell_of_row w2 (w.heap.size + 1) 3 _ _ _ j5; have y0 := cell_of_row w2 w.heap.size 0 _ _ _ j4; have y1 := cell_of_row w2 w.heap.size 1 _ _ _ j4; have y2 := cell_of_row w2 w.heap.size 2 _ _ _ j4; have y3 := cell_of_row w2 w.heap.size 3 _ _ _ j4; have z0 := frozen_of_row w2 w.heap.size 0 _ _ j4; have z1 := frozen_of_row w2 w.heap.size 1 _ _ j4; have z2 := frozen_of_row w2 w.heap.size 2 _ _ j4; have z3 := frozen_of_row w2 w.heap.size 3 _ _ j4; simp only [List.getElem?_toArray, List.getElem?_cons_succ, List.getElem?_cons_zero] at x0 x1 x2 x3 y0 y1 y2 y3; have tk := (HT.out.far (p := ⟨w.heap.size + 1, 1, none⟩) (by show w.heap.size + 1 ≠ T; omega) _).keep hb; have ta := tk.a; have TK2 := Lib.hid tk; have G2 := Lib.hid (grown_below' (grown_set_new ((below_grown HB0.out (some T)).trans HG.out) (p := ⟨w.heap.size + 1, 1, none⟩) (by show w.heap.size ≤ w.heap.size + 1; omega) _) hb); clear hb j4 j5 tk))
      exact ⟨rfl, G2.out, _, rfl⟩
  · rw [if_neg hs]
    have C2 := Lib.hid (took_no C1.out (Nat.not_le.1 hs))
    go_enter Tryz.func140, Tryz.ntmps140
    go_wp2_with (first
      | (go_at_call 132; (with_reducible refine (CW.out _).mono ?_); rintro e w1 ⟨rfl, rfl⟩)
      | (go_at_call 152; (with_reducible refine C2.out.mono ?_); rintro e w1 ⟨rfl, ht, hg⟩; have HG := Lib.hid hg; clear ht hg))
    exact ⟨rfl, (below_grown HB0.out (some T)).trans HG.out, _, rfl⟩
end Go.Proofs.YtdbnlngkmfmnnaaGreatDoor

/- pack.taker: an item that is a number of eight bytes. -/
namespace Go.Proofs.YtdbnlngkmfmnnaaGreatDoor
open Go.RowKit

theorem box_set2 {W : World} {j : Nat} {a0 a1 a2 a3 v : Value} {t : TypeId} (h : W.heap[j]? = some (.cells #[a0, a1, a2, a3] t (0, 0))) : (W.setCell ⟨j, 2, none⟩ v).heap[j]? = some (.cells #[a0, a1, v, a3] t (0, 0)) := by
  rw [heap_setCell_same _ _ _ _ _ _ h]; rfl

def takeFlt (L : List Nat) (at_ : Nat) : Option Value :=
  if at_ + 8 ≤ L.length then (if numValN (beN ((L.drop at_).take 8)) = beN ((L.drop at_).take 8) then some (itemV 4 0 (beN ((L.drop at_).take 8))) else none) else none

set_option maxHeartbeats 2000000 in
theorem titem_flt (T B b off n c at_ : Nat) (L : List Nat) (w : World) (h : TK w T (some ⟨b, off, none⟩) n c at_) (hB : BC w B (some ⟨b, off, none⟩) L) (hBT : B ≤ T) (hBs : B ≤ w.heap.size) (hl : L.length = n) (hn : n ≤ 1000000) (hat : at_ ≤ n) (hc : n ≤ c) (hc2 : c ≤ 9223372036854775807) :
    Calls Tryz.prog 140 #[.pointer (some ⟨T, 0, none⟩), .int .i64 4] w (TookI w T (some ⟨b, off, none⟩) n c (takeFlt L at_) (at_ + 8)) := by
  have cn : ∀ W, TK W T (some ⟨b, off, none⟩) n c at_ → Below B w W → Calls Tryz.prog 152 #[.pointer (some ⟨T, 0, none⟩), .int .i64 8] W (Took W T (some ⟨b, off, none⟩) n c at_ 8 (.int .u64 (beN ((L.drop at_).take 8) : Nat))) := fun W h1 h2 =>
    tnumber_any T B b off n c at_ 8 L W h1 (hB.below h2) hBT (Nat.le_trans hBs h2.size) hl hn hat (by omega) (by omega) hc hc2
  have cc : ∀ x w, Calls Tryz.prog 130 #[.agg #[.int .i64 4, .int .i64 0, .float .f64 x, .string ⟨#[]⟩]] w fun e w' => e = .returned (.int .i64 0) ∧ Below w.heap.size w w' := pcheck_flt
  unfold takeFlt
  rw [hl]
  obtain ⟨u, hu2⟩ : ∃ u, beN ((L.drop at_).take 8) = u := ⟨_, rfl⟩
  rw [hu2] at cn ⊢
  have cv := nvalue_any u
  obtain ⟨y, hy⟩ : ∃ y, numValN u = y := ⟨_, rfl⟩
  rw [hy] at cv ⊢
  have hTs := h.lt
  have HTK := Lib.hid h
  have CN := Lib.hid cn
  have CV := Lib.hid cv
  have CC := Lib.hid (cc u)
  have h32 := run_bits
  have h44 := run_frombits
  clear cn cc cv hu2 h hB hl hy
  have hb0 : Below w.heap.size w ((w.alloc (.cells #[.int .i64 0, .int .i64 0, .float .f64 0, .string ⟨#[]⟩] 123)).alloc (.cells #[.int .i64 4, .int .i64 0, .float .f64 0, .string ⟨#[]⟩] 123)) := ((Below.refl _ _).alloc (Nat.le_refl _) _).alloc (by simp) _
  have C1 := Lib.hid (CN.out _ (HTK.out.keep hb0) (hb0.mono hBs))
  have HB0 := Lib.hid hb0
  clear hb0
  have hsf := run_store_f64
  have hss := run_store_str
  show Calls Tryz.prog 140 _ w (TookI w T (some ⟨b, off, none⟩) n c (if at_ + 8 ≤ n then (if y = u then some (.agg #[.int .i64 4, .int .i64 0, .float .f64 u, .string ⟨#[]⟩]) else none) else none) (at_ + 8))
  by_cases hs : at_ + 8 ≤ n
  · rw [if_pos hs]
    have C2 := Lib.hid (took_ok C1.out hs)
    by_cases hf : y = u
    · rw [if_pos hf]
      subst hf
      go_enter Tryz.func140, Tryz.ntmps140
      go_wp2_with (first
        | (go_at_call 126; (with_reducible refine (CV.out _).mono ?_); rintro e wv ⟨rfl, rfl⟩)
        | (go_at_call 152; (with_reducible refine C2.out.mono ?_); rintro e w1 ⟨rfl, ht, hg⟩; have k5 := grown_box hg (two_new w _ _) (by omega); have k4 := grown_box hg (heap_alloc2_old w _ _) (by omega); have g0 := cell_of_row w1 (w.heap.size + 1) 0 _ _ _ k5; have g1 := cell_of_row w1 (w.heap.size + 1) 1 _ _ _ k5; have g2 := cell_of_row w1 (w.heap.size + 1) 2 _ _ _ k5; have g3 := cell_of_row w1 (w.heap.size + 1) 3 _ _ _ k5; have f1 := frozen_of_row w1 (w.heap.size + 1) 2 _ _ k5; have ta := ht.a; simp only [List.getElem?_toArray, List.getElem?_cons_succ, List.getElem?_cons_zero] at g0 g1 g2 g3; have HT := Lib.hid ht; have HG := Lib.hid hg; have K4 := Lib.hid k4; have K5 := Lib.hid k5; clear ht hg k4 k5)
        | (go_at_call 130; (with_reducible refine (CC.out _).mono ?_); rintro e w2 ⟨rfl, hb⟩; have j5 := K5.out; replace j5 := (hb.block (w.heap.size + 1) (by have := (Array.getElem?_eq_some_iff.1 j5).1; simpa [World.setCell] using this)).trans (box_set2 j5); have j4 := K4.out; replace j4 := (hb.block w.heap.size (by have := (Array.getElem?_eq_some_iff.1 j4).1; simpa [World.setCell] using this)).trans ((Below.heap_setCell _ _ _ _ (by simp)).trans j4); have x0 := cell_of_row w2 (w.heap.size + 1) 0 _ _ _ j5; have x1 := cell_of_row w2 (w.heap.size + 1) 1 _ _ _ j5; have x2 := cell_of_row w2 (w.heap.size + 1) 2 _ _ _ j5; have x3 := cell_of_row w2 (w.heap.size + 1) 3 _ _ _ j5; have y0 := cell_of_row w2 w.heap.size 0 _ _ _ j4; have y1 := cell_of_row w2 w.heap.size 1 _ _ _ j4; have y2 := cell_of_row w2 w.heap.size 2 _ _ _ j4; have y3 := cell_of_row w2 w.heap.size 3 _ _ _ j4; have z0 := frozen_of_row w2 w.heap.size 0 _ _ j4; have z1 := frozen_of_row w2 w.heap.size 1 _ _ j4; have z2 := frozen_of_row w2 w.heap.size 2 _ _ j4; have z3 := frozen_of_row w2 w.heap.size 3 _ _ j4; simp only [List.getElem?_toArray, List.getElem?_cons_succ, List.getElem?_cons_zero] at x0 x1 x2 x3 y0 y1 y2 y3; have tk := (HT.out.far (p := ⟨w.heap.size + 1, 2, none⟩) (by show w.heap.size + 1 ≠ T; omega) _).keep hb; have ta := tk.a; have TK2 := Lib.hid tk; have G2 := Lib.hid (grown_below' (grown_set_new ((below_grown HB0.out (some T)).trans HG.out) (p := ⟨w.heap.size + 1, 2, none⟩) (by show w.heap.size ≤ w.heap.size + 1; omega) _) hb); clear hb j4 j5 tk))
      refine bodyPost_ret (v := .agg #[.int .i64 4, .int .i64 0, .float .f64 y, .string ⟨#[]⟩]) (by simp [results, Tryz.results140, go_sem, y0, y1, y2, y3]) rfl ?_
      refine ⟨grown_set_new (grown_set_new (grown_set_new (grown_set_new G2.out (p := ⟨w.heap.size, 0, none⟩) (Nat.le_refl _) _) (p := ⟨w.heap.size, 1, none⟩) (Nat.le_refl _) _) (p := ⟨w.heap.size, 2, none⟩) (Nat.le_refl _) _) (p := ⟨w.heap.size, 3, none⟩) (Nat.le_refl _) _, rfl, ?_⟩
      exact (((TK2.out.far (p := ⟨w.heap.size, 0, none⟩) (by show w.heap.size ≠ T; omega) _).far (p := ⟨w.heap.size, 1, none⟩) (by show w.heap.size ≠ T; omega) _).far (p := ⟨w.heap.size, 2, none⟩) (by show w.heap.size ≠ T; omega) _).far (p := ⟨w.heap.size, 3, none⟩) (by show w.heap.size ≠ T; omega) _
    · rw [if_neg hf]
      have hne : ¬ (y : Int) = (u : Int) := by omega
      go_enter Tryz.func140, Tryz.ntmps140
      go_wp2_with (first
        | (go_at_call 126; (with_reducible refine (CV.out _).mono ?_); rintro e wv ⟨rfl, rfl⟩)
        | (go_at_call 152; (with_reducible refine C2.out.mono ?_); rintro e w1 ⟨rfl, ht, hg⟩; have k5 := grown_box hg (two_new w _ _) (by omega); have k4 := grown_box hg (heap_alloc2_old w _ _) (by omega); have g0 := cell_of_row w1 (w.heap.size + 1) 0 _ _ _ k5; have g1 := cell_of_row w1 (w.heap.size + 1) 1 _ _ _ k5; have g2 := cell_of_row w1 (w.heap.size + 1) 2 _ _ _ k5; have g3 := cell_of_row w1 (w.heap.size + 1) 3 _ _ _ k5; have f1 := frozen_of_row w1 (w.heap.size + 1) 2 _ _ k5; have ta := ht.a; simp only [List.getElem?_toArray, List.getElem?_cons_succ, List.getElem?_cons_zero] at g0 g1 g2 g3; have HT := Lib.hid ht; have HG := Lib.hid hg; have K4 := Lib.hid k4; have K5 := Lib.hid k5; clear ht hg k4 k5))
      exact ⟨rfl, grown_set_new ((below_grown HB0.out (some T)).trans HG.out) (p := ⟨w.heap.size + 1, 2, none⟩) (by show w.heap.size ≤ w.heap.size + 1; omega) _, at_ + 8, rfl⟩
  · rw [if_neg hs]
    have C2 := Lib.hid (took_no C1.out (Nat.not_le.1 hs))
    go_enter Tryz.func140, Tryz.ntmps140
    go_wp2_with (go_at_call 152; (with_reducible refine C2.out.mono ?_); rintro e w1 ⟨rfl, ht, hg⟩; have HG := Lib.hid hg; clear ht hg)
    exact ⟨rfl, (below_grown HB0.out (some T)).trans HG.out, _, rfl⟩
end Go.Proofs.YtdbnlngkmfmnnaaGreatDoor

/- pack.Take: the closure that is put off. -/
namespace Go.Proofs.YtdbnlngkmfmnnaaGreatDoor
open Go.RowKit

theorem assert_short (v : Array Value) (w : World) : (Instr.typeAssert (.iface 162 (.agg v)) 20 162 true).run Tryz.prog w = .ok (.tuple #[.agg v, .bool true]) w := by kernel_rfl
theorem assert_nil (w : World) : (Instr.typeAssert .nilIface 20 162 true).run Tryz.prog w = .ok (.tuple #[.agg #[.int .i64 0], .bool false]) w := by kernel_rfl

set_option maxRecDepth 100000 in
set_option maxHeartbeats 1000000 in
theorem catch_panicking (p4 p5 p6 at_ : Nat) (older : List PanicEntry) (w : World) (v4 v5 v6 : Value) (h4 : w.heap[p4]? = some (.cells #[v4] 124 (0, 0))) (h5 : w.heap[p5]? = some (.cells #[v5] 3 (0, 0))) (h6 : w.heap[p6]? = some (.cells #[v6] 34 (0, 0))) (n45 : p4 ≠ p5) (n46 : p4 ≠ p6) (n56 : p5 ≠ p6) :
    CallsD Tryz.prog 139 #[.pointer (some ⟨p4, 0, none⟩), .pointer (some ⟨p5, 0, none⟩), .pointer (some ⟨p6, 0, none⟩)] (.panicking ({ v := .iface 162 (.agg #[.int .i64 (at_ : Nat)]), recovered := false } :: older)) w fun e u' w' =>
      e = .returned (.tuple #[]) ∧ u' = .panicking ({ v := .iface 162 (.agg #[.int .i64 (at_ : Nat)]), recovered := true } :: older) ∧ w' = (((w.alloc (.cells #[.int .i64 (at_ : Nat)] 162)).setCell ⟨p4, 0, none⟩ (.slice none 0 0)).setCell ⟨p5, 0, none⟩ (.int .i64 0)).setCell ⟨p6, 0, none⟩ (.int .i64 4) := by
  have hta := assert_short #[.int .i64 (at_ : Nat)]
  have l4 := (Array.getElem?_eq_some_iff.1 h4).1
  have l5 := (Array.getElem?_eq_some_iff.1 h5).1
  have l6 := (Array.getElem?_eq_some_iff.1 h6).1
  have g4 := (Below.heap_alloc w (.cells #[.int .i64 (at_ : Nat)] 162) p4 l4).trans h4
  have g5 := (Below.heap_setCell (w.alloc (.cells #[.int .i64 (at_ : Nat)] 162)) ⟨p4, 0, none⟩ (.slice none 0 0) p5 n45.symm).trans ((Below.heap_alloc w (.cells #[.int .i64 (at_ : Nat)] 162) p5 l5).trans h5)
  have g6 := (Below.heap_setCell ((w.alloc (.cells #[.int .i64 (at_ : Nat)] 162)).setCell ⟨p4, 0, none⟩ (.slice none 0 0)) ⟨p5, 0, none⟩ (.int .i64 0) p6 n56.symm).trans ((Below.heap_setCell (w.alloc (.cells #[.int .i64 (at_ : Nat)] 162)) ⟨p4, 0, none⟩ (.slice none 0 0) p6 n46.symm).trans ((Below.heap_alloc w (.cells #[.int .i64 (at_ : Nat)] 162) p6 l6).trans h6))
  have e1 := cell_of_row _ p4 0 _ _ _ g4
  have e2 := cell_of_row _ p5 0 _ _ _ g5
  have e3 := cell_of_row _ p6 0 _ _ _ g6
  have f1 := frozen_of_row _ p4 0 _ _ g4
  have f2 := frozen_of_row _ p5 0 _ _ g5
  have f3 := frozen_of_row _ p6 0 _ _ g6
  simp only [List.getElem?_toArray, List.getElem?_cons_zero] at e1 e2 e3
  refine callsD_of_wpS Tryz.func139 rfl fun c₀ cs hu => ?_
  apply wpS_seq
  apply wpS_region
  simp [wpOpsS, go_sem, recoverD, hu, Tryz.ntmps139, Exit.thenS, hta]
  apply wpS_seq
  apply wpS_region
  simp [wpOpsS, go_sem, Exit.thenS]
  refine wpS_cond (t := true) (by simp [Act.eval]) ?_
  simp only [if_true]
  apply wpS_region
  simp only [World.frozen?_setCell] at f2 f3
  simp [wpOpsS, go_sem, e1, e2, e3, f1, f2, f3, bodyPostS, results, Tryz.results139]

set_option maxRecDepth 100000 in
set_option maxHeartbeats 1000000 in
theorem catch_idle (v1 v2 v3 : Value) (w : World) :
    CallsD Tryz.prog 139 #[v1, v2, v3] .returning w fun e u' w' => e = .returned (.tuple #[]) ∧ u' = .returning ∧ w' = w.alloc (.cells #[.int .i64 0] 162) := by
  have hta := assert_nil
  refine callsD_of_wpS Tryz.func139 rfl fun c₀ cs hu => ?_
  apply wpS_seq
  apply wpS_region
  simp [wpOpsS, go_sem, recoverD, hu, Tryz.ntmps139, Exit.thenS, hta]
  apply wpS_seq
  apply wpS_region
  simp [wpOpsS, go_sem, Exit.thenS]
  refine wpS_cond (t := false) (by simp [Act.eval]) ?_
  simp only [Bool.false_eq_true, if_false]
  refine wpS_of_wp (wp_skip ?_)
  cases c₀
  simp_all [bodyPostS, results, Tryz.results139]
end Go.Proofs.YtdbnlngkmfmnnaaGreatDoor
