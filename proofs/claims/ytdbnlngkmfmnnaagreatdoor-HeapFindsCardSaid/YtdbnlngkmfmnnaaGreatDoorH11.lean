/- heap.get. -/
import Derived.Test.YtdbnlngkmfmnnaaGreatDoorH10
import Derived.Deep.AppendLies
import Derived.Test.YtdbnlngkmfmnnaaGreatDoorH09
import Derived.Test.YtdbnlngkmfmnnaaGreatDoorH06
import Derived.Test.YtdbnlngkmfmnnaaGreatDoorH08
import Derived.Deep.RegionHeldLaw
namespace Go.Proofs.YtdbnlngkmfmnnaaGreatDoor
open Go.RowKit

/-- The bytes of a berth. -/
def slotAt (l : List LeafD) (x y : Int) : Option (List Nat) := if x < 0 ∨ y < 0 then none else (l[x.toNat]?).bind fun d => d.slots[y.toNat]?
/-- The row of a berth. -/
def getL (l : List LeafD) (x y : Int) : Option RowD := (slotAt l x y).bind decL

/-- What get gives: of bytes that are none's a row all the same. -/
def GetOut (w : World) (l : List LeafD) (x y : Int) (e : Ending) (w' : World) : Prop := Below w.heap.size w w' ∧ match getL l x y with
  | some d => ∃ A c, e = .returned (.tuple #[.agg (d.cells A c), .bool true]) ∧ FN w w' A d.cols ∧ d.cols.length ≤ c ∧ (A = none → c = 0) ∧ d.key < 18446744073709551616
  | none => ∃ d A c, e = .returned (.tuple #[.agg (d.cells A c), .bool false]) ∧ d.key < 18446744073709551616 ∧ ((∀ s, slotAt l x y = some s → s.length ≠ 52) → d = zeroD ∧ A = none ∧ c = 0)

def decTail (w w' : World) (s : List Nat) (A : Option Addr) (c : Nat) (d' : RowD) : Prop := match decL s with
  | some d => d' = d ∧ FN w w' A d.cols ∧ d.cols.length ≤ c ∧ (A = none → c = 0) ∧ d.key < 18446744073709551616
  | none => d'.key < 18446744073709551616 ∧ (s.length ≠ 52 → d' = zeroD ∧ A = none ∧ c = 0)
theorem decode_u {A : Option Addr} {c y : Nat} {s : List Nat} {w : World} (h : BC w w.heap.size A s) (hy : s.length = y) (hn : y ≤ 1000) (hc : y ≤ c) (hc2 : c ≤ 9223372036854775807) :
    Calls Tryz.prog 55 #[.slice A y c] w fun e w' => ∃ (d' : RowD) (A' : Option Addr) (c' : Nat), e = .returned (.tuple #[.agg #[.float .f64 d'.key, .bool d'.dead, .slice A' d'.cols.length c', .int .i64 d'.wr, .int .i64 d'.rc, .int .i64 d'.rn], .bool (decL s).isSome]) ∧ Below w.heap.size w w' ∧ Hid (decTail w w' s A' c' d') := by
  subst hy
  refine (decode_any A c s w h hn hc hc2).mono fun e w' ⟨h1, h2⟩ => ?_
  unfold decTail
  cases hd : decL s with
  | some d =>
    rw [hd] at h2
    obtain ⟨A', c', rfl, h3⟩ := h2
    exact ⟨d, A', c', rfl, h1, rfl, h3⟩
  | none =>
    rw [hd] at h2
    obtain ⟨d, A', c', rfl, h3⟩ := h2
    exact ⟨d, A', c', rfl, h1, h3⟩

theorem two_six {w : World} {v0 v1 : Value} {t : TypeId} : ((w.alloc (.cells #[v0, v1] t)).alloc zbox).heap[w.heap.size + 1]? = some zbox := by
  have := heap_alloc_new (w.alloc (.cells #[v0, v1] t)) zbox
  simpa using this

theorem get_end {w w1 w2 : World} {l : List LeafD} {x y : Int} {s : List Nat} {d' : RowD} {A3 : Option Addr} {c3 : Nat} (hg : getL l x y = decL s) (hs : slotAt l x y = some s) (hb : Below w.heap.size w w1) (hb2 : Below w1.heap.size w1 w2) (h : decTail w1 w2 s A3 c3 d') (H : w.heap.size + 1 < w1.heap.size) :
    GetOut w l x y (.returned (.tuple #[.agg #[.float .f64 d'.key, .bool d'.dead, .slice A3 d'.cols.length c3, .int .i64 d'.wr, .int .i64 d'.rc, .int .i64 d'.rn], .bool (decL s).isSome]))
      ((((((w2.setCell ⟨w.heap.size + 1, 0, none⟩ (.float .f64 d'.key)).setCell ⟨w.heap.size + 1, 1, none⟩ (.bool d'.dead)).setCell ⟨w.heap.size + 1, 2, none⟩ (.slice A3 d'.cols.length c3)).setCell ⟨w.heap.size + 1, 3, none⟩ (.int .i64 d'.wr)).setCell ⟨w.heap.size + 1, 4, none⟩ (.int .i64 d'.rc)).setCell ⟨w.heap.size + 1, 5, none⟩ (.int .i64 d'.rn)) := by
  have hB := below_six (hb.trans (hb2.mono hb.size)) (Nat.le_refl _) (w.heap.size + 1) (Nat.le_succ _) (.float .f64 d'.key) (.bool d'.dead) (.slice A3 d'.cols.length c3) (.int .i64 d'.wr) (.int .i64 d'.rc) (.int .i64 d'.rn)
  unfold GetOut
  unfold decTail at h
  rw [hg, hs]
  cases hd : decL s with
  | some d =>
    rw [hd] at h
    obtain ⟨rfl, h1, h2⟩ := h
    exact ⟨hB, A3, c3, rfl, (h1.six H _ _ _ _ _ _).early hb.size, h2⟩
  | none =>
    rw [hd] at h
    exact ⟨hB, d', A3, c3, rfl, h.1, fun h' => h.2 (h' s rfl)⟩

set_option maxHeartbeats 4000000 in
set_option maxRecDepth 100000 in
theorem get_in (A : Option Addr) (c i k : Nat) (l : List LeafD) (w : World) (h : LC w w.heap.size A l) (d : LeafD) (hd : l[i]? = some d) (s : List Nat) (hs : d.slots[k]? = some s) (hn : s.length ≤ 1000) (m : l.length ≤ maxLen) :
    Calls Tryz.prog 53 #[.slice A l.length c, .agg #[.int .i64 (i : Nat), .int .i64 (k : Nat)]] w (GetOut w l i k) := by
  have hsl : slotAt l i k = some s := by
    unfold slotAt
    rw [if_neg (by omega)]
    simp [hd, hs]
  have hgl : getL l i k = decL s := by unfold getL; rw [hsl]; rfl
  obtain ⟨b, off, A1, k1, A2, k2, e, hbB, hc0, hc1, hz, hsc, m1, m2, q1, q2, _, _⟩ := h.at_ hd
  subst e
  obtain ⟨b2, off2, A', c', e, hbB2, hc2, hbc, hlc, hcm, _⟩ := hsc.at_ hs
  subst e
  obtain ⟨n, hn1⟩ : ∃ n, l.length = n := ⟨_, rfl⟩
  obtain ⟨n2, hn2⟩ : ∃ n, d.slots.length = n := ⟨_, rfl⟩
  obtain ⟨y, hy⟩ : ∃ n, s.length = n := ⟨_, rfl⟩
  have hin : i < n := by have := (List.getElem?_eq_some_iff.1 hd).1; omega
  have hkn : k < n2 := by have := (List.getElem?_eq_some_iff.1 hs).1; omega
  unfold maxLen at m m2
  rw [hn1] at m ⊢
  rw [hn2] at hc1 m2
  rw [hy] at hc2 hlc hn
  have ca := cell_on (cell_on hc1 (.cells #[.int .i64 (i : Nat), .int .i64 (k : Nat)] 33)) zbox
  have cb := cell_on (cell_on hc2 (.cells #[.int .i64 (i : Nat), .int .i64 (k : Nat)] 33)) zbox
  have hbw : Below w.heap.size w ((w.alloc (.cells #[.int .i64 (i : Nat), .int .i64 (k : Nat)] 33)).alloc zbox) := ((Below.refl _ _).alloc (Nat.le_refl _) _).alloc (by simp) _
  have DC := Lib.hid (fun (W : World) (hb : Below w.heap.size w W) => decode_u ((hbc.below hb).more hb.size) hy (by omega) (by omega) hcm)
  have H33 := Lib.hid (heap_alloc2_old w (.cells #[.int .i64 (i : Nat), .int .i64 (k : Nat)] 33) zbox)
  have H34 := Lib.hid (two_six (w := w) (v0 := .int .i64 (i : Nat)) (v1 := .int .i64 (k : Nat)) (t := 33))
  unfold zbox at hbw
  have HBW := Lib.hid hbw
  have HGL := Lib.hid hgl
  have HSL := Lib.hid hsl
  have hsf := run_store_f64
  unfold zbox at ca cb
  clear h hd hs hc0 hz hsc m1 q1 q2 hbc hn1 hn2 hy hbw hgl hsl hc1 hc2
  have f1 : decide ((i : Int) < 0) = false := decide_eq_false (by omega)
  have f2 : (i : Int) < (n : Int) := by omega
  have f3 : decide ((k : Int) < 0) = false := decide_eq_false (by omega)
  have f4 : (k : Int) < (n2 : Int) := by omega
  have f5 : decide (n ≤ i) = false := decide_eq_false (by omega)
  have f6 : decide (n2 ≤ k) = false := decide_eq_false (by omega)
  go_enter Tryz.func53, Tryz.ntmps53
  go_wp2
  go_region
  go_wp2
  go_region_with (go_at_call 55; (with_reducible refine (DC.out _ (HBW.out.drew.drew)).mono ?_); rintro e w2 ⟨d', A3, c3, rfl, hb3, htl⟩; obtain ⟨⟨g0, g1, g2, g3, g4, g5⟩, ⟨r0, r1, r2, r3, r4, r5⟩⟩ := six ((hb3.block (w.heap.size + 1) (Array.getElem?_eq_some_iff.1 H34.out).1).trans H34.out); have HB3 := Lib.hid hb3; clear hb3)
  all_goals
    simp [Act.put]
    go_wp2
    refine bodyPost_ret (v := .tuple #[.agg #[.float .f64 d'.key, .bool d'.dead, .slice A3 d'.cols.length c3, .int .i64 d'.wr, .int .i64 d'.rc, .int .i64 d'.rn], .bool (decL s).isSome]) (by simp [results, Tryz.results53, go_sem, g0, g1, g2, g3, g4, g5]) rfl ?_
    exact get_end HGL.out HSL.out HBW.out.drew.drew HB3.out htl.out (Array.getElem?_eq_some_iff.1 H34.out).1
end Go.Proofs.YtdbnlngkmfmnnaaGreatDoor

/- heap.Rows: the closure that gathers. -/
namespace Go.Proofs.YtdbnlngkmfmnnaaGreatDoor
open Go.RowKit

/-- Is a key within a range? -/
def betw (x lo hi : Nat) : Bool := decide (rankN lo ≤ rankN x) && decide (rankN x < rankN hi)
theorem cmpZ_le (a b : Nat) : decide (cmpZ a b ≤ 0) = decide (a ≤ b) := by
  refine decide_eq_decide.2 ?_
  unfold cmpZ
  by_cases h : a < b
  · rw [if_pos h]; constructor <;> intro <;> omega
  · rw [if_neg h]
    by_cases h2 : b < a
    · rw [if_pos h2]; constructor <;> intro <;> omega
    · rw [if_neg h2]; constructor <;> intro <;> omega
theorem cmpZ_lt (a b : Nat) : decide (cmpZ a b < 0) = decide (a < b) := by
  refine decide_eq_decide.2 ?_
  unfold cmpZ
  by_cases h : a < b
  · rw [if_pos h]; constructor <;> intro <;> omega
  · rw [if_neg h]
    by_cases h2 : b < a
    · rw [if_pos h2]; constructor <;> intro <;> omega
    · rw [if_neg h2]; constructor <;> intro <;> omega

set_option maxHeartbeats 1000000 in
theorem betw_any (x lo hi : Nat) (hx : x < 18446744073709551616) (hlo : lo < 18446744073709551616) (hhi : hi < 18446744073709551616) (w : World) :
    Calls Tryz.prog 48 #[.float .f64 x, .float .f64 lo, .float .f64 hi] w fun e w' => e = .returned (.bool (betw x lo hi)) ∧ w = w' := by
  have c1 := compare_any lo x hlo hx
  have c2 := compare_any x hi hx hhi
  unfold betw
  have h1 := cmpZ_le (rankN lo) (rankN x)
  have h2 := cmpZ_lt (rankN x) (rankN hi)
  generalize cmpZ (rankN lo) (rankN x) = z1 at *
  generalize cmpZ (rankN x) (rankN hi) = z2 at *
  rw [← h1, ← h2]
  clear h1 h2 hx hlo hhi
  by_cases e1 : z1 ≤ 0
  · by_cases e2 : z2 < 0
    · rw [decide_eq_true e1, decide_eq_true e2]
      go_enter Tryz.func48, Tryz.ntmps48
      go_wp2_with (go_at_call 51; first | ((with_reducible refine (c1 _).mono ?_); rintro e w' ⟨rfl, rfl⟩) | ((with_reducible refine (c2 _).mono ?_); rintro e w' ⟨rfl, rfl⟩))
      go_ret
      exact ⟨rfl, rfl⟩
    · rw [decide_eq_true e1, decide_eq_false e2]
      go_enter Tryz.func48, Tryz.ntmps48
      go_wp2_with (go_at_call 51; first | ((with_reducible refine (c1 _).mono ?_); rintro e w' ⟨rfl, rfl⟩) | ((with_reducible refine (c2 _).mono ?_); rintro e w' ⟨rfl, rfl⟩))
      go_ret
      first
        | exact ⟨rfl, rfl⟩
        | exact ⟨ret_bool (by rw [decide_eq_false (by omega)]; rfl), rfl⟩
  · rw [decide_eq_false e1]
    go_enter Tryz.func48, Tryz.ntmps48
    go_wp2_with (go_at_call 51; first | ((with_reducible refine (c1 _).mono ?_); rintro e w' ⟨rfl, rfl⟩) | ((with_reducible refine (c2 _).mono ?_); rintro e w' ⟨rfl, rfl⟩))
    go_ret
    exact ⟨rfl, rfl⟩

theorem own_more {w w' : World} {base : Nat} {v v' : Value} {l : List RowD} {ys : List Value} (h1 : w'.ownsRow base 30 6 v' l.length ys) (h2 : RX w v.ownBlock l ys) (hg : w.grownBy w' v.ownBlock) (ha : v'.ownBlock = v.ownBlock ∨ v'.ownBlock = some w.heap.size) : Own w' base v' l := by
  refine ⟨ys, h1, ?_⟩
  rcases ha with ha | ha
  · rw [ha]; exact h2.grown hg
  · rw [ha]; exact h2.past hg (fun g hg => by injection hg with hg; omega)
theorem Own.form {w : World} {base : Nat} {v : Value} {l : List RowD} (h : Own w base v l) : ∃ A c, v = .slice A l.length c ∧ (A = none → c = 0) ∧ l.length ≤ c ∧ (∀ g, v.ownBlock = some g → base ≤ g ∧ g < w.heap.size) := by
  obtain ⟨xs, h1, _⟩ := h
  rcases h1.2 with ⟨rfl, h0⟩ | ⟨g, cap, cur, rfl, hb, hh, hnc, _⟩
  · exact ⟨none, 0, by rw [h0], fun _ => rfl, by omega, fun g hg => h1.lt g hg⟩
  · exact ⟨_, cap, rfl, (fun e => by cases e), hnc, fun g hg => h1.lt g hg⟩

theorem wpList_put_row {ops : Array Oper} {rest : List Oper} {o : Oper} {a : Act} {Q : Exit → Act → World → Prop} (hgd : o.guard = none) (s x : Operand)
    (ho : o.op = .call { callee := .builtin .append, args := #[s, x], argTypes := #[22, 22] })
    {W : World} {base n : Nat} {v : Value} {acc : List RowD} (hown : Own W base v acc) (hlen : acc.length = n) (hbase : base ≤ W.heap.size) (hs : a.eval s = v) (hx : a.eval x = .slice (some ⟨W.heap.size, 0, none⟩) 1 1)
    (d : RowD) (A' : Option Addr) (c' : Nat) (hf : FX W v.ownBlock A' d.cols) (h2 : d.cols.length ≤ c') (h3 : A' = none → c' = 0) (m : n ≤ 100000)
    (h : ∀ g cap w', Own w' base (.slice (some ⟨g, 0, none⟩) (n + 1) cap) (acc ++ [d]) → W.grownBy w' v.ownBlock → wpList Tryz.prog ops Q rest (a.put o.dst (.slice (some ⟨g, 0, none⟩) (n + 1) cap)) w') :
    wpList Tryz.prog ops Q (o :: rest) a (W.alloc (.cells (d.cells A' c') 30)) := by
  obtain ⟨i0, hi0, hz0, hz1, hz2⟩ := info_parts info30
  obtain ⟨W', hW⟩ : ∃ W', W' = W.alloc (.cells (d.cells A' c') 30) := ⟨_, rfl⟩
  have hal : Below W.heap.size W W' := by rw [hW]; exact (Below.refl W.heap.size W).alloc (Nat.le_refl _) _
  have hown' : Own W' base v acc := hown.below hal
  have hfx : FX W' v.ownBlock A' d.cols := hf.below hal
  have hvx : RX W' v.ownBlock [d] (d.cells A' c').toList := RX.one hfx h2 h3
  have hv : W'.heap[W.heap.size]? = some (.cells (d.cells A' c') 30 (0, 0)) := by rw [hW]; exact heap_alloc_new W _
  rw [← hW]
  obtain ⟨xs, h1, hrx⟩ := hown'
  rw [hlen] at h1
  refine wpList_append_lies W' hgd s x 22 ho base 30 i0 zeroRow 6 64 Tryz.underlying22 hi0 hz0 hz1 hz2 rfl (by decide) v n xs hs h1 ⟨W.heap.size, 0, none⟩ 1 1 _ hx hvx.len (World.news_of_block hv) hvx.oneCell (by omega) (by unfold maxLen; omega) (by omega) (Nat.le_trans hbase hal.size) _ rfl ?_
  intro g cap w' hown2 hgrow hat hlt
  have hat' : Value.ownBlock (.slice (some ⟨g, 0, none⟩) (n + 1) cap) = v.ownBlock ∨ Value.ownBlock (.slice (some ⟨g, 0, none⟩) (n + 1) cap) = some W'.heap.size := by
    rcases hat with hat | hat
    · exact .inl (by rw [hat]; rfl)
    · exact .inr (by rw [hat]; rfl)
  exact h g cap w' (own_more (by rw [List.length_append, hlen]; exact hown2) (hrx.append hvx) hgrow hat') ((below_grown hal _).trans hgrow)

/-- What was gathered so far: in the box r. -/
structure Gath (r : Nat) (acc : List RowD) (W : World) : Prop where
  is : ∃ v, W.heap[r]? = some (.cells #[v] 22 (0, 0)) ∧ Own W (r + 1) v acc
theorem Gath.on {r : Nat} {acc : List RowD} {W W' : World} (h : Gath r acc W) (hb : Below W.heap.size W W') : Gath r acc W' := by
  obtain ⟨v, h1, h2⟩ := h.is
  exact ⟨v, (hb.block r (Array.getElem?_eq_some_iff.1 h1).1).trans h1, h2.below hb⟩
theorem Gath.put {r : Nat} {acc acc' : List RowD} {W w' : World} {v v' : Value} (h1 : W.heap[r]? = some (.cells #[v] 22 (0, 0))) (ho : Own W (r + 1) v acc) (h2 : Own w' (r + 1) v' acc') (hg : W.grownBy w' v.ownBlock) : Gath r acc' (w'.setCell ⟨r, 0, none⟩ v') := by
  have hnb : ∀ g, v.ownBlock = some g → r + 1 ≤ g := by obtain ⟨_, _, _, _, _, h⟩ := ho.form; exact fun g hg => (h g hg).1
  have hnb' : ∀ g, v'.ownBlock = some g → r + 1 ≤ g := by obtain ⟨_, _, _, _, _, h⟩ := h2.form; exact fun g hg => (h g hg).1
  have hbox : w'.heap[r]? = some (.cells #[v] 22 (0, 0)) := (hg.block r (Array.getElem?_eq_some_iff.1 h1).1 (fun e => by have := hnb _ e.symm; omega)).trans h1
  refine ⟨v', by rw [heap_setCell_same _ _ _ _ _ _ hbox]; rfl, ?_⟩
  obtain ⟨xs, q1, q2⟩ := h2
  have hgr := grown_one w' (T := r) (p := ⟨r, 0, none⟩) v' rfl
  refine ⟨xs, q1.kept hgr ?_, ?_⟩
  · cases hb : v'.ownBlock with
    | none => exact .inl rfl
    | some g => refine .inr fun e => ?_; injection e with e; have := hnb' g hb; omega
  · refine q2.imp fun A l hf => ⟨hf.1, fun hl => ?_⟩
    obtain ⟨b, off, e, hB, ho', hc⟩ := hf.2 hl
    refine ⟨b, off, e, by simpa [World.setCell] using hB, ho', fun j x hx => ?_⟩
    have hbr : b ≠ r := fun e => by
      have := hc j x hx
      subst e
      rw [cell_of_row _ b _ _ _ _ hbox] at this
      rcases Nat.eq_zero_or_pos (off + j) with h0 | h0
      · rw [h0] at this
        simp only [List.getElem?_toArray, List.getElem?_cons_zero, Option.some.injEq] at this
        obtain ⟨_, _, e', _⟩ := ho.form
        rw [e'] at this
        cases this
      · rw [Array.getElem?_eq_none (by simp; omega)] at this; cases this
    exact (World.cell?_setCell_other w' _ _ _ (by intro e; injection e with e; exact hbr e.symm)).trans (hc j x hx)
end Go.Proofs.YtdbnlngkmfmnnaaGreatDoor

/- humusref04.Bytes: a row's bytes. -/
namespace Go.Proofs.YtdbnlngkmfmnnaaGreatDoor
open Go.RowKit

def headI (key : Nat) (dead : Nat) (x y z n : Nat) : List It := [⟨1, dead, 0⟩, ⟨4, 0, key⟩, ⟨3, x, 0⟩, ⟨2, y, 0⟩, ⟨3, z, 0⟩, ⟨1, n, 0⟩]
def rowI (key : Nat) (dead : Nat) (l : List Nat) (x y z : Nat) : List It := headI key dead x y z l.length ++ l.map fun v => ⟨4, 0, v⟩

/-- The world within Bytes' loop. -/
structure RB (w : World) (B : Array Value) (v : Value) (I : List It) (W : World) : Prop where
  below : Below w.heap.size w W
  lt : w.heap.size < W.heap.size
  box : W.heap[w.heap.size]? = some (.cells B 30 (0, 0))
  own : W.ownsRow (w.heap.size + 1) 123 4 v I.length (cellsOf I)
theorem RB.same {w W W' : World} {B : Array Value} {v : Value} {I : List It} (h : RB w B v I W) (hb : Below W.heap.size W W') : RB w B v I W' :=
  ⟨h.below.trans (hb.mono h.below.size), Nat.lt_of_lt_of_le h.lt hb.size, (hb.block _ h.lt).trans h.box, h.own.kept (below_grown hb none) (by cases v.ownBlock <;> simp)⟩
theorem RB.start (w : World) (B : Array Value) (a1 a2 a3 a4 a5 a6 : Nat) :
    RB w B (.slice (some ⟨w.heap.size + 1, 0, none⟩) 6 6) (headI a1 a2 a3 a4 a5 a6) ((w.alloc (.cells B 30)).alloc (.cells #[
      .int .i64 1, .int .i64 a2, .float .f64 0, .string ⟨#[]⟩, .int .i64 4, .int .i64 0, .float .f64 a1, .string ⟨#[]⟩, .int .i64 3, .int .i64 a3, .float .f64 0, .string ⟨#[]⟩,
      .int .i64 2, .int .i64 a4, .float .f64 0, .string ⟨#[]⟩, .int .i64 3, .int .i64 a5, .float .f64 0, .string ⟨#[]⟩, .int .i64 1, .int .i64 a6, .float .f64 0, .string ⟨#[]⟩] 123)) := by
  have hb : Below w.heap.size w (w.alloc (.cells B 30)) := (Below.refl _ _).alloc (Nat.le_refl _) _
  refine ⟨hb.alloc (by simp) _, by simp; omega, heap_alloc2_old w _ _, ?_⟩
  have h := World.ownsRow_lit (base := w.heap.size + 1) (e := 123) (size := 4) (w.alloc (.cells B 30)) #[
      .int .i64 1, .int .i64 a2, .float .f64 0, .string ⟨#[]⟩, .int .i64 4, .int .i64 0, .float .f64 a1, .string ⟨#[]⟩, .int .i64 3, .int .i64 a3, .float .f64 0, .string ⟨#[]⟩,
      .int .i64 2, .int .i64 a4, .float .f64 0, .string ⟨#[]⟩, .int .i64 3, .int .i64 a5, .float .f64 0, .string ⟨#[]⟩, .int .i64 1, .int .i64 a6, .float .f64 0, .string ⟨#[]⟩] 6 (by simp) (by unfold maxLen; omega) rfl
  rw [show (w.alloc (.cells B 30)).heap.size = w.heap.size + 1 by simp] at h
  exact h

theorem put_it {ops : Array Oper} {rest : List Oper} {o : Oper} {a : Act} {Q : Exit → Act → World → Prop} (hgd : o.guard = none) (s e : Operand)
    (ho : o.op = .call { callee := .builtin .append, args := #[s, e], argTypes := #[124, 124] })
    {w W : World} {B : Array Value} {v : Value} {I : List It} {q : Nat} (h : RB w B v I W) (i : It) (hs : a.eval s = v) (he : a.eval e = .slice (some ⟨W.heap.size, 0, none⟩) 1 1) (hq : I.length = q) (hm : q ≤ 1000)
    (hK : ∀ g cap w', RB w B (.slice (some ⟨g, 0, none⟩) (q + 1) cap) (I ++ [i]) w' → wpList Tryz.prog ops Q rest (a.put o.dst (.slice (some ⟨g, 0, none⟩) (q + 1) cap)) w') :
    wpList Tryz.prog ops Q (o :: rest) a (W.alloc (.cells #[.int .i64 (i.k : Nat), .int .i64 (i.n : Nat), .float .f64 i.x, .string ⟨#[]⟩] 123)) := by
  subst hq
  obtain ⟨i0, hi0, hz0, hz1, hz2⟩ := info_parts info123
  have h' := h.same ((Below.refl _ _).alloc (Nat.le_refl _) (.cells #[.int .i64 (i.k : Nat), .int .i64 (i.n : Nat), .float .f64 i.x, .string ⟨#[]⟩] 123))
  refine wpList_append_lies (W.alloc (.cells #[.int .i64 (i.k : Nat), .int .i64 (i.n : Nat), .float .f64 i.x, .string ⟨#[]⟩] 123)) hgd s e 124 ho (w.heap.size + 1) 123 i0 zeroItem 4 40 Tryz.underlying124 hi0 hz0 hz1 hz2 rfl (by decide) v I.length (cellsOf I) hs h'.own ⟨W.heap.size, 0, none⟩ 1 1
    (It.cells i) he rfl (World.news_of_block (heap_alloc_new W _)) (by intro z hz; simp only [It.cells, List.mem_cons, List.not_mem_nil, or_false] at hz; rcases hz with rfl | rfl | rfl | rfl <;> rfl) (by omega) (by unfold maxLen; omega) (by omega) h'.lt _ rfl ?_
  intro g cap w' hown hgrow hat hlt
  have hnb : ∀ b, v.ownBlock = some b → w.heap.size + 1 ≤ b := fun b hb => (h.own.lt b hb).1
  refine hK g cap w' ⟨h'.below.grown hgrow (Nat.le_of_lt h'.lt) fun b hb => by have := hnb b hb; omega, Nat.lt_of_lt_of_le h'.lt hgrow.size, (hgrow.block _ h'.lt (fun e => by have := hnb _ e.symm; omega)).trans h'.box, ?_⟩
  have e1 : (I ++ [i]).length = I.length + 1 := by simp
  have e2 : cellsOf (I ++ [i]) = cellsOf I ++ It.cells i := by simp [cellsOf]
  rw [e1, e2]
  exact hown

theorem put_flt {ops : Array Oper} {rest : List Oper} {o : Oper} {a : Act} {Q : Exit → Act → World → Prop} (hgd : o.guard = none) (s e : Operand)
    (ho : o.op = .call { callee := .builtin .append, args := #[s, e], argTypes := #[124, 124] })
    {w W : World} {B : Array Value} {v : Value} {I : List It} {q : Nat} (h : RB w B v I W) (x : Nat) (hs : a.eval s = v) (he : a.eval e = .slice (some ⟨W.heap.size, 0, none⟩) 1 1) (hq : I.length = q) (hm : q ≤ 1000)
    (hK : ∀ g cap w', RB w B (.slice (some ⟨g, 0, none⟩) (q + 1) cap) (I ++ [⟨4, 0, x⟩]) w' → wpList Tryz.prog ops Q rest (a.put o.dst (.slice (some ⟨g, 0, none⟩) (q + 1) cap)) w') :
    wpList Tryz.prog ops Q (o :: rest) a (W.alloc (.cells #[.int .i64 4, .int .i64 0, .float .f64 x, .string ⟨#[]⟩] 123)) := put_it hgd s e ho h ⟨4, 0, x⟩ hs he hq hm hK
theorem ownsRow_more {W : World} {b b' e k n : Nat} {v : Value} {xs : List Value} (h : W.ownsRow b' e k v n xs) (hb : b ≤ b') : W.ownsRow b e k v n xs :=
  ⟨h.1, h.2.imp id fun ⟨g, cap, cur, e, hg, r⟩ => ⟨g, cap, cur, e, Nat.le_trans hb hg, r⟩⟩
theorem headI_len (a1 a2 a3 a4 a5 a6 : Nat) : (headI a1 a2 a3 a4 a5 a6).length = 6 := rfl
theorem rowI_good (key : Nat) (dead : Nat) (l : List Nat) (x y z : Nat) (hd : dead ≤ 1) (hl : l.length ≤ 4) (hk : key < 18446744073709551616) (hx : x ≤ 2147483647) (hy : y < 65536) (hz : z ≤ 2147483647) (hc : ∀ v ∈ l, v < 18446744073709551616) : ∀ i ∈ rowI key dead l x y z, goodIt i := by
  intro i hi
  unfold rowI headI at hi
  rcases List.mem_append.1 hi with hi | hi
  · simp only [List.mem_cons, List.not_mem_nil, or_false] at hi
    rcases hi with rfl | rfl | rfl | rfl | rfl | rfl
    · exact .inl ⟨by simp only; omega, by simp only; omega, by simp [fitsN, wid]; omega, rfl⟩
    · exact .inr ⟨rfl, rfl, hk⟩
    · exact .inl ⟨by simp only; omega, by simp only; omega, by simp [fitsN, wid]; omega, rfl⟩
    · exact .inl ⟨by simp only; omega, by simp only; omega, by simp [fitsN, wid]; omega, rfl⟩
    · exact .inl ⟨by simp only; omega, by simp only; omega, by simp [fitsN, wid]; omega, rfl⟩
    · exact .inl ⟨by simp only; omega, by simp only; omega, by simp [fitsN, wid]; omega, rfl⟩
  · obtain ⟨v, hv, rfl⟩ := List.mem_map.1 hi
    exact .inr ⟨rfl, rfl, hc v hv⟩

set_option maxHeartbeats 4000000 in
set_option maxRecDepth 100000 in
theorem rbytes_any (key : Nat) (dead : Bool) (l : List Nat) (x y z : Nat) (A : Option Addr) (c : Nat) (w : World) (h : FC w w.heap.size A l) (hl : l.length ≤ 4) (hk : key < 18446744073709551616) (hx : x ≤ 2147483647) (hy : y < 65536) (hz : z ≤ 2147483647) :
    Calls Tryz.prog 100 #[.agg #[.float .f64 key, .bool dead, .slice A l.length c, .int .i64 (x : Nat), .int .i64 (y : Nat), .int .i64 (z : Nat)]] w fun e w' => ∃ v, e = .returned v ∧ OB w' w.heap.size v (bytesOf (rowI key (if dead then 1 else 0) l x y z)) ∧ Below w.heap.size w w' := by
  obtain ⟨n, hn⟩ : ∃ n, l.length = n := ⟨_, rfl⟩
  rw [hn] at hl ⊢
  obtain ⟨D, hD⟩ : ∃ D : Nat, (if dead then 1 else 0) = D := ⟨_, rfl⟩
  have hD1 : D ≤ 1 := by rw [← hD]; split <;> omega
  have HGD := Lib.hid (rowI_good key D l x y z hD1 (by rw [hn]; exact hl) hk hx hy hz h.1)
  rw [hD]
  have HH : Hid (rowI key D l x y z = headI key D x y z n ++ l.map fun v => ⟨4, 0, v⟩) := by unfold rowI; rw [hn]; exact rfl
  have HRL : Hid ((rowI key D l x y z).length = 6 + n) := by rw [HH.out, List.length_append, headI_len, List.length_map, hn]; exact rfl
  obtain ⟨R, hR⟩ : ∃ R, rowI key D l x y z = R := ⟨_, rfl⟩
  rw [hR] at HGD HH HRL ⊢
  clear hR
  have H := Lib.hid h
  have N := Lib.hid hn
  have HS := Lib.hid (fun B => RB.start w B key D x y z n)
  have CP := Lib.hid (fun (W : World) (v : Value) (hv : RB w #[.float .f64 key, .bool dead, .slice A n c, .int .i64 (x : Nat), .int .i64 (y : Nat), .int .i64 (z : Nat)] v R W) => (by
    obtain ⟨A2, c2, e2, hix⟩ := IX.of_own hv.own
    refine ⟨A2, c2, (by rw [e2, HRL.out]), ?_⟩
    have := rput_any A2 c2 R W hix HGD.out (by rw [HRL.out]; omega)
    rw [HRL.out] at this
    exact this.mono fun e w' ⟨v, e1, h1, h2⟩ => ⟨v, e1, ⟨ownsRow_more h1.1 hv.below.size, h1.2⟩, hv.below.trans (h2.mono hv.below.size)⟩ : ∃ A2 c2, v = .slice A2 (6 + n) c2 ∧ Calls Tryz.prog 127 #[.slice A2 (6 + n) c2] W fun e w' => ∃ v, e = .returned (.tuple #[v, .bool true]) ∧ OB w' w.heap.size v (bytesOf R) ∧ Below w.heap.size w w'))
  clear h hn hk hx hy hz
  have HW : Hid (∀ W v, RB w #[.float .f64 key, .bool dead, .slice A n c, .int .i64 (x : Nat), .int .i64 (y : Nat), .int .i64 (z : Nat)] v (headI key D x y z n ++ (l.take n).map fun v => ⟨4, 0, v⟩) W → RB w #[.float .f64 key, .bool dead, .slice A n c, .int .i64 (x : Nat), .int .i64 (y : Nat), .int .i64 (z : Nat)] v R W) := fun W v hv => by
    rw [List.take_of_length_le (by rw [N.out]; exact Nat.le_refl _), ← HH.out] at hv
    exact hv
  cases dead with
  | true =>
    have hD' : D = 1 := hD.symm
    clear hD
    subst hD'
    have hs0 := HS.out #[.float .f64 key, .bool true, .slice A n c, .int .i64 (x : Nat), .int .i64 (y : Nat), .int .i64 (z : Nat)]
    go_enter Tryz.func100, Tryz.ntmps100
    go_wp2
    go_loopw [5, 4] (fun i v wr => ∃ (j : Nat) (A2 : Option Addr) (c2 : Nat), j ≤ n ∧ i = .int .i64 j ∧ v = .slice A2 (6 + j) c2 ∧ wr.heap[w.heap.size]? = some (.cells #[.float .f64 key, .bool true, .slice A n c, .int .i64 (x : Nat), .int .i64 (y : Nat), .int .i64 (z : Nat)] 30 (0, 0)) ∧ RB w #[.float .f64 key, .bool true, .slice A n c, .int .i64 (x : Nat), .int .i64 (y : Nat), .int .i64 (z : Nat)] v (headI key 1 x y z n ++ (l.take j).map fun v => ⟨4, 0, v⟩) wr) (fun i _ _ => n - (intOf i).toNat)
    case atStart => exact ⟨0, _, _, Nat.zero_le _, rfl, rfl, hs0.box, by rw [List.take_zero, List.map_nil, List.append_nil]; exact hs0⟩
    case round =>
      obtain ⟨j, A2, c2, hj, rfl, rfl, hbx, hrb⟩ := hrel
      obtain ⟨q0, q1, q2, q3, q4, q5⟩ := six hbx
      have HRB := Lib.hid hrb
      clear hrb
      by_cases hlt : j < n
      · obtain ⟨v, hv⟩ := get_at' N hlt
        obtain ⟨b, off, rfl, hB, hc⟩ := H.out.2 (by rw [N.out]; omega)
        have cv := (HRB.out.below.cell (p := ⟨b, off + j, none⟩) hB).trans (hc j v hv)
        have HT := Lib.hid (show (l.take (j + 1)).map (fun v => (⟨4, 0, v⟩ : It)) = (l.take j).map (fun v => (⟨4, 0, v⟩ : It)) ++ [⟨4, 0, v⟩] by rw [take_at' hv]; simp)
        have HLN := Lib.hid (show (headI key 1 x y z n ++ (l.take j).map fun v => (⟨4, 0, v⟩ : It)).length = 6 + j by rw [List.length_append, headI_len, List.length_map, List.length_take, N.out]; omega)
        clear hv hc
        go_wp2_with (at_builtin; go_loud (refine put_flt (v := .slice A2 (6 + j) c2) rfl (.tmp 38) (.tmp 45) rfl HRB.out v (by simp [Act.eval, Act.put]) (by simp [Act.eval, Act.put]) HLN.out (by omega) ?_); rintro g5 cap5 w5 hr5; have HR5 := Lib.hid hr5; clear hr5)
        exact ⟨⟨j + 1, _, _, by omega, by go_num, rfl, HR5.out.box, by rw [HT.out, ← List.append_assoc]; exact HR5.out⟩, by simp [intOf]; omega⟩
      · have hjn : j = n := by omega
        subst hjn
        obtain ⟨A3, c3, e3, hc3⟩ := CP.out _ _ (HW.out _ _ HRB.out)
        injection e3 with e3 _ e4
        subst e3 e4
        have HC3 := Lib.hid hc3
        clear hc3
        go_wp2_with (go_at_call 127; (with_reducible refine HC3.out.mono ?_); rintro e w1 ⟨v, rfl, ho, hb⟩; have HO := Lib.hid ho; have HB := Lib.hid hb; clear ho hb)
        go_ret
        exact ⟨_, rfl, HO.out, HB.out⟩
  | false =>
    have hD' : D = 0 := hD.symm
    clear hD
    subst hD'
    have hs0 := HS.out #[.float .f64 key, .bool false, .slice A n c, .int .i64 (x : Nat), .int .i64 (y : Nat), .int .i64 (z : Nat)]
    go_enter Tryz.func100, Tryz.ntmps100
    go_wp2
    go_loopw [5, 4] (fun i v wr => ∃ (j : Nat) (A2 : Option Addr) (c2 : Nat), j ≤ n ∧ i = .int .i64 j ∧ v = .slice A2 (6 + j) c2 ∧ wr.heap[w.heap.size]? = some (.cells #[.float .f64 key, .bool false, .slice A n c, .int .i64 (x : Nat), .int .i64 (y : Nat), .int .i64 (z : Nat)] 30 (0, 0)) ∧ RB w #[.float .f64 key, .bool false, .slice A n c, .int .i64 (x : Nat), .int .i64 (y : Nat), .int .i64 (z : Nat)] v (headI key 0 x y z n ++ (l.take j).map fun v => ⟨4, 0, v⟩) wr) (fun i _ _ => n - (intOf i).toNat)
    case atStart => exact ⟨0, _, _, Nat.zero_le _, rfl, rfl, hs0.box, by rw [List.take_zero, List.map_nil, List.append_nil]; exact hs0⟩
    case round =>
      obtain ⟨j, A2, c2, hj, rfl, rfl, hbx, hrb⟩ := hrel
      obtain ⟨q0, q1, q2, q3, q4, q5⟩ := six hbx
      have HRB := Lib.hid hrb
      clear hrb
      by_cases hlt : j < n
      · obtain ⟨v, hv⟩ := get_at' N hlt
        obtain ⟨b, off, rfl, hB, hc⟩ := H.out.2 (by rw [N.out]; omega)
        have cv := (HRB.out.below.cell (p := ⟨b, off + j, none⟩) hB).trans (hc j v hv)
        have HT := Lib.hid (show (l.take (j + 1)).map (fun v => (⟨4, 0, v⟩ : It)) = (l.take j).map (fun v => (⟨4, 0, v⟩ : It)) ++ [⟨4, 0, v⟩] by rw [take_at' hv]; simp)
        have HLN := Lib.hid (show (headI key 0 x y z n ++ (l.take j).map fun v => (⟨4, 0, v⟩ : It)).length = 6 + j by rw [List.length_append, headI_len, List.length_map, List.length_take, N.out]; omega)
        clear hv hc
        go_wp2_with (at_builtin; go_loud (refine put_flt (v := .slice A2 (6 + j) c2) rfl (.tmp 38) (.tmp 45) rfl HRB.out v (by simp [Act.eval, Act.put]) (by simp [Act.eval, Act.put]) HLN.out (by omega) ?_); rintro g5 cap5 w5 hr5; have HR5 := Lib.hid hr5; clear hr5)
        exact ⟨⟨j + 1, _, _, by omega, by go_num, rfl, HR5.out.box, by rw [HT.out, ← List.append_assoc]; exact HR5.out⟩, by simp [intOf]; omega⟩
      · have hjn : j = n := by omega
        subst hjn
        obtain ⟨A3, c3, e3, hc3⟩ := CP.out _ _ (HW.out _ _ HRB.out)
        injection e3 with e3 _ e4
        subst e3 e4
        have HC3 := Lib.hid hc3
        clear hc3
        go_wp2_with (go_at_call 127; (with_reducible refine HC3.out.mono ?_); rintro e w1 ⟨v, rfl, ho, hb⟩; have HO := Lib.hid ho; have HB := Lib.hid hb; clear ho hb)
        go_ret
        exact ⟨_, rfl, HO.out, HB.out⟩
end Go.Proofs.YtdbnlngkmfmnnaaGreatDoor

/- humusref04.Decode: the kinds' list, the cases without a taking. -/
namespace Go.Proofs.YtdbnlngkmfmnnaaGreatDoor
open Go.RowKit

/-- What a Decode of the document answers. -/
def DOut (w : World) (o : Option RowD) (e : Ending) (w' : World) : Prop := Below w.heap.size w w' ∧ match o with
  | some d => ∃ A c, e = .returned (.tuple #[.agg (d.cells A c), .bool true]) ∧ FN w w' A d.cols ∧ d.cols.length ≤ c ∧ (A = none → c = 0)
  | none => e = .returned (.tuple #[zeroRow, .bool false])

/-- The world within the loop of kinds. -/
structure RK (w : World) (v : Value) (K : List Nat) (W : World) : Prop where
  below : Below w.heap.size w W
  box : W.heap[w.heap.size]? = some (.cells #[.float .f64 0, .bool false, .slice none 0 0, .int .i64 0, .int .i64 0, .int .i64 0] 30 (0, 0))
  own : W.ownsRow (w.heap.size + 1) 3 1 v K.length (K.map fun (x : Nat) => Value.int .i64 (x : Nat))
theorem RK.lt {w W : World} {v : Value} {K : List Nat} (h : RK w v K W) : w.heap.size < W.heap.size := (Array.getElem?_eq_some_iff.1 h.box).1
theorem RK.same {w W W' : World} {v : Value} {K : List Nat} (h : RK w v K W) (hb : Below W.heap.size W W') : RK w v K W' :=
  ⟨h.below.trans (hb.mono h.below.size), (hb.block _ h.lt).trans h.box, h.own.kept (below_grown hb none) (by cases v.ownBlock <;> simp)⟩
theorem RK.reads {w W : World} {v : Value} {K : List Nat} (h : RK w v K W) : ∃ A c, v = .slice A K.length c ∧ IC W W.heap.size A K := by
  rcases h.own.2 with ⟨e, h0⟩ | ⟨g, cap, cur, e, hb, hh, hnc, hcm, hcs, htake⟩
  · exact ⟨none, 0, by rw [e, h0], fun hl => by omega⟩
  · have ho := h.own
    rw [e] at ho
    refine ⟨_, cap, e, fun _ => ⟨g, 0, rfl, (Array.getElem?_eq_some_iff.1 hh).1, fun j x hx => ?_⟩⟩
    rw [Nat.zero_add, ho.cellAt j (by have := (List.getElem?_eq_some_iff.1 hx).1; omega), List.getElem?_map, hx]
    rfl
theorem RK.start (w : World) : RK w (.slice (some ⟨w.heap.size + 1, 0, none⟩) 6 6) headK ((w.alloc (.cells #[.float .f64 0, .bool false, .slice none 0 0, .int .i64 0, .int .i64 0, .int .i64 0] 30)).alloc (.cells #[.int .i64 1, .int .i64 4, .int .i64 3, .int .i64 2, .int .i64 3, .int .i64 1] 3)) := by
  have hb : Below w.heap.size w (w.alloc (.cells #[.float .f64 0, .bool false, .slice none 0 0, .int .i64 0, .int .i64 0, .int .i64 0] 30)) := (Below.refl _ _).alloc (Nat.le_refl _) _
  refine ⟨hb.alloc (by simp) _, heap_alloc2_old w _ _, ?_⟩
  have h := World.ownsRow_lit (base := w.heap.size + 1) (e := 3) (size := 1) (w.alloc (.cells #[.float .f64 0, .bool false, .slice none 0 0, .int .i64 0, .int .i64 0, .int .i64 0] 30)) #[.int .i64 1, .int .i64 4, .int .i64 3, .int .i64 2, .int .i64 3, .int .i64 1] 6 (by simp) (by unfold maxLen; omega) rfl
  rw [show (w.alloc (.cells #[.float .f64 0, .bool false, .slice none 0 0, .int .i64 0, .int .i64 0, .int .i64 0] 30)).heap.size = w.heap.size + 1 by simp] at h
  exact h
theorem put_k {ops : Array Oper} {rest : List Oper} {o : Oper} {a : Act} {Q : Exit → Act → World → Prop} (hgd : o.guard = none) (s e : Operand)
    (ho : o.op = .call { callee := .builtin .append, args := #[s, e], argTypes := #[59, 59] })
    {w W : World} {v : Value} {K : List Nat} {q : Nat} (h : RK w v K W) (hs : a.eval s = v) (he : a.eval e = .slice (some ⟨W.heap.size, 0, none⟩) 1 1) (hq : K.length = q) (hm : q ≤ 1000)
    (hK : ∀ g cap w', RK w (.slice (some ⟨g, 0, none⟩) (q + 1) cap) (K ++ [4]) w' → wpList Tryz.prog ops Q rest (a.put o.dst (.slice (some ⟨g, 0, none⟩) (q + 1) cap)) w') :
    wpList Tryz.prog ops Q (o :: rest) a (W.alloc (.cells #[.int .i64 4] 3)) := by
  subst hq
  obtain ⟨i0, hi0, hz0, hz1, hz2⟩ := info_parts info3
  have h' := h.same ((Below.refl _ _).alloc (Nat.le_refl _) (.cells #[.int .i64 4] 3))
  refine wpList_append_lies (W.alloc (.cells #[.int .i64 4] 3)) hgd s e 59 ho (w.heap.size + 1) 3 i0 (.int .i64 0) 1 8 Tryz.underlying59 hi0 hz0 hz1 hz2 rfl (by decide) v K.length (K.map fun (x : Nat) => Value.int .i64 (x : Nat)) hs h'.own ⟨W.heap.size, 0, none⟩ 1 1
    [.int .i64 4] he rfl (World.news_of_block (heap_alloc_new W _)) (by intro z hz; simp only [List.mem_cons, List.not_mem_nil, or_false] at hz; subst hz; rfl) (by omega) (by unfold maxLen; omega) (by omega) h'.lt _ rfl ?_
  intro g cap w' hown hgrow hat hlt
  have hnb : ∀ b, v.ownBlock = some b → w.heap.size + 1 ≤ b := fun b hb => (h.own.lt b hb).1
  refine hK g cap w' ⟨h'.below.grown hgrow (Nat.le_of_lt h'.lt) fun b hb => by have := hnb b hb; omega, (hgrow.block _ h'.lt (fun e => by have := hnb _ e.symm; omega)).trans h'.box, ?_⟩
  rw [List.length_append, List.map_append]
  exact hown

set_option maxHeartbeats 2000000 in
theorem rdecode_short (A : Option Addr) (c : Nat) (L : List Nat) (w : World) (hm : L.length ≤ maxLen) (h : L.length < 20) : Calls Tryz.prog 105 #[.slice A L.length c] w (DOut w none) := by
  obtain ⟨n, hn⟩ : ∃ n, L.length = n := ⟨_, rfl⟩
  rw [hn] at h hm ⊢
  unfold maxLen at hm
  have f1 : decide ((n : Int) < 20) = true := by simp; omega
  have hsf := run_store_f64
  unfold DOut
  go_enter Tryz.func105, Tryz.ntmps105
  go_wp2
  obtain ⟨⟨g0, g1, g2, g3, g4, g5⟩, ⟨q0, q1, q2, q3, q4, q5⟩⟩ := six (heap_alloc_new w zbox)
  unfold zbox at g0 g1 g2 g3 g4 g5
  refine bodyPost_ret (v := .tuple #[zeroRow, .bool false]) (by simp [results, Tryz.results105, go_sem, zeroRow, g0, g1, g2, g3, g4, g5]) rfl ?_
  exact ⟨(Below.refl _ _).alloc (Nat.le_refl _) _, rfl⟩

set_option maxHeartbeats 2000000 in
theorem rdecode_wide (b off c : Nat) (L : List Nat) (w : World) (hB : BC w w.heap.size (some ⟨b, off, none⟩) L) (hm : L.length ≤ maxLen) (h : 20 ≤ L.length) (m : Nat) (h19 : L[19]? = some m) (h4 : 4 < m) : Calls Tryz.prog 105 #[.slice (some ⟨b, off, none⟩) L.length c] w (DOut w none) := by
  obtain ⟨b', off', e, hb, hc⟩ := hB.2 (by omega)
  injection e with e; injection e with e1 e2; subst e1 e2
  have c19 := cell_on (hc 19 m h19) (.cells #[.float .f64 0, .bool false, .slice none 0 0, .int .i64 0, .int .i64 0, .int .i64 0] 30)
  have hm256 := hB.1 m (List.mem_of_getElem? h19)
  obtain ⟨n, hn⟩ : ∃ n, L.length = n := ⟨_, rfl⟩
  rw [hn] at h hm ⊢
  unfold maxLen at hm
  have f1 : decide ((n : Int) < 20) = false := by simp; omega
  have f2 : decide ((4 : Int) < (m : Int)) = true := by simp; omega
  have hsf := run_store_f64
  clear hB hc h19 hn
  unfold DOut
  go_enter Tryz.func105, Tryz.ntmps105
  go_wp2
  obtain ⟨⟨g0, g1, g2, g3, g4, g5⟩, ⟨q0, q1, q2, q3, q4, q5⟩⟩ := six (heap_alloc_new w zbox)
  unfold zbox at g0 g1 g2 g3 g4 g5
  refine bodyPost_ret (v := .tuple #[zeroRow, .bool false]) (by simp [results, Tryz.results105, go_sem, zeroRow, g0, g1, g2, g3, g4, g5]) rfl ?_
  exact ⟨(Below.refl _ _).alloc (Nat.le_refl _) _, rfl⟩
end Go.Proofs.YtdbnlngkmfmnnaaGreatDoor

/- humusref04.Decode: the kinds' loop; nothing taken. -/
namespace Go.Proofs.YtdbnlngkmfmnnaaGreatDoor
open Go.RowKit

def kinds (m : Nat) : List Nat := headK ++ List.replicate m 4
theorem kinds_len (m : Nat) : (kinds m).length = 6 + m := by unfold kinds; rw [List.length_append, List.length_replicate]; rfl
theorem kinds_succ (m : Nat) : kinds (m + 1) = kinds m ++ [4] := by unfold kinds; rw [List.replicate_succ', List.append_assoc]
theorem kinds_ok (m : Nat) : ∀ k ∈ kinds m, 1 ≤ k ∧ k ≤ 4 := by
  intro k hk
  unfold kinds headK at hk
  rcases List.mem_append.1 hk with hk | hk
  · simp only [List.mem_cons, List.not_mem_nil, or_false] at hk
    omega
  · rw [List.mem_replicate] at hk
    omega

/-- The taking within Decode. -/
theorem rtake_k {b off c n m : Nat} {L : List Nat} {w W : World} {v : Value} (hB : BC w w.heap.size (some ⟨b, off, none⟩) L) (hl : L.length = n) (hn : n ≤ 1000) (hc : n ≤ c) (hc2 : c ≤ 9223372036854775807) (hm : m ≤ 4) (hv : RK w v (kinds m) W) :
    ∃ A2 c2, v = .slice A2 (6 + m) c2 ∧ Calls Tryz.prog 133 #[.slice (some ⟨b, off, none⟩) n c, .slice A2 (6 + m) c2] W fun e w' => RK w v (kinds m) w' ∧ match takeAll L (kinds m) 0 with
      | some (l, a) => ∃ A c, e = .returned (.tuple #[.slice A l.length c, .int .i64 (a : Nat), .int .i64 0]) ∧ IX w' A l
      | none => e = .returned (.tuple #[.slice none 0 0, .int .i64 0, .int .i64 4]) := by
  subst hl
  obtain ⟨A, c2, e, hic⟩ := hv.reads
  rw [kinds_len] at e
  refine ⟨A, c2, e, ?_⟩
  have := rtake_any b off c c2 A L (kinds m) W ((hB.below hv.below).more hv.below.size) hic (kinds_ok m) hn (by rw [kinds_len]; omega) hc hc2
  rw [kinds_len] at this
  exact this.mono fun e w' ⟨h1, h2⟩ => ⟨hv.same h1, h2⟩

set_option maxHeartbeats 4000000 in
set_option maxRecDepth 100000 in
theorem rdecode_none (b off c : Nat) (L : List Nat) (w : World) (hB : BC w w.heap.size (some ⟨b, off, none⟩) L) (hn : L.length ≤ 1000) (h : 20 ≤ L.length) (hc : L.length ≤ c) (hc2 : c ≤ 9223372036854775807) (m : Nat) (h19 : L[19]? = some m) (h4 : m ≤ 4) (ho : takeAll L (kinds m) 0 = none) :
    Calls Tryz.prog 105 #[.slice (some ⟨b, off, none⟩) L.length c] w (DOut w none) := by
  obtain ⟨b', off', e, hb, hcl⟩ := hB.2 (by omega)
  injection e with e; injection e with e1 e2; subst e1 e2
  have c19 := hcl 19 m h19
  have hm256 := hB.1 m (List.mem_of_getElem? h19)
  obtain ⟨n, hln⟩ : ∃ n, L.length = n := ⟨_, rfl⟩
  rw [hln] at h hn hc ⊢
  have f1 : decide ((n : Int) < 20) = false := by simp; omega
  have f2 : decide ((4 : Int) < (m : Int)) = false := by simp; omega
  have f3 : (19 : Int) < (n : Int) := by omega
  have c19a := cell_on c19 zbox
  have C19 := Lib.hid c19
  have HBB := Lib.hid hb
  have RTK := Lib.hid (fun W v (hv : RK w v (kinds m) W) => by
    have := rtake_k hB hln hn hc hc2 h4 hv
    rw [ho] at this
    exact this)
  have HS := Lib.hid (RK.start w)
  have hsf := run_store_f64
  clear hB hcl h19 hln c19 hb ho
  unfold zbox at c19a
  unfold DOut
  go_enter Tryz.func105, Tryz.ntmps105
  go_wp2
  go_loopw [5, 4] (fun i v wr => ∃ (j : Nat) (A2 : Option Addr) (c2 : Nat), j ≤ m ∧ i = .int .i64 j ∧ v = .slice A2 (6 + j) c2 ∧ RK w v (kinds j) wr) (fun i _ _ => m - (intOf i).toNat)
  case atStart => exact ⟨0, _, _, Nat.zero_le _, rfl, rfl, HS.out⟩
  case round =>
    obtain ⟨j, A2, c2, hj, rfl, rfl, hrk⟩ := hrel
    have c19b := (hrk.below.cell (p := ⟨b, off + 19, none⟩) HBB.out).trans C19.out
    by_cases hlt : j < m
    · have HRK := Lib.hid hrk
      have HLN := Lib.hid (kinds_len j)
      clear hrk
      go_wp2_with (at_builtin; go_loud (refine put_k (v := .slice A2 (6 + j) c2) rfl (.tmp 30) (.tmp 31) rfl HRK.out (by simp [Act.eval, Act.put]) (by simp [Act.eval, Act.put]) HLN.out (by omega) ?_); rintro g5 cap5 w5 hr5; have HR5 := Lib.hid hr5; clear hr5)
      exact ⟨⟨j + 1, _, _, by omega, by go_num, rfl, by rw [kinds_succ]; exact HR5.out⟩, by simp [intOf]; omega⟩
    · have hjn : j = m := by omega
      subst hjn
      obtain ⟨A3, c3, e3, hc3⟩ := RTK.out _ _ hrk
      injection e3 with e3 _ e4
      subst e3 e4
      have HC3 := Lib.hid hc3
      clear hc3 hrk
      go_wp2_with (go_at_call 133; (with_reducible refine HC3.out.mono ?_); rintro e w1 ⟨hrk, rfl⟩; obtain ⟨⟨g0, g1, g2, g3, g4, g5⟩, ⟨q0, q1, q2, q3, q4, q5⟩⟩ := six hrk.box; have HRK := Lib.hid hrk; clear hrk)
      refine bodyPost_ret (v := .tuple #[zeroRow, .bool false]) (by simp [results, Tryz.results105, go_sem, zeroRow, g0, g1, g2, g3, g4, g5]) rfl ?_
      first
        | exact ⟨below_six HRK.out.below (Nat.le_refl _) _ (Nat.le_refl _) _ _ _ _ _ _, rfl⟩
        | exact ⟨HRK.out.below, rfl⟩
        | trace_state
end Go.Proofs.YtdbnlngkmfmnnaaGreatDoor
