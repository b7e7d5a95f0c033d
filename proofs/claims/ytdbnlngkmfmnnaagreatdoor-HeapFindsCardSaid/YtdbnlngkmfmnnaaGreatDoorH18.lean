/- heap.Get. -/
import Derived.Test.YtdbnlngkmfmnnaaGreatDoorH17
import Derived.Test.YtdbnlngkmfmnnaaGreatDoorH14
import Derived.Deep.Upon
namespace Go.Proofs.YtdbnlngkmfmnnaaGreatDoor
open Go.RowKit

/-- What heap.Get answers. -/
def HGet (w : World) (o : Option RowD) (e : Ending) (w' : World) : Prop := Below w.heap.size w w' ∧ match o with
  | some d => ∃ A c, e = .returned (.tuple #[.agg (d.cells A c), .bool true]) ∧ FN w w' A d.cols ∧ d.cols.length ≤ c ∧ (A = none → c = 0) ∧ d.key < 18446744073709551616
  | none => e = .returned (.tuple #[zeroRow, .bool false])
noncomputable def getH (l : List LeafD) (x y : Int) : Option RowD := if okHeapB l = true then getL l x y else none

theorem slotAt_mem {l : List LeafD} {x y : Int} {s : List Nat} (h : slotAt l x y = some s) : ∃ d ∈ l, s ∈ d.slots := by
  unfold slotAt at h
  by_cases h0 : x < 0 ∨ y < 0
  · rw [if_pos h0] at h; cases h
  · rw [if_neg h0, Option.bind_eq_some_iff] at h
    obtain ⟨d, h1, h2⟩ := h
    exact ⟨d, List.mem_of_getElem? h1, List.mem_of_getElem? h2⟩
theorem get_ok {A : Option Addr} {c n : Nat} {x y : Int} {l : List LeafD} {w : World} (h : LC w w.heap.size A l) (hn : l.length = n) (hok : OkHeap l) :
    Calls Tryz.prog 53 #[.slice A n c, .agg #[.int .i64 x, .int .i64 y]] w fun e w' => ∃ (d : RowD) (b : Bool) (A' : Option Addr) (c' : Nat), e = .returned (.tuple #[.agg #[.float .f64 d.key, .bool d.dead, .slice A' d.cols.length c', .int .i64 d.wr, .int .i64 d.rc, .int .i64 d.rn], .bool b]) ∧ Below w.heap.size w w' ∧ Hid (match getL l x y with
      | some d' => b = true ∧ d = d' ∧ FN w w' A' d.cols ∧ d.cols.length ≤ c' ∧ (A' = none → c' = 0) ∧ d.key < 18446744073709551616
      | none => b = false ∧ d = zeroD ∧ A' = none ∧ c' = 0) := by
  subst hn
  refine (get_any A c x y l w h (fun d hd s hs => by have := (hok.2.2.1 d hd).1.2.2.2.2.1 s hs; omega) (by unfold maxLen; have := hok.2.1; omega)).mono fun e w' hh => ?_
  obtain ⟨h1, h2⟩ := hh
  cases hg : getL l x y with
  | some d =>
    rw [hg] at h2
    obtain ⟨A', c', rfl, h3, h4, h5, h6⟩ := h2
    exact ⟨d, true, A', c', rfl, h1, rfl, rfl, h3, h4, h5, h6⟩
  | none =>
    rw [hg] at h2
    obtain ⟨d, A', c', rfl, h3, h4⟩ := h2
    obtain ⟨q1, q2, q3⟩ := h4 (fun s hs h52 => by
      obtain ⟨d', hd', hs'⟩ := slotAt_mem hs
      obtain ⟨r, hr⟩ := (hok.2.2.1 d' hd').2 s hs' (by omega)
      unfold getL at hg
      rw [hs, Option.bind_some, hr] at hg
      cases hg)
    exact ⟨d, false, A', c', rfl, h1, rfl, q1, q2, q3⟩

set_option maxHeartbeats 4000000 in
set_option maxRecDepth 100000 in
theorem hget_any (A : Option Addr) (c : Nat) (x y : Int) (l : List LeafD) (w : World) (h : LC w w.heap.size A l) (m : l.length ≤ maxLen) :
    Calls Tryz.prog 18 #[.slice A l.length c, .agg #[.int .i64 x, .int .i64 y]] w (HGet w (getH l x y)) := by
  have hb0 : Below w.heap.size w ((w.alloc (.cells #[.int .i64 x, .int .i64 y] 33)).alloc zbox) := ((Below.refl _ _).alloc (Nat.le_refl _) _).alloc (by simp) _
  have ck := check_any A c l _ ((h.below hb0).more hb0.size) m
  obtain ⟨z0, z1⟩ := two_zero w x y
  have hsz : ((w.alloc (.cells #[.int .i64 x, .int .i64 y] 33)).alloc zbox).heap.size = w.heap.size + 1 + 1 := by simp
  obtain ⟨n, hn⟩ : ∃ n, l.length = n := ⟨_, rfl⟩
  rw [hn] at ck ⊢
  have hsf := run_store_f64
  cases hok : okHeapB l with
  | false =>
    rw [hok] at ck
    have HG : Hid (getH l x y = none) := by unfold getH; rw [hok]; rfl
    have CK : Hid (Calls Tryz.prog 19 #[.slice A n c] ((w.alloc (.cells #[.int .i64 x, .int .i64 y] 33)).alloc zbox) fun e w' => e = .returned (.int .i64 1) ∧ Below w.heap.size w w' ∧ w'.heap[w.heap.size + 1]? = some zbox) := ck.mono fun e w' hh => ⟨hh.1, hb0.trans (hh.2.mono hb0.size), (hh.2.block _ (by rw [hsz]; omega)).trans z1⟩
    clear ck hok h m hn hb0 z0 z1 hsz
    unfold zbox at CK
    go_enter Tryz.func18, Tryz.ntmps18
    go_wp2_with (go_at_call 19; (with_reducible refine CK.out.mono ?_); rintro e w1 ⟨rfl, hb1, hk⟩; obtain ⟨⟨g0, g1, g2, g3, g4, g5⟩, ⟨q0, q1, q2, q3, q4, q5⟩⟩ := six hk; have HB1 := Lib.hid hb1; clear hb1 hk)
    refine bodyPost_ret (v := .tuple #[zeroRow, .bool false]) (by simp [results, Tryz.results18, go_sem, zeroRow, g0, g1, g2, g3, g4, g5]) rfl ?_
    unfold HGet
    rw [HG.out]
    exact ⟨below_six HB1.out (Nat.le_refl _) (w.heap.size + 1) (Nat.le_succ _) _ _ _ _ _ _, rfl⟩
  | true =>
    rw [hok] at ck
    have hoh : OkHeap l := chk_iff.1 hok
    have HG : Hid (getH l x y = getL l x y) := by unfold getH; rw [hok]; rfl
    have CK : Hid (Calls Tryz.prog 19 #[.slice A n c] ((w.alloc (.cells #[.int .i64 x, .int .i64 y] 33)).alloc zbox) fun e w' => e = .returned (.int .i64 0) ∧ Below w.heap.size w w' ∧ w'.heap[w.heap.size + 1]? = some zbox ∧ w'.heap[w.heap.size]? = some (.cells #[.int .i64 x, .int .i64 y] 33 (0, 0))) := ck.mono fun e w' hh => ⟨hh.1, hb0.trans (hh.2.mono hb0.size), (hh.2.block _ (by rw [hsz]; omega)).trans z1, (hh.2.block _ (by rw [hsz]; omega)).trans z0⟩
    have CG := Lib.hid (fun W (hb : Below w.heap.size w W) => get_ok (c := c) (x := x) (y := y) ((h.below hb).more hb.size) hn hoh)
    clear ck hok h m hn hb0 z0 z1 hsz hoh
    unfold zbox at CK
    go_enter Tryz.func18, Tryz.ntmps18
    go_wp2_with (first
      | (go_at_call 19; (with_reducible refine CK.out.mono ?_); rintro e w1 ⟨rfl, hb1, hk, hk0⟩; have HB1 := Lib.hid hb1; have HK := Lib.hid hk; obtain ⟨⟨d0, d1⟩, _⟩ := two_cells hk0; clear hb1 hk hk0)
      | (go_at_call 53; (with_reducible refine (CG.out _ HB1.out).mono ?_); rintro e w2 ⟨d, bb, A', c', rfl, hb2, ht⟩; obtain ⟨⟨g0, g1, g2, g3, g4, g5⟩, ⟨q0, q1, q2, q3, q4, q5⟩⟩ := six ((hb2.block _ (Array.getElem?_eq_some_iff.1 HK.out).1).trans HK.out); have HB2 := Lib.hid hb2; clear hb2))
    refine bodyPost_ret (v := .tuple #[.agg #[.float .f64 d.key, .bool d.dead, .slice A' d.cols.length c', .int .i64 d.wr, .int .i64 d.rc, .int .i64 d.rn], .bool bb]) (by simp [results, Tryz.results18, go_sem, g0, g1, g2, g3, g4, g5]) rfl ?_
    have hlt : w.heap.size + 1 < w1.heap.size := (Array.getElem?_eq_some_iff.1 HK.out).1
    refine ⟨below_six (HB1.out.trans (HB2.out.mono HB1.out.size)) (Nat.le_refl _) (w.heap.size + 1) (Nat.le_succ _) _ _ _ _ _ _, ?_⟩
    rw [HG.out]
    have ht := ht.out
    cases hg : getL l x y with
    | some d' =>
      rw [hg] at ht
      obtain ⟨rfl, rfl, h3, h4, h5, h6⟩ := ht
      exact ⟨A', c', rfl, (h3.six hlt _ _ _ _ _ _).early HB1.out.size, h4, h5, h6⟩
    | none =>
      rw [hg] at ht
      obtain ⟨rfl, rfl, rfl, rfl⟩ := ht
      exact rfl
end Go.Proofs.YtdbnlngkmfmnnaaGreatDoor

/- heap.Find: the closure. -/
namespace Go.Proofs.YtdbnlngkmfmnnaaGreatDoor
open Go.RowKit

theorem set_six {W : World} {b : Nat} {a0 a1 a2 a3 a4 a5 v0 v1 v2 v3 v4 v5 : Value} {t : TypeId} (h : W.heap[b]? = some (.cells #[a0, a1, a2, a3, a4, a5] t (0, 0))) :
    ((((((W.setCell ⟨b, 0, none⟩ v0).setCell ⟨b, 1, none⟩ v1).setCell ⟨b, 2, none⟩ v2).setCell ⟨b, 3, none⟩ v3).setCell ⟨b, 4, none⟩ v4).setCell ⟨b, 5, none⟩ v5).heap[b]? = some (.cells #[v0, v1, v2, v3, v4, v5] t (0, 0)) := by
  have h0 : (W.setCell ⟨b, 0, none⟩ v0).heap[b]? = some (.cells #[v0, a1, a2, a3, a4, a5] t (0, 0)) := by rw [heap_setCell_same _ _ _ _ _ _ h]; rfl
  have h1 : ((W.setCell ⟨b, 0, none⟩ v0).setCell ⟨b, 1, none⟩ v1).heap[b]? = some (.cells #[v0, v1, a2, a3, a4, a5] t (0, 0)) := by rw [heap_setCell_same _ _ _ _ _ _ h0]; rfl
  have h2 : (((W.setCell ⟨b, 0, none⟩ v0).setCell ⟨b, 1, none⟩ v1).setCell ⟨b, 2, none⟩ v2).heap[b]? = some (.cells #[v0, v1, v2, a3, a4, a5] t (0, 0)) := by rw [heap_setCell_same _ _ _ _ _ _ h1]; rfl
  have h3 : ((((W.setCell ⟨b, 0, none⟩ v0).setCell ⟨b, 1, none⟩ v1).setCell ⟨b, 2, none⟩ v2).setCell ⟨b, 3, none⟩ v3).heap[b]? = some (.cells #[v0, v1, v2, v3, a4, a5] t (0, 0)) := by rw [heap_setCell_same _ _ _ _ _ _ h2]; rfl
  have h4 : (((((W.setCell ⟨b, 0, none⟩ v0).setCell ⟨b, 1, none⟩ v1).setCell ⟨b, 2, none⟩ v2).setCell ⟨b, 3, none⟩ v3).setCell ⟨b, 4, none⟩ v4).heap[b]? = some (.cells #[v0, v1, v2, v3, v4, a5] t (0, 0)) := by rw [heap_setCell_same _ _ _ _ _ _ h3]; rfl
  rw [heap_setCell_same _ _ _ _ _ _ h4]; rfl

/-- The boxes of Find: the key, the row, the berth, whether it was found. -/
structure FB (B key : Nat) (row : Array Value) (x y : Int) (ok : Bool) (w : World) : Prop where
  k0 : w.heap[B]? = some (.cells #[.float .f64 key] 25 (0, 0))
  k1 : w.heap[B + 1]? = some (.cells row 30 (0, 0))
  k2 : w.heap[B + 2]? = some (.cells #[.int .i64 x, .int .i64 y] 33 (0, 0))
  k3 : w.heap[B + 3]? = some (.cells #[.bool ok] 4 (0, 0))
def zrow : Array Value := #[.float .f64 0, .bool false, .slice none 0 0, .int .i64 0, .int .i64 0, .int .i64 0]
theorem FB.lt {B key : Nat} {row : Array Value} {x y : Int} {ok : Bool} {w : World} (h : FB B key row x y ok w) : B + 3 < w.heap.size := (Array.getElem?_eq_some_iff.1 h.k3).1
theorem FB.on {B key : Nat} {row : Array Value} {x y : Int} {ok : Bool} {w w' : World} (h : FB B key row x y ok w) (hb : Below w.heap.size w w') : FB B key row x y ok w' := by
  have := h.lt
  exact ⟨(hb.block _ (by omega)).trans h.k0, (hb.block _ (by omega)).trans h.k1, (hb.block _ (by omega)).trans h.k2, (hb.block _ (by omega)).trans h.k3⟩

/-- Old blocks but for the three boxes stand. -/
def But3 (B : Nat) (w w' : World) : Prop := Below (B + 1) w w' ∧ ∀ k, k < w.heap.size → B + 3 < k → w'.heap[k]? = w.heap[k]?

theorem But3.drew {B : Nat} {w w' : World} (h : But3 B w w') : But3 B w w'.drew := ⟨h.1.drew, h.2⟩
theorem FB.drew {B key : Nat} {row : Array Value} {x y : Int} {ok : Bool} {w : World} (h : FB B key row x y ok w) : FB B key row x y ok w.drew := ⟨h.k0, h.k1, h.k2, h.k3⟩
theorem two_other {W : World} {B k : Nat} (h2 : k ≠ B + 2) (h3 : k ≠ B + 3) (u0 u1 o0 : Value) : (((W.setCell ⟨B + 2, 0, none⟩ u0).setCell ⟨B + 2, 1, none⟩ u1).setCell ⟨B + 3, 0, none⟩ o0).heap[k]? = W.heap[k]? := by
  rw [Below.heap_setCell _ _ _ _ h3, Below.heap_setCell _ _ _ _ h2, Below.heap_setCell _ _ _ _ h2]
theorem six_other {W : World} {b k : Nat} (h1 : k ≠ b) (v0 v1 v2 v3 v4 v5 : Value) :
    ((((((W.setCell ⟨b, 0, none⟩ v0).setCell ⟨b, 1, none⟩ v1).setCell ⟨b, 2, none⟩ v2).setCell ⟨b, 3, none⟩ v3).setCell ⟨b, 4, none⟩ v4).setCell ⟨b, 5, none⟩ v5).heap[k]? = W.heap[k]? := by
  rw [Below.heap_setCell _ _ _ _ h1, Below.heap_setCell _ _ _ _ h1, Below.heap_setCell _ _ _ _ h1, Below.heap_setCell _ _ _ _ h1, Below.heap_setCell _ _ _ _ h1, Below.heap_setCell _ _ _ _ h1]
theorem set_three {W : World} {B : Nat} {a0 a1 b0 : Value} {t2 t3 : TypeId} (h2 : W.heap[B + 2]? = some (.cells #[a0, a1] t2 (0, 0))) (h3 : W.heap[B + 3]? = some (.cells #[b0] t3 (0, 0))) (u0 u1 o0 : Value) :
    (((W.setCell ⟨B + 2, 0, none⟩ u0).setCell ⟨B + 2, 1, none⟩ u1).setCell ⟨B + 3, 0, none⟩ o0).heap[B + 2]? = some (.cells #[u0, u1] t2 (0, 0)) ∧ (((W.setCell ⟨B + 2, 0, none⟩ u0).setCell ⟨B + 2, 1, none⟩ u1).setCell ⟨B + 3, 0, none⟩ o0).heap[B + 3]? = some (.cells #[o0] t3 (0, 0)) := by
  have e : B + 2 ≠ B + 3 := by omega
  have e' : B + 3 ≠ B + 2 := by omega
  constructor
  · rw [Below.heap_setCell _ _ _ _ e]
    have h1' := heap_setCell_same _ (B + 2) 0 _ _ u0 h2
    exact heap_setCell_same _ (B + 2) 1 _ _ u1 h1'
  · refine heap_setCell_same _ (B + 3) 0 #[b0] t3 o0 ?_
    rw [Below.heap_setCell _ _ _ _ e', Below.heap_setCell _ _ _ _ e']
    exact h3
theorem below_three {w W : World} {B : Nat} (h : Below (B + 1) w W) (u0 u1 o0 : Value) : Below (B + 1) w (((W.setCell ⟨B + 2, 0, none⟩ u0).setCell ⟨B + 2, 1, none⟩ u1).setCell ⟨B + 3, 0, none⟩ o0) :=
  ((h.setCell (p := ⟨B + 2, 0, none⟩) (Nat.le_succ _) _).setCell (p := ⟨B + 2, 1, none⟩) (Nat.le_succ _) _).setCell (p := ⟨B + 3, 0, none⟩) (by show B + 1 ≤ B + 3; omega) _
theorem find_end {w W : World} {B key : Nat} (hF : FB B key zrow 0 0 false W) (hb : Below w.heap.size w W) (hl : B + 3 < w.heap.size) (key2 : Nat) (dead : Bool) (s : Value) (wr rc rn x y : Int) :
    But3 B w (((((((((W.setCell ⟨B + 1, 0, none⟩ (.float .f64 key2)).setCell ⟨B + 1, 1, none⟩ (.bool dead)).setCell ⟨B + 1, 2, none⟩ s).setCell ⟨B + 1, 3, none⟩ (.int .i64 wr)).setCell ⟨B + 1, 4, none⟩ (.int .i64 rc)).setCell ⟨B + 1, 5, none⟩ (.int .i64 rn)).setCell ⟨B + 2, 0, none⟩ (.int .i64 x)).setCell ⟨B + 2, 1, none⟩ (.int .i64 y)).setCell ⟨B + 3, 0, none⟩ (.bool true)) ∧ FB B key #[.float .f64 key2, .bool dead, s, .int .i64 wr, .int .i64 rc, .int .i64 rn] x y true (((((((((W.setCell ⟨B + 1, 0, none⟩ (.float .f64 key2)).setCell ⟨B + 1, 1, none⟩ (.bool dead)).setCell ⟨B + 1, 2, none⟩ s).setCell ⟨B + 1, 3, none⟩ (.int .i64 wr)).setCell ⟨B + 1, 4, none⟩ (.int .i64 rc)).setCell ⟨B + 1, 5, none⟩ (.int .i64 rn)).setCell ⟨B + 2, 0, none⟩ (.int .i64 x)).setCell ⟨B + 2, 1, none⟩ (.int .i64 y)).setCell ⟨B + 3, 0, none⟩ (.bool true)) := by
  have h1 : B + 1 ≤ w.heap.size := by omega
  obtain ⟨W6, hW6⟩ : ∃ W6, ((((((W.setCell ⟨B + 1, 0, none⟩ (.float .f64 key2)).setCell ⟨B + 1, 1, none⟩ (.bool dead)).setCell ⟨B + 1, 2, none⟩ s).setCell ⟨B + 1, 3, none⟩ (.int .i64 wr)).setCell ⟨B + 1, 4, none⟩ (.int .i64 rc)).setCell ⟨B + 1, 5, none⟩ (.int .i64 rn)) = W6 := ⟨_, rfl⟩
  have q := below_six (hb.mono h1) h1 (B + 1) (Nat.le_refl _) (.float .f64 key2) (.bool dead) s (.int .i64 wr) (.int .i64 rc) (.int .i64 rn)
  have h6 := set_six (v0 := .float .f64 key2) (v1 := .bool dead) (v2 := s) (v3 := .int .i64 wr) (v4 := .int .i64 rc) (v5 := .int .i64 rn) hF.k1
  have ho : ∀ k, k ≠ B + 1 → W6.heap[k]? = W.heap[k]? := fun k hk => by rw [← hW6]; exact six_other hk (.float .f64 key2) (.bool dead) s (.int .i64 wr) (.int .i64 rc) (.int .i64 rn)
  rw [hW6] at q h6 ⊢
  have k2 := (ho (B + 2) (by omega)).trans hF.k2
  have k3 := (ho (B + 3) (by omega)).trans hF.k3
  obtain ⟨s2, s3⟩ := set_three k2 k3 (.int .i64 x) (.int .i64 y) (.bool true)
  refine ⟨⟨below_three q _ _ _, fun k hk hk3 => ?_⟩, ?_, ?_, s2, s3⟩
  · exact (two_other (by omega) (by omega) _ _ _).trans ((ho k (by omega)).trans (hb.block k hk))
  · exact (two_other (by omega) (by omega) _ _ _).trans ((ho B (by omega)).trans hF.k0)
  · exact (two_other (by omega) (by omega) _ _ _).trans h6

set_option maxHeartbeats 4000000 in
set_option maxRecDepth 100000 in
theorem find1_yes (B key : Nat) (d : RowD) (A : Option Addr) (c : Nat) (x y : Int) (w : World) (h : FB B key zrow 0 0 false w) (bk : d.key < 18446744073709551616) (bq : key < 18446744073709551616) (hr : d.rank = rankN key) :
    Calls Tryz.prog 52 #[.agg (d.cells A c), .agg #[.int .i64 x, .int .i64 y], .pointer (some ⟨B, 0, none⟩), .pointer (some ⟨B + 1, 0, none⟩), .pointer (some ⟨B + 2, 0, none⟩), .pointer (some ⟨B + 3, 0, none⟩)] w fun e w' =>
      e = .returned (.bool false) ∧ But3 B w w' ∧ FB B key (d.cells A c) x y true w' := by
  unfold RowD.rank at hr
  have cc := compare_any d.key key bk bq
  have hsf := run_store_f64
  have hlt := h.lt
  have hb0 : Below w.heap.size w ((w.alloc (.cells (d.cells A c) 30)).alloc (.cells #[.int .i64 x, .int .i64 y] 33)) := ((Below.refl _ _).alloc (Nat.le_refl _) _).alloc (by simp) _
  have hF := h.on hb0
  have g0 := cell_of_row _ B 0 _ _ _ hF.k0
  simp only [List.getElem?_toArray, List.getElem?_cons_zero] at g0
  obtain ⟨⟨r0, r1, r2, r3, r4, r5⟩, ⟨q0, q1, q2, q3, q4, q5⟩⟩ := six hF.k1
  obtain ⟨⟨t0, t1⟩, ⟨p0, p1⟩⟩ := two_cells hF.k2
  have o0 := cell_of_row _ (B + 3) 0 _ _ _ hF.k3
  have o1 := frozen_of_row _ (B + 3) 0 _ _ hF.k3
  simp only [List.getElem?_toArray, List.getElem?_cons_zero] at o0
  have HF := Lib.hid hF
  have HB0 := Lib.hid hb0
  have HLT := Lib.hid hlt
  obtain ⟨key2, dead, cols, wr, rc, rn⟩ := d
  unfold RowD.cells at *
  simp only at *
  unfold cmpZ at cc
  have n1 : ¬ B + 1 = w.heap.size := by omega
  have n2 : ¬ B + 1 = w.heap.size + 1 := by omega
  have n3 : ¬ B + 2 = w.heap.size := by omega
  have n4 : ¬ B + 2 = w.heap.size + 1 := by omega
  have n5 : ¬ B + 3 = w.heap.size := by omega
  have n6 : ¬ B + 3 = w.heap.size + 1 := by omega
  have n7 : ¬ w.heap.size = B + 1 := by omega
  have n8 : ¬ w.heap.size + 1 = B + 1 := by omega
  have n9 : ¬ w.heap.size = B + 2 := by omega
  have n10 : ¬ w.heap.size + 1 = B + 2 := by omega
  clear h hF hb0 hlt bk bq
  rw [if_neg (by omega), if_neg (by omega)] at cc
  clear hr
  go_enter Tryz.func52, Tryz.ntmps52
  go_wp2_with (go_at_call 51; (with_reducible refine (cc _).mono ?_); rintro e w' ⟨rfl, rfl⟩)
  go_region
  all_goals
    go_wp2
    go_ret
    have hfe := find_end HF.out HB0.out HLT.out key2 dead (.slice A cols.length c) wr rc rn x y
    exact ⟨rfl, hfe.1.drew, hfe.2.drew⟩

set_option maxHeartbeats 4000000 in
set_option maxRecDepth 100000 in
theorem find1_no (B key : Nat) (d : RowD) (A : Option Addr) (c : Nat) (x y : Int) (w : World) (h : FB B key zrow 0 0 false w) (bk : d.key < 18446744073709551616) (bq : key < 18446744073709551616) (hr : ¬ d.rank = rankN key) :
    Calls Tryz.prog 52 #[.agg (d.cells A c), .agg #[.int .i64 x, .int .i64 y], .pointer (some ⟨B, 0, none⟩), .pointer (some ⟨B + 1, 0, none⟩), .pointer (some ⟨B + 2, 0, none⟩), .pointer (some ⟨B + 3, 0, none⟩)] w fun e w' =>
      e = .returned (.bool true) ∧ Below w.heap.size w w' := by
  unfold RowD.rank at hr
  have cc := compare_any d.key key bk bq
  have hsf := run_store_f64
  have hlt := h.lt
  have hb0 : Below w.heap.size w ((w.alloc (.cells (d.cells A c) 30)).alloc (.cells #[.int .i64 x, .int .i64 y] 33)) := ((Below.refl _ _).alloc (Nat.le_refl _) _).alloc (by simp) _
  have hF := h.on hb0
  have g0 := cell_of_row _ B 0 _ _ _ hF.k0
  simp only [List.getElem?_toArray, List.getElem?_cons_zero] at g0
  obtain ⟨⟨r0, r1, r2, r3, r4, r5⟩, ⟨q0, q1, q2, q3, q4, q5⟩⟩ := six hF.k1
  obtain ⟨⟨t0, t1⟩, ⟨p0, p1⟩⟩ := two_cells hF.k2
  have o0 := cell_of_row _ (B + 3) 0 _ _ _ hF.k3
  have o1 := frozen_of_row _ (B + 3) 0 _ _ hF.k3
  simp only [List.getElem?_toArray, List.getElem?_cons_zero] at o0
  have HF := Lib.hid hF
  have HB0 := Lib.hid hb0
  have HLT := Lib.hid hlt
  obtain ⟨key2, dead, cols, wr, rc, rn⟩ := d
  unfold RowD.cells at *
  simp only at *
  unfold cmpZ at cc
  have n1 : ¬ B + 1 = w.heap.size := by omega
  have n2 : ¬ B + 1 = w.heap.size + 1 := by omega
  have n3 : ¬ B + 2 = w.heap.size := by omega
  have n4 : ¬ B + 2 = w.heap.size + 1 := by omega
  have n5 : ¬ B + 3 = w.heap.size := by omega
  have n6 : ¬ B + 3 = w.heap.size + 1 := by omega
  have n7 : ¬ w.heap.size = B + 1 := by omega
  have n8 : ¬ w.heap.size + 1 = B + 1 := by omega
  have n9 : ¬ w.heap.size = B + 2 := by omega
  have n10 : ¬ w.heap.size + 1 = B + 2 := by omega
  clear h hF hb0 hlt bk bq
  by_cases h1 : rankN key2 < rankN key
  · rw [if_pos h1] at cc
    clear hr h1
    go_enter Tryz.func52, Tryz.ntmps52
    go_wp2_with (go_at_call 51; (with_reducible refine (cc _).mono ?_); rintro e w' ⟨rfl, rfl⟩)
    go_ret
    exact ⟨rfl, HB0.out⟩
  · rw [if_neg h1, if_pos (by omega)] at cc
    clear hr h1
    go_enter Tryz.func52, Tryz.ntmps52
    go_wp2_with (go_at_call 51; (with_reducible refine (cc _).mono ?_); rintro e w' ⟨rfl, rfl⟩)
    go_ret
    exact ⟨rfl, HB0.out⟩
end Go.Proofs.YtdbnlngkmfmnnaaGreatDoor

/- heap.all, with the closure of Find. -/
namespace Go.Proofs.YtdbnlngkmfmnnaaGreatDoor
open Go.RowKit

def rkP (key : Nat) (p : RowD × Nat × Nat) : Bool := decide (p.1.rank = rankN key)
/-- What Find has in its boxes at last. -/
def Found (B key : Nat) (o : Option (RowD × Nat × Nat)) (w w' : World) : Prop := Below (B + 1) w w' ∧ match o with
  | some (d, i, k) => ∃ A c, FB B key (d.cells A c) (i : Nat) (k : Nat) true w' ∧ FN w w' A d.cols ∧ d.cols.length ≤ c ∧ (A = none → c = 0) ∧ d.key < 18446744073709551616
  | none => FB B key zrow 0 0 false w'

theorem allS_append (i : Nat) (a b : List (List Nat)) : ∃ r, allS i (a ++ b) = allS i a ++ r := by
  unfold allS
  rw [List.zipIdx_append, List.filterMap_append]
  exact ⟨_, rfl⟩
theorem allL_append (a b : List LeafD) : ∃ r, allL (a ++ b) = allL a ++ r := by
  unfold allL
  rw [List.zipIdx_append, List.flatMap_append]
  exact ⟨_, rfl⟩
theorem ahead_prefix {l : List LeafD} {j k : Nat} {d : LeafD} (hd : l[j]? = some d) : ∃ r, allL l = ahead l j d.slots k ++ r := by
  obtain ⟨r1, h1⟩ := allL_append (l.take (j + 1)) (l.drop (j + 1))
  obtain ⟨r2, h2⟩ := allS_append j (d.slots.take k) (d.slots.drop k)
  rw [List.take_append_drop] at h1 h2
  refine ⟨r2 ++ r1, ?_⟩
  rw [h1, allL_step hd, h2]
  unfold ahead
  simp only [List.append_assoc]
theorem found_at {l : List LeafD} {j k : Nat} {d : LeafD} {x : RowD} {key : Nat} (hd : l[j]? = some d) (_hk : k < d.slots.length) (hn : (ahead l j d.slots k).find? (rkP key) = none) (he : ahead l j d.slots (k + 1) = ahead l j d.slots k ++ [(x, j, k)]) (hr : x.rank = rankN key) : findP (rkP key) l = some (x, j, k) := by
  obtain ⟨r, h⟩ := ahead_prefix (k := k + 1) hd
  unfold findP
  rw [h, he, List.find?_append, List.find?_append, hn, Option.none_or, List.find?_cons_of_pos (by unfold rkP; exact decide_eq_true hr)]
  rfl

theorem found_c {w wr w2 : World} {o : Obj} {B key c : Nat} {x y : Int} {d : RowD} {A : Option Addr} (hf : FB B key zrow 0 0 false w) (hb0 : Below w.heap.size w wr) (hb : Below wr.heap.size wr (wr.alloc o)) (hb3 : Below (wr.alloc o).heap.size (wr.alloc o) w2) (ht : FN (wr.alloc o) w2 A d.cols ∧ d.cols.length ≤ c ∧ (A = none → c = 0) ∧ d.key < 18446744073709551616) (hr : d.rank = rankN key) (bq : key < 18446744073709551616) {i k : Nat} (hx : x = i) (hy : y = k) :
    Calls Tryz.prog 52 #[.agg #[.float .f64 d.key, .bool d.dead, .slice A d.cols.length c, .int .i64 d.wr, .int .i64 d.rc, .int .i64 d.rn], .agg #[.int .i64 x, .int .i64 y], .pointer (some ⟨B, 0, none⟩), .pointer (some ⟨B + 1, 0, none⟩), .pointer (some ⟨B + 2, 0, none⟩), .pointer (some ⟨B + 3, 0, none⟩)] (w2.alloc (.cells #[.float .f64 d.key, .bool d.dead, .slice A d.cols.length c, .int .i64 d.wr, .int .i64 d.rc, .int .i64 d.rn] 30))
      fun e w' => e = .returned (.bool false) ∧ Found B key (some (d, i, k)) w w' := by
  have hbz : Below wr.heap.size wr (w2.alloc (.cells #[.float .f64 d.key, .bool d.dead, .slice A d.cols.length c, .int .i64 d.wr, .int .i64 d.rc, .int .i64 d.rn] 30)) := (hb.trans (hb3.mono hb.size)).alloc (Nat.le_trans hb.size hb3.size) _
  have hbw : Below w.heap.size w (w2.alloc (.cells #[.float .f64 d.key, .bool d.dead, .slice A d.cols.length c, .int .i64 d.wr, .int .i64 d.rc, .int .i64 d.rn] 30)) := hb0.trans (hbz.mono hb0.size)
  have hl := hf.lt
  refine (find1_yes B key d A c x y _ (hf.on hbw) ht.2.2.2 bq hr).mono fun e w' hh => ?_
  obtain ⟨h1, ⟨h2, h3⟩, h4⟩ := hh
  subst hx hy
  refine ⟨h1, (hbw.mono (by omega)).trans h2, A, c, h4, ⟨ht.1.1, fun hp => ?_⟩, ht.2.1, ht.2.2.1, ht.2.2.2⟩
  obtain ⟨b, off, e, q1, q2, q3⟩ := ht.1.2 hp
  have hw1 : w.heap.size ≤ b := Nat.le_trans (Nat.le_trans hb0.size hb.size) q1
  have q2' : b < (w2.alloc (.cells #[.float .f64 d.key, .bool d.dead, .slice A d.cols.length c, .int .i64 d.wr, .int .i64 d.rc, .int .i64 d.rn] 30)).heap.size := by simp; omega
  refine ⟨b, off, e, hw1, Nat.lt_of_lt_of_le q2' h2.size, fun j v hv => ?_⟩
  have := q3 j v hv
  have e3 := (h3 b q2' (by omega)).trans (Below.heap_alloc w2 _ b q2)
  unfold World.cell? at this ⊢
  rw [e3]
  exact this
theorem missed_c {w wr w2 : World} {o : Obj} {B key c : Nat} {x y : Int} {d : RowD} {A : Option Addr} (hf : FB B key zrow 0 0 false w) (hb0 : Below w.heap.size w wr) (hb : Below wr.heap.size wr (wr.alloc o)) (hb3 : Below (wr.alloc o).heap.size (wr.alloc o) w2) (ht : FN (wr.alloc o) w2 A d.cols ∧ d.cols.length ≤ c ∧ (A = none → c = 0) ∧ d.key < 18446744073709551616) (hr : ¬ d.rank = rankN key) (bq : key < 18446744073709551616) :
    Calls Tryz.prog 52 #[.agg #[.float .f64 d.key, .bool d.dead, .slice A d.cols.length c, .int .i64 d.wr, .int .i64 d.rc, .int .i64 d.rn], .agg #[.int .i64 x, .int .i64 y], .pointer (some ⟨B, 0, none⟩), .pointer (some ⟨B + 1, 0, none⟩), .pointer (some ⟨B + 2, 0, none⟩), .pointer (some ⟨B + 3, 0, none⟩)] (w2.alloc (.cells #[.float .f64 d.key, .bool d.dead, .slice A d.cols.length c, .int .i64 d.wr, .int .i64 d.rc, .int .i64 d.rn] 30))
      fun e w' => e = .returned (.bool true) ∧ Below w.heap.size w w' := by
  have hbz : Below wr.heap.size wr (w2.alloc (.cells #[.float .f64 d.key, .bool d.dead, .slice A d.cols.length c, .int .i64 d.wr, .int .i64 d.rc, .int .i64 d.rn] 30)) := (hb.trans (hb3.mono hb.size)).alloc (Nat.le_trans hb.size hb3.size) _
  have hbw : Below w.heap.size w (w2.alloc (.cells #[.float .f64 d.key, .bool d.dead, .slice A d.cols.length c, .int .i64 d.wr, .int .i64 d.rc, .int .i64 d.rn] 30)) := hb0.trans (hbz.mono hb0.size)
  exact (find1_no B key d A c x y _ (hf.on hbw) ht.2.2.2 bq hr).mono fun e w' hh => ⟨hh.1, hbw.trans (hh.2.mono hbw.size)⟩

set_option maxHeartbeats 4000000 in
set_option maxRecDepth 100000 in
theorem allfind_any (A : Option Addr) (c B key Bl : Nat) (l : List LeafD) (w : World) (h : LC w Bl A l) (hBr : Bl ≤ w.heap.size) (hf : FB B key zrow 0 0 false w) (hl : l.length ≤ 62) (hs : ∀ d ∈ l, d.slots.length ≤ 64 ∧ ∀ s ∈ d.slots, s.length ≤ 255) (bq : key < 18446744073709551616) :
    Calls Tryz.prog 46 #[.slice A l.length c, .func (.func 52) #[] #[.pointer (some ⟨B, 0, none⟩), .pointer (some ⟨B + 1, 0, none⟩), .pointer (some ⟨B + 2, 0, none⟩), .pointer (some ⟨B + 3, 0, none⟩)]] w fun e w' => e = .returned (.tuple #[]) ∧ Found B key (findP (rkP key) l) w w' := by
  obtain ⟨n, hn⟩ : ∃ n, l.length = n := ⟨_, rfl⟩
  rw [hn] at hl ⊢
  have H := Lib.hid h
  have N := Lib.hid hn
  have HS := Lib.hid hs
  have HF := Lib.hid hf
  have BQ := Lib.hid bq
  obtain ⟨O, hO⟩ : ∃ O, findP (rkP key) l = O := ⟨_, rfl⟩
  rw [hO]
  have HO := Lib.hid hO
  clear h hn hs hf bq hO
  have hsf := run_store_f64
  go_enter Tryz.func46, Tryz.ntmps46
  go_wp2
  go_loopw [12] (fun i wr => ∃ j : Nat, j ≤ n ∧ i = .int .i64 j ∧ (allL (l.take j)).find? (rkP key) = none ∧ Below w.heap.size w wr) (fun i _ => n - (intOf i).toNat)
  case atStart => exact ⟨0, Nat.zero_le _, rfl, by simp [allL], Below.refl _ _⟩
  case round =>
    obtain ⟨j, hj, rfl, hg, hb⟩ := hrel
    have HG1 := Lib.hid hg
    have HB := Lib.hid hb
    clear hg hb
    by_cases hlt : j < n
    · obtain ⟨d, hd⟩ := get_at' N hlt
      obtain ⟨b, off, A1, k1, A2, k2, e, hbB, hc0, hc1, hz, hsc, m1, m2, q1, q2, _, _⟩ := (H.out.below (HB.out.mono hBr)).at_ hd
      subst e
      obtain ⟨n1, hn1⟩ : ∃ n, d.itl.length = n := ⟨_, rfl⟩
      obtain ⟨n2, hn2⟩ : ∃ n, d.slots.length = n := ⟨_, rfl⟩
      rw [hn1] at hc0
      rw [hn2] at hc1 m2
      unfold maxLen at m2
      have hd64 := (HS.out d (List.mem_of_getElem? hd)).1
      have hbx : Below wr.heap.size wr (wr.alloc (.cells #[.slice A1 n1 k1, .slice A2 n2 k2] 66)) := (Below.refl _ _).alloc (Nat.le_refl _) _
      have hb2 := HB.out.trans (hbx.mono HB.out.size)
      have HD := Lib.hid hd
      have N2 := Lib.hid hn2
      have HD64 := Lib.hid hd64
      have HB2 := Lib.hid hb2
      clear hd hn1 hn2 hd64 hb2 hbx hz hsc m1 q1 q2
      go_wp2
      go_loopw [20] (fun i wr => ∃ k : Nat, k ≤ n2 ∧ i = .int .i64 k ∧ (ahead l j d.slots k).find? (rkP key) = none ∧ Below w.heap.size w wr) (fun i _ => n2 - (intOf i).toNat)
      case atStart => exact ⟨0, Nat.zero_le _, rfl, by rw [ahead_zero]; exact HG1.out, HB2.out⟩
      case round =>
        obtain ⟨k, hk, rfl, hg, hb⟩ := hrel
        have HG3 := Lib.hid hg
        have HB3 := Lib.hid hb
        clear hg hb
        by_cases hlt2 : k < n2
        · obtain ⟨s, hs⟩ := get_at' N2 hlt2
          have hs255 := (HS.out d (List.mem_of_getElem? HD.out)).2 s (List.mem_of_getElem? hs)
          have hbx : Below wr.heap.size wr (wr.alloc (.cells #[.int .i64 (j : Nat), .int .i64 (k : Nat)] 33)) := (Below.refl _ _).alloc (Nat.le_refl _) _
          have hlc : LC (wr.alloc (.cells #[.int .i64 (j : Nat), .int .i64 (k : Nat)] 33)) (wr.alloc (.cells #[.int .i64 (j : Nat), .int .i64 (k : Nat)] 33)).heap.size (some ⟨b, off, none⟩) l := ((H.out.below (HB3.out.mono hBr)).below (hbx.mono (Nat.le_trans hBr HB3.out.size))).more (Nat.le_trans (Nat.le_trans hBr HB3.out.size) hbx.size)
          have hkb := heap_alloc_new wr (.cells #[.int .i64 (j : Nat), .int .i64 (k : Nat)] 33)
          have hklt : wr.heap.size < (wr.alloc (.cells #[.int .i64 (j : Nat), .int .i64 (k : Nat)] 33)).heap.size := by simp
          have HS1 := Lib.hid hs
          cases hdec : decL s with
          | none =>
            have DC := Lib.hid (get_no (c := c) hlc HD.out hs (by omega) N.out (by unfold maxLen; omega) hdec)
            have HE := Lib.hid (ahead_none (l := l) (j := j) hs hdec)
            have HBX := Lib.hid hbx
            clear hs hdec hlc hbx hkb hklt
            go_wp2_with (go_at_call 53; (with_reducible refine DC.out.mono ?_); rintro e w2 ⟨key, dead, A3, n3, c3, x3, z3, t3, rfl, hb3⟩; have HB4 := Lib.hid hb3; clear hb3)
            have hbz : Below wr.heap.size wr (w2.alloc (.cells #[.float .f64 key, .bool dead, .slice A3 n3 c3, .int .i64 x3, .int .i64 z3, .int .i64 t3] 30)) := (HBX.out.trans (HB4.out.mono HBX.out.size)).alloc (Nat.le_trans HBX.out.size HB4.out.size) _
            exact ⟨⟨k + 1, by omega, by go_num, by rw [HE.out]; exact HG3.out, HB3.out.trans (hbz.mono HB3.out.size)⟩, by simp [intOf]; omega⟩
          | some x =>
            have DC := Lib.hid (get_yes (c := c) hlc HD.out hs (by omega) N.out (by unfold maxLen; omega) hdec)
            have HE := Lib.hid (ahead_some (l := l) (j := j) hs hdec)
            have HBX := Lib.hid hbx
            have HKB := Lib.hid hkb
            have HKL := Lib.hid hklt
            have hkk : k < d.slots.length := (List.getElem?_eq_some_iff.1 hs).1
            clear hs hdec hlc hbx hkb hklt
            by_cases hr : x.rank = rankN key
            · have hO2 : O = some (x, j, k) := by
                rw [← HO.out]
                exact found_at HD.out (by omega) HG3.out HE.out hr
              subst hO2
              go_wp2_with (first
                | (go_at_call 53; (with_reducible refine DC.out.mono ?_); rintro e w2 ⟨A3, c3, rfl, hb3, htl⟩; have r1 := found_c (c := c3) (x := j) (y := k) HF.out HB3.out HBX.out hb3 htl.out hr BQ.out rfl rfl; obtain ⟨⟨u0, u1⟩, _⟩ := two_cells ((hb3.block wr.heap.size HKL.out).trans HKB.out); have u2 := cell_on u0 (.cells #[.float .f64 x.key, .bool x.dead, .slice A3 x.cols.length c3, .int .i64 x.wr, .int .i64 x.rc, .int .i64 x.rn] 30); have u3 := cell_on u1 (.cells #[.float .f64 x.key, .bool x.dead, .slice A3 x.cols.length c3, .int .i64 x.wr, .int .i64 x.rc, .int .i64 x.rn] 30); have R1 := Lib.hid r1; clear hb3 htl r1 u0 u1)
                | (go_at_call 52; (with_reducible refine R1.out.mono ?_); rintro e w3 ⟨rfl, hfd⟩))
              refine bodyPost_ret (v := .tuple #[]) (by simp [results, Tryz.results46, go_sem]) rfl ?_
              exact ⟨rfl, hfd⟩
            · have HNE := Lib.hid hr
              go_wp2_with (first
                | (go_at_call 53; (with_reducible refine DC.out.mono ?_); rintro e w2 ⟨A3, c3, rfl, hb3, htl⟩; have r1 := missed_c (c := c3) (x := j) (y := k) HF.out HB3.out HBX.out hb3 htl.out HNE.out BQ.out; obtain ⟨⟨u0, u1⟩, _⟩ := two_cells ((hb3.block wr.heap.size HKL.out).trans HKB.out); have u2 := cell_on u0 (.cells #[.float .f64 x.key, .bool x.dead, .slice A3 x.cols.length c3, .int .i64 x.wr, .int .i64 x.rc, .int .i64 x.rn] 30); have u3 := cell_on u1 (.cells #[.float .f64 x.key, .bool x.dead, .slice A3 x.cols.length c3, .int .i64 x.wr, .int .i64 x.rc, .int .i64 x.rn] 30); have R1 := Lib.hid r1; clear hb3 htl r1 u0 u1)
                | (go_at_call 52; (with_reducible refine R1.out.mono ?_); rintro e w3 ⟨rfl, hb5⟩; have HB5 := Lib.hid hb5; clear hb5))
              exact ⟨⟨k + 1, by omega, by go_num, by rw [HE.out, List.find?_append, HG3.out, Option.none_or, List.find?_cons_of_neg (by unfold rkP; simpa using HNE.out)]; rfl, HB5.out⟩, by simp [intOf]; omega⟩
        · have hkn : k = n2 := by omega
          subst hkn
          have HE := Lib.hid (ahead_all HD.out)
          rw [N2.out] at HE
          go_wp2
          exact ⟨⟨j + 1, by omega, by go_num, by rw [← HE.out]; exact HG3.out, HB3.out⟩, by simp [intOf]; omega⟩
    · have hjn : j = n := by omega
      subst hjn
      have hO2 : O = none := by
        rw [← HO.out]
        have := HG1.out
        rwa [List.take_of_length_le (by rw [N.out]; omega)] at this
      subst hO2
      go_wp2
      go_end0
      exact ⟨rfl, HB.out.mono (Nat.le_of_lt (Nat.lt_of_le_of_lt (by omega) HF.out.lt)), HF.out.on HB.out⟩
end Go.Proofs.YtdbnlngkmfmnnaaGreatDoor

/- heap.Find. -/
namespace Go.Proofs.YtdbnlngkmfmnnaaGreatDoor
open Go.RowKit

/-- What heap.Find answers. -/
def HFind (w : World) (o : Option (RowD × Nat × Nat)) (e : Ending) (w' : World) : Prop := Below w.heap.size w w' ∧ match o with
  | some (d, i, k) => ∃ A c, e = .returned (.tuple #[.agg (d.cells A c), .agg #[.int .i64 (i : Nat), .int .i64 (k : Nat)], .bool true]) ∧ FN w w' A d.cols ∧ d.cols.length ≤ c ∧ (A = none → c = 0) ∧ d.key < 18446744073709551616
  | none => e = .returned (.tuple #[zeroRow, .agg #[.int .i64 0, .int .i64 0], .bool false])
noncomputable def findH (l : List LeafD) (key : Nat) : Option (RowD × Nat × Nat) := if okHeapB l = true then findP (rkP key) l else none

theorem find_start (w : World) (key : Nat) : FB w.heap.size key zrow 0 0 false ((((w.alloc (.cells #[.float .f64 key] 25)).alloc (.cells zrow 30)).alloc (.cells #[.int .i64 0, .int .i64 0] 33)).alloc (.cells #[.bool false] 4)) ∧
    Below w.heap.size w ((((w.alloc (.cells #[.float .f64 key] 25)).alloc (.cells zrow 30)).alloc (.cells #[.int .i64 0, .int .i64 0] 33)).alloc (.cells #[.bool false] 4)) := by
  have s1 : (w.alloc (.cells #[.float .f64 key] 25)).heap.size = w.heap.size + 1 := by simp
  have s2 : ((w.alloc (.cells #[.float .f64 key] 25)).alloc (.cells zrow 30)).heap.size = w.heap.size + 2 := by simp
  have s3 : (((w.alloc (.cells #[.float .f64 key] 25)).alloc (.cells zrow 30)).alloc (.cells #[.int .i64 0, .int .i64 0] 33)).heap.size = w.heap.size + 3 := by simp
  have b1 : Below w.heap.size w (w.alloc (.cells #[.float .f64 key] 25)) := (Below.refl _ _).alloc (Nat.le_refl _) _
  have a0 := heap_alloc_new w (.cells #[.float .f64 key] 25)
  have a1 := heap_alloc_new (w.alloc (.cells #[.float .f64 key] 25)) (.cells zrow 30)
  have a2 := heap_alloc_new ((w.alloc (.cells #[.float .f64 key] 25)).alloc (.cells zrow 30)) (.cells #[.int .i64 0, .int .i64 0] 33)
  have a3 := heap_alloc_new (((w.alloc (.cells #[.float .f64 key] 25)).alloc (.cells zrow 30)).alloc (.cells #[.int .i64 0, .int .i64 0] 33)) (.cells #[.bool false] 4)
  rw [s1] at a1
  rw [s2] at a2
  rw [s3] at a3
  refine ⟨⟨?_, ?_, ?_, a3⟩, ((b1.alloc (by omega) _).alloc (by omega) _).alloc (by omega) _⟩
  · exact (Below.heap_alloc _ _ _ (by omega)).trans ((Below.heap_alloc _ _ _ (by omega)).trans ((Below.heap_alloc _ _ _ (by omega)).trans a0))
  · exact (Below.heap_alloc _ _ _ (by omega)).trans ((Below.heap_alloc _ _ _ (by omega)).trans a1)
  · exact (Below.heap_alloc _ _ _ (by omega)).trans a2

theorem below_nine {w W : World} (h : Below w.heap.size w W) (a0 a1 a2 a3 a4 a5 b0 b1 o0 : Value) :
    Below w.heap.size w (((((((((W.setCell ⟨w.heap.size + 1, 0, none⟩ a0).setCell ⟨w.heap.size + 1, 1, none⟩ a1).setCell ⟨w.heap.size + 1, 2, none⟩ a2).setCell ⟨w.heap.size + 1, 3, none⟩ a3).setCell ⟨w.heap.size + 1, 4, none⟩ a4).setCell ⟨w.heap.size + 1, 5, none⟩ a5).setCell ⟨w.heap.size + 1 + 1, 0, none⟩ b0).setCell ⟨w.heap.size + 1 + 1, 1, none⟩ b1).setCell ⟨w.heap.size + 1 + 1 + 1, 0, none⟩ o0) :=
  (((below_six h (Nat.le_refl _) (w.heap.size + 1) (Nat.le_succ _) a0 a1 a2 a3 a4 a5).setCell (p := ⟨w.heap.size + 1 + 1, 0, none⟩) (by show w.heap.size ≤ w.heap.size + 1 + 1; omega) b0).setCell (p := ⟨w.heap.size + 1 + 1, 1, none⟩) (by show w.heap.size ≤ w.heap.size + 1 + 1; omega) b1).setCell (p := ⟨w.heap.size + 1 + 1 + 1, 0, none⟩) (by show w.heap.size ≤ w.heap.size + 1 + 1 + 1; omega) o0

set_option maxHeartbeats 4000000 in
set_option maxRecDepth 100000 in
theorem hfind_any (A : Option Addr) (c key : Nat) (l : List LeafD) (w : World) (h : LC w w.heap.size A l) (m : l.length ≤ maxLen) (bq : key < 18446744073709551616) :
    Calls Tryz.prog 17 #[.slice A l.length c, .float .f64 key] w (HFind w (findH l key)) := by
  obtain ⟨hF0, hb0⟩ := find_start w key
  have ck := check_any A c l _ ((h.below hb0).more hb0.size) m
  obtain ⟨n, hn⟩ : ∃ n, l.length = n := ⟨_, rfl⟩
  rw [hn] at ck ⊢
  have hsf := run_store_f64
  have hmf : ∀ (fn : Fn) (first cap : Array Value) (w : World), (Instr.makeFunc fn first cap).run Tryz.prog w = .ok (.func fn first cap) w := fun _ _ _ _ => rfl
  cases hok : okHeapB l with
  | false =>
    rw [hok] at ck
    have HG : Hid (findH l key = none) := by unfold findH; rw [hok]; rfl
    have CK := Lib.hid (ck.mono fun e w' hh => (⟨hh.1, hb0.trans (hh.2.mono hb0.size), hF0.on hh.2⟩ : e = .returned (.int .i64 1) ∧ Below w.heap.size w w' ∧ FB w.heap.size key zrow 0 0 false w'))
    clear ck hok h m hn hb0 hF0 bq
    unfold zrow at CK
    go_enter Tryz.func17, Tryz.ntmps17
    go_wp2_with (go_at_call 19; (with_reducible refine CK.out.mono ?_); rintro e w1 ⟨rfl, hb1, hf1⟩; obtain ⟨⟨g0, g1, g2, g3, g4, g5⟩, ⟨q0, q1, q2, q3, q4, q5⟩⟩ := six hf1.k1; obtain ⟨⟨t0, t1⟩, ⟨p0, p1⟩⟩ := two_cells (B := w.heap.size + 1 + 1) hf1.k2; have o0 := cell_of_row _ (w.heap.size + 1 + 1 + 1) 0 _ _ _ hf1.k3; have o1 := frozen_of_row _ (w.heap.size + 1 + 1 + 1) 0 _ _ hf1.k3; simp only [List.getElem?_toArray, List.getElem?_cons_zero] at o0; have HB1 := Lib.hid hb1; clear hb1 hf1)
    refine bodyPost_ret (v := .tuple #[zeroRow, .agg #[.int .i64 0, .int .i64 0], .bool false]) (by simp [results, Tryz.results17, go_sem, zeroRow, g0, g1, g2, g3, g4, g5, t0, t1, o0]) rfl ?_
    rw [HG.out]
    exact ⟨below_nine HB1.out _ _ _ _ _ _ _ _ _, rfl⟩
  | true =>
    rw [hok] at ck
    have hoh : OkHeap l := chk_iff.1 hok
    have HG : Hid (findH l key = findP (rkP key) l) := by unfold findH; rw [hok]; rfl
    have CK := Lib.hid (ck.mono fun e w' hh => (⟨hh.1, hb0.trans (hh.2.mono hb0.size), hF0.on hh.2⟩ : e = .returned (.int .i64 0) ∧ Below w.heap.size w w' ∧ FB w.heap.size key zrow 0 0 false w'))
    have CA := Lib.hid (fun W (hb : Below w.heap.size w W) (hf : FB w.heap.size key zrow 0 0 false W) => by
      have := allfind_any A c w.heap.size key w.heap.size l W (h.below hb) hb.size hf hoh.2.1 (fun d hd => ⟨(hoh.2.2.1 d hd).1.2.1, (hoh.2.2.1 d hd).1.2.2.2.2.1⟩) bq
      rw [hn] at this
      exact this)
    clear ck hok h m hn hb0 hF0 bq hoh
    obtain ⟨O, hO⟩ : ∃ O, findP (rkP key) l = O := ⟨_, rfl⟩
    have CA2 : Hid (∀ W, Below w.heap.size w W → FB w.heap.size key zrow 0 0 false W → Calls Tryz.prog 46 #[.slice A n c, .func (.func 52) #[] #[.pointer (some ⟨w.heap.size, 0, none⟩), .pointer (some ⟨w.heap.size + 1, 0, none⟩), .pointer (some ⟨w.heap.size + 1 + 1, 0, none⟩), .pointer (some ⟨w.heap.size + 1 + 1 + 1, 0, none⟩)]] W fun e w' => e = .returned (.tuple #[]) ∧ Found w.heap.size key O W w') := fun W hb hf => by
      rw [← hO]; exact CA.out W hb hf
    rw [hO] at HG
    clear CA
    rw [HG.out]
    clear hO HG
    unfold zrow at CK CA2
    cases O with
    | none =>
      go_enter Tryz.func17, Tryz.ntmps17
      go_wp2_with (first
        | (go_at_call 19; (with_reducible refine CK.out.mono ?_); rintro e w1 ⟨rfl, hb1, hf1⟩; have HB1 := Lib.hid hb1; have HF1 := Lib.hid hf1; clear hb1 hf1)
        | (go_at_call 46; (with_reducible refine (CA2.out _ HB1.out HF1.out).mono ?_); rintro e w2 ⟨rfl, hb2, hf2⟩; obtain ⟨⟨g0, g1, g2, g3, g4, g5⟩, ⟨q0, q1, q2, q3, q4, q5⟩⟩ := six hf2.k1; obtain ⟨⟨t0, t1⟩, ⟨p0, p1⟩⟩ := two_cells (B := w.heap.size + 1 + 1) hf2.k2; have o0 := cell_of_row _ (w.heap.size + 1 + 1 + 1) 0 _ _ _ hf2.k3; have o1 := frozen_of_row _ (w.heap.size + 1 + 1 + 1) 0 _ _ hf2.k3; simp only [List.getElem?_toArray, List.getElem?_cons_zero] at o0; have HB2 := Lib.hid hb2; clear hb2 hf2))
      go_region
      all_goals
        go_wp2
        refine bodyPost_ret (v := .tuple #[zeroRow, .agg #[.int .i64 0, .int .i64 0], .bool false]) (by simp [results, Tryz.results17, go_sem, zeroRow, g0, g1, g2, g3, g4, g5, t0, t1, o0]) rfl ?_
        exact ⟨(below_nine (HB1.out.trans (HB2.out.mono (Nat.le_succ _))) _ _ _ _ _ _ _ _ _).drew, rfl⟩
    | some x =>
      obtain ⟨⟨key2, dead, cols, wr, rc, rn⟩, i, k⟩ := x
      go_enter Tryz.func17, Tryz.ntmps17
      go_wp2_with (first
        | (go_at_call 19; (with_reducible refine CK.out.mono ?_); rintro e w1 ⟨rfl, hb1, hf1⟩; have HB1 := Lib.hid hb1; have HF1 := Lib.hid hf1; clear hb1 hf1)
        | (go_at_call 46; (with_reducible refine (CA2.out _ HB1.out HF1.out).mono ?_); rintro e w2 ⟨rfl, hb2, A2, c2, hf2, hfn, hc2, hA2, hk2⟩; obtain ⟨⟨g0, g1, g2, g3, g4, g5⟩, ⟨q0, q1, q2, q3, q4, q5⟩⟩ := six hf2.k1; obtain ⟨⟨t0, t1⟩, ⟨p0, p1⟩⟩ := two_cells (B := w.heap.size + 1 + 1) hf2.k2; have o0 := cell_of_row _ (w.heap.size + 1 + 1 + 1) 0 _ _ _ hf2.k3; have o1 := frozen_of_row _ (w.heap.size + 1 + 1 + 1) 0 _ _ hf2.k3; simp only [List.getElem?_toArray, List.getElem?_cons_zero] at o0; have HB2 := Lib.hid hb2; have HFN := Lib.hid hfn; have HT := Lib.hid (And.intro hc2 (And.intro hA2 hk2)); clear hb2 hf2 hfn hc2 hA2 hk2))
      go_region
      all_goals
        go_wp2
        refine bodyPost_ret (v := .tuple #[.agg #[.float .f64 key2, .bool dead, .slice A2 cols.length c2, .int .i64 wr, .int .i64 rc, .int .i64 rn], .agg #[.int .i64 (i : Nat), .int .i64 (k : Nat)], .bool true]) (by simp [results, Tryz.results17, go_sem, g0, g1, g2, g3, g4, g5, t0, t1, o0]) rfl ?_
        have hlt := HF1.out.lt
        exact ⟨(below_nine (HB1.out.trans (HB2.out.mono (Nat.le_succ _))) _ _ _ _ _ _ _ _ _).drew, A2, c2, rfl, (((((HFN.out.six (by omega) _ _ _ _ _ _).set (p := ⟨w.heap.size + 1 + 1, 0, none⟩) (by show w.heap.size + 1 + 1 < w1.heap.size; omega) _).set (p := ⟨w.heap.size + 1 + 1, 1, none⟩) (by show w.heap.size + 1 + 1 < w1.heap.size; omega) _).set (p := ⟨w.heap.size + 1 + 1 + 1, 0, none⟩) (by show w.heap.size + 1 + 1 + 1 < w1.heap.size; omega) _).early HB1.out.size).on (Below.refl _ _).drew, HT.out.1, HT.out.2.1, HT.out.2.2⟩
end Go.Proofs.YtdbnlngkmfmnnaaGreatDoor

/- Rows appended to rows; ranges one behind the other: plain. -/
namespace Go.Proofs.YtdbnlngkmfmnnaaGreatDoor
open Go.RowKit



theorem strict_eq : ∀ {L M : List RowD}, L.Perm M → L.Pairwise (fun a b => a.rank < b.rank) → M.Pairwise (fun a b => a.rank < b.rank) → L = M := by
  intro L M hp h1 h2
  have k1 : L.Pairwise (fun a b => a = b ∨ a.rank < b.rank) := h1.imp .inr
  have k2 : M.Pairwise (fun a b => a = b ∨ a.rank < b.rank) := h2.imp .inr
  refine hp.eq_of_pairwise ?_ k1 k2
  intro a b _ _ ha hb
  rcases ha with ha | ha
  · exact ha
  · rcases hb with hb | hb
    · exact hb.symm
    · omega

theorem RowsAre.one {l : List LeafD} {lo hi : Nat} {L : List RowD} (h : RowsAre l lo hi L) : L.Pairwise fun a b => a.rank < b.rank := by
  by_cases hok : OkHeap l
  · exact (h.1 hok).2
  · rw [h.2 hok]; exact List.Pairwise.nil
theorem RowsAre.len {l : List LeafD} {lo hi : Nat} {L : List RowD} (h : RowsAre l lo hi L) : L.length ≤ 5000 := by
  by_cases hok : OkHeap l
  · rw [(h.1 hok).1.length_eq]
    have h1 := rowsL_le fun d hd => (hok.2.2.1 d hd).1.2.1
    have h2 := List.length_filter_le (fun d : RowD => betw d.key lo hi) (rowsL l)
    have := hok.2.1
    omega
  · rw [h.2 hok]; simp



end Go.Proofs.YtdbnlngkmfmnnaaGreatDoor
