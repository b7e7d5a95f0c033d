/- Rows cloned; a row made bare. -/
import Derived.Test.YtpcahemjcmccjaaJ
import Derived.Deep.RegionHeld3
namespace Go.Proofs.Ytpcahemjcmccjaa
open Go.RowKit

set_option maxHeartbeats 1000000 in
theorem clone6_any (A : Option Addr) (c : Nat) (l : List RowD) (w : World) (h : RC w w.heap.size A l) (hA : A = none → c = 0) (m : l.length ≤ 1000) :
    Calls Try.prog 31 #[.slice A l.length c] w fun e w' => ∃ v', e = .returned v' ∧ Own w' w.heap.size v' l ∧ Below w.heap.size w w' := by
  obtain ⟨i0, hi, hz0, hz1, hz2⟩ := info_parts Try.info33
  obtain ⟨n, hn⟩ : ∃ n, l.length = n := ⟨_, rfl⟩
  cases A with
  | none =>
    have : c = 0 := hA rfl
    subst this
    have : l = [] := by
      cases l with
      | nil => rfl
      | cons x r => obtain ⟨b, off, e, _⟩ := h.2 (by simp); cases e
    subst this
    simp only [List.length_nil]
    clear hA m hn hi hz0 hz1 hz2 h
    have he : ∀ W, (binOp .eql 22 (.slice none 0 0) (.slice none 0 0)).run Try.prog W = .ok (.bool true) W := fun W => eql_nil W 22 33 none 0 0 Try.underlying22
    go_enter Try.func31, Try.ntmps31
    go_wp2
    go_ret
    exact ⟨_, rfl, ⟨[], World.ownsRow_nil w _ 33 6, rfl⟩, Below.refl _ _⟩
  | some ad =>
    obtain ⟨xs, hx, hc⟩ := RX.of_RC h (Nat.le_refl _) (o := some w.heap.size) (fun g hg => by injection hg with hg; omega)
    have HX := Lib.hid hx
    have HC := Lib.hid (hc ad rfl)
    have HL : Hid (xs.length = n * 6) := by rw [← hn]; exact hx.len
    rw [hn] at m ⊢
    have N := Lib.hid hn
    have HI := Lib.hid hi
    have he : ∀ W, (binOp .eql 22 (.slice (some ad) n c) (.slice none 0 0)).run Try.prog W = .ok (.bool false) W := fun W => eql_nil W 22 33 (some ad) n c Try.underlying22
    have HO : Hid ((w.alloc (.cells #[] 33)).ownsRow w.heap.size 33 6 (.slice (some ⟨w.heap.size, 0, none⟩) 0 0) 0 []) := World.ownsRow_lit w #[] 0 (Nat.le_refl _) (by unfold maxLen; omega) rfl
    clear h hA hc hn hi hx
    have K1 : Hid (∀ j u, xs[j]? = some u → (w.alloc (.cells #[] 33)).cell? (ad.add j) = some u) := fun j u hu => cell_alloc (HC.out j u hu) _
    have K2 : Hid (∀ u ∈ xs, u.oneCell' = true) := HX.out.oneCell
    go_enter Try.func31, Try.ntmps31
    go_wp2_with (at_builtin; refine wpList_append_own_at _ rfl (.tmp 5) (.tmp 6) 22 rfl w.heap.size 33 i0 zeroRow 6 64 Try.underlying22 HI.out hz0 hz1 hz2 rfl (by decide) (.slice (some ⟨w.heap.size, 0, none⟩) 0 0) 0 [] rfl HO.out ad n c xs rfl HL.out K1.out K2.out (by unfold maxLen; omega) (by omega) (by simp) ?_; intro v' w1 hown' hgrow _ hat; have HN := Lib.hid hown'; have HG := Lib.hid hgrow; have HT := Lib.hid hat; clear hown' hgrow hat)
    go_ret
    have h1 := HN.out
    rw [Nat.zero_add, List.nil_append] at h1
    have hb : Below w.heap.size w w1 := ((Below.refl _ _).alloc (Nat.le_refl _) _).grown HG.out (by simp) (fun k hk => by simp [Value.ownBlock] at hk; omega)
    refine ⟨_, rfl, ⟨xs, by rw [N.out]; exact h1, ?_⟩, hb⟩
    have hx2 : RX w none l xs := HX.out.imp fun A l hf => ⟨hf.1, fun hl => by
      obtain ⟨b, off, e, q1, q2, q3⟩ := hf.2 hl
      exact ⟨b, off, e, q1, (fun h => by cases h), q3⟩⟩
    refine hx2.past ⟨hb.os, hb.tape, hb.output, hb.size, fun k hk _ => hb.block k hk⟩ fun g hg => ?_
    exact (h1.lt g hg).1

/-- Numbers in memory that is new since w. -/
def FN (w w' : World) (A : Option Addr) (l : List Nat) : Prop :=
  (∀ x ∈ l, x < 18446744073709551616) ∧ (0 < l.length → ∃ b off, A = some ⟨b, off, none⟩ ∧ w.heap.size ≤ b ∧ b < w'.heap.size ∧ ∀ j x, l[j]? = some x → w'.cell? ⟨b, off + j, none⟩ = some (.float .f64 x))
theorem FN.to_FC {w w' : World} {A : Option Addr} {l : List Nat} (h : FN w w' A l) : FC w' w'.heap.size A l :=
  ⟨h.1, fun hl => by
    obtain ⟨b, off, e, _, hb, hc⟩ := h.2 hl
    exact ⟨b, off, e, hb, hc⟩⟩
theorem FN.to_FX {w w' : World} {A : Option Addr} {l : List Nat} (h : FN w w' A l) {o : Option Nat} (ho : ∀ g, o = some g → g < w.heap.size) : FX w' o A l :=
  ⟨h.1, fun hl => by
    obtain ⟨b, off, e, h1, hb, hc⟩ := h.2 hl
    exact ⟨b, off, e, hb, (fun hx => by have := ho b hx.symm; omega), hc⟩⟩
/-- A store elsewhere. -/
theorem FN.set {w w' : World} {A : Option Addr} {l : List Nat} (h : FN w w' A l) {p : Addr} (hp : p.block < w.heap.size) (u : Value) : FN w (w'.setCell p u) A l :=
  ⟨h.1, fun hl => by
    obtain ⟨b, off, e, h1, hb, hc⟩ := h.2 hl
    exact ⟨b, off, e, h1, by simpa [World.setCell] using hb, fun j x hx => (World.cell?_setCell_other w' p _ u (fun e => by subst e; simp at hp; omega)).trans (hc j x hx)⟩⟩
theorem FN.early {w0 w w' : World} {A : Option Addr} {l : List Nat} (h : FN w w' A l) (hw : w0.heap.size ≤ w.heap.size) : FN w0 w' A l :=
  ⟨h.1, fun hl => by
    obtain ⟨b, off, e, h1, hb, hc⟩ := h.2 hl
    exact ⟨b, off, e, by omega, hb, hc⟩⟩

theorem own1_form {w w' : World} {v : Value} {l : List Nat} (hl : ∀ x ∈ l, x < 18446744073709551616) (h : w'.ownsRow w.heap.size 28 1 v l.length (l.map (Value.float .f64))) :
    ∃ A c, v = .slice A l.length c ∧ FN w w' A l ∧ l.length ≤ c ∧ (A = none → c = 0) := by
  rcases h.2 with ⟨rfl, h0⟩ | ⟨g, cap, cur, rfl, hb, hh, hnc, hcm, hcs, htake⟩
  · exact ⟨none, 0, by rw [h0], ⟨hl, fun h => by omega⟩, by omega, fun _ => rfl⟩
  · have hg : g < w'.heap.size := by
      rcases Nat.lt_or_ge g w'.heap.size with hlt | hge
      · exact hlt
      · rw [Array.getElem?_eq_none hge] at hh; cases hh
    refine ⟨_, cap, rfl, ⟨hl, fun _ => ⟨g, 0, rfl, hb, hg, fun j x hx => ?_⟩⟩, hnc, (fun h => by cases h)⟩
    rw [Nat.zero_add, h.cellAt j (by have := (List.getElem?_eq_some_iff.1 hx).1; omega), List.getElem?_map, hx]
    rfl

theorem clone1_fn (A : Option Addr) (c : Nat) (l : List Nat) (w : World) (h : FC w w.heap.size A l) (hA : A = none → c = 0) (m : l.length ≤ 1000) :
    Calls Try.prog 32 #[.slice A l.length c] w fun e w' => ∃ A' c', e = .returned (.slice A' l.length c') ∧ FN w w' A' l ∧ l.length ≤ c' ∧ (A' = none → c' = 0) ∧ Below w.heap.size w w' :=
  (clone1_any A c l w h hA m).mono fun _ _ ⟨v', h1, h2, h3⟩ => by
    obtain ⟨A', c', rfl, h4, h5, h6⟩ := own1_form h.1 h2
    exact ⟨A', c', h1, h4, h5, h6, h3⟩

theorem two_boxes {w w1 : World} {a b : Array Value} {t t' : TypeId} (hb : Below ((w.alloc (.cells a t)).alloc (.cells b t')).drew.heap.size ((w.alloc (.cells a t)).alloc (.cells b t')).drew w1) :
    w1.heap[w.heap.size]? = some (.cells a t (0, 0)) ∧ w1.heap[w.heap.size + 1]? = some (.cells b t' (0, 0)) := by
  have e : ((w.alloc (.cells a t)).alloc (.cells b t')).drew.heap.size = w.heap.size + 2 := by simp
  refine ⟨?_, ?_⟩
  · rw [hb.block _ (by rw [e]; omega)]; exact heap_alloc2_old w _ _
  · rw [hb.block _ (by rw [e]; omega)]; exact heap_alloc2_new w _ _
theorem run_store_f64 (W : World) (a : Addr) (m : Mode) (b : Nat) : (store a (.float .f64 b) m).run Try.prog W = stored Try.prog W a (.float .f64 b) m := run_store Try.prog W a _ m rfl
/-- A row without who wrote it. -/
def RowD.bare (d : RowD) : RowD := { d with wr := 0, rc := 0, rn := 0 }
def Bared (d : RowD) (w : World) (e : Ending) (w' : World) : Prop := ∃ A' c', e = .returned (.agg (d.bare.cells A' c')) ∧ FN w w' A' d.cols ∧ d.cols.length ≤ c' ∧ (A' = none → c' = 0) ∧ Below w.heap.size w w'

set_option maxHeartbeats 2000000 in
theorem bare_any (d : RowD) (A : Option Addr) (c : Nat) (w : World) (h : FC w w.heap.size A d.cols) (hA : A = none → c = 0) (m : d.cols.length ≤ 1000) :
    Calls Try.prog 16 #[.agg (d.cells A c)] w (Bared d w) := by
  have hc := fun W (hb : Below w.heap.size w W) => clone1_fn A c d.cols W ((h.below hb).more hb.size) hA m
  obtain ⟨key, dead, cols, x, y, z⟩ := d
  simp only [RowD.cells] at *
  obtain ⟨n, hn⟩ : ∃ n, cols.length = n := ⟨_, rfl⟩
  rw [hn] at m hc ⊢
  have N := Lib.hid hn
  have HC := Lib.hid hc
  have hsf := run_store_f64
  clear h hA hc hn
  go_enter Try.func16, Try.ntmps16
  go_wp2
  go_region_held3 (fun w' => w'.cell? ⟨w.heap.size, 0, none⟩ = some (.float .f64 key) ∧ w'.cell? ⟨w.heap.size, 1, none⟩ = some (.bool dead) ∧ w'.cell? ⟨w.heap.size, 2, none⟩ = some (.slice A n c))
    (first | go_keep | (exact ⟨g0, g1, g2⟩))
    (first | (go_at_call 32; (with_reducible refine (HC.out _ (((Below.refl _ _).alloc (Nat.le_refl _) _).alloc (by simp) _).drew).mono ?_); rintro e w1 ⟨A', c', rfl, hfn, hnc, hAc, hb1⟩; have HF := Lib.hid hfn; have HN := Lib.hid hnc; have HA := Lib.hid hAc; clear hfn hnc hAc; obtain ⟨k1, k2⟩ := two_boxes hb1; have HK := Lib.hid k2; have g0 := cell_of_row w1 w.heap.size 0 _ _ _ k1; have g1 := cell_of_row w1 w.heap.size 1 _ _ _ k1; have g2 := cell_of_row w1 w.heap.size 2 _ _ _ k1; have t0 := cell_of_row w1 (w.heap.size + 1) 0 _ _ _ k2; have t1 := cell_of_row w1 (w.heap.size + 1) 1 _ _ _ k2; have t2 := cell_of_row w1 (w.heap.size + 1) 2 _ _ _ k2; have t3 := cell_of_row w1 (w.heap.size + 1) 3 _ _ _ k2; have t4 := cell_of_row w1 (w.heap.size + 1) 4 _ _ _ k2; have t5 := cell_of_row w1 (w.heap.size + 1) 5 _ _ _ k2; have f0 := frozen_of_row w1 (w.heap.size + 1) 0 _ _ k2; have f1 := frozen_of_row w1 (w.heap.size + 1) 1 _ _ k2; have f2 := frozen_of_row w1 (w.heap.size + 1) 2 _ _ k2; have f3 := frozen_of_row w1 (w.heap.size + 1) 3 _ _ k2; have f4 := frozen_of_row w1 (w.heap.size + 1) 4 _ _ k2; have f5 := frozen_of_row w1 (w.heap.size + 1) 5 _ _ k2; simp only [List.getElem?_toArray, List.getElem?_cons_succ, List.getElem?_cons_zero] at g0 g1 g2 t0 t1 t2 t3 t4 t5; clear k1 k2; have HB := Lib.hid hb1; clear hb1))
  go_wp2
  refine bodyPost_ret (v := .agg #[.float .f64 key, .bool dead, .slice A' n c', .int .i64 0, .int .i64 0, .int .i64 0]) (by simp [results, Try.results16, go_sem, t0, t1, t2, t3, t4, t5]) rfl ?_
  have hb : Below w.heap.size w w1 := ((((Below.refl _ _).alloc (Nat.le_refl _) _).alloc (by simp) _).drew).trans (HB.out.mono (by simp; omega))
  refine ⟨A', c', by simp [RowD.bare, RowD.cells, N.out], ?_, by have := N.out; have := HN.out; simp only; omega, HA.out, ?_⟩
  · exact ((((((HF.out.set (p := ⟨w.heap.size + 1, 0, none⟩) (by simp) _).set (p := ⟨w.heap.size + 1, 1, none⟩) (by simp) _).set (p := ⟨w.heap.size + 1, 2, none⟩) (by simp) _).set (p := ⟨w.heap.size + 1, 3, none⟩) (by simp) _).set (p := ⟨w.heap.size + 1, 4, none⟩) (by simp) _).set (p := ⟨w.heap.size + 1, 5, none⟩) (by simp) _).early (by simp; omega)
  · exact (((((hb.setCell (p := ⟨w.heap.size + 1, 0, none⟩) (by simp) _).setCell (p := ⟨w.heap.size + 1, 1, none⟩) (by simp) _).setCell (p := ⟨w.heap.size + 1, 2, none⟩) (by simp) _).setCell (p := ⟨w.heap.size + 1, 3, none⟩) (by simp) _).setCell (p := ⟨w.heap.size + 1, 4, none⟩) (by simp) _).setCell (p := ⟨w.heap.size + 1, 5, none⟩) (by simp) _
end Go.Proofs.Ytpcahemjcmccjaa
