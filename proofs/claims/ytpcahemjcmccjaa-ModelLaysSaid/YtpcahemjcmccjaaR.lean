/- model.Lay: the walk. -/
import Derived.Test.YtpcahemjcmccjaaO
import Derived.Test.YtpcahemjcmccjaaQ
namespace Go.Proofs.Ytpcahemjcmccjaa
open Go.RowKit

theorem bare_eq (d : RowD) : d.bare = d.bareD := rfl

/-- What grew in a block of one's own, or in none, leaves all below as it was. -/
theorem grown_below {w w' : World} {base : Nat} {v : Value} {l : List RowD} (h : Own w base v l) (hg : w.grownBy w' v.ownBlock) (hb : base ≤ w.heap.size) : Below base w w' :=
  (Below.refl _ _).grown hg hb fun k hk => by
    obtain ⟨xs, h1, _⟩ := h
    exact (h1.lt k hk).1

theorem delete_of {W : World} {base : Nat} {A : Option Addr} {c i : Nat} {l : List RowD} (h : Own W base (.slice A l.length c) l) (hb : base ≤ W.heap.size) (hi : i < l.length) :
    Calls Try.prog 15 #[.slice A l.length c, .int .i64 (i : Nat), .int .i64 ((i : Int) + 1)] W fun e w' => ∃ A' c', e = .returned (.slice A' (l.take i ++ l.drop (i + 1)).length c') ∧ Own w' base (.slice A' (l.take i ++ l.drop (i + 1)).length c') (l.take i ++ l.drop (i + 1)) ∧ Below base W w' := by
  obtain ⟨A0, c0, he, hlc, hg⟩ := own_form h
  obtain ⟨g, rfl, hg1, hg2⟩ := hg (by omega)
  injection he with he1 _ he2
  subst he1 he2
  have hd := delete_any g l.length c i (i + 1) base l W h rfl (by omega) (by omega)
  rw [show ((i : Int) + 1) = ((i + 1 : Nat) : Int) by omega]
  refine hd.mono fun e w' ⟨h1, h2, h3⟩ => ?_
  have hl : (l.take i ++ l.drop (i + 1)).length = i + (l.length - (i + 1)) := by simp; omega
  refine ⟨_, _, by rw [hl]; exact h1, by rw [hl]; exact h2, grown_below h h3 hb⟩

theorem insert_of {W : World} {base vb : Nat} {A : Option Addr} {c i : Nat} {l : List RowD} {d : RowD} {vs : List Value} (h : Own W base (.slice A l.length c) l) (hb : base ≤ W.heap.size) (hi : i ≤ l.length) (m : l.length ≤ 1000)
    (hv : W.heap[vb]? = some (.cells vs.toArray 33 (0, 0))) (hvb : some vb ≠ Value.ownBlock (.slice A l.length c)) (hvx : RX W (Value.ownBlock (.slice A l.length c)) [d] vs) :
    Calls Try.prog 17 #[.slice A l.length c, .int .i64 (i : Nat), .slice (some ⟨vb, 0, none⟩) 1 1] W fun e w' => ∃ A' c', e = .returned (.slice A' (l.take i ++ ([d] ++ l.drop i)).length c') ∧ Own w' base (.slice A' (l.take i ++ ([d] ++ l.drop i)).length c') (l.take i ++ ([d] ++ l.drop i)) ∧ Below base W w' := by
  have hl : (l.take i ++ ([d] ++ l.drop i)).length = l.length + 1 := by simp; omega
  rw [hl]
  rcases Nat.lt_or_eq_of_le hi with hi | rfl
  · obtain ⟨A0, c0, he, hlc, hg⟩ := own_form h
    obtain ⟨g, rfl, hg1, hg2⟩ := hg (by omega)
    injection he with he1 _ he2
    subst he1 he2
    have hvb' : vb ≠ g := fun e => hvb (by rw [e]; rfl)
    by_cases hr : l.length + 1 ≤ c
    · exact (insert_shift g l.length c i vb base l d vs W h rfl hi hr m hv hvb' hvx).mono fun e w' ⟨h1, h2, h3⟩ => ⟨_, _, h1, h2, grown_below h h3 hb⟩
    · exact (insert_grow g l.length c i vb base l d vs W h rfl hi (by omega) m hv hvx).mono fun e w' ⟨G, h1, h2, h3⟩ => ⟨_, _, h1, h2, grown_below h h3 hb⟩
  · refine (insert_end A l.length c vb base l d vs W h rfl m hb hv hvx).mono fun e w' ⟨v', h1, h2, h3⟩ => ?_
    have e2 : l.take l.length ++ ([d] ++ l.drop l.length) = l ++ [d] := by simp
    rw [e2]
    obtain ⟨A0, c0, rfl, _, _⟩ := own_form h2
    rw [List.length_append, List.length_singleton] at h1 h2
    exact ⟨A0, c0, h1, h2, grown_below h h3 hb⟩

/-- Rows that are not too great, and keys. -/
def Fit (l : List RowD) : Prop := ∀ d ∈ l, Ok d
theorem Fit.rc {l : List RowD} (h : Fit l) : ∀ d ∈ l, d.key < 18446744073709551616 ∧ d.cols.length ≤ maxLen := fun d hd => ⟨(h d hd).1, by have := (h d hd).2.1; unfold maxLen; omega⟩
theorem Fit.keys {l : List RowD} (h : Fit l) : ∀ d ∈ l, KeyOk d := fun d hd => (h d hd).1
theorem Ok.bare {d : RowD} (h : Ok d) : Ok d.bareD := h

/-- The search in a slice of one's own. -/
theorem at_own {W : World} {base : Nat} {A : Option Addr} {c : Nat} {l : List RowD} (h : Own W base (.slice A l.length c) l) (hf : Fit l) (hs : Rising l) (m : l.length ≤ 1000) (key : Nat) (hk : key < 18446744073709551616) (W2 : World) (hb : Below W.heap.size W W2) :
    Calls Try.prog 14 #[.slice A l.length c, .float .f64 key] W2 fun e w' => ∃ (i : Nat) (f : Bool), e = .returned (.tuple #[.int .i64 i, .bool f]) ∧ Stands l (rankN key) i f ∧ Below W.heap.size W w' := by
  obtain ⟨A0, c0, he, hr, _, _⟩ := h.reads hf.rc
  injection he with he1 _ he2
  subst he1 he2
  exact at_of A c l key W W2 hb hr (by omega) hs hk

theorem delete_op {W : World} {base : Nat} {A : Option Addr} {c i : Nat} {l : List RowD} (h : Own W base (.slice A l.length c) l) (hb : base ≤ W.heap.size) (hi : i < l.length) :
    Calls Try.prog 15 #[.slice A l.length c, .int .i64 (i : Nat), .int .i64 ((i : Int) + 1)] W fun e w' => ∃ (l' : List RowD) (A' : Option Addr) (c' : Nat), l.take i ++ l.drop (i + 1) = l' ∧ e = .returned (.slice A' l'.length c') ∧ Own w' base (.slice A' l'.length c') l' ∧ Below base W w' :=
  (delete_of h hb hi).mono fun _ _ ⟨A', c', h⟩ => ⟨_, A', c', rfl, h⟩

theorem insert_op {W : World} {base vb : Nat} {A : Option Addr} {c i : Nat} {l : List RowD} {d : RowD} {vs : List Value} (h : Own W base (.slice A l.length c) l) (hb : base ≤ W.heap.size) (hi : i ≤ l.length) (m : l.length ≤ 1000)
    (hv : W.heap[vb]? = some (.cells vs.toArray 33 (0, 0))) (hvb : some vb ≠ Value.ownBlock (.slice A l.length c)) (hvx : RX W (Value.ownBlock (.slice A l.length c)) [d] vs) :
    Calls Try.prog 17 #[.slice A l.length c, .int .i64 (i : Nat), .slice (some ⟨vb, 0, none⟩) 1 1] W fun e w' => ∃ (l' : List RowD) (A' : Option Addr) (c' : Nat), l.take i ++ ([d] ++ l.drop i) = l' ∧ e = .returned (.slice A' l'.length c') ∧ Own w' base (.slice A' l'.length c') l' ∧ Below base W w' :=
  (insert_of h hb hi m hv hvb hvx).mono fun _ _ ⟨A', c', h⟩ => ⟨_, A', c', rfl, h⟩

theorem own_block_lt {w : World} {base : Nat} {v : Value} {l : List RowD} (h : Own w base v l) : ∀ g, v.ownBlock = some g → g < w.heap.size := by
  obtain ⟨xs, h1, _⟩ := h
  exact fun g hg => (h1.lt g hg).2

theorem bare_op (key : Nat) (dead : Bool) (cols : List Nat) (x y z : Int) (A : Option Addr) (c : Nat) (w : World) (h : FC w w.heap.size A cols) (hA : A = none → c = 0) (m : cols.length ≤ 1000) :
    Calls Try.prog 16 #[.agg #[.float .f64 key, .bool dead, .slice A cols.length c, .int .i64 x, .int .i64 y, .int .i64 z]] w fun e w' => ∃ (A' : Option Addr) (c' : Nat), e = .returned (.agg #[.float .f64 key, .bool dead, .slice A' cols.length c', .int .i64 0, .int .i64 0, .int .i64 0]) ∧ FN w w' A' cols ∧ cols.length ≤ c' ∧ (A' = none → c' = 0) ∧ Below w.heap.size w w' :=
  bare_any ⟨key, dead, cols, x, y, z⟩ A c w h hA m

/-- The Insert of a row just made. -/
theorem insert_new {w2 w1 : World} {base : Nat} {A A' : Option Addr} {c c' i : Nat} {L : List RowD} {key : Nat} {dead : Bool} {cols : List Nat} {x y z : Int} (h : Own w2 base (.slice A L.length c) L) (hb : base ≤ w2.heap.size) (hi : i ≤ L.length) (m : L.length ≤ 1000)
    (h1 : FN w1 w2 A' cols) (hl : ∀ g, Value.ownBlock (.slice A L.length c) = some g → g < w1.heap.size) (h2 : cols.length ≤ c') (h3 : A' = none → c' = 0) :
    Calls Try.prog 17 #[.slice A L.length c, .int .i64 (i : Nat), .slice (some ⟨w2.heap.size, 0, none⟩) 1 1] (w2.alloc (.cells #[.float .f64 key, .bool dead, .slice A' cols.length c', .int .i64 x, .int .i64 y, .int .i64 z] 33)) fun e w' => ∃ (l' : List RowD) (A' : Option Addr) (c' : Nat), L.take i ++ ([⟨key, dead, cols, x, y, z⟩] ++ L.drop i) = l' ∧ e = .returned (.slice A' l'.length c') ∧ Own w' base (.slice A' l'.length c') l' ∧ Below base w2 w' := by
  have hal := (Below.refl w2.heap.size w2).alloc (Nat.le_refl _) (.cells #[.float .f64 key, .bool dead, .slice A' cols.length c', .int .i64 x, .int .i64 y, .int .i64 z] 33)
  have hx : RX w2 (Value.ownBlock (.slice A L.length c)) [⟨key, dead, cols, x, y, z⟩] (RowD.cells ⟨key, dead, cols, x, y, z⟩ A' c').toList := RX.one (h1.to_FX hl) h2 h3
  refine (insert_op (vb := w2.heap.size) (vs := (RowD.cells ⟨key, dead, cols, x, y, z⟩ A' c').toList) (h.below hal) (Nat.le_trans hb hal.size) hi m ?_ (fun e => ?_) (hx.below hal)).mono fun e w' ⟨l', A3, c3, q1, q2, q3, q4⟩ => ⟨l', A3, c3, q1, q2, q3, (hal.mono hb).trans q4⟩
  · rw [heap_alloc_new]; rfl
  · have := own_block_lt h _ e.symm; omega
end Go.Proofs.Ytpcahemjcmccjaa
