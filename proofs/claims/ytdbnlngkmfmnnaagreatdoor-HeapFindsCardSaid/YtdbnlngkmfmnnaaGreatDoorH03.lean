/- pack.Take: the walk. -/
import Derived.Test.YtdbnlngkmfmnnaaGreatDoorH02
import Derived.LoopTactic
import Derived.OwnWalk
import Derived.Maps.AppendAt
import Derived.Deep.AppendLies
import Derived.Deep.RegionLaw
namespace Go.Proofs.YtdbnlngkmfmnnaaGreatDoor
open Go.RowKit

/-- An item of numbers. -/
structure It where
  k : Nat
  n : Nat
  x : Nat
def It.cells (i : It) : List Value := [.int .i64 (i.k : Nat), .int .i64 (i.n : Nat), .float .f64 i.x, .string ⟨#[]⟩]
def takeOne (L : List Nat) (k at_ : Nat) : Option (It × Nat) :=
  if k = 4 then (if at_ + 8 ≤ L.length then (if numValN (beN ((L.drop at_).take 8)) = beN ((L.drop at_).take 8) then some (⟨4, 0, beN ((L.drop at_).take 8)⟩, at_ + 8) else none) else none)
  else (if at_ + wid k ≤ L.length then (if fitsN k (beN ((L.drop at_).take (wid k))) then some (⟨k, beN ((L.drop at_).take (wid k)), 0⟩, at_ + wid k) else none) else none)
def takeAll (L : List Nat) : List Nat → Nat → Option (List It × Nat)
  | [], a => some ([], a)
  | k :: ks, a => match takeOne L k a with
    | none => none
    | some (i, a') => match takeAll L ks a' with
      | none => none
      | some (l, e) => some (i :: l, e)

/-- The cells of numbers. -/
def IC (w : World) (B : Nat) (A : Option Addr) (l : List Nat) : Prop :=
  0 < l.length → ∃ b off, A = some ⟨b, off, none⟩ ∧ b < B ∧ ∀ j x, l[j]? = some x → w.cell? ⟨b, off + j, none⟩ = some (.int .i64 (x : Nat))
theorem IC.below {w w' : World} {B : Nat} {A : Option Addr} {l : List Nat} (h : IC w B A l) (hb : Below B w w') : IC w' B A l := fun hl => by
  obtain ⟨b, off, e, hB, hc⟩ := h hl
  exact ⟨b, off, e, hB, fun j x hx => (hb.cell (p := ⟨b, off + j, none⟩) hB).trans (hc j x hx)⟩

def zeroItem : Value := .agg #[.int .i64 0, .int .i64 0, .float .f64 0, .string ⟨#[]⟩]
theorem info123 : (Tryz.prog.info? 123).map (fun i => (i.zero, i.size, i.bytes)) = some (some zeroItem, 4, 40) := by kernel_rfl

/-- One item, whatever its kind. -/
theorem titem_any (T B b off n c at_ k : Nat) (L : List Nat) (w : World) (h : TK w T (some ⟨b, off, none⟩) n c at_) (hB : BC w B (some ⟨b, off, none⟩) L) (hBT : B ≤ T) (hBs : B ≤ w.heap.size) (hl : L.length = n) (hn : n ≤ 1000000) (hat : at_ ≤ n) (hk : 1 ≤ k) (hk4 : k ≤ 4) (hc : n ≤ c) (hc2 : c ≤ 9223372036854775807) :
    Calls Tryz.prog 140 #[.pointer (some ⟨T, 0, none⟩), .int .i64 (k : Nat)] w fun e w' => w.grownBy w' (some T) ∧ match takeOne L k at_ with
      | some (i, a) => e = .returned (.agg #[.int .i64 (i.k : Nat), .int .i64 (i.n : Nat), .float .f64 i.x, .string ⟨#[]⟩]) ∧ TK w' T (some ⟨b, off, none⟩) n c a ∧ a ≤ n
      | none => ∃ a, e = .panicked (shortV a) := by
  by_cases h4 : k = 4
  · subst h4
    refine (titem_flt T B b off n c at_ L w h hB hBT hBs hl hn hat hc hc2).mono fun e w' ⟨h1, h2⟩ => ⟨h1, ?_⟩
    unfold takeOne
    unfold takeFlt at h2
    rw [if_pos rfl]
    by_cases e1 : at_ + 8 ≤ L.length
    · rw [if_pos e1] at h2 ⊢
      by_cases e2 : numValN (beN ((L.drop at_).take 8)) = beN ((L.drop at_).take 8)
      · rw [if_pos e2] at h2 ⊢
        exact ⟨h2.1, h2.2, by omega⟩
      · rw [if_neg e2] at h2 ⊢
        exact h2
    · rw [if_neg e1] at h2 ⊢
      exact h2
  · refine (titem_num T B b off n c at_ k L w h hB hBT hBs hl hn hat hk (by omega) hc hc2).mono fun e w' ⟨h1, h2⟩ => ⟨h1, ?_⟩
    unfold takeOne
    unfold takeNum at h2
    rw [if_neg h4]
    by_cases e1 : at_ + wid k ≤ L.length
    · rw [if_pos e1] at h2 ⊢
      by_cases e2 : fitsN k (beN ((L.drop at_).take (wid k))) = true
      · rw [if_pos e2] at h2 ⊢
        exact ⟨h2.1, h2.2, by omega⟩
      · rw [if_neg e2] at h2 ⊢
        exact h2
    · rw [if_neg e1] at h2 ⊢
      exact h2
end Go.Proofs.YtdbnlngkmfmnnaaGreatDoor

/- pack.Take: the worlds of its loops. -/
namespace Go.Proofs.YtdbnlngkmfmnnaaGreatDoor
open Go.RowKit

def cellsOf (l : List It) : List Value := l.flatMap It.cells
/-- What Take gives. -/
def Taken (w : World) (o : Option (List It × Nat)) (e : Ending) (w' : World) : Prop :=
  Below w.heap.size w w' ∧ match o with
  | some (l, a) => ∃ v, e = .returned (.tuple #[v, .int .i64 (a : Nat), .int .i64 0]) ∧ w'.ownsRow w.heap.size 123 4 v l.length (cellsOf l)
  | none => e = .returned (.tuple #[.slice none 0 0, .int .i64 0, .int .i64 4])

/-- The three named results' boxes. -/
structure Bx (w W : World) (v : Value) : Prop where
  below : Below w.heap.size w W
  size : w.heap.size + 3 ≤ W.heap.size
  h0 : W.heap[w.heap.size]? = some (.cells #[v] 124 (0, 0))
  h1 : W.heap[w.heap.size + 1]? = some (.cells #[.int .i64 0] 3 (0, 0))
  h2 : W.heap[w.heap.size + 2]? = some (.cells #[.int .i64 0] 34 (0, 0))
theorem Bx.start (w : World) : Bx w (((w.alloc (.cells #[.slice none 0 0] 124)).alloc (.cells #[.int .i64 0] 3)).alloc (.cells #[.int .i64 0] 34)) (.slice none 0 0) := by
  refine ⟨(((Below.refl _ _).alloc (Nat.le_refl _) _).alloc (by simp) _).alloc (by simp; omega) _, by simp, ?_, ?_, ?_⟩
  · rw [Below.heap_alloc _ _ _ (by simp; omega), Below.heap_alloc _ _ _ (by simp)]; exact heap_alloc_new w _
  · rw [Below.heap_alloc _ _ _ (by simp)]; exact two_new w _ _
  · have := heap_alloc_new ((w.alloc (.cells #[.slice none 0 0] 124)).alloc (.cells #[.int .i64 0] 3)) (.cells #[.int .i64 0] 34)
    simpa using this

/-- The world within the second loop: u stands in the first box, v is what was gathered. -/
structure InT (w : World) (T : Nat) (A : Option Addr) (n c a : Nat) (u v : Value) (I : List It) (W : World) : Prop where
  tk : TK W T A n c a
  bx : Bx w W u
  own : W.ownsRow (T + 1) 123 4 v I.length (cellsOf I)
  lt : w.heap.size + 3 ≤ T

theorem Bx.on {w W W' : World} {u : Value} {r : Option Nat} (h : Bx w W u) (hg : W.grownBy W' r) (hr : ∀ k, r = some k → w.heap.size + 3 ≤ k) : Bx w W' u := by
  have hs := h.size
  refine ⟨h.below.grown hg (by omega) fun k hk => by have := hr k hk; omega, Nat.le_trans hs hg.size, ?_, ?_, ?_⟩
  · rw [hg.block _ (by omega) (fun e => by have := hr _ e.symm; omega)]; exact h.h0
  · rw [hg.block _ (by omega) (fun e => by have := hr _ e.symm; omega)]; exact h.h1
  · rw [hg.block _ (by omega) (fun e => by have := hr _ e.symm; omega)]; exact h.h2
theorem Bx.put {w W : World} {u : Value} (h : Bx w W u) (u' : Value) : Bx w (W.setCell ⟨w.heap.size, 0, none⟩ u') u' := by
  refine ⟨h.below.setCell (Nat.le_refl _) _, by simpa [World.setCell] using h.size, ?_, ?_, ?_⟩
  · rw [heap_setCell_same _ _ _ _ _ _ h.h0]; rfl
  · rw [Below.heap_setCell _ _ _ _ (by simp)]; exact h.h1
  · rw [Below.heap_setCell _ _ _ _ (by simp)]; exact h.h2
theorem InT.item {w W w1 : World} {T n c a a' : Nat} {A : Option Addr} {u v : Value} {I : List It} (h : InT w T A n c a u v I W) (hg : W.grownBy w1 (some T)) (ht : TK w1 T A n c a') : InT w T A n c a' u v I w1 :=
  ⟨ht, h.bx.on hg fun k hk => by injection hk with hk; have := h.lt; omega, h.own.kept hg (by
    cases hb : v.ownBlock with
    | none => exact .inl rfl
    | some g => refine .inr fun e => ?_; injection e with e; have := (h.own.lt g hb).1; omega), h.lt⟩
theorem InT.same {w W w1 : World} {T n c a : Nat} {A : Option Addr} {u v : Value} {I : List It} (h : InT w T A n c a u v I W) (hb : Below W.heap.size W w1) : InT w T A n c a u v I w1 :=
  ⟨h.tk.keep hb, h.bx.on (below_grown hb none) (fun k hk => by cases hk), h.own.kept (below_grown hb none) (by cases v.ownBlock <;> simp), h.lt⟩
theorem InT.put {w W : World} {T n c a : Nat} {A : Option Addr} {u v : Value} {I : List It} (h : InT w T A n c a u v I W) (u' : Value) : InT w T A n c a u' v I (W.setCell ⟨w.heap.size, 0, none⟩ u') :=
  ⟨h.tk.far (p := ⟨w.heap.size, 0, none⟩) (by show w.heap.size ≠ T; have := h.lt; omega) _, h.bx.put u', h.own.kept (grown_one W (T := w.heap.size) (p := ⟨w.heap.size, 0, none⟩) u' rfl) (by
    cases hb : v.ownBlock with
    | none => exact .inl rfl
    | some g => refine .inr fun e => ?_; injection e with e; have := (h.own.lt g hb).1; have := h.lt; omega), h.lt⟩

theorem step_put_item {ops : Array Oper} {o : Oper} {a : Act} {K : Act → World → Prop} {Q : Exit → Act → World → Prop} {E : Prop} (hgd : o.guard = none) (s x : Operand)
    (ho : o.op = .call { callee := .builtin .append, args := #[s, x], argTypes := #[124, 124] })
    {w W : World} {T n c a_ : Nat} {A : Option Addr} {u v : Value} {I : List It} (h : InT w T A n c a_ u v I W) (hs : a.eval s = v) (hx : a.eval x = .slice (some ⟨W.heap.size, 0, none⟩) 1 1) (k m y : Nat) (hm : I.length ≤ 10000)
    (hK : ∀ g cap w', InT w T A n c a_ u (.slice (some ⟨g, 0, none⟩) (I.length + 1) cap) (I ++ [⟨k, m, y⟩]) w' → K (a.put o.dst (.slice (some ⟨g, 0, none⟩) (I.length + 1) cap)) w') :
    if Region.wanted o (yielded ops a.tmps) = true then Oper.wp Tryz.prog o a (W.alloc (.cells #[.int .i64 (k : Nat), .int .i64 (m : Nat), .float .f64 y, .string ⟨#[]⟩] 123)) K Q else E := by
  obtain ⟨i0, hi0, hz0, hz1, hz2⟩ := info_parts info123
  have h' := h.same ((Below.refl _ _).alloc (Nat.le_refl _) (.cells #[.int .i64 (k : Nat), .int .i64 (m : Nat), .float .f64 y, .string ⟨#[]⟩] 123))
  have hT := h'.tk.lt
  refine step_append_lies (W.alloc (.cells #[.int .i64 (k : Nat), .int .i64 (m : Nat), .float .f64 y, .string ⟨#[]⟩] 123)) hgd s x 124 ho (T + 1) 123 i0 zeroItem 4 40 Tryz.underlying124 hi0 hz0 hz1 hz2 rfl (by decide) v I.length (cellsOf I) hs h'.own ⟨W.heap.size, 0, none⟩ 1 1
    (It.cells ⟨k, m, y⟩) hx rfl (World.news_of_block (heap_alloc_new W _)) (by intro z hz; simp only [It.cells, List.mem_cons, List.not_mem_nil, or_false] at hz; rcases hz with rfl | rfl | rfl | rfl <;> rfl) (by omega) (by unfold maxLen; omega) (by omega) (by omega) _ rfl ?_
  intro g cap w' hown hgrow hat hlt
  have hnb : ∀ b, v.ownBlock = some b → T + 1 ≤ b := fun b hb => (h.own.lt b hb).1
  refine hK g cap w' ⟨?_, h'.bx.on hgrow fun b hb => by have := hnb b hb; have := h.lt; omega, ?_, h.lt⟩
  · have hcell : ∀ j, w'.cell? ⟨T, j, none⟩ = (W.alloc (.cells #[.int .i64 (k : Nat), .int .i64 (m : Nat), .float .f64 y, .string ⟨#[]⟩] 123)).cell? ⟨T, j, none⟩ := fun j => hgrow.cell_far _ hT (fun e => by have := hnb T e.symm; omega)
    exact ⟨(hcell 0).trans h'.tk.b, (hcell 1).trans h'.tk.a, (hgrow.frozen_far ⟨T, 1, none⟩ hT (fun e => by have := hnb T e.symm; omega)).trans h'.tk.f⟩
  · have e1 : (I ++ [(⟨k, m, y⟩ : It)]).length = I.length + 1 := by simp
    have e2 : cellsOf (I ++ [(⟨k, m, y⟩ : It)]) = cellsOf I ++ It.cells ⟨k, m, y⟩ := by simp [cellsOf]
    rw [e1, e2]
    exact hown
end Go.Proofs.YtdbnlngkmfmnnaaGreatDoor

/- A region that draws its order and throws, in a function that defers: the way out may forget what the region has laid in its own slots. -/
namespace Go.Proofs.YtdbnlngkmfmnnaaGreatDoor
open Go.RowKit

/-- Q, where a panic's way out looks at the slots by J alone. -/
def ByJ (J : Array Value → Prop) (Q : Exit → Act → World → Prop) : Exit → Act → World → Prop
  | .panic c, a, w => ∀ t, J t → Q (.panic c) { tmps := t, defers := a.defers } w
  | e, a, w => Q e a w

theorem op_inv {P : Program} {ops : Array Oper} {J : Array Value → Prop} {Q : Exit → Act → World → Prop} (hJ : ∀ (i : Nat) (o : Oper) (v : Value) (a : Act), ops[i]? = some o → J a.tmps → J (a.put o.dst v).tmps) (hl : LetsOut (ByJ J Q) → LetsOut Q)
    {i : Nat} {a : Act} {w : World} {K K' : Act → World → Prop} (ha : J a.tmps) (h : ∀ a w, J a.tmps → K a w → K' a w) (hh : wpOp P ops (ByJ J Q) i K a w) : wpOp P ops Q i K' a w := by
  unfold wpOp at *
  split
  · rename_i ho
    simp only [ho] at hh
    exact h _ _ ha hh
  · rename_i o ho
    simp only [ho] at hh
    split
    · rename_i hw
      simp only [hw, if_true] at hh
      refine hh.imp ?_ fun h2 => ⟨h2.1, hl h2.2⟩
      intro hh
      unfold Oper.wp at *
      generalize (execOp a.eval o).run P w = r at *
      have hput : ∀ v (a' : Act), J a'.tmps → J (a'.put o.dst v).tmps := fun v a' h' => hJ i o v a' ho h'
      cases r with
      | ok n w' =>
        cases n with
        | value v => exact h _ _ (hput v a ha) hh
        | skip => exact h _ _ (hput _ a ha) hh
        | defer d => exact h _ _ (hput _ { a with defers := d :: a.defers } ha) hh
        | enter f args =>
          refine Calls.mono (show Calls P f args w' _ from hh) ?_
          intro e w'' k
          cases e with
          | returned v => exact h _ _ (hput v a ha) k
          | panicked c => exact k _ ha
          | outgrown => exact hl k
        | row r args => exact Rows.mono (show Rows P r args w' _ from hh) fun v w'' k => h _ _ (hput v a ha) k
        | _ => exact hh
      | halt hlt w' =>
        cases hlt with
        | panic v => exact hh _ ha
        | _ => exact hh
    · rename_i hw
      simp only [hw] at hh
      exact h _ _ (hJ i o _ a ho ha) hh

theorem any_inv {P : Program} {md : Region.Mode} {ops : Array Oper} {J : Array Value → Prop} {Q : Exit → Act → World → Prop} (hJ : ∀ (i : Nat) (o : Oper) (v : Value) (a : Act), ops[i]? = some o → J a.tmps → J (a.put o.dst v).tmps) (hl : LetsOut (ByJ J Q) → LetsOut Q) :
    ∀ (fuel : Nat) (listed : Array Bool) (a : Act) (w : World), J a.tmps → wpAny P md ops (ByJ J Q) fuel listed a w → wpAny P md ops Q fuel listed a w
  | 0, _, _, _, _, h => h
  | fuel + 1, _, _, _, ha, h => ⟨h.1, fun i hi => op_inv hJ hl ha (fun a' w' ha' h' => any_inv hJ hl fuel _ a' w' ha' h') (h.2 i hi)⟩

theorem put_far {a : Act} {d : Option Tmp} {v : Value} {j : Nat} (h : d ≠ some j) : (a.put d v).tmps[j]? = a.tmps[j]? := by
  cases d with
  | none => rfl
  | some t =>
    have : t ≠ j := fun e => h (by rw [e])
    simp [Act.put, this]
/-- Three slots as they are. -/
def J3 (v4 v5 v6 : Value) (t : Array Value) : Prop := t[4]? = some v4 ∧ t[5]? = some v5 ∧ t[6]? = some v6
theorem J3.put {v4 v5 v6 v : Value} {a : Act} {d : Option Tmp} (h : J3 v4 v5 v6 a.tmps) (h4 : d ≠ some 4) (h5 : d ≠ some 5) (h6 : d ≠ some 6) : J3 v4 v5 v6 (a.put d v).tmps :=
  ⟨(put_far h4).trans h.1, (put_far h5).trans h.2.1, (put_far h6).trans h.2.2⟩
/-- Does a region write none of them? -/
def spares (ops : Array Oper) : Bool := ops.toList.all fun o => !(o.dst == some 4) && !(o.dst == some 5) && !(o.dst == some 6)
theorem spares_put {ops : Array Oper} (hs : spares ops = true) {v4 v5 v6 : Value} : ∀ (i : Nat) (o : Oper) (v : Value) (a : Act), ops[i]? = some o → J3 v4 v5 v6 a.tmps → J3 v4 v5 v6 (a.put o.dst v).tmps := by
  intro i o v a ho h
  have := List.all_eq_true.1 hs o (by rw [Array.mem_toList_iff]; exact Array.mem_of_getElem? ho)
  simp only [Bool.and_eq_true, Bool.not_eq_true', beq_eq_false_iff_ne] at this
  exact h.put this.1.1 this.1.2 this.2

theorem want_step {P : Program} {ops : Array Oper} {o : Oper} {a : Act} {w : World} {K : Act → World → Prop} {Q : Exit → Act → World → Prop} {E : Prop} (hg : o.guard = none) (h : Oper.wp P o a w K Q) : if Region.wanted o (yielded ops a.tmps) = true then Oper.wp P o a w K Q else E := by
  have hw : Region.wanted o (yielded ops a.tmps) = true := by simp [Region.wanted, hg]
  rw [if_pos hw]
  exact h

/-- What the closure leaves where it has caught. -/
theorem caught {w W : World} {u : Value} (h : Bx w W u) (x : Obj) :
    ((((W.alloc x).setCell ⟨w.heap.size, 0, none⟩ (.slice none 0 0)).setCell ⟨w.heap.size + 1, 0, none⟩ (.int .i64 0)).setCell ⟨w.heap.size + 2, 0, none⟩ (.int .i64 4)).cell? ⟨w.heap.size, 0, none⟩ = some (.slice none 0 0) ∧
    ((((W.alloc x).setCell ⟨w.heap.size, 0, none⟩ (.slice none 0 0)).setCell ⟨w.heap.size + 1, 0, none⟩ (.int .i64 0)).setCell ⟨w.heap.size + 2, 0, none⟩ (.int .i64 4)).cell? ⟨w.heap.size + 1, 0, none⟩ = some (.int .i64 0) ∧
    ((((W.alloc x).setCell ⟨w.heap.size, 0, none⟩ (.slice none 0 0)).setCell ⟨w.heap.size + 1, 0, none⟩ (.int .i64 0)).setCell ⟨w.heap.size + 2, 0, none⟩ (.int .i64 4)).cell? ⟨w.heap.size + 2, 0, none⟩ = some (.int .i64 4) ∧
    Below w.heap.size w ((((W.alloc x).setCell ⟨w.heap.size, 0, none⟩ (.slice none 0 0)).setCell ⟨w.heap.size + 1, 0, none⟩ (.int .i64 0)).setCell ⟨w.heap.size + 2, 0, none⟩ (.int .i64 4)) := by
  have hs := h.size
  have a0 : (W.alloc x).heap[w.heap.size]? = some (.cells #[u] 124 (0, 0)) := (Below.heap_alloc W x _ (by omega)).trans h.h0
  have a1 : (W.alloc x).heap[w.heap.size + 1]? = some (.cells #[.int .i64 0] 3 (0, 0)) := (Below.heap_alloc W x _ (by omega)).trans h.h1
  have a2 : (W.alloc x).heap[w.heap.size + 2]? = some (.cells #[.int .i64 0] 34 (0, 0)) := (Below.heap_alloc W x _ (by omega)).trans h.h2
  have hb : Below w.heap.size w (W.alloc x) := h.below.alloc (by omega) x
  generalize W.alloc x = V at a0 a1 a2 hb ⊢
  refine ⟨?_, ?_, ?_, ((hb.setCell (p := ⟨w.heap.size, 0, none⟩) (Nat.le_refl _) _).setCell (p := ⟨w.heap.size + 1, 0, none⟩) (Nat.le_succ _) _).setCell (p := ⟨w.heap.size + 2, 0, none⟩) (by show w.heap.size ≤ w.heap.size + 2; omega) _⟩
  · rw [World.cell?_setCell_other _ _ _ _ (by simp), World.cell?_setCell_other _ _ _ _ (by simp)]
    have := cell_of_row V w.heap.size 0 _ _ _ a0
    exact World.cell?_setCell_same _ _ _ (by simpa using this)
  · rw [World.cell?_setCell_other _ _ _ _ (by simp)]
    have := cell_of_row V (w.heap.size + 1) 0 _ _ _ a1
    refine World.cell?_setCell_same (u := .int .i64 0) _ _ _ ?_
    rw [World.cell?_setCell_other _ _ _ _ (by simp)]
    simpa using this
  · have := cell_of_row V (w.heap.size + 2) 0 _ _ _ a2
    refine World.cell?_setCell_same (u := .int .i64 0) _ _ _ ?_
    rw [World.cell?_setCell_other _ _ _ _ (by simp), World.cell?_setCell_other _ _ _ _ (by simp)]
    simpa using this

theorem cell_on {w : World} {p : Addr} {v : Value} (h : w.cell? p = some v) (o : Obj) : (w.alloc o).cell? p = some v := (World.cell?_alloc_some w p o (by rw [h]; rfl)).trans h
theorem take_step {L K : List Nat} {q a a' : Nat} {I : List It} {it : It} {k : Nat} (h : takeAll L K 0 = Option.map (fun r => (I ++ r.1, r.2)) (match takeOne L k a with
    | none => none
    | some (i, a') => match takeAll L (K.drop (q + 1)) a' with
      | none => none
      | some (l, e) => some (i :: l, e))) (ho : takeOne L k a = some (it, a')) : takeAll L K 0 = (takeAll L (K.drop (q + 1)) a').map (fun r => ((I ++ [it]) ++ r.1, r.2)) := by
  rw [h, ho]
  cases hx : takeAll L (K.drop (q + 1)) a' with
  | none => simp [hx]
  | some r => simp [hx]

/-- What is handed back where nothing was thrown. -/
theorem handed {w W : World} {u v x : Value} (h : Bx w W u) (o : Obj) :
    ((((W.setCell ⟨w.heap.size, 0, none⟩ v).setCell ⟨w.heap.size + 1, 0, none⟩ x).setCell ⟨w.heap.size + 2, 0, none⟩ (.int .i64 0)).alloc o).cell? ⟨w.heap.size, 0, none⟩ = some v ∧
    ((((W.setCell ⟨w.heap.size, 0, none⟩ v).setCell ⟨w.heap.size + 1, 0, none⟩ x).setCell ⟨w.heap.size + 2, 0, none⟩ (.int .i64 0)).alloc o).cell? ⟨w.heap.size + 1, 0, none⟩ = some x ∧
    ((((W.setCell ⟨w.heap.size, 0, none⟩ v).setCell ⟨w.heap.size + 1, 0, none⟩ x).setCell ⟨w.heap.size + 2, 0, none⟩ (.int .i64 0)).alloc o).cell? ⟨w.heap.size + 2, 0, none⟩ = some (.int .i64 0) ∧
    Below w.heap.size w ((((W.setCell ⟨w.heap.size, 0, none⟩ v).setCell ⟨w.heap.size + 1, 0, none⟩ x).setCell ⟨w.heap.size + 2, 0, none⟩ (.int .i64 0)).alloc o) := by
  have hs := h.size
  refine ⟨cell_on ?_ o, cell_on ?_ o, cell_on ?_ o, (((h.below.setCell (p := ⟨w.heap.size, 0, none⟩) (Nat.le_refl _) _).setCell (p := ⟨w.heap.size + 1, 0, none⟩) (Nat.le_succ _) _).setCell (p := ⟨w.heap.size + 2, 0, none⟩) (by show w.heap.size ≤ w.heap.size + 2; omega) _).alloc (by simp [World.setCell]; omega) o⟩
  · rw [World.cell?_setCell_other _ _ _ _ (by simp), World.cell?_setCell_other _ _ _ _ (by simp)]
    have := cell_of_row W w.heap.size 0 _ _ _ h.h0
    exact World.cell?_setCell_same (u := u) _ _ _ (by simpa using this)
  · rw [World.cell?_setCell_other _ _ _ _ (by simp)]
    have := cell_of_row W (w.heap.size + 1) 0 _ _ _ h.h1
    refine World.cell?_setCell_same (u := .int .i64 0) _ _ _ ?_
    rw [World.cell?_setCell_other _ _ _ _ (by simp)]
    simpa using this
  · have := cell_of_row W (w.heap.size + 2) 0 _ _ _ h.h2
    refine World.cell?_setCell_same (u := .int .i64 0) _ _ _ ?_
    rw [World.cell?_setCell_other _ _ _ _ (by simp), World.cell?_setCell_other _ _ _ _ (by simp)]
    simpa using this
theorem own_through {W : World} {T : Nat} {v : Value} {n s : Nat} {xs : List Value} (h : W.ownsRow (T + 1) 123 4 v n xs) (hs : s + 3 ≤ T) (a b c : Value) (o : Obj) :
    ((((W.setCell ⟨s, 0, none⟩ a).setCell ⟨s + 1, 0, none⟩ b).setCell ⟨s + 2, 0, none⟩ c).alloc o).ownsRow (T + 1) 123 4 v n xs := by
  have key : ∀ {V : World} {p : Addr} {x : Value}, V.ownsRow (T + 1) 123 4 v n xs → p.block ≤ T → (V.setCell p x).ownsRow (T + 1) 123 4 v n xs := fun {V p x} h hp => h.kept (grown_one V (T := p.block) x rfl) (by
    cases hb : v.ownBlock with
    | none => exact .inl rfl
    | some g => refine .inr fun e => ?_; injection e with e; have := (h.lt g hb).1; omega)
  exact (key (key (key h (by show s ≤ T; omega)) (by show s + 1 ≤ T; omega)) (by show s + 2 ≤ T; omega)).alloc o
end Go.Proofs.YtdbnlngkmfmnnaaGreatDoor

/- pack.Take: the walk. -/
namespace Go.Proofs.YtdbnlngkmfmnnaaGreatDoor
open Go.RowKit

set_option maxHeartbeats 4000000 in
set_option maxRecDepth 100000 in
theorem take_any (b off c ck : Nat) (Ak : Option Addr) (L K : List Nat) (w : World) (hB : BC w w.heap.size (some ⟨b, off, none⟩) L) (hK : IC w w.heap.size Ak K) (hk : ∀ k ∈ K, 1 ≤ k ∧ k ≤ 4) (hn : L.length ≤ 1000) (mk : K.length ≤ 1000) (hc : L.length ≤ c) (hc2 : c ≤ 9223372036854775807) :
    Calls Tryz.prog 117 #[.slice (some ⟨b, off, none⟩) L.length c, .slice Ak K.length ck] w (Taken w (takeAll L K 0)) := by
  obtain ⟨n, hnl⟩ : ∃ n, L.length = n := ⟨_, rfl⟩
  obtain ⟨m, hml⟩ : ∃ m, K.length = m := ⟨_, rfl⟩
  rw [hnl] at hn hc ⊢
  rw [hml] at mk ⊢
  have HB := Lib.hid hB
  have HK := Lib.hid hK
  have NL := Lib.hid hnl
  have NK := Lib.hid hml
  have KK := Lib.hid hk
  clear hB hK hnl hml hk
  have hmf : ∀ (fn : Fn) (first cap : Array Value) (w : World), (Instr.makeFunc fn first cap).run Tryz.prog w = .ok (.func fn first cap) w := fun _ _ _ _ => rfl
  go_enter_defers Tryz.func117, Tryz.ntmps117
  go_wp2
  go_loopw [14] (fun i wr => ∃ j : Nat, j ≤ m ∧ i = .int .i64 j ∧ Bx w wr (.slice none 0 0)) (fun i _ => m - (intOf i).toNat)
  case atStart => exact ⟨0, Nat.zero_le _, rfl, Bx.start w⟩
  case round =>
    obtain ⟨j, hj, rfl, hb⟩ := hrel
    have HBX := Lib.hid hb
    clear hb
    by_cases hlt : j < m
    · obtain ⟨k, hk⟩ : ∃ k, K[j]? = some k := ⟨_, List.getElem?_eq_getElem (by rw [NK.out]; exact hlt)⟩
      obtain ⟨bk, offk, e, _, hcell⟩ := (HK.out.below HBX.out.below) (by have := NK.out; omega)
      subst e
      have hc0 := hcell _ _ hk
      have hk1 := KK.out k (List.mem_of_getElem? hk)
      have hk2 : ¬ (k : Int) < 1 := by omega
      have hk3 : ¬ (5 : Int) < (k : Int) := by omega
      clear hcell hk hk1
      go_wp2
      exact ⟨⟨j + 1, by omega, by go_num, HBX.out⟩, by simp [intOf]; omega⟩
    · have hjm : j = m := by omega
      subst hjm
      rename World => wo
      obtain ⟨T, hT⟩ : ∃ T, wo.heap.size = T := ⟨_, rfl⟩
      have HT0 := Lib.hid hT
      go_wp2
      clear hT
      go_loopw [31] (fun i wr => ∃ (q a : Nat) (v : Value) (I : List It), q ≤ j ∧ i = .int .i64 q ∧ a ≤ n ∧ InT w T (some ⟨b, off, none⟩) n c a v v I wr ∧ I.length = q ∧ takeAll L K 0 = (takeAll L (K.drop q) a).map (fun r => (I ++ r.1, r.2))) (fun i _ => j - (intOf i).toNat)
      case atStart =>
        have hs3 := HBX.out.size
        have hbx : Bx w (wo.alloc (.cells #[.slice (some ⟨b, off, none⟩) n c, .int .i64 0] 166)) (.slice none 0 0) := HBX.out.on (below_grown ((Below.refl _ _).alloc (Nat.le_refl _) _) none) (fun k hk => by cases hk)
        have hbt := heap_alloc_new wo (.cells #[.slice (some ⟨b, off, none⟩) n c, .int .i64 0] 166)
        rw [HT0.out] at hbt hs3
        refine ⟨0, 0, .slice none 0 0, [], Nat.zero_le _, rfl, Nat.zero_le _, ⟨⟨?_, ?_, ?_⟩, hbx, World.ownsRow_nil _ _ _ _, hs3⟩, rfl, ?_⟩
        · have := cell_of_row _ T 0 _ _ _ hbt; simpa using this
        · have := cell_of_row _ T 1 _ _ _ hbt; simpa using this
        · exact frozen_of_row _ T 1 _ _ hbt
        · rw [List.drop_zero]; cases takeAll L K 0 <;> simp
      case round =>
        obtain ⟨q, a, v, I, hq, rfl, ha, hin, hI, hta⟩ := hrel
        have HIN := Lib.hid hin
        have HTA := Lib.hid hta
        have HI := Lib.hid hI
        clear hin hta hI
        by_cases hlt2 : q < j
        · obtain ⟨k, hk⟩ : ∃ k, K[q]? = some k := ⟨_, List.getElem?_eq_getElem (by rw [NK.out]; exact hlt2)⟩
          obtain ⟨bk, offk, e, _, hcell⟩ := (HK.out.below HIN.out.bx.below) (by have := NK.out; omega)
          subst e
          have hc0 := hcell _ _ hk
          have hk1 := KK.out k (List.mem_of_getElem? hk)
          have hdrop : K.drop q = k :: K.drop (q + 1) := by
            obtain ⟨h1, rfl⟩ := List.getElem?_eq_some_iff.1 hk
            exact List.drop_eq_getElem_cons h1
          have hTA := HTA.out
          rw [hdrop] at hTA
          simp only [takeAll] at hTA
          have hin2 : InT w T (some ⟨b, off, none⟩) n c a v v I wr.drew := HIN.out.same (Below.refl _ _).drew
          have ci := titem_any T w.heap.size b off n c a k L wr.drew hin2.tk (HB.out.below hin2.bx.below) (by have := hin2.lt; omega) hin2.bx.below.size NL.out (by omega) ha hk1.1 hk1.2 hc hc2
          have b0 := cell_of_row wr w.heap.size 0 _ _ _ HIN.out.bx.h0
          simp only [List.getElem?_toArray, List.getElem?_cons_zero] at b0
          have HIN2 := Lib.hid hin2
          have HT1 := Lib.hid hTA
          clear hcell hk hdrop hTA hin2 hk1
          cases ho : takeOne L k a with
          | none =>
            rw [ho] at ci
            have CI := Lib.hid ci
            clear ci
            go_wp2
            refine wp_region_any (by kernel_rfl) ?_
            refine any_inv (J := J3 (.pointer (some ⟨w.heap.size, 0, none⟩)) (.pointer (some ⟨w.heap.size + 1, 0, none⟩)) (.pointer (some ⟨w.heap.size + 1 + 1, 0, none⟩))) (spares_put (by kernel_rfl)) ?_ _ _ _ _ ⟨rfl, rfl, rfl⟩ ?_
            · rintro ⟨a1, w1, h1⟩; exact ⟨a1, w1, h1⟩
            refine wpAny_take (i := 1) (v := .pointer (some ⟨T, 0, none⟩)) rfl (by kernel_rfl) (by kernel_rfl) (by kernel_rfl) (fun _ _ _ h => h) (.inl ⟨rfl, fun _ => rfl⟩) ?_
            refine wpAny_take (i := 2) (v := .int .i64 (k : Nat)) rfl (by kernel_rfl) (by kernel_rfl) (by kernel_rfl) (fun _ _ _ h => h) (.inl ⟨rfl, fun _ => rfl⟩) ?_
            refine wpAny_ready (rs := [0, 3]) (by kernel_rfl) (by decide) ?_
            refine AllReady.cons rfl (fun K1 h1 => ?_) (AllReady.cons rfl (fun K1 h1 => ?_) AllReady.nil)
            · refine want_step rfl ?_
              go_wp2
              refine wpAny_ready (rs := [3]) (by kernel_rfl) (by decide) ?_
              refine AllReady.cons rfl (fun K2 h2 => ?_) AllReady.nil
              refine want_step rfl ?_
              go_wp2_with (go_at_call 140; (with_reducible refine CI.out.mono ?_); rintro e w1 ⟨hg, a', rfl⟩; have HG := Lib.hid hg; clear hg)
              have hbx := HIN2.out.bx.on HG.out (fun z hz => by injection hz with hz; have := HIN2.out.lt; omega)
              obtain ⟨ct1, ct2, ct3, ct4⟩ := caught hbx (.cells #[.int .i64 (a' : Nat)] 162)
              rintro t ⟨t4, t5, t6⟩
              refine leaves_cons (f := 139) (args := #[.pointer (some ⟨w.heap.size, 0, none⟩), .pointer (some ⟨w.heap.size + 1, 0, none⟩), .pointer (some ⟨w.heap.size + 2, 0, none⟩)]) (by simp) (by simp [go_sem]) ?_
              refine (catch_panicking w.heap.size (w.heap.size + 1) (w.heap.size + 2) a' [] w1 _ _ _ hbx.h0 hbx.h1 hbx.h2 (by omega) (by omega) (by omega)).mono ?_
              rintro e u' w'' ⟨rfl, rfl, rfl⟩
              generalize ((((w1.alloc (.cells #[.int .i64 (a' : Nat)] 162)).setCell ⟨w.heap.size, 0, none⟩ (.slice none 0 0)).setCell ⟨w.heap.size + 1, 0, none⟩ (.int .i64 0)).setCell ⟨w.heap.size + 2, 0, none⟩ (.int .i64 4)) = V at ct1 ct2 ct3 ct4 ⊢
              have HT2 := HT1.out
              rw [ho] at HT2
              simp [Leaves, settle, results, Tryz.results117, go_sem, t4, t5, t6, ct1, ct2, ct3]
              have hn0 : takeAll L K 0 = none := by simpa using HT2
              rw [hn0]
              exact ⟨ct4, rfl⟩
            · refine want_step rfl ?_
              go_wp2_with (go_at_call 140; (with_reducible refine CI.out.mono ?_); rintro e w1 ⟨hg, a', rfl⟩; have HG := Lib.hid hg; clear hg)
              have hbx := HIN2.out.bx.on HG.out (fun z hz => by injection hz with hz; have := HIN2.out.lt; omega)
              obtain ⟨ct1, ct2, ct3, ct4⟩ := caught hbx (.cells #[.int .i64 (a' : Nat)] 162)
              rintro t ⟨t4, t5, t6⟩
              refine leaves_cons (f := 139) (args := #[.pointer (some ⟨w.heap.size, 0, none⟩), .pointer (some ⟨w.heap.size + 1, 0, none⟩), .pointer (some ⟨w.heap.size + 2, 0, none⟩)]) (by simp) (by simp [go_sem]) ?_
              refine (catch_panicking w.heap.size (w.heap.size + 1) (w.heap.size + 2) a' [] w1 _ _ _ hbx.h0 hbx.h1 hbx.h2 (by omega) (by omega) (by omega)).mono ?_
              rintro e u' w'' ⟨rfl, rfl, rfl⟩
              generalize ((((w1.alloc (.cells #[.int .i64 (a' : Nat)] 162)).setCell ⟨w.heap.size, 0, none⟩ (.slice none 0 0)).setCell ⟨w.heap.size + 1, 0, none⟩ (.int .i64 0)).setCell ⟨w.heap.size + 2, 0, none⟩ (.int .i64 4)) = V at ct1 ct2 ct3 ct4 ⊢
              have HT2 := HT1.out
              rw [ho] at HT2
              simp [Leaves, settle, results, Tryz.results117, go_sem, t4, t5, t6, ct1, ct2, ct3]
              have hn0 : takeAll L K 0 = none := by simpa using HT2
              rw [hn0]
              exact ⟨ct4, rfl⟩
          | some r =>
            obtain ⟨it, a'⟩ := r
            rw [ho] at ci
            have CI := Lib.hid ci
            clear ci
            obtain ⟨ik, im, iy⟩ := it
            go_wp2
            refine wp_region_any (by kernel_rfl) ?_
            refine any_inv (J := J3 (.pointer (some ⟨w.heap.size, 0, none⟩)) (.pointer (some ⟨w.heap.size + 1, 0, none⟩)) (.pointer (some ⟨w.heap.size + 1 + 1, 0, none⟩))) (spares_put (by kernel_rfl)) ?_ _ _ _ _ ⟨rfl, rfl, rfl⟩ ?_
            · rintro ⟨a1, w1, h1⟩; exact ⟨a1, w1, h1⟩
            refine wpAny_take (i := 1) (v := .pointer (some ⟨T, 0, none⟩)) rfl (by kernel_rfl) (by kernel_rfl) (by kernel_rfl) (fun _ _ _ h => h) (.inl ⟨rfl, fun _ => rfl⟩) ?_
            refine wpAny_take (i := 2) (v := .int .i64 (k : Nat)) rfl (by kernel_rfl) (by kernel_rfl) (by kernel_rfl) (fun _ _ _ h => h) (.inl ⟨rfl, fun _ => rfl⟩) ?_
            refine wpAny_ready (rs := [0, 3]) (by kernel_rfl) (by decide) ?_
            refine AllReady.cons rfl (fun K1 h1 => ?_) (AllReady.cons rfl (fun K1 h1 => ?_) AllReady.nil)
            · refine want_step rfl ?_
              go_wp2
              refine wpAny_ready (rs := [3]) (by kernel_rfl) (by decide) ?_
              refine AllReady.cons rfl (fun K3 h3 => ?_) AllReady.nil
              refine want_step rfl ?_
              go_wp2_with (go_at_call 140; (with_reducible refine CI.out.mono ?_); rintro e w1 ⟨hg, rfl, ht, ha'⟩; have hin3 := HIN2.out.item hg ht; have b1 := cell_of_row w1 w.heap.size 0 _ _ _ hin3.bx.h0; simp only [List.getElem?_toArray, List.getElem?_cons_zero] at b1; have b3 := cell_on b1 (.cells #[.int .i64 (ik : Nat), .int .i64 (im : Nat), .float .f64 iy, .string ⟨#[]⟩] 123); have HIN3 := Lib.hid hin3; clear hg ht hin3)
              refine wpAny_ready (rs := [4]) (by kernel_rfl) (by decide) ?_
              refine AllReady.cons rfl (fun K4 h4 => ?_) AllReady.nil
              refine want_step rfl ?_
              go_wp2
              refine wpAny_ready (rs := [5]) (by kernel_rfl) (by decide) ?_
              refine AllReady.cons rfl (fun K5 h5 => ?_) AllReady.nil
              refine step_put_item rfl (.tmp 35) (.tmp 39) rfl HIN3.out (by simp [Act.eval]) (by simp [Act.eval]) ik im iy (by have := HI.out; omega) ?_
              intro g cap w2 hin
              refine h5 _ _ ?_
              have b2 := cell_of_row w2 w.heap.size 0 _ _ _ hin.bx.h0
              have f2 := frozen_of_row w2 w.heap.size 0 _ _ hin.bx.h0
              simp only [List.getElem?_toArray, List.getElem?_cons_zero] at b2
              have HIN4 := Lib.hid hin
              clear hin
              refine wpAny_ready (rs := [6]) (by kernel_rfl) (by decide) ?_
              refine AllReady.cons rfl (fun K6 h6 => ?_) AllReady.nil
              refine want_step rfl ?_
              go_wp2
              refine wpAny_done (by kernel_rfl) ?_ _
              unfold ByJ
              go_wp2
              exact ⟨⟨q + 1, a', _, I ++ [⟨ik, im, iy⟩], by omega, by go_num, ha', HIN4.out.put _, by have := HI.out; simp; omega, take_step HT1.out ho⟩, by simp [intOf]; omega⟩
            · refine want_step rfl ?_
              go_wp2_with (go_at_call 140; (with_reducible refine CI.out.mono ?_); rintro e w1 ⟨hg, rfl, ht, ha'⟩; have hin3 := HIN2.out.item hg ht; have b1 := cell_of_row w1 w.heap.size 0 _ _ _ hin3.bx.h0; simp only [List.getElem?_toArray, List.getElem?_cons_zero] at b1; have b3 := cell_on b1 (.cells #[.int .i64 (ik : Nat), .int .i64 (im : Nat), .float .f64 iy, .string ⟨#[]⟩] 123); have HIN3 := Lib.hid hin3; clear hg ht hin3)
              refine wpAny_ready (rs := [0, 4]) (by kernel_rfl) (by decide) ?_
              refine AllReady.cons rfl (fun K4 h4 => ?_) (AllReady.cons rfl (fun K4 h4 => ?_) AllReady.nil)
              · refine want_step rfl ?_
                go_wp2
                refine wpAny_ready (rs := [4]) (by kernel_rfl) (by decide) ?_
                refine AllReady.cons rfl (fun K4 h4 => ?_) AllReady.nil
                refine want_step rfl ?_
                go_wp2
                refine wpAny_ready (rs := [5]) (by kernel_rfl) (by decide) ?_
                refine AllReady.cons rfl (fun K5 h5 => ?_) AllReady.nil
                refine step_put_item rfl (.tmp 35) (.tmp 39) rfl HIN3.out (by simp [Act.eval]) (by simp [Act.eval]) ik im iy (by have := HI.out; omega) ?_
                intro g cap w2 hin
                refine h5 _ _ ?_
                have b2 := cell_of_row w2 w.heap.size 0 _ _ _ hin.bx.h0
                have f2 := frozen_of_row w2 w.heap.size 0 _ _ hin.bx.h0
                simp only [List.getElem?_toArray, List.getElem?_cons_zero] at b2
                have HIN4 := Lib.hid hin
                clear hin
                refine wpAny_ready (rs := [6]) (by kernel_rfl) (by decide) ?_
                refine AllReady.cons rfl (fun K6 h6 => ?_) AllReady.nil
                refine want_step rfl ?_
                go_wp2
                refine wpAny_done (by kernel_rfl) ?_ _
                unfold ByJ
                go_wp2
                exact ⟨⟨q + 1, a', _, I ++ [⟨ik, im, iy⟩], by omega, by go_num, ha', HIN4.out.put _, by have := HI.out; simp; omega, take_step HT1.out ho⟩, by simp [intOf]; omega⟩
              · refine want_step rfl ?_
                go_wp2
                refine wpAny_ready (rs := [0]) (by kernel_rfl) (by decide) ?_
                refine AllReady.cons rfl (fun K4 h4 => ?_) AllReady.nil
                refine want_step rfl ?_
                go_wp2
                refine wpAny_ready (rs := [5]) (by kernel_rfl) (by decide) ?_
                refine AllReady.cons rfl (fun K5 h5 => ?_) AllReady.nil
                refine step_put_item rfl (.tmp 35) (.tmp 39) rfl HIN3.out (by simp [Act.eval]) (by simp [Act.eval]) ik im iy (by have := HI.out; omega) ?_
                intro g cap w2 hin
                refine h5 _ _ ?_
                have b2 := cell_of_row w2 w.heap.size 0 _ _ _ hin.bx.h0
                have f2 := frozen_of_row w2 w.heap.size 0 _ _ hin.bx.h0
                simp only [List.getElem?_toArray, List.getElem?_cons_zero] at b2
                have HIN4 := Lib.hid hin
                clear hin
                refine wpAny_ready (rs := [6]) (by kernel_rfl) (by decide) ?_
                refine AllReady.cons rfl (fun K6 h6 => ?_) AllReady.nil
                refine want_step rfl ?_
                go_wp2
                refine wpAny_done (by kernel_rfl) ?_ _
                unfold ByJ
                go_wp2
                exact ⟨⟨q + 1, a', _, I ++ [⟨ik, im, iy⟩], by omega, by go_num, ha', HIN4.out.put _, by have := HI.out; simp; omega, take_step HT1.out ho⟩, by simp [intOf]; omega⟩
        · have hqj : q = j := by omega
          subst hqj
          obtain ⟨vA, vn, vc, rfl⟩ : ∃ (vA : Option Addr) (vn vc : Nat), v = .slice vA vn vc := by
            rcases HIN.out.own.2 with ⟨h, _⟩ | ⟨g, cap, cur, h, _⟩
            · exact ⟨_, _, _, h⟩
            · exact ⟨_, _, _, h⟩
          have hbx := HIN.out.bx
          have htk := HIN.out.tk
          have htl := HIN.out.lt
          have hTA := HTA.out
          rw [List.drop_of_length_le (by have := NK.out; omega)] at hTA
          simp only [takeAll, Option.map_some, List.append_nil] at hTA
          have HF := Lib.hid hTA
          have b0 := cell_of_row wr w.heap.size 0 _ _ _ hbx.h0
          have b1 := cell_of_row wr (w.heap.size + 1) 0 _ _ _ hbx.h1
          have b2 := cell_of_row wr (w.heap.size + 2) 0 _ _ _ hbx.h2
          have f0 := frozen_of_row wr w.heap.size 0 _ _ hbx.h0
          have f1 := frozen_of_row wr (w.heap.size + 1) 0 _ _ hbx.h1
          have f2 := frozen_of_row wr (w.heap.size + 2) 0 _ _ hbx.h2
          have ta := htk.a
          have n1 : w.heap.size ≠ T := by omega
          have n2 : w.heap.size + 1 ≠ T := by omega
          have n3 : w.heap.size + 2 ≠ T := by omega
          simp only [List.getElem?_toArray, List.getElem?_cons_zero] at b0 b1 b2
          have HTL := Lib.hid htl
          clear hbx htk hTA htl
          go_wp2
          refine wp_region_noPanic ?_
          go_region
          unfold NoPanic
          go_wp2
          refine leaves_cons (f := 139) (args := #[.pointer (some ⟨w.heap.size, 0, none⟩), .pointer (some ⟨w.heap.size + 1, 0, none⟩), .pointer (some ⟨w.heap.size + 2, 0, none⟩)]) (by simp) (by simp [go_sem]) ?_
          refine (catch_idle _ _ _ _).mono ?_
          have hin3 := HIN.out.same (Below.refl _ _).drew
          obtain ⟨c1, c2, c3, c4⟩ := handed (v := .slice vA vn vc) (x := .int .i64 (a : Nat)) hin3.bx (.cells #[.int .i64 0] 162)
          have own := own_through hin3.own HTL.out (.slice vA vn vc) (.int .i64 (a : Nat)) (.int .i64 0) (.cells #[.int .i64 0] 162)
          rintro e u' w'' ⟨rfl, rfl, hw⟩
          replace c1 : w''.cell? ⟨w.heap.size, 0, none⟩ = some (.slice vA vn vc) := by rw [hw]; exact c1
          replace c2 : w''.cell? ⟨w.heap.size + 1, 0, none⟩ = some (.int .i64 (a : Nat)) := by rw [hw]; exact c2
          replace c3 : w''.cell? ⟨w.heap.size + 1 + 1, 0, none⟩ = some (.int .i64 0) := by rw [hw]; exact c3
          replace c4 : Below w.heap.size w w'' := by rw [hw]; exact c4
          replace own : w''.ownsRow (T + 1) 123 4 (.slice vA vn vc) I.length (cellsOf I) := by rw [hw]; exact own
          have HC4 := Lib.hid c4
          have HO := Lib.hid own
          clear hw c4 own hin3
          simp [Leaves, settle, results, Tryz.results117, go_sem, c1, c2, c3]
          rw [HF.out]
          exact ⟨HC4.out, _, rfl, ⟨HO.out.1, HO.out.2.imp id fun ⟨g, cap, cur, h1, h2, h3⟩ => ⟨g, cap, cur, h1, by have := HTL.out; omega, h3⟩⟩⟩
end Go.Proofs.YtdbnlngkmfmnnaaGreatDoor

/- row: the kinds ahead; a number repeated. -/
namespace Go.Proofs.YtdbnlngkmfmnnaaGreatDoor
open Go.RowKit

theorem IC.of_box {W : World} {b : Nat} {l : List Nat} {t : TypeId} (h : W.heap[b]? = some (.cells (l.map fun (x : Nat) => (Value.int .i64 (x : Nat))).toArray t (0, 0))) : IC W W.heap.size (some ⟨b, 0, none⟩) l := fun hl => by
  refine ⟨b, 0, rfl, (Array.getElem?_eq_some_iff.1 h).1, fun j x hx => ?_⟩
  rw [Nat.zero_add, cell_of_row W b j _ _ _ h]
  simp [hx]

set_option maxHeartbeats 1000000 in
theorem head_any (w : World) : Calls Tryz.prog 103 #[] w fun e w' => ∃ A c, e = .returned (.slice A 6 c) ∧ IC w' w'.heap.size A [1, 4, 3, 2, 3, 1] ∧ Below w.heap.size w w' := by
  go_enter Tryz.func103, Tryz.ntmps103
  go_wp2
  go_ret
  refine ⟨_, _, rfl, IC.of_box (heap_alloc_new w _), (Below.refl _ _).alloc (Nat.le_refl _) _⟩
end Go.Proofs.YtdbnlngkmfmnnaaGreatDoor

/- A number repeated. -/
namespace Go.Proofs.YtdbnlngkmfmnnaaGreatDoor
open Go.RowKit

set_option maxRecDepth 100000 in
set_option maxHeartbeats 1000000 in
theorem mul64_one (k : Nat) (hk : k ≤ 4) (w : World) : Calls Tryz.prog 155 #[.int .u64 1, .int .u64 (k : Nat)] w fun e w' => e = .returned (.tuple #[.int .u64 0, .int .u64 (k : Nat)]) ∧ w = w' := by
  have : k = 0 ∨ k = 1 ∨ k = 2 ∨ k = 3 ∨ k = 4 := by omega
  rcases this with rfl | rfl | rfl | rfl | rfl
  · go_enter Tryz.func155, Tryz.ntmps155
    go_wp2
    refine bodyPost_ret (v := .tuple #[.int .u64 0, .int .u64 0]) (by simp [results, Tryz.results155, go_sem]; decide) rfl ?_
    exact ⟨rfl, rfl⟩
  · go_enter Tryz.func155, Tryz.ntmps155
    go_wp2
    refine bodyPost_ret (v := .tuple #[.int .u64 0, .int .u64 1]) (by simp [results, Tryz.results155, go_sem]; decide) rfl ?_
    exact ⟨rfl, rfl⟩
  · go_enter Tryz.func155, Tryz.ntmps155
    go_wp2
    refine bodyPost_ret (v := .tuple #[.int .u64 0, .int .u64 2]) (by simp [results, Tryz.results155, go_sem]; decide) rfl ?_
    exact ⟨rfl, rfl⟩
  · go_enter Tryz.func155, Tryz.ntmps155
    go_wp2
    refine bodyPost_ret (v := .tuple #[.int .u64 0, .int .u64 3]) (by simp [results, Tryz.results155, go_sem]; decide) rfl ?_
    exact ⟨rfl, rfl⟩
  · go_enter Tryz.func155, Tryz.ntmps155
    go_wp2
    refine bodyPost_ret (v := .tuple #[.int .u64 0, .int .u64 4]) (by simp [results, Tryz.results155, go_sem]; decide) rfl ?_
    exact ⟨rfl, rfl⟩
theorem mul_one_any (k : Nat) (hk : k ≤ 4) (w : World) : Calls Tryz.prog 141 #[.int .u64 1, .int .u64 (k : Nat)] w fun e w' => e = .returned (.tuple #[.int .u64 0, .int .u64 (k : Nat)]) ∧ w = w' := by
  have c := mul64_one k hk
  go_enter Tryz.func141, Tryz.ntmps141
  go_wp2_with (go_at_call 155; (with_reducible refine (c _).mono ?_); rintro e w' ⟨rfl, rfl⟩)
  refine bodyPost_ret (v := .tuple #[.int .u64 0, .int .u64 (k : Nat)]) (by simp [results, Tryz.results141, go_sem]) rfl ?_
  exact ⟨rfl, rfl⟩
end Go.Proofs.YtdbnlngkmfmnnaaGreatDoor
