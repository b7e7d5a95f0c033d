/- humusref15.All. -/
import Derived.Test.YtdbnlngkmfmnnaaGreatDoorH15
namespace Go.Proofs.YtdbnlngkmfmnnaaGreatDoor
open Go.RowKit

/-- The rows of slots, of leaves, and where they are. -/
def allS (i : Nat) (ss : List (List Nat)) : List (RowD × Nat × Nat) := ss.zipIdx.filterMap fun p => (decL p.1).map fun d => (d, i, p.2)
def allL (l : List LeafD) : List (RowD × Nat × Nat) := l.zipIdx.flatMap fun p => allS p.2 p.1.slots
theorem allS_step {i k : Nat} {ss : List (List Nat)} {s : List Nat} (h : ss[k]? = some s) : allS i (ss.take (k + 1)) = allS i (ss.take k) ++ ((decL s).map fun d => (d, i, k)).toList := by
  have hk := (List.getElem?_eq_some_iff.1 h).1
  unfold allS
  rw [take_at' h, List.zipIdx_append, List.filterMap_append]
  congr 1
  have hl : (ss.take k).length = k := by rw [List.length_take]; omega
  rw [hl, Nat.zero_add]
  simp only [List.zipIdx_cons, List.zipIdx_nil, List.filterMap_cons, List.filterMap_nil]
  cases decL s <;> rfl
theorem allL_step {j : Nat} {l : List LeafD} {d : LeafD} (h : l[j]? = some d) : allL (l.take (j + 1)) = allL (l.take j) ++ allS j d.slots := by
  have hj := (List.getElem?_eq_some_iff.1 h).1
  unfold allL
  rw [take_at' h, List.zipIdx_append, List.flatMap_append]
  congr 1
  have hl : (l.take j).length = j := by rw [List.length_take]; omega
  rw [hl, Nat.zero_add]
  simp only [List.zipIdx_cons, List.zipIdx_nil, List.flatMap_cons, List.flatMap_nil, List.append_nil]
theorem allS_len (i : Nat) (ss : List (List Nat)) : (allS i ss).length ≤ ss.length := by
  unfold allS
  refine Nat.le_trans (List.length_filterMap_le _ _) ?_
  rw [List.length_zipIdx]; exact Nat.le_refl _
theorem allS_fst (i : Nat) (ss : List (List Nat)) : (allS i ss).map (·.1) = rowsS ss := by
  have key : ∀ (ss : List (List Nat)) (n : Nat), ((ss.zipIdx n).filterMap fun p => (decL p.1).map fun d => (d, i, p.2)).map (·.1) = rowsS ss := by
    intro ss
    induction ss with
    | nil => intro n; rfl
    | cons s ss ih =>
      intro n
      unfold rowsS at ih ⊢
      rw [List.zipIdx_cons, List.filterMap_cons, List.filterMap_cons]
      cases hd : decL s with
      | none => simp only [Option.map_none]; exact ih (n + 1)
      | some d => simp only [Option.map_some, List.map_cons]; rw [ih (n + 1)]
  exact key ss 0
theorem allL_fst (l : List LeafD) : (allL l).map (·.1) = rowsL l := by
  have key : ∀ (l : List LeafD) (n : Nat), ((l.zipIdx n).flatMap fun p => allS p.2 p.1.slots).map (·.1) = rowsL l := by
    intro l
    induction l with
    | nil => intro n; rfl
    | cons d l ih =>
      intro n
      unfold rowsL at ih ⊢
      rw [List.zipIdx_cons, List.flatMap_cons, List.map_append, List.flatMap_cons, ih (n + 1), allS_fst]
  exact key l 0
theorem allL_len {l : List LeafD} {M : Nat} (h : ∀ d ∈ l, d.slots.length ≤ M) (j : Nat) : (allL (l.take j)).length ≤ M * j := by
  induction j with
  | zero => simp [allL]
  | succ j ih =>
    cases hd : l[j]? with
    | none =>
      have : l.take (j + 1) = l.take j := by rw [List.take_add_one, hd]; simp
      rw [this, Nat.mul_succ]; omega
    | some d =>
      rw [allL_step hd, List.length_append, Nat.mul_succ]
      have h1 := allS_len j d.slots
      have h2 := h d (List.mem_of_getElem? hd)
      omega

def cellsB (T : List (Nat × Nat)) : List Value := T.flatMap fun p => [.int .i64 (p.1 : Nat), .int .i64 (p.2 : Nat)]
theorem cellsB_get {T : List (Nat × Nat)} : ∀ {i : Nat} {p : Nat × Nat}, T[i]? = some p → (cellsB T)[i * 2]? = some (.int .i64 (p.1 : Nat)) ∧ (cellsB T)[i * 2 + 1]? = some (.int .i64 (p.2 : Nat)) := by
  induction T with
  | nil => intro i p h; simp at h
  | cons q T ih =>
    intro i p h
    have e : cellsB (q :: T) = [.int .i64 (q.1 : Nat), .int .i64 (q.2 : Nat)] ++ cellsB T := rfl
    cases i with
    | zero =>
      simp only [List.getElem?_cons_zero, Option.some.injEq] at h
      subst h
      exact ⟨rfl, rfl⟩
    | succ i =>
      rw [List.getElem?_cons_succ] at h
      obtain ⟨h1, h2⟩ := ih h
      rw [e, show (i + 1) * 2 = 2 + i * 2 by omega, show 2 + i * 2 + 1 = 2 + (i * 2 + 1) by omega, List.getElem?_append_right (by simp), List.getElem?_append_right (by simp)]
      simpa using ⟨h1, h2⟩

theorem info33 : (Tryz.prog.info? 33).map (fun i => (i.zero, i.size, i.bytes)) = some (some (.agg #[.int .i64 0, .int .i64 0]), 2, 16) := by kernel_rfl

theorem RX.imp2 {w w' : World} {o o2 o' : Option Nat} (hf : ∀ A l, FX w o A l → FX w o2 A l → FX w' o' A l) : ∀ {l : List RowD} {xs : List Value}, RX w o l xs → RX w o2 l xs → RX w' o' l xs
  | [], _, h, _ => h
  | d :: l, xs, ⟨A', c', ys, e, h1, h2, h3, h4⟩, ⟨A2, c2, ys2, e2, g1, g2, g3, g4⟩ => by
    have he := e.symm.trans e2
    have := List.append_inj he (by rw [cells_length, cells_length])
    obtain ⟨q1, q2⟩ := this
    simp only [RowD.cells] at q1
    injection q1 with _ q1; injection q1 with _ q1; injection q1 with q1 _; injection q1 with q3 q4 q5
    subst q2 q3 q5
    exact ⟨A', c', ys, e, hf _ _ h1 g1, h2, h3, RX.imp2 hf h4 g4⟩

/-- The world within All's loops: the rows and the berths so far. -/
structure AllI (w : World) (R : List RowD) (T : List (Nat × Nat)) (v vb : Value) (W : World) : Prop where
  below : Below w.heap.size w W
  own : ∃ xs, W.ownsRow w.heap.size 30 6 v R.length xs ∧ RX W v.ownBlock R xs ∧ RX W vb.ownBlock R xs ∧ ∀ g, g < w.heap.size → RX W (some g) R xs
  ownb : W.ownsRow w.heap.size 33 2 vb T.length (cellsB T)
  ne : vb.ownBlock = none ∨ vb.ownBlock ≠ v.ownBlock
theorem AllI.Own {w W : World} {R : List RowD} {T : List (Nat × Nat)} {v vb : Value} (h : AllI w R T v vb W) : Own W w.heap.size v R := by
  obtain ⟨xs, h1, h2, _⟩ := h.own
  exact ⟨xs, h1, h2⟩
theorem AllI.same {w W W' : World} {R : List RowD} {T : List (Nat × Nat)} {v vb : Value} (h : AllI w R T v vb W) (hb : Below W.heap.size W W') : AllI w R T v vb W' := by
  obtain ⟨xs, h1, h2, h3, h4⟩ := h.own
  exact ⟨h.below.trans (hb.mono h.below.size), ⟨xs, h1.kept (below_grown hb none) (by cases v.ownBlock <;> simp), h2.below hb, h3.below hb, fun g hg => (h4 g hg).below hb⟩, h.ownb.kept (below_grown hb none) (by cases vb.ownBlock <;> simp), h.ne⟩
theorem AllI.lt {w W : World} {R : List RowD} {T : List (Nat × Nat)} {v vb : Value} (h : AllI w R T v vb W) : (∀ g, v.ownBlock = some g → w.heap.size ≤ g ∧ g < W.heap.size) ∧ (∀ g, vb.ownBlock = some g → w.heap.size ≤ g ∧ g < W.heap.size) := by
  obtain ⟨xs, h1, _⟩ := h.own
  exact ⟨fun g hg => h1.lt g hg, fun g hg => h.ownb.lt g hg⟩

theorem put_all1 {ops : Array Oper} {rest : List Oper} {o : Oper} {a : Act} {Q : Exit → Act → World → Prop} (hgd : o.guard = none) (s x : Operand)
    (ho : o.op = .call { callee := .builtin .append, args := #[s, x], argTypes := #[22, 22] })
    {w W : World} {n : Nat} {v vb : Value} {R : List RowD} {T : List (Nat × Nat)} (hown : AllI w R T v vb W) (hlen : R.length = n) (hs : a.eval s = v) (hx : a.eval x = .slice (some ⟨W.heap.size, 0, none⟩) 1 1)
    (d : RowD) (A' : Option Addr) (c' : Nat) (hf : FX W v.ownBlock A' d.cols) (hf2 : FX W vb.ownBlock A' d.cols) (hf3 : ∀ g, g < w.heap.size → FX W (some g) A' d.cols) (h2 : d.cols.length ≤ c') (h3 : A' = none → c' = 0) (m : n ≤ 100000)
    (h : ∀ g cap w', AllI w (R ++ [d]) T (.slice (some ⟨g, 0, none⟩) (n + 1) cap) vb w' → wpList Tryz.prog ops Q rest (a.put o.dst (.slice (some ⟨g, 0, none⟩) (n + 1) cap)) w') :
    wpList Tryz.prog ops Q (o :: rest) a (W.alloc (.cells (d.cells A' c') 30)) := by
  obtain ⟨i0, hi0, hz0, hz1, hz2⟩ := info_parts info30
  obtain ⟨W', hW⟩ : ∃ W', W' = W.alloc (.cells (d.cells A' c') 30) := ⟨_, rfl⟩
  have hal : Below W.heap.size W W' := by rw [hW]; exact (Below.refl W.heap.size W).alloc (Nat.le_refl _) _
  have hown' := hown.same hal
  have hfx : FX W' v.ownBlock A' d.cols := hf.below hal
  have hfx2 : FX W' vb.ownBlock A' d.cols := hf2.below hal
  have hvx : RX W' v.ownBlock [d] (d.cells A' c').toList := RX.one hfx h2 h3
  have hvx2 : RX W' vb.ownBlock [d] (d.cells A' c').toList := RX.one hfx2 h2 h3
  have hv : W'.heap[W.heap.size]? = some (.cells (d.cells A' c') 30 (0, 0)) := by rw [hW]; exact heap_alloc_new W _
  have hbs : w.heap.size ≤ W'.heap.size := hown'.below.size
  rw [← hW]
  obtain ⟨xs, h1, hrx, hrx2, hrx3⟩ := hown'.own
  rw [hlen] at h1
  refine wpList_append_lies W' hgd s x 22 ho w.heap.size 30 i0 zeroRow 6 64 Tryz.underlying22 hi0 hz0 hz1 hz2 rfl (by decide) v n xs hs h1 ⟨W.heap.size, 0, none⟩ 1 1 _ hx hvx.len (World.news_of_block hv) hvx.oneCell (by omega) (by unfold maxLen; omega) (by omega) hbs _ rfl ?_
  intro g cap w' hown2 hgrow hat hlt
  have hlv := hown'.lt
  have hat' : Value.ownBlock (.slice (some ⟨g, 0, none⟩) (n + 1) cap) = v.ownBlock ∨ Value.ownBlock (.slice (some ⟨g, 0, none⟩) (n + 1) cap) = some W'.heap.size := by
    rcases hat with hat | hat
    · exact .inl (by rw [hat]; rfl)
    · exact .inr (by rw [hat]; rfl)
  have hR : RX W' v.ownBlock (R ++ [d]) (xs ++ (d.cells A' c').toList) := hrx.append hvx
  have hR2 : RX W' vb.ownBlock (R ++ [d]) (xs ++ (d.cells A' c').toList) := hrx2.append hvx2
  have hR3 : ∀ g, g < w.heap.size → RX W' (some g) (R ++ [d]) (xs ++ (d.cells A' c').toList) := fun g hg => (hrx3 g hg).append (RX.one ((hf3 g hg).below hal) h2 h3)
  have keep : ∀ o2, RX W' o2 (R ++ [d]) (xs ++ (d.cells A' c').toList) → RX w' o2 (R ++ [d]) (xs ++ (d.cells A' c').toList) := fun o2 hh => by
    refine RX.imp2 (fun A l q1 q2 => ⟨q1.1, fun hl => ?_⟩) hR hh
    obtain ⟨b, off, e, hB, ho', hc⟩ := q1.2 hl
    obtain ⟨b2, off2, e2, _, ho2, _⟩ := q2.2 hl
    rw [e] at e2
    injection e2 with e2; injection e2 with e3 e4
    subst e3
    exact ⟨b, off, e, Nat.lt_of_lt_of_le hB hgrow.size, ho2, fun j x hx => (hgrow.cell_far _ hB ho').trans (hc j x hx)⟩
  refine h g cap w' ⟨hown'.below.grown hgrow hbs fun g hg => (hlv.1 g hg).1, ⟨_, by rw [List.length_append, hlen]; exact hown2, ?_, keep _ hR2, fun g hg => keep _ (hR3 g hg)⟩, hown'.ownb.kept hgrow hown'.ne, ?_⟩
  · rcases hat' with ha | ha
    · rw [ha]; exact hR.grown hgrow
    · rw [ha]; exact hR.past hgrow (fun g hg => by injection hg with hg; omega)
  · rcases hown'.ne with hn | hn
    · exact .inl hn
    · rcases hat' with ha | ha
      · rw [ha]; exact .inr hn
      · rw [ha]
        refine .inr fun e => ?_
        have := (hlv.2 _ e).2
        omega

theorem put_all2 {ops : Array Oper} {rest : List Oper} {o : Oper} {a : Act} {Q : Exit → Act → World → Prop} (hgd : o.guard = none) (s x : Operand)
    (ho : o.op = .call { callee := .builtin .append, args := #[s, x], argTypes := #[77, 77] })
    {w W : World} {n : Nat} {v vb : Value} {R : List RowD} {T : List (Nat × Nat)} (hown : AllI w R T v vb W) (hlen : T.length = n) (hs : a.eval s = vb) (hx : a.eval x = .slice (some ⟨W.heap.size, 0, none⟩) 1 1)
    (i k : Nat) (m : n ≤ 100000)
    (h : ∀ g cap w', AllI w R (T ++ [(i, k)]) v (.slice (some ⟨g, 0, none⟩) (n + 1) cap) w' → wpList Tryz.prog ops Q rest (a.put o.dst (.slice (some ⟨g, 0, none⟩) (n + 1) cap)) w') :
    wpList Tryz.prog ops Q (o :: rest) a (W.alloc (.cells #[.int .i64 (i : Nat), .int .i64 (k : Nat)] 33)) := by
  obtain ⟨i0, hi0, hz0, hz1, hz2⟩ := info_parts info33
  obtain ⟨W', hW⟩ : ∃ W', W' = W.alloc (.cells #[.int .i64 (i : Nat), .int .i64 (k : Nat)] 33) := ⟨_, rfl⟩
  have hal : Below W.heap.size W W' := by rw [hW]; exact (Below.refl W.heap.size W).alloc (Nat.le_refl _) _
  have hown' := hown.same hal
  have hv : W'.heap[W.heap.size]? = some (.cells #[.int .i64 (i : Nat), .int .i64 (k : Nat)] 33 (0, 0)) := by rw [hW]; exact heap_alloc_new W _
  have hbs : w.heap.size ≤ W'.heap.size := hown'.below.size
  rw [← hW]
  have h1 := hown'.ownb
  rw [hlen] at h1
  refine wpList_append_lies W' hgd s x 77 ho w.heap.size 33 i0 _ 2 16 Tryz.underlying77 hi0 hz0 hz1 hz2 rfl (by decide) vb n (cellsB T) hs h1 ⟨W.heap.size, 0, none⟩ 1 1 [.int .i64 (i : Nat), .int .i64 (k : Nat)] hx rfl (World.news_of_block hv) (by intro z hz; simp only [List.mem_cons, List.not_mem_nil, or_false] at hz; rcases hz with rfl | rfl <;> rfl) (by omega) (by unfold maxLen; omega) (by omega) hbs _ rfl ?_
  intro g cap w' hown2 hgrow hat hlt
  have hlv := hown'.lt
  have hat' : Value.ownBlock (.slice (some ⟨g, 0, none⟩) (n + 1) cap) = vb.ownBlock ∨ Value.ownBlock (.slice (some ⟨g, 0, none⟩) (n + 1) cap) = some W'.heap.size := by
    rcases hat with hat | hat
    · exact .inl (by rw [hat]; rfl)
    · exact .inr (by rw [hat]; rfl)
  obtain ⟨xs, h1', hrx, hrx2, hrx3⟩ := hown'.own
  have keep : ∀ o2, RX W' o2 R xs → RX w' o2 R xs := fun o2 hh => by
    refine RX.imp2 (fun A l q1 q2 => ⟨q1.1, fun hl => ?_⟩) hrx2 hh
    obtain ⟨b, off, e, hB, ho', hc⟩ := q1.2 hl
    obtain ⟨b2, off2, e2, _, ho2, _⟩ := q2.2 hl
    rw [e] at e2
    injection e2 with e2; injection e2 with e3 e4
    subst e3
    exact ⟨b, off, e, Nat.lt_of_lt_of_le hB hgrow.size, ho2, fun j x hx => (hgrow.cell_far _ hB ho').trans (hc j x hx)⟩
  have hne' : v.ownBlock = none ∨ v.ownBlock ≠ vb.ownBlock := by
    cases hv : v.ownBlock with
    | none => exact .inl rfl
    | some g =>
      right
      rcases hown'.ne with hn | hn
      · rw [hn]; simp
      · rw [hv] at hn; exact fun e => hn e.symm
  refine h g cap w' ⟨hown'.below.grown hgrow hbs fun g hg => (hlv.2 g hg).1, ⟨xs, h1'.kept hgrow hne', keep _ hrx, ?_, fun g hg => keep _ (hrx3 g hg)⟩, ?_, ?_⟩
  · rcases hat' with ha | ha
    · rw [ha]; exact hrx2.grown hgrow
    · rw [ha]; exact hrx2.past hgrow (fun g hg => by injection hg with hg; omega)
  · rw [List.length_append, hlen]
    have : cellsB (T ++ [(i, k)]) = cellsB T ++ [.int .i64 (i : Nat), .int .i64 (k : Nat)] := by unfold cellsB; rw [List.flatMap_append]; rfl
    rw [this]
    exact hown2
  · rcases hat' with ha | ha
    · rw [ha]; exact hown'.ne
    · rw [ha]
      refine .inr fun e => ?_
      have := (hlv.1 _ e.symm).2
      omega

theorem AllI.start (w : World) : AllI w [] [] (.slice (some ⟨w.heap.size, 0, none⟩) 0 0) (.slice (some ⟨w.heap.size + 1, 0, none⟩) 0 0) ((w.alloc (.cells #[] 30)).alloc (.cells #[] 33)) := by
  have hb : Below w.heap.size w (w.alloc (.cells #[] 30)) := (Below.refl _ _).alloc (Nat.le_refl _) _
  have hb2 : Below (w.alloc (.cells #[] 30)).heap.size (w.alloc (.cells #[] 30)) ((w.alloc (.cells #[] 30)).alloc (.cells #[] 33)) := (Below.refl _ _).alloc (Nat.le_refl _) _
  refine ⟨hb.alloc (by simp) _, ⟨[], ?_, rfl, rfl, fun _ _ => rfl⟩, ?_, .inr (by simp [Value.ownBlock])⟩
  · have h := World.ownsRow_lit (base := w.heap.size) (e := 30) (size := 6) w #[] 0 (Nat.le_refl _) (by unfold maxLen; omega) rfl
    exact h.kept (below_grown hb2 none) (.inr (by simp [Value.ownBlock]))
  · have h := World.ownsRow_lit (base := w.heap.size) (e := 33) (size := 2) (w.alloc (.cells #[] 30)) #[] 0 (by simp) (by unfold maxLen; omega) rfl
    rw [show (w.alloc (.cells #[] 30)).heap.size = w.heap.size + 1 by simp] at h
    exact h
end Go.Proofs.YtdbnlngkmfmnnaaGreatDoor

/- humusref15.All: the walk. -/
namespace Go.Proofs.YtdbnlngkmfmnnaaGreatDoor
open Go.RowKit

/-- The rows and berths ahead of slot k of leaf j. -/
def ahead (l : List LeafD) (j : Nat) (ss : List (List Nat)) (k : Nat) : List (RowD × Nat × Nat) := allL (l.take j) ++ allS j (ss.take k)
theorem ahead_zero (l : List LeafD) (j : Nat) (ss : List (List Nat)) : ahead l j ss 0 = allL (l.take j) := by unfold ahead allS; simp
theorem ahead_all {l : List LeafD} {j : Nat} {d : LeafD} (hd : l[j]? = some d) : ahead l j d.slots d.slots.length = allL (l.take (j + 1)) := by
  unfold ahead
  rw [List.take_length, allL_step hd]
theorem ahead_none {l : List LeafD} {j k : Nat} {ss : List (List Nat)} {s : List Nat} (h : ss[k]? = some s) (hd : decL s = none) : ahead l j ss (k + 1) = ahead l j ss k := by
  unfold ahead
  rw [allS_step h, hd]
  simp
theorem ahead_some {l : List LeafD} {j k : Nat} {ss : List (List Nat)} {s : List Nat} {d : RowD} (h : ss[k]? = some s) (hd : decL s = some d) : ahead l j ss (k + 1) = ahead l j ss k ++ [(d, j, k)] := by
  unfold ahead
  rw [allS_step h, hd]
  simp
theorem ahead_le {l : List LeafD} (h : ∀ d ∈ l, d.slots.length ≤ 1000) {j k : Nat} {d : LeafD} (hd : l[j]? = some d) (hk : k ≤ d.slots.length) : (ahead l j d.slots k).length ≤ 1000 * (j + 1) := by
  have h1 := allL_len h j
  have h2 := allS_len j (d.slots.take k)
  have h3 := h d (List.mem_of_getElem? hd)
  unfold ahead
  rw [List.length_append]
  rw [List.length_take] at h2
  omega

def AllP (w : World) (P : List (RowD × Nat × Nat)) (v vb : Value) (W : World) : Prop := AllI w (P.map (·.1)) (P.map (·.2)) v vb W
theorem AllP.same {w W W' : World} {P : List (RowD × Nat × Nat)} {v vb : Value} (h : AllP w P v vb W) (hb : Below W.heap.size W W') : AllP w P v vb W' := AllI.same h hb

theorem dec15_no {A : Option Addr} {c y : Nat} {s : List Nat} {w : World} (h : BC w w.heap.size A s) (hy : s.length = y) (hn : y ≤ 1000) (hc : y ≤ c) (hc2 : c ≤ 9223372036854775807) (hd : decL s = none) :
    Calls Tryz.prog 86 #[.slice A y c] w fun e w' => e = .returned (.tuple #[.agg #[.float .f64 0, .bool false, .slice none 0 0, .int .i64 0, .int .i64 0, .int .i64 0], .bool false]) ∧ Below w.heap.size w w' := by
  subst hy
  refine (dec15_any A c s w h hn hc hc2).mono fun e w' ⟨h1, h2⟩ => ?_
  rw [hd] at h2
  exact ⟨h2, h1⟩
theorem dec15_yes {A : Option Addr} {c y : Nat} {s : List Nat} {w : World} {d : RowD} (h : BC w w.heap.size A s) (hy : s.length = y) (hn : y ≤ 1000) (hc : y ≤ c) (hc2 : c ≤ 9223372036854775807) (hd : decL s = some d) :
    Calls Tryz.prog 86 #[.slice A y c] w fun e w' => ∃ A' c', e = .returned (.tuple #[.agg #[.float .f64 d.key, .bool d.dead, .slice A' d.cols.length c', .int .i64 d.wr, .int .i64 d.rc, .int .i64 d.rn], .bool true]) ∧ Below w.heap.size w w' ∧ Hid (FN w w' A' d.cols ∧ d.cols.length ≤ c' ∧ (A' = none → c' = 0)) := by
  subst hy
  refine (dec15_any A c s w h hn hc hc2).mono fun e w' ⟨h1, h2⟩ => ?_
  rw [hd] at h2
  obtain ⟨A', c', rfl, h3⟩ := h2
  exact ⟨A', c', rfl, h1, h3⟩

set_option maxHeartbeats 4000000 in
set_option maxRecDepth 100000 in
theorem rall_any (A : Option Addr) (c : Nat) (l : List LeafD) (w : World) (h : LC w w.heap.size A l) (m : l.length ≤ 90) (hs : ∀ d ∈ l, d.slots.length ≤ 1000 ∧ ∀ s ∈ d.slots, s.length ≤ 1000) :
    Calls Tryz.prog 43 #[.slice A l.length c] w fun e w' => ∃ v vb, e = .returned (.tuple #[v, vb]) ∧ AllP w (allL l) v vb w' := by
  obtain ⟨n, hn⟩ : ∃ n, l.length = n := ⟨_, rfl⟩
  rw [hn] at m ⊢
  have H := Lib.hid h
  have N := Lib.hid hn
  have HS := Lib.hid hs
  have HST : Hid (AllP w [] (.slice (some ⟨w.heap.size, 0, none⟩) 0 0) (.slice (some ⟨w.heap.size + 1, 0, none⟩) 0 0) ((w.alloc (.cells #[] 30)).alloc (.cells #[] 33))) := AllI.start w
  have hsf := run_store_f64
  clear h hn hs
  go_enter Tryz.func43, Tryz.ntmps43
  go_wp2
  go_loopw [6, 4, 5] (fun i u ub wr => ∃ j : Nat, j ≤ n ∧ i = .int .i64 j ∧ AllP w (allL (l.take j)) u ub wr) (fun i _ _ _ => n - (intOf i).toNat)
  case atStart => exact ⟨0, Nat.zero_le _, rfl, HST.out⟩
  case round =>
    obtain ⟨j, hj, rfl, hp⟩ := hrel
    have HP := Lib.hid hp
    clear hp
    by_cases hlt : j < n
    · obtain ⟨d, hd⟩ := get_at' N hlt
      obtain ⟨n2, hn2⟩ : ∃ n2, d.slots.length = n2 := ⟨_, rfl⟩
      have N2 := Lib.hid hn2
      have HD := Lib.hid hd
      have hm2 := (HS.out d (List.mem_of_getElem? hd)).1
      have HS2 := Lib.hid (HS.out d (List.mem_of_getElem? hd)).2
      rw [hn2] at hm2
      clear hn2 hd
      go_wp2
      rename World => wo
      go_loopw [7, 4, 5] (fun i u ub wr => ∃ k : Nat, k ≤ n2 ∧ i = .int .i64 k ∧ AllP w (ahead l j d.slots k) u ub wr) (fun i _ _ _ => n2 - (intOf i).toNat)
      case atStart => exact ⟨0, Nat.zero_le _, rfl, by rw [ahead_zero]; exact HP.out⟩
      case round =>
        obtain ⟨k, hk, rfl, hp⟩ := hrel
        have HQ := Lib.hid hp
        clear hp
        obtain ⟨b, off, A1, k1, A2, k2, e, hbB, hc0, hc1, hz, hsc, m1, m2, q1, q2, _, _⟩ := (H.out.below HQ.out.below).at_ HD.out
        rw [N2.out] at hc1 m2 q2
        subst e
        have HSC := Lib.hid hsc
        clear hz hsc hc0
        by_cases hkn : k < n2
        · obtain ⟨s, hs⟩ := get_at' N2 hkn
          obtain ⟨b', off', A', c', e', hbB', hcs, hbc, hlc, hcm, _⟩ := HSC.out.at_ hs
          subst e'
          obtain ⟨y, hy⟩ : ∃ y, s.length = y := ⟨_, rfl⟩
          have hy1 := HS2.out s (List.mem_of_getElem? hs)
          rw [hy] at hcs hlc hy1
          have hbc2 := hbc.more HQ.out.below.size
          have hle := ahead_le (fun d hd => (HS.out d hd).1) HD.out (show k ≤ d.slots.length by rw [N2.out]; omega)
          have HLE : Hid ((ahead l j d.slots k).length ≤ 100000) := Nat.le_trans hle (by omega)
          cases hdec : decL s with
          | none =>
            have DC := Lib.hid (dec15_no hbc2 hy hy1 hlc hcm hdec)
            have HE := Lib.hid (ahead_none (l := l) (j := j) hs hdec)
            clear hs hbc hbc2 hdec hy hle
            go_wp2_with (go_at_call 86; (with_reducible refine DC.out.mono ?_); rintro e w2 ⟨rfl, hb2⟩; have HB2 := Lib.hid hb2; clear hb2)
            exact ⟨⟨k + 1, by omega, by go_num, by rw [HE.out]; exact HQ.out.same (HB2.out.alloc HB2.out.size _)⟩, by simp [intOf]; omega⟩
          | some r =>
            have DC := Lib.hid (dec15_yes hbc2 hy hy1 hlc hcm hdec)
            have HE := Lib.hid (ahead_some (l := l) (j := j) hs hdec)
            obtain ⟨P, hP⟩ : ∃ P, ahead l j d.slots k = P := ⟨_, rfl⟩
            rw [hP] at HE HQ HLE
            obtain ⟨q, hq⟩ : ∃ q, P.length = q := ⟨_, rfl⟩
            have hq1 : q ≤ 100000 := by rw [← hq]; exact HLE.out
            have HR1 : Hid ((P.map (·.1)).length = q) := by rw [List.length_map]; exact hq
            have HR2 : Hid ((P.map (·.2)).length = q) := by rw [List.length_map]; exact hq
            have HNX : Hid (∀ v vb W, AllI w (P.map (·.1) ++ [r]) (P.map (·.2) ++ [(j, k)]) v vb W → AllP w (ahead l j d.slots (k + 1)) v vb W) := fun v vb W h => by
              rw [HE.out]; unfold AllP; rw [List.map_append, List.map_append]; exact h
            obtain ⟨key, dead, cols, x3, z3, t3⟩ := r
            simp only at DC
            clear hs hbc hbc2 hdec hy hle hP hq
            have HLT := Lib.hid (AllI.lt HQ.out)
            have HWS := Lib.hid HQ.out.below.size
            go_wp2_with (first
              | (go_at_call 86; (with_reducible refine DC.out.mono ?_); rintro e w2 ⟨A3, c3, rfl, hb2, htl⟩; have HQ3 := Lib.hid (AllI.same HQ.out (hb2.alloc hb2.size (.cells #[.float .f64 key, .bool dead, .slice A3 cols.length c3, .int .i64 x3, .int .i64 z3, .int .i64 t3] 30))); have F1 := Lib.hid ((htl.out.1.to_FX (o := u4.ownBlock) fun g hg => (HLT.out.1 g hg).2).below ((Below.refl _ _).alloc (Nat.le_refl _) (.cells #[.float .f64 key, .bool dead, .slice A3 cols.length c3, .int .i64 x3, .int .i64 z3, .int .i64 t3] 30))); have F3 := Lib.hid (fun g (hg : g < w.heap.size) => (htl.out.1.to_FX (o := some g) (fun g' hg' => by injection hg' with hg'; subst hg'; exact Nat.lt_of_lt_of_le hg HWS.out)).below ((Below.refl _ _).alloc (Nat.le_refl _) (.cells #[.float .f64 key, .bool dead, .slice A3 cols.length c3, .int .i64 x3, .int .i64 z3, .int .i64 t3] 30))); have F2 := Lib.hid ((htl.out.1.to_FX (o := u5.ownBlock) fun g hg => (HLT.out.2 g hg).2).below ((Below.refl _ _).alloc (Nat.le_refl _) (.cells #[.float .f64 key, .bool dead, .slice A3 cols.length c3, .int .i64 x3, .int .i64 z3, .int .i64 t3] 30))); clear hb2)
              | (at_builtin; (refine put_all1 rfl (.tmp 41) (.tmp 43) rfl HQ3.out HR1.out (by simp [Act.eval, Act.put]) (by simp [Act.eval, Act.put]) ⟨key, dead, cols, x3, z3, t3⟩ A3 c3 F1.out F2.out F3.out htl.out.2.1 htl.out.2.2 hq1 ?_); rintro g4 cap4 w4 h4; have H4 := Lib.hid h4; clear h4)
              | (at_builtin; (refine put_all2 rfl (.tmp 45) (.tmp 49) rfl H4.out HR2.out (by simp [Act.eval, Act.put]) (by simp [Act.eval, Act.put]) j k hq1 ?_); rintro g5 cap5 w5 h5; have H5 := Lib.hid h5; clear h5))
            exact ⟨⟨k + 1, by omega, by go_num, HNX.out _ _ _ H5.out⟩, by simp [intOf]; omega⟩
        · have hkn : k = n2 := by omega
          subst hkn
          have hr := ahead_all HD.out
          rw [N2.out] at hr
          have hp := HQ.out
          rw [hr] at hp
          have HQ2 := Lib.hid hp
          clear hp HQ
          go_wp2
          exact ⟨⟨j + 1, by omega, by go_num, HQ2.out⟩, by simp [intOf]; omega⟩
    · have hjn : j = n := by omega
      subst hjn
      have hp := HP.out
      rw [List.take_of_length_le (by rw [N.out]; omega)] at hp
      have HQ := Lib.hid hp
      clear hp HP
      go_wp2
      refine bodyPost_ret (v := .tuple #[u4, u5]) (by simp [results, Tryz.results43, go_sem]) rfl ?_
      exact ⟨_, _, rfl, HQ.out⟩
end Go.Proofs.YtdbnlngkmfmnnaaGreatDoor

/- humusref15.May. -/
namespace Go.Proofs.YtdbnlngkmfmnnaaGreatDoor
open Go.RowKit

def cntS (ss : List (List Nat)) : Nat := ss.countP fun s => decide (0 < s.length)
def cntL (l : List LeafD) : Nat := (l.map fun d => cntS d.slots).sum
theorem decL_pos {s : List Nat} {d : RowD} (h : decL s = some d) : 0 < s.length := by
  rcases Nat.eq_zero_or_pos s.length with h0 | h0
  · rw [decL_nil h0] at h; cases h
  · exact h0
theorem cntS_step {ss : List (List Nat)} {k : Nat} {s : List Nat} (h : ss[k]? = some s) : cntS (ss.take (k + 1)) = cntS (ss.take k) + (if 0 < s.length then 1 else 0) := by
  unfold cntS
  rw [take_at' h, List.countP_append, List.countP_cons, List.countP_nil]
  by_cases h0 : 0 < s.length
  · simp [h0]
  · simp [h0]
theorem cntL_step {l : List LeafD} {j : Nat} {d : LeafD} (h : l[j]? = some d) : cntL (l.take (j + 1)) = cntL (l.take j) + cntS d.slots := by
  unfold cntL
  rw [take_at' h, List.map_append, List.sum_append]
  simp
theorem cntS_le (ss : List (List Nat)) : cntS ss ≤ ss.length := List.countP_le_length
theorem rowsS_cnt (ss : List (List Nat)) : (rowsS ss).length ≤ cntS ss ∧ ((rowsS ss).length = cntS ss ↔ FullS ss) := by
  induction ss with
  | nil => exact ⟨Nat.le_refl _, fun _ s hs => (by cases hs), fun _ => rfl⟩
  | cons s ss ih =>
    obtain ⟨h1, h2⟩ := ih
    have e1 : cntS (s :: ss) = cntS ss + (if 0 < s.length then 1 else 0) := by
      unfold cntS
      rw [List.countP_cons]
      by_cases h0 : 0 < s.length
      · simp [h0]
      · simp [h0]
    have eF : FullS (s :: ss) ↔ (s.length ≠ 0 → ∃ d, decL s = some d) ∧ FullS ss := by
      unfold FullS
      exact ⟨fun h => ⟨h s List.mem_cons_self, fun x hx => h x (List.mem_cons_of_mem _ hx)⟩, fun h x hx => by
        rcases List.mem_cons.1 hx with rfl | hx
        · exact h.1
        · exact h.2 x hx⟩
    cases hd : decL s with
    | none =>
      have e2 : rowsS (s :: ss) = rowsS ss := by unfold rowsS; rw [List.filterMap_cons, hd]
      rw [e1, e2, eF, hd]
      by_cases h0 : 0 < s.length
      · rw [if_pos h0]
        refine ⟨by omega, fun h => by omega, fun h => ?_⟩
        obtain ⟨d, hd⟩ := h.1 (by omega)
        cases hd
      · rw [if_neg h0, Nat.add_zero]
        exact ⟨h1, fun h => ⟨fun h' => absurd h' (by omega), h2.1 h⟩, fun h => h2.2 h.2⟩
    | some d =>
      have e2 : (rowsS (s :: ss)).length = (rowsS ss).length + 1 := by unfold rowsS; rw [List.filterMap_cons, hd]; rfl
      rw [e1, e2, eF, hd, if_pos (decL_pos hd)]
      exact ⟨by omega, fun h => ⟨fun _ => ⟨d, rfl⟩, h2.1 (by omega)⟩, fun h => by have := h2.2 h.2; omega⟩
theorem rowsL_cnt (l : List LeafD) : (rowsL l).length ≤ cntL l ∧ ((rowsL l).length = cntL l ↔ ∀ d ∈ l, FullS d.slots) := by
  induction l with
  | nil => exact ⟨Nat.le_refl _, fun _ s hs => (by cases hs), fun _ => rfl⟩
  | cons d l ih =>
    obtain ⟨h1, h2⟩ := ih
    obtain ⟨g1, g2⟩ := rowsS_cnt d.slots
    have e1 : cntL (d :: l) = cntS d.slots + cntL l := by unfold cntL; rw [List.map_cons, List.sum_cons]
    have e2 : (rowsL (d :: l)).length = (rowsS d.slots).length + (rowsL l).length := by unfold rowsL; rw [List.flatMap_cons, List.length_append]
    rw [e1, e2]
    refine ⟨by omega, fun h x hx => ?_, fun h => ?_⟩
    · rcases List.mem_cons.1 hx with rfl | hx
      · exact g2.1 (by omega)
      · exact h2.1 (by omega) x hx
    · have := g2.2 (h d List.mem_cons_self)
      have := h2.2 fun x hx => h x (List.mem_cons_of_mem _ hx)
      omega
theorem cntL_le {l : List LeafD} (j : Nat) (h : ∀ d ∈ l.take j, OkLeaf d) : cntL (l.take j) ≤ 64 * j := by
  induction j with
  | zero => simp [cntL]
  | succ j ih =>
    cases hd : l[j]? with
    | none =>
      have e : l.take (j + 1) = l.take j := by rw [List.take_add_one, hd]; simp
      rw [e] at h ⊢
      have := ih h
      omega
    | some d =>
      rw [cntL_step hd]
      rw [take_at' hd] at h
      have h1 := ih fun x hx => h x (by simp [hx])
      have h2 := cntS_le d.slots
      have h3 := (h d (by simp)).2.1
      omega

theorem dup_no {l : List LeafD} {i k : Nat} {a b : RowD} (hi : (rowsL l)[i]? = some a) (hk : (rowsL l)[k]? = some b) (hlt : k < i) (he : a.rank = b.rank) : ¬ OkHeap l := fun h => by
  have hn := h.2.2.2
  have e1 : ((rowsL l).map RowD.rank)[i]? = some a.rank := by rw [List.getElem?_map, hi]; rfl
  have e2 : ((rowsL l).map RowD.rank)[k]? = some b.rank := by rw [List.getElem?_map, hk]; rfl
  unfold List.Nodup at hn
  rw [List.pairwise_iff_getElem] at hn
  obtain ⟨i1, e1⟩ := List.getElem?_eq_some_iff.1 e1
  obtain ⟨i2, e2⟩ := List.getElem?_eq_some_iff.1 e2
  exact hn k i i2 i1 hlt (by rw [e1, e2, he])

/-- Row j's rank is none of those ahead. -/
def FreshR (R : List RowD) (j k : Nat) : Prop := ∀ a, R[j]? = some a → ∀ i, i < k → ∀ b, R[i]? = some b → a.rank ≠ b.rank
theorem fresh_step {R : List RowD} {j k : Nat} {a b : RowD} (h : FreshR R j k) (hj : R[j]? = some a) (hk : R[k]? = some b) (hne : a.rank ≠ b.rank) : FreshR R j (k + 1) := by
  intro a' ha' i hi b' hb'
  rcases Nat.lt_or_eq_of_le (Nat.le_of_lt_succ hi) with h3 | rfl
  · exact h a' ha' i h3 b' hb'
  · rw [hj] at ha'; rw [hk] at hb'; injection ha' with ha'; injection hb' with hb'
    rw [← ha', ← hb']; exact hne
theorem fresh_all {R : List RowD} (h : ∀ j, j < R.length → FreshR R j j) : (R.map RowD.rank).Nodup := by
  unfold List.Nodup
  rw [List.pairwise_iff_getElem]
  intro i j hi hj hlt e
  rw [List.length_map] at hi hj
  rw [List.getElem_map, List.getElem_map] at e
  exact h j hj _ (List.getElem?_eq_getElem hj) i hlt _ (List.getElem?_eq_getElem hi) e.symm

theorem AllP.rows {w W : World} {l : List LeafD} {v vb : Value} (h : AllP w (allL l) v vb W) (hk : Keyed2 l) : ∃ A c, v = .slice A (rowsL l).length c ∧ RC W W.heap.size A (rowsL l) := by
  have h2 := AllI.Own h
  rw [allL_fst] at h2
  obtain ⟨A, c, e, hrc, _⟩ := h2.reads hk
  exact ⟨A, c, e, hrc⟩

set_option maxHeartbeats 4000000 in
set_option maxRecDepth 100000 in
theorem rmay15_any (A : Option Addr) (c : Nat) (l : List LeafD) (w : World) (h : LC w w.heap.size A l) (m : l.length ≤ 90) :
    Calls Tryz.prog 13 #[.slice A l.length c] w fun e w' => e = .returned (.bool (okHeapB l)) ∧ Below w.heap.size w w' := by
  obtain ⟨n, hn⟩ : ∃ n, l.length = n := ⟨_, rfl⟩
  rw [hn] at m ⊢
  obtain ⟨R, hR⟩ : ∃ R, okHeapB l = R := ⟨_, rfl⟩
  rw [hR]
  have HR := Lib.hid hR
  have NO : Hid (¬ OkHeap l → R = false) := fun h => by rw [← hR]; exact chk_false h
  have H := Lib.hid h
  have N := Lib.hid hn
  have HK := Lib.hid h.keyed
  have CA := Lib.hid (fun W (hb : Below w.heap.size w W) (hs : ∀ d ∈ l, d.slots.length ≤ 1000 ∧ ∀ s ∈ d.slots, s.length ≤ 1000) => by
    have := rall_any A c l W ((h.below hb).more hb.size) (by omega) hs
    rw [hn] at this
    exact this)
  clear h hn hR
  go_enter Tryz.func13, Tryz.ntmps13
  go_wp2
  go_loopw [4, 3] (fun i u wr => ∃ j : Nat, j ≤ n ∧ i = .int .i64 j ∧ u = .int .i64 (cntL (l.take j) : Nat) ∧ (∀ d ∈ l.take j, OkLeaf d) ∧ Below w.heap.size w wr) (fun i _ _ => n - (intOf i).toNat)
  case atStart => exact ⟨0, Nat.zero_le _, rfl, rfl, by simp, Below.refl _ _⟩
  case round =>
    obtain ⟨j, hj, rfl, rfl, hok, hb⟩ := hrel
    have HOK := Lib.hid hok
    have HB := Lib.hid hb
    have hcl := cntL_le j hok
    clear hok hb
    obtain ⟨q, hq⟩ : ∃ q, cntL (l.take j) = q := ⟨_, rfl⟩
    rw [hq] at hcl ⊢
    have HQ := Lib.hid hq
    have hq2 : q ≤ 10000 := by omega
    clear hq hcl
    by_cases hlt : j < n
    · obtain ⟨d, hd⟩ := get_at' N hlt
      obtain ⟨b, off, A1, k1, A2, k2, e, hbB, hc0, hc1, hz, hsc, m1, m2, q1, q2, _, _⟩ := (H.out.below HB.out).at_ hd
      subst e
      have ck := rmay08_any d A1 A2 k1 k2 wr (hz.more HB.out.size) (hsc.more HB.out.size) m1 m2
      obtain ⟨n1, hn1⟩ : ∃ n1, d.itl.length = n1 := ⟨_, rfl⟩
      obtain ⟨n2, hn2⟩ : ∃ n2, d.slots.length = n2 := ⟨_, rfl⟩
      unfold LeafD.cells at ck
      rw [hn1, hn2] at ck
      rw [hn1] at hc0
      rw [hn2] at hc1 m2 q2
      have HSC := Lib.hid hsc
      have N2 := Lib.hid hn2
      have HD := Lib.hid hd
      cases ho : okLeafB d with
      | false =>
        rw [ho] at ck
        have CK := Lib.hid ck
        have hR := NO.out (fun h => by rw [okLeafB_true (h.2.2.1 d (List.mem_of_getElem? hd)).1] at ho; cases ho)
        subst hR
        clear ck ho hz hsc hd hn1 hn2
        go_wp2_with (go_at_call 42; (with_reducible refine CK.out.mono ?_); rintro e w1 ⟨rfl, hb1⟩)
        go_ret
        exact ⟨rfl, HB.out.trans (hb1.mono HB.out.size)⟩
      | true =>
        rw [ho] at ck
        have CK := Lib.hid ck
        have HOL := Lib.hid (okLeafB_iff.1 ho)
        have h64 := (okLeafB_iff.1 ho).2.1
        rw [hn2] at h64
        clear ck ho hz hsc hd hn1 hn2
        go_wp2_with (go_at_call 42; (with_reducible refine CK.out.mono ?_); rintro e w1 ⟨rfl, hb1⟩; have HB1 := Lib.hid (HB.out.trans (hb1.mono HB.out.size)); clear hb1)
        rename World => wo
        clear hc0 hc1
        go_loopw [5, 3] (fun i u wr => ∃ k : Nat, k ≤ n2 ∧ i = .int .i64 k ∧ u = .int .i64 (q + cntS (d.slots.take k) : Nat) ∧ Below w.heap.size w wr) (fun i _ _ => n2 - (intOf i).toNat)
        case atStart => exact ⟨0, Nat.zero_le _, rfl, rfl, HB1.out⟩
        case round =>
          obtain ⟨k, hk, rfl, rfl, hb⟩ := hrel
          have HB2 := Lib.hid hb
          clear hb
          obtain ⟨b, off, A1, k1, A2, k2, e, hbB, hc0, hc1, hz, hsc, m1, m2, q1, q2, _, _⟩ := (H.out.below HB2.out).at_ HD.out
          injection e with e; injection e with e1 e2
          subst e1 e2
          rw [N2.out] at hc1 m2 q2
          have HSC := Lib.hid hsc
          clear hz hsc hc0
          by_cases hkn : k < n2
          · obtain ⟨s, hs⟩ := get_at' N2 hkn
            obtain ⟨b', off', A', c', e', hbB', hcs, hbc, hlc, hcm, _⟩ := HSC.out.at_ hs
            subst e'
            obtain ⟨y, hy⟩ : ∃ y, s.length = y := ⟨_, rfl⟩
            have hst := cntS_step hs
            rw [hy] at hcs hlc hst
            have hle := cntS_le (d.slots.take k)
            rw [List.length_take] at hle
            obtain ⟨z, hz⟩ : ∃ z, cntS (d.slots.take k) = z := ⟨_, rfl⟩
            rw [hz] at hst hle ⊢
            have hz2 : z ≤ 64 := by omega
            have HST := Lib.hid hst
            clear hs hbc hy hst hle hz
            by_cases y0 : 0 < y
            · have y0' : decide ((0 : Int) < (y : Int)) = true := by simp; omega
              go_wp2
              exact ⟨⟨k + 1, by omega, by go_num, by rw [HST.out, if_pos y0]; go_num, HB2.out⟩, by simp [intOf]; omega⟩
            · have y0' : decide ((0 : Int) < (y : Int)) = false := by simp; omega
              go_wp2
              exact ⟨⟨k + 1, by omega, by go_num, by rw [HST.out, if_neg y0]; go_num, HB2.out⟩, by simp [intOf]; omega⟩
          · have hkn : k = n2 := by omega
            subst hkn
            have HE : Hid (cntL (l.take (j + 1)) = q + cntS (d.slots.take k)) := by
              rw [cntL_step HD.out, HQ.out]
              rw [List.take_of_length_le (by rw [N2.out]; omega)]; exact rfl
            obtain ⟨z, hz⟩ : ∃ z, q + cntS (d.slots.take k) = z := ⟨_, rfl⟩
            rw [hz] at HE ⊢
            clear hz
            go_wp2
            exact ⟨⟨j + 1, by omega, by go_num, by rw [HE.out], by rw [take_at' HD.out]; intro x hx; rcases List.mem_append.1 hx with hx | hx; exact HOK.out x hx; rw [List.mem_singleton.1 hx]; exact HOL.out, HB2.out⟩, by simp [intOf]; omega⟩
    · have hjn : n = j := by omega
      subst hjn
      have HOK2 : Hid (∀ d ∈ l, OkLeaf d) := by
        have := HOK.out
        rwa [List.take_of_length_le (by rw [N.out]; omega)] at this
      have HQ2 : Hid (cntL l = q) := by
        have := HQ.out
        rwa [List.take_of_length_le (by rw [N.out]; omega)] at this
      have CA2 := Lib.hid (CA.out _ HB.out fun d hd => ⟨by have := (HOK2.out d hd).2.1; omega, fun s hs => by have := (HOK2.out d hd).2.2.2.2.1 s hs; omega⟩)
      go_wp2_with (go_at_call 43; (with_reducible refine CA2.out.mono ?_); rintro e w1 ⟨v, vb, rfl, hp⟩; obtain ⟨Ar, cr, rfl, hrc⟩ := hp.rows HK.out; have HRC := Lib.hid hrc; have HP := Lib.hid (HB.out.trans (hp.below.mono HB.out.size)); clear hp hrc)
      obtain ⟨z, hz⟩ : ∃ z, (rowsL l).length = z := ⟨_, rfl⟩
      have hz2 : z ≤ 10000 := by have := (rowsL_cnt l).1; rw [HQ2.out, hz] at this; omega
      have NZ := Lib.hid hz
      rw [hz]
      clear hz
      rename World => wo
      go_loopw [8] (fun i wr => ∃ j : Nat, j ≤ z ∧ i = .int .i64 j ∧ (∀ i, i < j → FreshR (rowsL l) i i) ∧ Below wo.heap.size wo wr) (fun i _ => z - (intOf i).toNat)
      case atStart => exact ⟨0, Nat.zero_le _, rfl, fun i hi => absurd hi (Nat.not_lt_zero _), Below.refl _ _⟩
      case round =>
        obtain ⟨j, hj, rfl, hfr, hb⟩ := hrel
        have HFR := Lib.hid hfr
        have HBW := Lib.hid hb
        clear hfr hb
        by_cases hjz : j < z
        · obtain ⟨a, ha⟩ := get_at' NZ hjz
          have HA := Lib.hid ha
          clear ha
          go_wp2
          rename World => wo2
          go_loopw [9] (fun i wr => ∃ k : Nat, k ≤ j ∧ i = .int .i64 k ∧ FreshR (rowsL l) j k ∧ Below wo.heap.size wo wr) (fun i _ => j - (intOf i).toNat)
          case atStart => exact ⟨0, Nat.zero_le _, rfl, fun _ _ i hi => absurd hi (Nat.not_lt_zero _), HBW.out⟩
          case round =>
            obtain ⟨k, hk, rfl, hf2, hb⟩ := hrel
            have HF2 := Lib.hid hf2
            have HB2 := Lib.hid hb
            clear hf2 hb
            by_cases hkj : k < j
            · obtain ⟨b, hb⟩ := get_at' NZ (show k < z by omega)
              have HBB := Lib.hid hb
              obtain ⟨g, off, _, _, e, _, _, _, _, hak, _, a0, _⟩ := (HRC.out.below HB2.out).at_ HA.out
              obtain ⟨g', off', _, _, e', _, _, _, _, hbk, _, b0, _⟩ := (HRC.out.below HB2.out).at_ hb
              subst e
              injection e' with e'; injection e' with e1 e2
              subst e1 e2
              have AL := alike_any a.key b.key hak hbk
              have hre := rankN_eq a.key b.key hak hbk
              have hkz : (k : Int) < (z : Int) := by omega
              have hjz' : (j : Int) < (z : Int) := by omega
              clear hb
              by_cases hr : a.rank = b.rank
              · have hR := NO.out (dup_no HA.out HBB.out hkj hr)
                subst hR
                have hkk : decide (keyN a.key = keyN b.key) = true := decide_eq_true (hre.1 hr)
                rw [hkk] at AL
                clear hkk hre hr
                go_wp2
                go_region_with (go_at_call 26; (with_reducible refine (AL _).mono ?_); rintro e w' ⟨rfl, rfl⟩)
                all_goals
                  go_wp2
                  go_ret
                  exact ⟨rfl, HP.out.trans (HB2.out.drew.mono HP.out.size)⟩
              · have hkk : decide (keyN a.key = keyN b.key) = false := decide_eq_false (fun h => hr (hre.2 h))
                rw [hkk] at AL
                have HNE := Lib.hid hr
                clear hkk hre hr
                go_wp2
                go_region_with (go_at_call 26; (with_reducible refine (AL _).mono ?_); rintro e w' ⟨rfl, rfl⟩)
                all_goals
                  go_wp2
                  exact ⟨⟨k + 1, by omega, by go_num, fresh_step HF2.out HA.out HBB.out HNE.out, HB2.out.drew⟩, by simp [intOf]; omega⟩
            · have hkj : k = j := by omega
              subst hkj
              go_wp2
              exact ⟨⟨k + 1, by omega, by go_num, fun i hi => by
                rcases Nat.lt_or_eq_of_le (Nat.le_of_lt_succ hi) with h3 | rfl
                · exact HFR.out i h3
                · exact HF2.out, HB2.out⟩, by simp [intOf]; omega⟩
        · have hjz : j = z := by omega
          subst hjz
          have hiff : OkHeap l ↔ q = j ∧ 1 ≤ n ∧ n ≤ 62 := by
            have h1 := rowsL_cnt l
            rw [NZ.out, HQ2.out] at h1
            constructor
            · intro h
              refine ⟨(h1.2.2 fun d hd => (h.2.2.1 d hd).2).symm, by have := h.1; rw [N.out] at this; exact this, by have := h.2.1; rw [N.out] at this; exact this⟩
            · intro h
              refine ⟨by rw [N.out]; exact h.2.1, by rw [N.out]; exact h.2.2, fun d hd => ⟨HOK2.out d hd, h1.2.1 h.1.symm d hd⟩, fresh_all fun i hi => HFR.out i (by rw [NZ.out] at hi; exact hi)⟩
          have HI := Lib.hid hiff
          clear hiff
          have hend := HP.out.trans (HBW.out.mono HP.out.size)
          have HEND := Lib.hid hend
          clear hend
          by_cases e1 : q = j
          · subst e1
            have e1' : ((q : Int) == (q : Int)) = true := by simp
            by_cases e2 : 1 ≤ n
            · have e2' : (1 : Int) ≤ (n : Int) := by omega
              by_cases e3 : n ≤ 62
              · have e3' : (n : Int) ≤ 62 := by omega
                have hR : R = true := by rw [← HR.out]; exact chk_true (HI.out.2 ⟨rfl, e2, e3⟩)
                subst hR
                go_wp2
                go_ret
                exact ⟨rfl, HEND.out⟩
              · have e3' : ¬ (n : Int) ≤ 62 := by omega
                have hR := NO.out (fun h => e3 (HI.out.1 h).2.2)
                subst hR
                go_wp2
                go_ret
                exact ⟨rfl, HEND.out⟩
            · have e2' : ¬ (1 : Int) ≤ (n : Int) := by omega
              have hR := NO.out (fun h => e2 (HI.out.1 h).2.1)
              subst hR
              go_wp2
              go_ret
              exact ⟨rfl, HEND.out⟩
          · have e1' : ¬ (q : Int) = (j : Int) := by omega
            have hR := NO.out (fun h => e1 (HI.out.1 h).1)
            subst hR
            go_wp2
            go_ret
            exact ⟨rfl, HEND.out⟩
end Go.Proofs.YtdbnlngkmfmnnaaGreatDoor
