/- What is found by a berth: plain. -/
import Derived.Test.YtdbnlngkmfmnnaaGreatDoorH18
namespace Go.Proofs.YtdbnlngkmfmnnaaGreatDoor
open Go.RowKit

theorem mem_allL {l : List LeafD} {d : RowD} {i k : Nat} : (d, i, k) ∈ allL l ↔ ∃ lf s, l[i]? = some lf ∧ lf.slots[k]? = some s ∧ decL s = some d := by
  unfold allL allS
  rw [List.mem_flatMap]
  constructor
  · rintro ⟨⟨lf, i'⟩, h1, h2⟩
    rw [List.mem_filterMap] at h2
    obtain ⟨⟨s, k'⟩, h3, h4⟩ := h2
    rw [List.mem_zipIdx_iff_getElem?] at h1 h3
    simp only at h1 h3 h4
    cases hd : decL s with
    | none => rw [hd] at h4; cases h4
    | some d' =>
      rw [hd] at h4
      simp only [Option.map_some, Option.some.injEq, Prod.mk.injEq] at h4
      obtain ⟨rfl, rfl, rfl⟩ := h4
      exact ⟨lf, s, h1, h3, hd⟩
  · rintro ⟨lf, s, h1, h2, h3⟩
    refine ⟨(lf, i), List.mem_zipIdx_iff_getElem?.2 h1, List.mem_filterMap.2 ⟨(s, k), List.mem_zipIdx_iff_getElem?.2 h2, ?_⟩⟩
    simp only [h3, Option.map_some]

theorem get_find (l : List LeafD) (x y : Int) : getL l x y = (findP (atP x y) l).map (·.1) := by
  unfold findP
  cases hf : (allL l).find? (atP x y) with
  | none =>
    rw [List.find?_eq_none] at hf
    cases hg : getL l x y with
    | none => rfl
    | some d =>
      exfalso
      unfold getL slotAt at hg
      by_cases h0 : x < 0 ∨ y < 0
      · rw [if_pos h0] at hg; cases hg
      · rw [if_neg h0] at hg
        rw [Option.bind_eq_some_iff] at hg
        obtain ⟨s, h1, h2⟩ := hg
        rw [Option.bind_eq_some_iff] at h1
        obtain ⟨lf, h3, h4⟩ := h1
        refine hf (d, x.toNat, y.toNat) (mem_allL.2 ⟨lf, s, h3, h4, h2⟩) ?_
        unfold atP
        simp only [Bool.and_eq_true, decide_eq_true_eq]
        omega
  | some p =>
    obtain ⟨d, i, k⟩ := p
    have h1 := List.mem_of_find?_eq_some hf
    have h2 := List.find?_some hf
    obtain ⟨lf, s, h3, h4, h5⟩ := mem_allL.1 h1
    unfold atP at h2
    simp only [Bool.and_eq_true, decide_eq_true_eq] at h2
    obtain ⟨rfl, rfl⟩ := h2
    unfold getL slotAt
    rw [if_neg (by omega)]
    simp only [Int.toNat_natCast, h3, h4, h5, Option.bind_some, Option.map_some]

/-- The document's list of rows: each is put where it belongs. -/
def insOne (out : List RowD) (r : RowD) : List RowD := out.take (out.findIdx fun d => !decide (d.rank < r.rank)) ++ r :: out.drop (out.findIdx fun d => !decide (d.rank < r.rank))
def insAll (p : RowD → Bool) (rows : List RowD) : List RowD := rows.foldl (fun out r => if p r = true then insOne out r else out) []
theorem insAll_snoc (p : RowD → Bool) (rows : List RowD) (r : RowD) : insAll p (rows ++ [r]) = if p r = true then insOne (insAll p rows) r else insAll p rows := by
  unfold insAll
  rw [List.foldl_append]
  rfl
theorem insOne_perm (out : List RowD) (r : RowD) : (insOne out r).Perm (out ++ [r]) := by
  unfold insOne
  generalize out.findIdx _ = a
  have h1 : (out.take a ++ r :: out.drop a).Perm (r :: (out.take a ++ out.drop a)) := List.perm_middle
  rw [List.take_append_drop] at h1
  exact h1.trans (List.perm_append_singleton r out).symm
theorem snoc_ind {α : Type} {P : List α → Prop} (h0 : P []) (h1 : ∀ l x, P l → P (l ++ [x])) (l : List α) : P l := by
  have h : ∀ m : List α, P m.reverse := by
    intro m
    induction m with
    | nil => exact h0
    | cons x m ih => rw [List.reverse_cons]; exact h1 _ _ ih
  have := h l.reverse
  rwa [List.reverse_reverse] at this
theorem insAll_perm (p : RowD → Bool) (rows : List RowD) : (insAll p rows).Perm (rows.filter p) := by
  refine snoc_ind (P := fun rows => (insAll p rows).Perm (rows.filter p)) List.Perm.nil (fun rows r ih => ?_) rows
  · show (insAll p (rows ++ [r])).Perm _
    rw [insAll_snoc, List.filter_append]
    by_cases h : p r = true
    · rw [if_pos h, List.filter_cons_of_pos h, List.filter_nil]
      exact (insOne_perm _ _).trans (ih.append_right _)
    · rw [if_neg h, List.filter_cons_of_neg h, List.filter_nil, List.append_nil]
      exact ih
theorem insOne_sorted {out : List RowD} {r : RowD} (hs : out.Pairwise fun a b => a.rank < b.rank) (hn : ∀ d ∈ out, d.rank ≠ r.rank) : (insOne out r).Pairwise fun a b => a.rank < b.rank := by
  obtain ⟨a, ha⟩ : ∃ a, (out.findIdx fun d => !decide (d.rank < r.rank)) = a := ⟨_, rfl⟩
  have h1 : ∀ d ∈ out.take a, d.rank < r.rank := by
    intro d hd
    obtain ⟨i, hi⟩ := List.mem_iff_getElem?.1 hd
    rw [List.getElem?_take] at hi
    split at hi
    · rename_i hlt
      obtain ⟨hi1, hi2⟩ := List.getElem?_eq_some_iff.1 hi
      have := List.not_of_lt_findIdx (p := fun d : RowD => !decide (d.rank < r.rank)) (xs := out) (i := i) (by rw [ha]; exact hlt)
      rw [hi2] at this
      simpa using this
    · cases hi
  have h2 : ∀ d ∈ out.drop a, r.rank < d.rank := by
    have hd : out.drop a = [] ∨ ∃ e t, out.drop a = e :: t ∧ r.rank < e.rank := by
      rcases Nat.lt_or_ge a out.length with hlt | hge
      · right
        refine ⟨out[a], out.drop (a + 1), List.drop_eq_getElem_cons hlt, ?_⟩
        have hx := List.findIdx_getElem (p := fun d : RowD => !decide (d.rank < r.rank)) (xs := out) (w := by rw [ha]; exact hlt)
        simp only [ha] at hx
        have hne := hn out[a] (List.getElem_mem _)
        simp at hx
        omega
      · left
        exact List.drop_eq_nil_of_le hge
    rcases hd with hd | ⟨e, t, hd, he⟩
    · rw [hd]; simp
    · have hp : (out.drop a).Pairwise fun a b => a.rank < b.rank := hs.sublist (List.drop_sublist _ _)
      rw [hd] at hp ⊢
      intro d hm
      rcases List.mem_cons.1 hm with rfl | hm
      · exact he
      · have := (List.pairwise_cons.1 hp).1 d hm
        omega
  unfold insOne
  rw [ha]
  refine List.pairwise_append.2 ⟨hs.sublist (List.take_sublist _ _), List.pairwise_cons.2 ⟨h2, hs.sublist (List.drop_sublist _ _)⟩, fun x hx y hy => ?_⟩
  rcases List.mem_cons.1 hy with rfl | hy
  · exact h1 x hx
  · have := h1 x hx
    have := h2 y hy
    omega
theorem insAll_sorted {p : RowD → Bool} {rows : List RowD} (hn : (rows.map RowD.rank).Nodup) : (insAll p rows).Pairwise fun a b => a.rank < b.rank := by
  revert hn
  refine snoc_ind (P := fun rows => (rows.map RowD.rank).Nodup → (insAll p rows).Pairwise fun a b => a.rank < b.rank) (fun _ => List.Pairwise.nil) (fun rows r ih hn => ?_) rows
  · show (insAll p (rows ++ [r])).Pairwise _
    rw [List.map_append, List.nodup_append] at hn
    obtain ⟨h1, _, h3⟩ := hn
    rw [insAll_snoc]
    by_cases h : p r = true
    · rw [if_pos h]
      refine insOne_sorted (ih h1) fun d hd => ?_
      have := (insAll_perm p rows).mem_iff.1 hd
      exact h3 _ (List.mem_map_of_mem (List.mem_filter.1 this).1) _ (by simp)
    · rw [if_neg h]; exact ih h1
/-- The rows of a range are those of the document. -/
theorem rows_doc {l : List LeafD} {lo hi : Nat} {L : List RowD} (hok : OkHeap l) (h : RowsAre l lo hi L) : L = insAll (fun d => betw d.key lo hi) (rowsL l) :=
  strict_eq ((h.1 hok).1.trans (insAll_perm _ _).symm) h.one (insAll_sorted hok.2.2.2)
end Go.Proofs.YtdbnlngkmfmnnaaGreatDoor

/- Rows appended to rows one owns: run equations that tell what stands. -/
namespace Go.Proofs.YtdbnlngkmfmnnaaGreatDoor
open Go.RowKit

theorem run_append_rows2 {W : World} {base n m B : Nat} {v : Value} {acc L : List RowD} {A : Option Addr} {c : Nat} (ty : TypeId) (hown : Own W base v acc) (hlen : acc.length = n) (hbase : base ≤ W.heap.size) (hL : RC W B A L) (hLn : L.length = m) (hB : B ≤ base) (h1 : n ≤ 100000) (h2 : m ≤ 100000) :
    ∃ A' c' w', (Builtin.append_ #[22, 22] ty #[v, .slice A m c]).run Tryz.prog W = .ok (.slice A' (n + m) c') w' ∧ Own w' base (.slice A' (n + m) c') (acc ++ L) ∧ Below base W w' ∧ W.grownBy w' v.ownBlock := by
  obtain ⟨i0, hi0, hz0, hz1, hz2⟩ := info_parts info30
  obtain ⟨Av, cv, ev, hAv, hcv, hlt⟩ := hown.form
  rcases Nat.eq_zero_or_pos m with hm | hm
  · subst hm
    have hL0 : L = [] := List.eq_nil_of_length_eq_zero hLn
    subst hL0
    refine ⟨Av, cv, W, ?_, ?_, Below.refl _ _, World.grownBy.refl _ _⟩
    · rw [ev, hlen]
      refine run_append_nothing W 22 22 ty 30 i0 Tryz.underlying22 hi0 Av n cv (by rw [← hlen]; exact hcv) (.slice A 0 c) ⟨.inl ⟨_, Tryz.underlying22⟩, fun _ => rfl, ?_, ?_, by simp, by simp⟩
      · cases A with
        | none => rfl
        | some ad => exact run_firstCells_some W _ 0 ad 0 c [] (by simp) (by simp)
      · cases A with
        | none => rfl
        | some ad => exact run_firstCells_some W.drew _ 0 ad 0 c [] (by simp) (by simp)
    · rw [List.append_nil, Nat.add_zero, ← hlen, ← ev]; exact hown
  · obtain ⟨news, hrx, hcells⟩ := RX.of_RC hL (Nat.le_trans hB hbase) (o := v.ownBlock) (fun g hg => Nat.le_trans hB (hlt g hg).1)
    obtain ⟨b, off, eA, hbB, _⟩ := hL.2 (by omega)
    obtain ⟨xs, h3, hrx3⟩ := hown
    rw [hlen] at h3
    obtain ⟨g, cap, w', hr, h4, h5, h6, h7⟩ := run_append_lies (P := Tryz.prog) W 22 ty base 30 i0 zeroRow 6 64 Tryz.underlying22 hi0 hz0 hz1 hz2 rfl (by decide) v n xs h3 ⟨b, off, none⟩ m c news (by rw [hrx.len, hLn]) (hcells _ eA) hrx.oneCell hm (by unfold maxLen; omega) (by omega) hbase _ rfl
    refine ⟨some ⟨g, 0, none⟩, cap, w', by rw [eA]; exact hr, ?_, ?_, h5⟩
    · refine own_more (by rw [List.length_append, hlen, hLn]; exact h4) (hrx3.append hrx) h5 ?_
      rcases h6 with h6 | h6
      · exact .inl (by rw [h6]; rfl)
      · exact .inr (by rw [h6]; rfl)
    · exact (Below.refl _ _).grown h5 hbase fun g hg => (hlt g hg).1

/-- One row, that lies in a block of its own. -/
theorem run_append_row1 {W : World} {base n g : Nat} {v : Value} {acc : List RowD} (ty : TypeId) (hown : Own W base v acc) (hlen : acc.length = n) (hbase : base ≤ W.heap.size) (d : RowD) (A' : Option Addr) (c' : Nat) (hg : W.heap[g]? = some (.cells (d.cells A' c') 30 (0, 0))) (hf : FX W v.ownBlock A' d.cols) (h2 : d.cols.length ≤ c') (h3 : A' = none → c' = 0) (h1 : n ≤ 100000) :
    ∃ g2 cap w', (Builtin.append_ #[22, 22] ty #[v, .slice (some ⟨g, 0, none⟩) 1 1]).run Tryz.prog W = .ok (.slice (some ⟨g2, 0, none⟩) (n + 1) cap) w' ∧ Own w' base (.slice (some ⟨g2, 0, none⟩) (n + 1) cap) (acc ++ [d]) ∧ Below base W w' ∧ W.grownBy w' v.ownBlock := by
  obtain ⟨i0, hi0, hz0, hz1, hz2⟩ := info_parts info30
  obtain ⟨_, _, _, _, _, hlt⟩ := hown.form
  have hrx : RX W v.ownBlock [d] (d.cells A' c').toList := RX.one hf h2 h3
  obtain ⟨xs, h4, hrx3⟩ := hown
  rw [hlen] at h4
  obtain ⟨g2, cap, w', hr, h5, h6, h7, h8⟩ := run_append_lies (P := Tryz.prog) W 22 ty base 30 i0 zeroRow 6 64 Tryz.underlying22 hi0 hz0 hz1 hz2 rfl (by decide) v n xs h4 ⟨g, 0, none⟩ 1 1 _ hrx.len (World.news_of_block hg) hrx.oneCell (by omega) (by unfold maxLen; omega) (by omega) hbase _ rfl
  refine ⟨g2, cap, w', hr, ?_, (Below.refl _ _).grown h6 hbase fun g hg => (hlt g hg).1, h6⟩
  refine own_more (by rw [List.length_append, hlen]; exact h5) (hrx3.append hrx) h6 ?_
  rcases h7 with h7 | h7
  · exact .inl (by rw [h7]; rfl)
  · exact .inr (by rw [h7]; rfl)
end Go.Proofs.YtdbnlngkmfmnnaaGreatDoor
