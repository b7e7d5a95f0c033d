/- Rows as cells: what a run of cells says, and how it is cut, joined, kept. -/
import Derived.Test.YtpcahemjcmccjaaI
import Derived.Deep.AppendLies
namespace Go.Proofs.Ytpcahemjcmccjaa
open Go.RowKit

/-- The cells of numbers, in no block o. -/
def FX (w : World) (o : Option Nat) (A : Option Addr) (l : List Nat) : Prop :=
  (∀ x ∈ l, x < 18446744073709551616) ∧ (0 < l.length → ∃ b off, A = some ⟨b, off, none⟩ ∧ b < w.heap.size ∧ some b ≠ o ∧ ∀ j x, l[j]? = some x → w.cell? ⟨b, off + j, none⟩ = some (.float .f64 x))
/-- A row that is not too great. -/
def Ok (d : RowD) : Prop := d.key < 18446744073709551616 ∧ d.cols.length ≤ 10 ∧ ∀ x ∈ d.cols, x < 18446744073709551616

def RX (w : World) (o : Option Nat) : List RowD → List Value → Prop
  | [], xs => xs = []
  | d :: l, xs => ∃ A' c' ys, xs = (d.cells A' c').toList ++ ys ∧ FX w o A' d.cols ∧ d.cols.length ≤ c' ∧ (A' = none → c' = 0) ∧ RX w o l ys

theorem FX.grown {w w' : World} {o : Option Nat} {A : Option Addr} {l : List Nat} (h : FX w o A l) (hg : w.grownBy w' o) : FX w' o A l :=
  ⟨h.1, fun hl => by
    obtain ⟨b, off, e, hB, ho, hc⟩ := h.2 hl
    exact ⟨b, off, e, Nat.lt_of_lt_of_le hB hg.size, ho, fun j x hx => (hg.cell_far _ hB ho).trans (hc j x hx)⟩⟩
theorem FX.below {w w' : World} {o : Option Nat} {A : Option Addr} {l : List Nat} (h : FX w o A l) (hb : Below w.heap.size w w') : FX w' o A l :=
  ⟨h.1, fun hl => by
    obtain ⟨b, off, e, hB, ho, hc⟩ := h.2 hl
    exact ⟨b, off, e, Nat.lt_of_lt_of_le hB hb.size, ho, fun j x hx => (hb.cell (p := ⟨b, off + j, none⟩) hB).trans (hc j x hx)⟩⟩
/-- .. and in no block that is new. -/
theorem FX.past {w w' : World} {o : Option Nat} {A : Option Addr} {l : List Nat} (h : FX w o A l) (hg : w.grownBy w' o) {o' : Option Nat} (ho' : ∀ g, o' = some g → w.heap.size ≤ g) : FX w' o' A l :=
  ⟨h.1, fun hl => by
    obtain ⟨b, off, e, hB, ho, hc⟩ := h.2 hl
    exact ⟨b, off, e, Nat.lt_of_lt_of_le hB hg.size, (fun hx => by have := ho' b hx.symm; omega), fun j x hx => (hg.cell_far _ hB ho).trans (hc j x hx)⟩⟩
theorem FX.of_FC {w : World} {B : Nat} {A : Option Addr} {l : List Nat} (h : FC w B A l) (hB : B ≤ w.heap.size) {o : Option Nat} (ho : ∀ g, o = some g → B ≤ g) : FX w o A l :=
  ⟨h.1, fun hl => by
    obtain ⟨b, off, e, hb, hc⟩ := h.2 hl
    exact ⟨b, off, e, Nat.lt_of_lt_of_le hb hB, (fun hx => by have := ho b hx.symm; omega), hc⟩⟩
theorem FX.to_FC {w : World} {o : Option Nat} {A : Option Addr} {l : List Nat} (h : FX w o A l) : FC w w.heap.size A l :=
  ⟨h.1, fun hl => by
    obtain ⟨b, off, e, hb, _, hc⟩ := h.2 hl
    exact ⟨b, off, e, hb, hc⟩⟩

theorem RX.imp {w w' : World} {o o' : Option Nat} (hf : ∀ A l, FX w o A l → FX w' o' A l) : ∀ {l : List RowD} {xs : List Value}, RX w o l xs → RX w' o' l xs
  | [], _, h => h
  | _ :: _, _, ⟨A', c', ys, e, h1, h2, h3, h4⟩ => ⟨A', c', ys, e, hf _ _ h1, h2, h3, RX.imp hf h4⟩
theorem RX.grown {w w' : World} {o : Option Nat} {l : List RowD} {xs : List Value} (h : RX w o l xs) (hg : w.grownBy w' o) : RX w' o l xs := h.imp fun _ _ h => h.grown hg
theorem RX.below {w w' : World} {o : Option Nat} {l : List RowD} {xs : List Value} (h : RX w o l xs) (hg : Below w.heap.size w w') : RX w' o l xs := h.imp fun _ _ h => h.below hg
theorem RX.past {w w' : World} {o : Option Nat} {l : List RowD} {xs : List Value} (h : RX w o l xs) (hg : w.grownBy w' o) {o' : Option Nat} (ho' : ∀ g, o' = some g → w.heap.size ≤ g) : RX w' o' l xs := h.imp fun _ _ h => h.past hg ho'

theorem cells_length (d : RowD) (A : Option Addr) (c : Nat) : (d.cells A c).toList.length = 6 := rfl
theorem RX.len {w : World} {o : Option Nat} : ∀ {l : List RowD} {xs : List Value}, RX w o l xs → xs.length = l.length * 6
  | [], _, h => by rw [show _ = [] from h]; rfl
  | d :: l, _, ⟨A', c', ys, e, _, _, _, h4⟩ => by
    rw [e, List.length_append, cells_length, RX.len h4, List.length_cons]; omega
theorem RX.append {w : World} {o : Option Nat} : ∀ {l : List RowD} {xs : List Value} {l2 : List RowD} {ys : List Value}, RX w o l xs → RX w o l2 ys → RX w o (l ++ l2) (xs ++ ys)
  | [], _, _, _, h, h' => by rw [show _ = [] from h]; exact h'
  | d :: l, _, _, _, ⟨A', c', zs, e, h1, h2, h3, h4⟩, h' => ⟨A', c', zs ++ _, by rw [e, List.append_assoc], h1, h2, h3, RX.append h4 h'⟩
theorem RX.split {w : World} {o : Option Nat} : ∀ (k : Nat) {l : List RowD} {xs : List Value}, RX w o l xs → RX w o (l.take k) (xs.take (k * 6)) ∧ RX w o (l.drop k) (xs.drop (k * 6))
  | 0, _, _, h => by simp only [Nat.zero_mul, List.take_zero, List.drop_zero]; exact ⟨rfl, h⟩
  | k + 1, [], _, h => by rw [show _ = [] from h]; simp only [List.take_nil, List.drop_nil]; exact ⟨rfl, rfl⟩
  | k + 1, d :: l, _, ⟨A', c', ys, e, h1, h2, h3, h4⟩ => by
    obtain ⟨g1, g2⟩ := RX.split k h4
    have e1 : (k + 1) * 6 = (d.cells A' c').toList.length + k * 6 := by rw [cells_length]; omega
    subst e
    rw [e1, List.take_succ_cons, List.drop_succ_cons, List.take_length_add_append, List.drop_length_add_append]
    exact ⟨⟨A', c', _, rfl, h1, h2, h3, g1⟩, g2⟩
theorem RX.one {w : World} {o : Option Nat} {d : RowD} {A : Option Addr} {c : Nat} (h1 : FX w o A d.cols) (h2 : d.cols.length ≤ c) (h3 : A = none → c = 0) : RX w o [d] (d.cells A c).toList :=
  ⟨A, c, [], by simp, h1, h2, h3, rfl⟩
theorem RX.one_inv {w : World} {o : Option Nat} {d : RowD} {xs : List Value} (h : RX w o [d] xs) : ∃ A c, xs = (d.cells A c).toList ∧ FX w o A d.cols ∧ d.cols.length ≤ c ∧ (A = none → c = 0) := by
  obtain ⟨A', c', ys, e, h1, h2, h3, h4⟩ := h
  rw [show ys = [] from h4, List.append_nil] at e
  exact ⟨A', c', e, h1, h2, h3⟩
/-- The row that stands at k. -/
theorem RX.at_ {w : World} {o : Option Nat} {l : List RowD} {xs : List Value} (h : RX w o l xs) {k : Nat} {d : RowD} (hd : l[k]? = some d) :
    ∃ A c, FX w o A d.cols ∧ d.cols.length ≤ c ∧ (A = none → c = 0) ∧ (xs.drop (k * 6)).take 6 = (d.cells A c).toList ∧ ∀ j v, (d.cells A c)[j]? = some v → xs[k * 6 + j]? = some v := by
  have h2 := (h.split k).2
  have e : l.drop k = d :: l.drop (k + 1) := by
    obtain ⟨hk, rfl⟩ := List.getElem?_eq_some_iff.1 hd
    exact List.drop_eq_getElem_cons hk
  rw [e] at h2
  obtain ⟨A', c', ys, e1, g1, g2, g3, _⟩ := h2
  refine ⟨A', c', g1, g2, g3, by rw [e1]; exact List.take_left' (cells_length _ _ _), fun j v hv => ?_⟩
  have hj : j < 6 := by
    have := (Array.getElem?_eq_some_iff.1 hv).1
    simpa [RowD.cells] using this
  rw [← List.getElem?_drop, e1, List.getElem?_append_left (by rw [cells_length]; exact hj)]
  simpa using hv
theorem RX.oneCell {w : World} {o : Option Nat} : ∀ {l : List RowD} {xs : List Value}, RX w o l xs → ∀ u ∈ xs, u.oneCell' = true
  | [], _, h, u, hu => by rw [show _ = [] from h] at hu; cases hu
  | d :: l, _, ⟨A', c', ys, e, _, _, _, h4⟩, u, hu => by
    subst e
    rcases List.mem_append.1 hu with hu | hu
    · simp only [RowD.cells, List.mem_cons, List.not_mem_nil, or_false] at hu
      rcases hu with rfl | rfl | rfl | rfl | rfl | rfl <;> rfl
    · exact RX.oneCell h4 u hu

/-- Rows that came in, as cells. -/
theorem RX.of_RC {w : World} {B : Nat} {A : Option Addr} {l : List RowD} (h : RC w B A l) (hB : B ≤ w.heap.size) {o : Option Nat} (ho : ∀ g, o = some g → B ≤ g) :
    ∃ xs, RX w o l xs ∧ ∀ ad, A = some ad → ∀ j u, xs[j]? = some u → w.cell? (ad.add j) = some u := by
  rcases Nat.eq_zero_or_pos l.length with hl | hl
  · have : l = [] := List.eq_nil_of_length_eq_zero hl
    subst this
    exact ⟨[], rfl, fun _ _ j u hu => by simp at hu⟩
  · obtain ⟨b, off, e, _, hc⟩ := h.2 hl
    have key : ∀ (m : List RowD) (i : Nat), (∀ k d, m[k]? = some d → ∃ A' c', FC w B A' d.cols ∧ d.cols.length ≤ c' ∧ (A' = none → c' = 0) ∧ ∀ j v, (d.cells A' c')[j]? = some v → w.cell? ⟨b, off + (i + k) * 6 + j, none⟩ = some v) →
        ∃ xs, RX w o m xs ∧ ∀ j u, xs[j]? = some u → w.cell? ⟨b, off + i * 6 + j, none⟩ = some u := by
      intro m
      induction m with
      | nil => intro i _; exact ⟨[], rfl, fun j u hu => by simp at hu⟩
      | cons d m ih =>
        intro i hm
        obtain ⟨xs, g1, g2⟩ := ih (i + 1) fun k d' hd' => by
          obtain ⟨A', c', q1, q2, q3, q4⟩ := hm (k + 1) d' (by simpa using hd')
          exact ⟨A', c', q1, q2, q3, fun j v hv => by have := q4 j v hv; rw [show i + 1 + k = i + (k + 1) by omega]; exact this⟩
        obtain ⟨A', c', q1, q2, q3, q4⟩ := hm 0 d rfl
        refine ⟨(d.cells A' c').toList ++ xs, ⟨A', c', xs, rfl, .of_FC q1 hB ho, q2, q3, g1⟩, fun j u hu => ?_⟩
        rcases Nat.lt_or_ge j 6 with hj | hj
        · rw [List.getElem?_append_left (by rw [cells_length]; exact hj)] at hu
          exact q4 j u (by simpa using hu)
        · rw [List.getElem?_append_right (by rw [cells_length]; exact hj), cells_length] at hu
          have := g2 (j - 6) u hu
          rw [show off + i * 6 + j = off + (i + 1) * 6 + (j - 6) by omega]
          exact this
    obtain ⟨xs, g1, g2⟩ := key l 0 fun k d hd => by
      obtain ⟨A', c', q1, q2, q3, q4⟩ := hc k d hd
      exact ⟨A', c', q1, q2, q3, fun j v hv => by rw [Nat.zero_add]; exact q4 j v hv⟩
    refine ⟨xs, g1, fun ad had j u hu => ?_⟩
    rw [e] at had
    injection had with had
    subst had
    have := g2 j u hu
    rw [Nat.zero_mul, Nat.add_zero] at this
    unfold Addr.add
    by_cases hj : j = 0
    · subst hj; simpa using this
    · rw [if_neg hj]; exact this

/-- A slice of rows of one's own. -/
def Own (w : World) (base : Nat) (v : Value) (l : List RowD) : Prop := ∃ xs, w.ownsRow base 33 6 v l.length xs ∧ RX w v.ownBlock l xs

theorem Own.below {w w' : World} {base : Nat} {v : Value} {l : List RowD} (h : Own w base v l) (hb : Below w.heap.size w w') : Own w' base v l := by
  obtain ⟨xs, h1, h2⟩ := h
  refine ⟨xs, ?_, h2.below hb⟩
  exact h1.kept (row := none) ⟨hb.os, hb.tape, hb.output, hb.size, fun k hk _ => hb.block k hk⟩ (by cases v.ownBlock <;> simp)

/-- It reads as those rows. -/
theorem Own.reads {w : World} {base : Nat} {v : Value} {l : List RowD} (h : Own w base v l) (hk : ∀ d ∈ l, d.key < 18446744073709551616 ∧ d.cols.length ≤ maxLen) :
    ∃ A c, v = .slice A l.length c ∧ RC w w.heap.size A l ∧ (A = none → c = 0) ∧ l.length ≤ c := by
  obtain ⟨xs, h1, h2⟩ := h
  rcases h1.2 with ⟨rfl, h0⟩ | ⟨g, cap, cur, rfl, hb, hh, hnc, hcm, hcs, htake⟩
  · refine ⟨none, 0, by rw [h0], ⟨hk, fun hl => by omega⟩, fun _ => rfl, by omega⟩
  · have hg : g < w.heap.size := by
      rcases Nat.lt_or_ge g w.heap.size with hlt | hge
      · exact hlt
      · rw [Array.getElem?_eq_none hge] at hh; cases hh
    refine ⟨_, cap, rfl, ⟨hk, fun hl => ⟨g, 0, rfl, hg, fun i d hd => ?_⟩⟩, (fun h => by cases h), hnc⟩
    obtain ⟨A', c', q1, q2, q3, q4, q5⟩ := h2.at_ hd
    refine ⟨A', c', q1.to_FC, q2, q3, fun j v hv => ?_⟩
    have hi := (List.getElem?_eq_some_iff.1 hd).1
    have hj : j < 6 := by
      have := (Array.getElem?_eq_some_iff.1 hv).1
      simpa [RowD.cells] using this
    rw [Nat.zero_add, h1.cellAt (i * 6 + j) (by omega)]
    exact q5 j v hv
end Go.Proofs.Ytpcahemjcmccjaa
