/- States laid over, in plain Lean: the program's way, the document's way, that they are one, and that twice is once. No program in sight. -/
import Derived.Test.YtpcahemjcmccjaaH
namespace Go.Proofs.Ytpcahemjcmccjaa

def RowD.bareD (d : RowD) : RowD := { d with wr := 0, rc := 0, rn := 0 }
/-- Where rank r stands, or would; and whether it does. -/
def pos (s : List RowD) (r : Nat) : Nat := (s.takeWhile fun d => decide (d.rank < r)).length
def there (s : List RowD) (r : Nat) : Bool := match s[pos s r]? with
  | some d => decide (d.rank = r)
  | none => false
/-- The program's step. -/
def layStep (s : List RowD) (r : RowD) : List RowD :=
  bif r.dead then (bif there s r.rank then s.take (pos s r.rank) ++ s.drop (pos s r.rank + 1) else s)
  else (bif there s r.rank then s.set (pos s r.rank) r.bareD else s.take (pos s r.rank) ++ ([r.bareD] ++ s.drop (pos s r.rank)))
def layP (s w : List RowD) : List RowD := w.foldl layStep s

theorem takeWhile_at (s : List RowD) (r i : Nat) (_hi : i ≤ s.length) (h1 : ∀ d ∈ s.take i, d.rank < r) (h2 : ∀ d ∈ s.drop i, r ≤ d.rank) : s.takeWhile (fun d => decide (d.rank < r)) = s.take i := by
  conv => lhs; rw [← List.take_append_drop i s]
  rw [List.takeWhile_append_of_pos (fun d hd => decide_eq_true (h1 d hd))]
  cases hd : s.drop i with
  | nil => simp
  | cons d l =>
    have := h2 d (by rw [hd]; exact List.mem_cons_self)
    rw [List.takeWhile_cons_of_neg (by simp; omega), List.append_nil]

theorem pos_of {s : List RowD} {r i : Nat} {f : Bool} (h : Stands s r i f) : pos s r = i ∧ there s r = f := by
  obtain ⟨h0, h1, h2, h3⟩ := h
  have e : pos s r = i := by
    unfold pos
    rw [takeWhile_at s r i h0 h1 h2, List.length_take]
    omega
  refine ⟨e, ?_⟩
  unfold there
  rw [e]
  cases hd : s[i]? with
  | none =>
    cases f with
    | false => rfl
    | true => obtain ⟨d, hd', _⟩ := h3.1 rfl; rw [hd] at hd'; cases hd'
  | some d =>
    simp only
    cases f with
    | true =>
      obtain ⟨d', hd', hr⟩ := h3.1 rfl
      rw [hd] at hd'; injection hd' with hd'; subst hd'
      exact decide_eq_true hr
    | false =>
      refine decide_eq_false fun hr => ?_
      have := h3.2 ⟨d, hd, hr⟩
      cases this

theorem pos_lt {d : RowD} {l : List RowD} {r : Nat} (h : d.rank < r) : pos (d :: l) r = pos l r + 1 ∧ there (d :: l) r = there l r := by
  have e : pos (d :: l) r = pos l r + 1 := by
    unfold pos
    rw [List.takeWhile_cons_of_pos (by simpa using h), List.length_cons]
  refine ⟨e, ?_⟩
  unfold there
  rw [e, List.getElem?_cons_succ]
theorem pos_ge {d : RowD} {l : List RowD} {r : Nat} (h : ¬ d.rank < r) : pos (d :: l) r = 0 ∧ there (d :: l) r = decide (d.rank = r) := by
  have e : pos (d :: l) r = 0 := by
    unfold pos
    rw [List.takeWhile_cons_of_neg (by simpa using h)]; rfl
  refine ⟨e, ?_⟩
  unfold there
  rw [e]
  rfl

/-- How a rising state is parted by a rank. -/
theorem parts : ∀ {s : List RowD}, Rising s → ∀ r : Nat, ∃ A B, s = A ++ B ∧ A.length = pos s r ∧ (∀ d ∈ A, d.rank < r) ∧
    ((B = [] ∧ there s r = false) ∨ ∃ d C, B = d :: C ∧ (∀ e ∈ C, r < e.rank) ∧ ((d.rank = r ∧ there s r = true) ∨ (r < d.rank ∧ there s r = false)))
  | [], _, r => ⟨[], [], rfl, rfl, by simp, .inl ⟨rfl, rfl⟩⟩
  | d :: l, hs, r => by
    have hs' := List.pairwise_cons.1 hs
    by_cases h : d.rank < r
    · obtain ⟨A, B, e, h1, h2, h3⟩ := parts hs'.2 r
      obtain ⟨p1, p2⟩ := pos_lt (l := l) h
      refine ⟨d :: A, B, by rw [e]; rfl, by rw [p1, List.length_cons, h1], fun x hx => ?_, by rw [p2]; exact h3⟩
      rcases List.mem_cons.1 hx with rfl | hx
      · exact h
      · exact h2 x hx
    · obtain ⟨p1, p2⟩ := pos_ge (l := l) h
      refine ⟨[], d :: l, rfl, by rw [p1]; rfl, by simp, .inr ⟨d, l, rfl, fun e he => ?_, ?_⟩⟩
      · have := hs'.1 e he
        omega
      · rw [p2]
        by_cases he : d.rank = r
        · exact .inl ⟨he, decide_eq_true he⟩
        · exact .inr ⟨by omega, decide_eq_false he⟩

/-- The step, by parts. -/
theorem layStep_parts {A B : List RowD} {r : RowD} (hA : A.length = pos (A ++ B) r.rank) : layStep (A ++ B) r = bif r.dead then (bif there (A ++ B) r.rank then A ++ B.drop 1 else A ++ B) else (bif there (A ++ B) r.rank then A ++ (r.bareD :: B.drop 1) else A ++ (r.bareD :: B)) := by
  unfold layStep
  rw [← hA]
  have e1 : (A ++ B).take A.length = A := by simp
  have e2 : (A ++ B).drop (A.length + 1) = B.drop 1 := by rw [List.drop_length_add_append]
  have e3 : (A ++ B).drop A.length = B := by simp
  rw [e1, e2, e3]
  cases hd : r.dead with
  | true => rfl
  | false =>
    cases ht : there (A ++ B) r.rank with
    | false => rfl
    | true =>
      simp only [cond_true, cond_false]
      have hlt : A.length < (A ++ B).length := by
        unfold there at ht
        rw [← hA] at ht
        rcases Nat.lt_or_ge A.length (A ++ B).length with h | h
        · exact h
        · rw [List.getElem?_eq_none h] at ht; cases ht
      rw [List.set_eq_take_append_cons_drop, if_pos hlt, e1, e2]

/-- What a state has of a rank. -/
def look (s : List RowD) (x : Nat) : Option RowD := s.find? fun d => decide (d.rank = x)
def eff (r : RowD) (o : Option RowD) (x : Nat) : Option RowD := if r.rank = x then (bif r.dead then none else some r.bareD) else o

theorem look_append (A B : List RowD) (x : Nat) : look (A ++ B) x = (look A x).or (look B x) := by unfold look; rw [List.find?_append]
theorem look_cons (d : RowD) (B : List RowD) (x : Nat) : look (d :: B) x = if d.rank = x then some d else look B x := by
  unfold look
  by_cases h : d.rank = x
  · rw [List.find?_cons_of_pos (by simpa using h), if_pos h]
  · rw [List.find?_cons_of_neg (by simpa using h), if_neg h]
theorem look_none {A : List RowD} {x : Nat} (h : ∀ d ∈ A, d.rank ≠ x) : look A x = none := by
  unfold look
  rw [List.find?_eq_none]
  intro d hd
  simpa using h d hd
theorem bareD_rank (r : RowD) : r.bareD.rank = r.rank := rfl

theorem layStep_rising {s : List RowD} (hs : Rising s) (r : RowD) : Rising (layStep s r) ∧ ∀ x, look (layStep s r) x = eff r (look s x) x := by
  obtain ⟨A, B, rfl, hA, h1, h2⟩ := parts hs r.rank
  rw [layStep_parts hA]
  have hp := List.pairwise_append.1 hs
  rcases h2 with ⟨rfl, ht⟩ | ⟨d, C, rfl, hC, ⟨hd, ht⟩ | ⟨hd, ht⟩⟩
  · rw [ht]
    cases hdd : r.dead with
    | true =>
      simp only [cond_true, cond_false]
      refine ⟨hs, fun x => ?_⟩
      unfold eff
      by_cases hx : r.rank = x
      · rw [if_pos hx, hdd, List.append_nil]
        exact look_none fun d hd e => by have := h1 d hd; omega
      · rw [if_neg hx]
    | false =>
      simp only [cond_false]
      refine ⟨List.pairwise_append.2 ⟨hp.1, by simp, fun a ha b hb => ?_⟩, fun x => ?_⟩
      · rw [List.mem_singleton.1 hb, bareD_rank]; exact h1 a ha
      · rw [look_append, look_append, look_cons, bareD_rank]
        unfold eff
        by_cases hx : r.rank = x
        · rw [if_pos hx, if_pos hx, hdd, look_none (fun d hd e => by have := h1 d hd; omega)]; rfl
        · rw [if_neg hx, if_neg hx]
  · rw [ht]
    have hpc := List.pairwise_cons.1 hp.2.1
    cases hdd : r.dead with
    | true =>
      simp only [cond_true, List.drop_succ_cons, List.drop_zero]
      refine ⟨List.pairwise_append.2 ⟨hp.1, hpc.2, fun a ha b hb => hp.2.2 a ha b (List.mem_cons_of_mem _ hb)⟩, fun x => ?_⟩
      rw [look_append, look_append, look_cons]
      unfold eff
      by_cases hx : r.rank = x
      · rw [if_pos hx, hdd, look_none (fun d hd e => by have := h1 d hd; omega), look_none (fun d hd e => by have := hC d hd; omega)]; rfl
      · rw [if_neg hx, if_neg (by omega)]
    | false =>
      simp only [cond_false, cond_true, List.drop_succ_cons, List.drop_zero]
      refine ⟨List.pairwise_append.2 ⟨hp.1, List.pairwise_cons.2 ⟨fun b hb => by rw [bareD_rank]; exact hC b hb, hpc.2⟩, fun a ha b hb => ?_⟩, fun x => ?_⟩
      · rcases List.mem_cons.1 hb with rfl | hb
        · rw [bareD_rank]; exact h1 a ha
        · exact hp.2.2 a ha b (List.mem_cons_of_mem _ hb)
      · rw [look_append, look_append, look_cons, look_cons, bareD_rank]
        unfold eff
        by_cases hx : r.rank = x
        · rw [if_pos hx, if_pos hx, hdd, look_none (fun d hd e => by have := h1 d hd; omega)]; rfl
        · rw [if_neg hx, if_neg hx, if_neg (by omega)]
  · rw [ht]
    have hpc := List.pairwise_cons.1 hp.2.1
    cases hdd : r.dead with
    | true =>
      simp only [cond_true, cond_false]
      refine ⟨hs, fun x => ?_⟩
      unfold eff
      by_cases hx : r.rank = x
      · rw [if_pos hx, hdd]
        refine look_none fun e he h => ?_
        rcases List.mem_append.1 he with he | he
        · have := h1 e he; omega
        · rcases List.mem_cons.1 he with rfl | he
          · omega
          · have := hC e he; omega
      · rw [if_neg hx]
    | false =>
      simp only [cond_false]
      refine ⟨List.pairwise_append.2 ⟨hp.1, List.pairwise_cons.2 ⟨fun b hb => ?_, hp.2.1⟩, fun a ha b hb => ?_⟩, fun x => ?_⟩
      · rw [bareD_rank]
        rcases List.mem_cons.1 hb with rfl | hb
        · exact hd
        · exact hC b hb
      · rcases List.mem_cons.1 hb with rfl | hb
        · rw [bareD_rank]; exact h1 a ha
        · exact hp.2.2 a ha b hb
      · rw [look_append, look_append, look_cons, bareD_rank]
        unfold eff
        by_cases hx : r.rank = x
        · rw [if_pos hx, if_pos hx, hdd, look_none (fun d hd e => by have := h1 d hd; omega)]; rfl
        · rw [if_neg hx, if_neg hx]

theorem layP_rising : ∀ (w : List RowD) {s : List RowD}, Rising s → Rising (layP s w) ∧ ∀ x, look (layP s w) x = w.foldl (fun o r => eff r o x) (look s x)
  | [], s, hs => ⟨hs, fun _ => rfl⟩
  | r :: w, s, hs => by
    obtain ⟨h1, h2⟩ := layStep_rising hs r
    obtain ⟨h3, h4⟩ := layP_rising w h1
    exact ⟨h3, fun x => by
      have := h4 x
      rw [h2 x] at this
      exact this⟩

/-- Rising states are told by what they have. -/
theorem look_ext : ∀ {s t : List RowD}, Rising s → Rising t → (∀ x, look s x = look t x) → s = t
  | [], [], _, _, _ => rfl
  | [], e :: t, _, _, h => by have := h e.rank; rw [look_cons, if_pos rfl] at this; cases this
  | d :: s, [], _, _, h => by have := h d.rank; rw [look_cons, if_pos rfl] at this; cases this
  | d :: s, e :: t, hs, ht, h => by
    have hs' := List.pairwise_cons.1 hs
    have ht' := List.pairwise_cons.1 ht
    have key : ∀ {a b : RowD} {l m : List RowD}, (∀ x ∈ l, a.rank < x.rank) → (∀ x ∈ m, b.rank < x.rank) → (∀ x, look (a :: l) x = look (b :: m) x) → ¬ a.rank < b.rank := by
      intro a b l m h1 h2 h hlt
      have := h a.rank
      rw [look_cons, if_pos rfl, look_cons, if_neg (by omega), look_none (fun x hx e => by have := h2 x hx; omega)] at this
      cases this
    have hr : d.rank = e.rank := by
      have a1 := key hs'.1 ht'.1 h
      have a2 := key ht'.1 hs'.1 (fun x => (h x).symm)
      omega
    have hde : d = e := by
      have := h d.rank
      rw [look_cons, if_pos rfl, look_cons, if_pos hr.symm] at this
      injection this
    subst hde
    congr 1
    refine look_ext hs'.2 ht'.2 fun x => ?_
    by_cases hx : d.rank = x
    · rw [look_none (fun y hy e => by have := hs'.1 y hy; omega), look_none (fun y hy e => by have := ht'.1 y hy; omega)]
    · have := h x
      rw [look_cons, if_neg hx, look_cons, if_neg hx] at this
      exact this

theorem fold_eff_idem (x : Nat) : ∀ (w : List RowD) (o : Option RowD), w.foldl (fun o r => eff r o x) (w.foldl (fun o r => eff r o x) o) = w.foldl (fun o r => eff r o x) o := by
  have key : ∀ (w : List RowD), (∀ o, w.foldl (fun o r => eff r o x) o = o) ∨ ∃ c, ∀ o, w.foldl (fun o r => eff r o x) o = c := by
    intro w
    induction w with
    | nil => exact .inl fun _ => rfl
    | cons r w ih =>
      rcases ih with ih | ⟨c, ih⟩
      · by_cases hx : r.rank = x
        · exact .inr ⟨_, fun o => by rw [List.foldl_cons, ih]; unfold eff; rw [if_pos hx]⟩
        · exact .inl fun o => by rw [List.foldl_cons, ih]; unfold eff; rw [if_neg hx]
      · exact .inr ⟨c, fun o => by rw [List.foldl_cons, ih]⟩
  intro w o
  rcases key w with h | ⟨c, h⟩
  · rw [h, h]
  · rw [h, h]

/-- Laid twice is laid once. -/
theorem layP_twice {s : List RowD} (hs : Rising s) (w : List RowD) : layP (layP s w) w = layP s w := by
  obtain ⟨h1, h2⟩ := layP_rising w hs
  obtain ⟨h3, h4⟩ := layP_rising w h1
  refine look_ext h3 h1 fun x => ?_
  rw [h4, h2, fold_eff_idem]

/-- The document's step. -/
def refX (r : RowD) : RowD := { key := r.key, dead := false, cols := r.cols, wr := 0, rc := 0, rn := 0 }
def refGo (r : RowD) : Bool → List RowD → List RowD → List RowD × Bool
  | put, out, [] => (out, put)
  | put, out, d :: l =>
    let out1 := bif !put && lessN r.key d.key then out ++ [refX r] else out
    let put1 := bif !put && lessN r.key d.key then true else put
    refGo r put1 (bif decide (keyN d.key = keyN r.key) then out1 else out1 ++ [d]) l
def refStep (s : List RowD) (r : RowD) : List RowD :=
  bif (refGo r r.dead [] s).2 then (refGo r r.dead [] s).1 else (refGo r r.dead [] s).1 ++ [refX r]
def refLay (s w : List RowD) : List RowD := w.foldl refStep s

def KeyOk (d : RowD) : Prop := d.key < 18446744073709551616

theorem refGo_low (r : RowD) (hr : KeyOk r) : ∀ (A : List RowD) (put : Bool) (out l : List RowD), (∀ d ∈ A, KeyOk d ∧ d.rank < r.rank) → refGo r put out (A ++ l) = refGo r put (out ++ A) l
  | [], put, out, l, _ => by simp
  | d :: A, put, out, l, h => by
    obtain ⟨hk, hd⟩ := h d List.mem_cons_self
    have e1 : lessN r.key d.key = false := by rw [lessN_rank _ _ hr hk]; exact decide_eq_false (by unfold RowD.rank at hd; omega)
    have e2 : decide (keyN d.key = keyN r.key) = false := decide_eq_false fun e => by
      have := (rankN_eq _ _ hk hr).2 e
      unfold RowD.rank at hd
      omega
    rw [List.cons_append]
    simp only [refGo, e1, e2, Bool.and_false, cond_false]
    rw [refGo_low r hr A put (out ++ [d]) l (fun x hx => h x (List.mem_cons_of_mem _ hx))]
    simp
theorem refGo_put (r : RowD) (hr : KeyOk r) : ∀ (A : List RowD) (out : List RowD), (∀ d ∈ A, KeyOk d ∧ r.rank < d.rank) → refGo r true out A = (out ++ A, true)
  | [], out, _ => by simp [refGo]
  | d :: A, out, h => by
    obtain ⟨hk, hd⟩ := h d List.mem_cons_self
    have e2 : decide (keyN d.key = keyN r.key) = false := decide_eq_false fun e => by
      have := (rankN_eq _ _ hk hr).2 e
      unfold RowD.rank at hd
      omega
    simp only [refGo, e2, Bool.not_true, Bool.false_and, cond_false]
    rw [refGo_put r hr A (out ++ [d]) (fun x hx => h x (List.mem_cons_of_mem _ hx))]
    simp
theorem refGo_high (r : RowD) (hr : KeyOk r) (d : RowD) (C out : List RowD) (hd : KeyOk d) (hlt : r.rank < d.rank) (hC : ∀ e ∈ C, KeyOk e ∧ r.rank < e.rank) : refGo r false out (d :: C) = (out ++ (refX r :: d :: C), true) := by
  have e1 : lessN r.key d.key = true := by rw [lessN_rank _ _ hr hd]; exact decide_eq_true hlt
  have e2 : decide (keyN d.key = keyN r.key) = false := decide_eq_false fun e => by
    have := (rankN_eq _ _ hd hr).2 e
    unfold RowD.rank at hlt
    omega
  simp only [refGo, e1, e2, Bool.not_false, Bool.and_self, cond_true, cond_false]
  rw [refGo_put r hr C _ hC]
  simp

theorem refX_eq {r : RowD} (h : r.dead = false) : refX r = r.bareD := by
  cases r
  simp only at h
  subst h
  rfl

theorem refStep_eq {s : List RowD} (hs : Rising s) (hk : ∀ d ∈ s, KeyOk d) (r : RowD) (hr : KeyOk r) : refStep s r = layStep s r := by
  obtain ⟨A, B, rfl, hA, h1, h2⟩ := parts hs r.rank
  rw [layStep_parts hA]
  unfold refStep
  have hlow : ∀ put, refGo r put [] (A ++ B) = refGo r put A B := fun put => by
    rw [refGo_low r hr A put [] B (fun d hd => ⟨hk d (List.mem_append_left _ hd), h1 d hd⟩), List.nil_append]
  rw [hlow]
  rcases h2 with ⟨rfl, ht⟩ | ⟨d, C, rfl, hC, ⟨hd, ht⟩ | ⟨hd, ht⟩⟩
  · rw [ht]
    cases hdd : r.dead with
    | true => simp [refGo]
    | false => simp [refGo, refX_eq hdd]
  · rw [ht]
    have hkd := hk d (List.mem_append_right _ List.mem_cons_self)
    have hkC : ∀ e ∈ C, KeyOk e ∧ r.rank < e.rank := fun e he => ⟨hk e (List.mem_append_right _ (List.mem_cons_of_mem _ he)), hC e he⟩
    have e1 : lessN r.key d.key = false := by rw [lessN_rank _ _ hr hkd]; exact decide_eq_false (by unfold RowD.rank at hd; omega)
    have e2 : decide (keyN d.key = keyN r.key) = true := decide_eq_true ((rankN_eq _ _ hkd hr).1 hd)
    cases hdd : r.dead with
    | true =>
      have e3 : refGo r true A (d :: C) = (A ++ C, true) := by
        simp only [refGo, e1, e2, Bool.and_false, cond_false, cond_true]
        exact refGo_put r hr C A hkC
      rw [e3]
      rfl
    | false =>
      have e3 : refGo r false A (d :: C) = refGo r false A C := by
        simp only [refGo, e1, e2, Bool.and_false, cond_false, cond_true]
      rw [e3]
      cases C with
      | nil => simp [refGo, refX_eq hdd]
      | cons e C =>
        rw [refGo_high r hr e C A (hkC e List.mem_cons_self).1 (hkC e List.mem_cons_self).2 (fun x hx => hkC x (List.mem_cons_of_mem _ hx)), refX_eq hdd]
        rfl
  · rw [ht]
    have hkd := hk d (List.mem_append_right _ List.mem_cons_self)
    have hkC : ∀ e ∈ C, KeyOk e ∧ r.rank < e.rank := fun e he => ⟨hk e (List.mem_append_right _ (List.mem_cons_of_mem _ he)), hC e he⟩
    cases hdd : r.dead with
    | true =>
      rw [refGo_put r hr (d :: C) A (fun x hx => by
        rcases List.mem_cons.1 hx with rfl | hx
        · exact ⟨hkd, hd⟩
        · exact hkC x hx)]
      rfl
    | false =>
      rw [refGo_high r hr d C A hkd hd hkC, refX_eq hdd]
      rfl

theorem layStep_mem {s : List RowD} {r d : RowD} (h : d ∈ layStep s r) : d ∈ s ∨ d = r.bareD := by
  unfold layStep at h
  cases hd : r.dead <;> rw [hd] at h <;> simp only [cond_true, cond_false] at h <;> cases ht : there s r.rank <;> rw [ht] at h <;> simp only [cond_true, cond_false] at h
  · rcases List.mem_append.1 h with h | h
    · exact .inl (List.mem_of_mem_take h)
    · rcases List.mem_append.1 h with h | h
      · exact .inr (List.mem_singleton.1 h)
      · exact .inl (List.mem_of_mem_drop h)
  · rcases List.mem_or_eq_of_mem_set h with h | h
    · exact .inl h
    · exact .inr h
  · exact .inl h
  · rcases List.mem_append.1 h with h | h
    · exact .inl (List.mem_of_mem_take h)
    · exact .inl (List.mem_of_mem_drop h)

/-- What is so of all rows, and of those that are laid, made bare, is so behind. -/
theorem layP_all {p : RowD → Prop} (hb : ∀ d, p d → p d.bareD) : ∀ (w s : List RowD), (∀ d ∈ s, p d) → (∀ d ∈ w, p d) → ∀ d ∈ layP s w, p d
  | [], _, hs, _ => hs
  | r :: w, s, hs, hw => layP_all hb w (layStep s r) (fun d hd => by
    rcases layStep_mem hd with h | rfl
    · exact hs d h
    · exact hb r (hw r List.mem_cons_self)) fun d hd => hw d (List.mem_cons_of_mem _ hd)

theorem refLay_eq : ∀ (w : List RowD) {s : List RowD}, Rising s → (∀ d ∈ s, KeyOk d) → (∀ d ∈ w, KeyOk d) → refLay s w = layP s w
  | [], _, _, _, _ => rfl
  | r :: w, s, hs, hk, hw => by
    show refLay (refStep s r) w = layP (layStep s r) w
    rw [refStep_eq hs hk r (hw r List.mem_cons_self)]
    exact refLay_eq w (layStep_rising hs r).1 (fun d hd => by
      rcases layStep_mem hd with h | rfl
      · exact hk d h
      · exact hw r List.mem_cons_self) fun d hd => hw d (List.mem_cons_of_mem _ hd)

theorem layStep_length (s : List RowD) (r : RowD) : (layStep s r).length ≤ s.length + 1 := by
  unfold layStep
  cases r.dead <;> simp only [cond_true, cond_false] <;> cases there s r.rank <;> simp only [cond_true, cond_false]
  · simp only [List.length_append, List.length_take, List.length_drop, List.length_singleton]; omega
  · rw [List.length_set]; omega
  · omega
  · simp only [List.length_append, List.length_take, List.length_drop]; omega
theorem layP_length : ∀ (w s : List RowD), (layP s w).length ≤ s.length + w.length
  | [], s => Nat.le_refl _
  | r :: w, s => by
    have h1 := layP_length w (layStep s r)
    have h2 := layStep_length s r
    simp only [List.length_cons]
    show (layP (layStep s r) w).length ≤ _
    omega
end Go.Proofs.Ytpcahemjcmccjaa
