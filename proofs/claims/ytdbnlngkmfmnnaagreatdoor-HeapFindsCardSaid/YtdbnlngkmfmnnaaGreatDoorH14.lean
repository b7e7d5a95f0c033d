/- The document's slot of bytes and the program's are the same row: plain. -/
import Derived.Test.YtdbnlngkmfmnnaaGreatDoorH13
import Derived.Test.YtdbnlngkmfmnnaaGreatDoorH06
import Derived.Test.YtdbnlngkmfmnnaaGreatDoorH11
import Derived.Shelf.SlSortCmp.WholeK
import Derived.Shelf.SlSortCmp.NoneTotal
namespace Go.Proofs.YtdbnlngkmfmnnaaGreatDoor
open Go.RowKit

/-- An item as it was taken. -/
def takenIt (i : It) (k : Nat) : Prop := (k = 4 → i = ⟨4, 0, i.x⟩) ∧ (k ≠ 4 → i = ⟨k, i.n, 0⟩ ∧ i.n < 256 ^ wid k)
theorem takeOne_bytes {L : List Nat} {k a : Nat} {i : It} {e : Nat} (hL : ∀ x ∈ L, x < 256) (h : takeOne L k a = some (i, e)) : itB i = (L.drop a).take (e - a) ∧ a ≤ e ∧ e ≤ L.length ∧ takenIt i k := by
  have hlt : ∀ n, ∀ x ∈ (L.drop a).take n, x < 256 := fun n x hx => hL x (List.mem_of_mem_drop (List.mem_of_mem_take hx))
  unfold takeOne at h
  by_cases hk : k = 4
  · rw [if_pos hk] at h
    by_cases h1 : a + 8 ≤ L.length
    · rw [if_pos h1] at h
      have hl : ((L.drop a).take 8).length = 8 := by rw [List.length_take, List.length_drop]; omega
      have hb := beN_lt _ (hlt 8)
      rw [hl] at hb
      by_cases h2 : numValN (beN ((L.drop a).take 8)) = beN ((L.drop a).take 8)
      · rw [if_pos h2] at h
        injection h with h; injection h with h3 h4
        subst h3 h4
        refine ⟨?_, by omega, h1, fun _ => rfl, fun h => absurd hk h⟩
        rw [Nat.add_sub_cancel_left]
        unfold itB
        rw [if_pos rfl]
        show be 8 (valN _) = _
        rw [← numValN_eq _ hb, h2, be_beN 8 _ hl (hlt 8)]
      · rw [if_neg h2] at h; cases h
    · rw [if_neg h1] at h; cases h
  · rw [if_neg hk] at h
    by_cases h1 : a + wid k ≤ L.length
    · rw [if_pos h1] at h
      have hl : ((L.drop a).take (wid k)).length = wid k := by rw [List.length_take, List.length_drop]; omega
      have hb := beN_lt _ (hlt (wid k))
      rw [hl] at hb
      by_cases h2 : fitsN k (beN ((L.drop a).take (wid k))) = true
      · rw [if_pos h2] at h
        injection h with h; injection h with h3 h4
        subst h3 h4
        refine ⟨?_, by omega, h1, fun h => absurd h hk, fun _ => ⟨rfl, hb⟩⟩
        rw [Nat.add_sub_cancel_left]
        unfold itB
        rw [if_neg hk]
        exact be_beN _ _ hl (hlt _)
      · rw [if_neg h2] at h; cases h
    · rw [if_neg h1] at h; cases h

theorem takeAll_cons {L ks : List Nat} {k a : Nat} {r : List It × Nat} (h : takeAll L (k :: ks) a = some r) : ∃ i a' l, takeOne L k a = some (i, a') ∧ takeAll L ks a' = some (l, r.2) ∧ r.1 = i :: l := by
  unfold takeAll at h
  cases h1 : takeOne L k a with
  | none => rw [h1] at h; cases h
  | some q =>
    obtain ⟨i, a'⟩ := q
    rw [h1] at h
    simp only at h
    cases h2 : takeAll L ks a' with
    | none => rw [h2] at h; cases h
    | some q2 =>
      obtain ⟨l, e⟩ := q2
      rw [h2] at h
      injection h with h
      subst h
      exact ⟨i, a', l, rfl, h2, rfl⟩

theorem takeAll_bytes {L : List Nat} (hL : ∀ x ∈ L, x < 256) : ∀ {K : List Nat} {a : Nat} {I : List It} {e : Nat}, takeAll L K a = some (I, e) → bytesOf I = (L.drop a).take (e - a) ∧ a ≤ e ∧ ∀ (j k : Nat) (i : It), K[j]? = some k → I[j]? = some i → takenIt i k
  | [], a, I, e, h => by
    simp [takeAll] at h
    obtain ⟨rfl, rfl⟩ := h
    exact ⟨by simp [bytesOf], Nat.le_refl _, by simp⟩
  | k :: ks, a, I, e, h => by
    obtain ⟨i, a', l, h1, h2, h3⟩ := takeAll_cons h
    simp only at h3
    subst h3
    obtain ⟨g1, g2, g3, g4⟩ := takeOne_bytes hL h1
    obtain ⟨q1, q2, q3⟩ := takeAll_bytes hL h2
    simp only at q1 q2
    refine ⟨?_, by omega, fun j k' i' hk hi => ?_⟩
    · show (i :: l).flatMap itB = _
      rw [List.flatMap_cons, g1]
      show _ ++ bytesOf l = _
      rw [q1]
      have : e - a = (a' - a) + (e - a') := by omega
      rw [this, List.take_add, List.drop_drop]
      have : a + (a' - a) = a' := by omega
      rw [this]
    · cases j with
      | zero => simp at hk hi; subst hk hi; exact g4
      | succ j => simp at hk hi; exact q3 j k' i' hk hi

theorem takeAll_succ (L ks : List Nat) (k a : Nat) : takeAll L (k :: ks) a = (takeOne L k a).bind fun r => (takeAll L ks r.2).map fun q => (r.1 :: q.1, q.2) := by
  conv => lhs; unfold takeAll
  cases takeOne L k a with
  | none => rfl
  | some q =>
    obtain ⟨i, a'⟩ := q
    simp only [Option.bind_some]
    cases takeAll L ks a' with
    | none => rfl
    | some q => rfl
theorem takeAll_append (L : List Nat) (K2 : List Nat) : ∀ (K1 : List Nat) (a : Nat), takeAll L (K1 ++ K2) a = (takeAll L K1 a).bind fun r => (takeAll L K2 r.2).map fun q => (r.1 ++ q.1, q.2)
  | [], a => by
    simp only [List.nil_append, takeAll, Option.bind_some]
    cases takeAll L K2 a with
    | none => rfl
    | some r => rfl
  | k :: ks, a => by
    rw [List.cons_append, takeAll_succ, takeAll_succ]
    cases takeOne L k a with
    | none => rfl
    | some q =>
      obtain ⟨i, a'⟩ := q
      simp only [Option.bind_some]
      rw [takeAll_append L K2 ks a']
      cases takeAll L ks a' with
      | none => rfl
      | some q =>
        simp only [Option.bind_some, Option.map_some]
        cases takeAll L K2 q.2 with
        | none => rfl
        | some q2 => rfl

theorem takeOne_drop (L : List Nat) (d k a : Nat) (hd : d ≤ L.length) : takeOne (L.drop d) k a = (takeOne L k (d + a)).map fun r => (r.1, r.2 - d) := by
  unfold takeOne
  rw [List.drop_drop, List.length_drop]
  by_cases hk : k = 4
  · rw [if_pos hk, if_pos hk]
    by_cases h1 : d + a + 8 ≤ L.length
    · rw [if_pos h1, if_pos (by omega)]
      split
      · simp only [Option.map_some]; congr 3; omega
      · rfl
    · rw [if_neg h1, if_neg (by omega)]; rfl
  · rw [if_neg hk, if_neg hk]
    by_cases h1 : d + a + wid k ≤ L.length
    · rw [if_pos h1, if_pos (by omega)]
      split
      · simp only [Option.map_some]; congr 3; omega
      · rfl
    · rw [if_neg h1, if_neg (by omega)]; rfl
theorem takeAll_drop (L : List Nat) (d : Nat) (hd : d ≤ L.length) (hL : ∀ x ∈ L, x < 256) : ∀ (K : List Nat) (a : Nat), takeAll (L.drop d) K a = (takeAll L K (d + a)).map fun r => (r.1, r.2 - d)
  | [], a => by simp [takeAll]
  | k :: ks, a => by
    rw [takeAll_succ, takeAll_succ, takeOne_drop L d k a hd]
    cases h1 : takeOne L k (d + a) with
    | none => rfl
    | some q =>
      obtain ⟨i, a'⟩ := q
      simp only [Option.map_some, Option.bind_some]
      have := (takeOne_bytes hL h1).2.1
      rw [takeAll_drop L d hd hL ks (a' - d)]
      have e : d + (a' - d) = a' := by omega
      rw [e]
      cases takeAll L ks a' with
      | none => rfl
      | some q => rfl

theorem be_one (n : Nat) : be 1 n = [n % 256] := by
  unfold be
  simp [List.range_succ]
theorem itB_one (n : Nat) : itB ⟨1, n, 0⟩ = [n % 256] := by
  unfold itB
  rw [if_neg (by show ¬ (1 : Nat) = 4; decide)]
  exact be_one n

theorem kinds_head (m : Nat) : (kinds m)[0]? = some 1 ∧ (kinds m)[1]? = some 4 ∧ (kinds m)[2]? = some 3 ∧ (kinds m)[3]? = some 2 ∧ (kinds m)[4]? = some 3 ∧ (kinds m)[5]? = some 1 ∧ ∀ j, j < m → (kinds m)[6 + j]? = some 4 := by
  refine ⟨rfl, rfl, rfl, rfl, rfl, rfl, fun j hj => ?_⟩
  unfold kinds
  rw [List.getElem?_append_right (by show 6 ≤ 6 + j; omega)]
  show (List.replicate m 4)[6 + j - 6]? = _
  rw [Nat.add_sub_cancel_left, List.getElem?_replicate, if_pos hj]

/-- The first twenty bytes, and the bytes of the row. -/
theorem row_back {M : List Nat} {m : Nat} {i0 i1 i2 i3 i4 i5 : It} {C : List It} {e : Nat} (hL : ∀ x ∈ M, x < 256) (hm : m ≤ 4) (hl : M.length = 20 + 8 * m) (h : takeAll M (kinds m) 0 = some (i0 :: i1 :: i2 :: i3 :: i4 :: i5 :: C, e)) (h5 : i5.n = m) :
    rowBytes (rowOf i0 i1 i2 i3 i4 C) = M ↔ i0.n ≤ 1 := by
  obtain ⟨hb, _, ht⟩ := takeAll_bytes hL h
  have hlen := takeAll_len h
  rw [kinds_len] at hlen
  simp only [List.length_cons] at hlen
  have hC : C.length = m := by omega
  obtain ⟨k0, k1, k2, k3, k4, k5, kC⟩ := kinds_head m
  have t0 := (ht 0 1 i0 k0 rfl).2 (by decide)
  have t1 := (ht 1 4 i1 k1 rfl).1 rfl
  have t2 := ((ht 2 3 i2 k2 rfl).2 (by decide)).1
  have t3 := ((ht 3 2 i3 k3 rfl).2 (by decide)).1
  have t4 := ((ht 4 3 i4 k4 rfl).2 (by decide)).1
  have t5 := ((ht 5 1 i5 k5 rfl).2 (by decide)).1
  have tC : (C.map (·.x)).map (fun v => (⟨4, 0, v⟩ : It)) = C := by
    rw [List.map_map]
    conv => rhs; rw [← List.map_id C]
    refine List.map_congr_left fun i hi => ?_
    obtain ⟨j, hj, hji⟩ := List.getElem_of_mem hi
    have := (ht (6 + j) 4 i (kC j (by omega)) (by
      have e6 : 6 + j = j + 1 + 1 + 1 + 1 + 1 + 1 := by omega
      rw [e6]
      simp only [List.getElem?_cons_succ]
      rw [List.getElem?_eq_getElem hj, hji])).1 rfl
    exact this.symm
  have hn0 : i0.n < 256 := t0.2
  have he : e = 20 + 8 * m := by
    have hh := (takeAll_end hL (Nat.zero_le _) h).1
    have hs : ((kinds m).map fun k => if k = 4 then 8 else wid k).sum = 20 + 8 * m := by
      have : m = 0 ∨ m = 1 ∨ m = 2 ∨ m = 3 ∨ m = 4 := by omega
      rcases this with rfl | rfl | rfl | rfl | rfl <;> decide
    rw [hs] at hh
    omega
  have hM : bytesOf (i0 :: i1 :: i2 :: i3 :: i4 :: i5 :: C) = M := by
    rw [hb, List.drop_zero, List.take_of_length_le (by omega)]
  unfold rowBytes rowOf rowI headI
  simp only [Int.toNat_natCast]
  rw [tC]
  have hCl : (C.map (·.x)).length = i5.n := by rw [List.length_map, hC, h5]
  rw [hCl, ← t1, ← t2, ← t3, ← t4, ← t5]
  rw [← hM]
  show bytesOf (_ :: i1 :: i2 :: i3 :: i4 :: i5 :: C) = _ ↔ _
  unfold bytesOf
  rw [List.flatMap_cons, List.flatMap_cons (x := i0), List.append_left_inj]
  rw [t0.1]
  show itB ⟨1, _, 0⟩ = itB ⟨1, i0.n, 0⟩ ↔ _
  rw [itB_one, itB_one]
  by_cases h1 : i0.n = 1
  · simp [h1]
  · simp only [h1, decide_false, List.cons.injEq, and_true]
    rw [Nat.mod_eq_of_lt hn0]
    simp
    omega

theorem head_last {M : List Nat} {i0 i1 i2 i3 i4 i5 : It} {a : Nat} (hL : ∀ x ∈ M, x < 256) (h : takeAll M headK 0 = some ([i0, i1, i2, i3, i4, i5], a)) : M[19]? = some i5.n := by
  obtain ⟨hb, _, ht⟩ := takeAll_bytes hL h
  obtain ⟨h20, hl, _, _⟩ := headK_end hL h
  have t5 := (ht 5 1 i5 rfl rfl).2 (by decide)
  subst h20
  rw [List.drop_zero, Nat.sub_zero] at hb
  have hlt : i5.n < 256 := t5.2
  have e1 : bytesOf [i0, i1, i2, i3, i4, i5] = bytesOf [i0, i1, i2, i3, i4] ++ [i5.n] := by
    unfold bytesOf
    simp only [List.flatMap_cons, List.flatMap_nil, List.append_nil, List.append_assoc]
    have : itB i5 = [i5.n] := by
      rw [t5.1, itB_one]; exact congrArg (fun x => [x]) (Nat.mod_eq_of_lt hlt)
    rw [this]
  have hl2 : (M.take 20).length = 20 := by rw [List.length_take]; omega
  have hl3 : (bytesOf [i0, i1, i2, i3, i4]).length = 19 := by
    have := congrArg List.length (e1.symm.trans hb)
    rw [List.length_append, hl2] at this
    simp at this
    omega
  have e2 : (M.take 20)[19]? = some i5.n := by
    rw [← hb, e1, List.getElem?_append_right (by omega), hl3]
    rfl
  rw [List.getElem?_take] at e2
  simpa using e2

theorem rowdec_doc {M : List Nat} {m : Nat} (hL : ∀ x ∈ M, x < 256) (hm : m ≤ 4) (hl : M.length = 20 + 8 * m) (h19 : M[19]? = some m) : docDec M = rowDec M ∧ ∀ d, rowDec M = some d → rowBytes d = M := by
  have hg : M.getD 19 0 = m := by rw [List.getD_eq_getElem?_getD, h19]; rfl
  unfold docDec rowDec
  rw [hg, if_pos ⟨by omega, hm⟩]
  have hk : takeAll M (kinds m) 0 = _ := takeAll_append M (List.replicate m 4) headK 0
  rw [hk]
  cases hT : takeAll M headK 0 with
  | none => exact ⟨rfl, fun d h => by cases h⟩
  | some r =>
    obtain ⟨I, a⟩ := r
    obtain ⟨rfl, h20, _, i0, i1, i2, i3, i4, i5, rfl⟩ := headK_end hL hT
    have h5 := head_last hL hT
    rw [h19] at h5
    injection h5 with h5
    rw [hT, Option.bind_some] at hk
    simp only [Option.bind_some]
    unfold rowDec2
    rw [← h5]
    rw [takeAll_drop M 20 (by omega) hL, Nat.add_zero]
    cases hC : takeAll M (List.replicate m 4) 20 with
    | none => exact ⟨by simp, by simp⟩
    | some q =>
      obtain ⟨C, e⟩ := q
      simp only [hC] at hk
      have hk : takeAll M (kinds m) 0 = some (i0 :: i1 :: i2 :: i3 :: i4 :: i5 :: C, e) := hk
      have hrb := row_back hL hm hl hk h5.symm
      have he : e = 20 + 8 * m := by
        have hh := (takeAll_end hL (Nat.zero_le _) hk).1
        have hs : ((kinds m).map fun k => if k = 4 then 8 else wid k).sum = 20 + 8 * m := by
          have : m = 0 ∨ m = 1 ∨ m = 2 ∨ m = 3 ∨ m = 4 := by omega
          rcases this with rfl | rfl | rfl | rfl | rfl <;> decide
        rw [hs] at hh
        omega
      have he2 : 20 + (e - 20) = M.length := by omega
      simp only [Option.map_some, Option.bind_some]
      show docRow M (i0 :: i1 :: i2 :: i3 :: i4 :: i5 :: C) = _ ∧ _
      unfold docRow
      simp only
      by_cases hi : i0.n ≤ 1
      · rw [if_pos (⟨hi, hm⟩ : i0.n ≤ 1 ∧ m ≤ 4)]
        by_cases ho : okRow (rowOf i0 i1 i2 i3 i4 C) = true
        · rw [if_pos (⟨ho, hrb.2 hi⟩ : okRow (rowOf i0 i1 i2 i3 i4 C) = true ∧ rowBytes (rowOf i0 i1 i2 i3 i4 C) = M), if_pos (⟨he2, ho⟩ : 20 + (e - 20) = M.length ∧ okRow (rowOf i0 i1 i2 i3 i4 C) = true)]
          exact ⟨rfl, fun d hd => by injection hd with hd; rw [← hd]; exact hrb.2 hi⟩
        · rw [if_neg (fun h : okRow (rowOf i0 i1 i2 i3 i4 C) = true ∧ rowBytes (rowOf i0 i1 i2 i3 i4 C) = M => ho h.1), if_neg (fun h : 20 + (e - 20) = M.length ∧ okRow (rowOf i0 i1 i2 i3 i4 C) = true => ho h.2)]
          exact ⟨rfl, fun d h => by cases h⟩
      · rw [if_neg (fun h : okRow (rowOf i0 i1 i2 i3 i4 C) = true ∧ rowBytes (rowOf i0 i1 i2 i3 i4 C) = M => hi (hrb.1 h.2)), if_neg (fun h : i0.n ≤ 1 ∧ m ≤ 4 => hi h.1)]
        exact ⟨rfl, fun d h => by cases h⟩

theorem doc15_eq {L : List Nat} (hL : ∀ x ∈ L, x < 256) : doc15 L = decL L := by
  unfold doc15 decL
  by_cases h52 : L.length = 52
  · obtain ⟨m, h19⟩ : ∃ m, L[19]? = some m := ⟨_, List.getElem?_eq_getElem (by omega)⟩
    have hg : L.getD 19 0 = m := by rw [List.getD_eq_getElem?_getD, h19]; rfl
    have hla : lenAt L = 20 + 8 * m := by unfold lenAt; rw [h19]; rfl
    rw [hg, hla]
    by_cases hm : m ≤ 4
    · rw [if_pos ⟨h52, hm⟩, if_pos ⟨h52, by omega⟩]
      obtain ⟨M, hM⟩ : ∃ M, L.take (20 + 8 * m) = M := ⟨_, rfl⟩
      have hMl : M.length = 20 + 8 * m := by rw [← hM, List.length_take]; omega
      have hM19 : M[19]? = some m := by rw [← hM, List.getElem?_take, if_pos (by omega), h19]
      have hMb : ∀ x ∈ M, x < 256 := fun x hx => hL x (by rw [← hM] at hx; exact List.mem_of_mem_take hx)
      obtain ⟨h1, h2⟩ := rowdec_doc hMb hm hMl hM19
      rw [hM, h1]
      cases hr : rowDec M with
      | none => rfl
      | some d =>
        simp only [Option.bind_some]
        have hb := h2 d hr
        rw [hb]
        have hiff : padB M = L ↔ ∀ x ∈ L.drop (20 + 8 * m), x = 0 := by
          unfold padB
          rw [hMl]
          have hsp : L = M ++ L.drop (20 + 8 * m) := by rw [← hM]; exact (List.take_append_drop _ _).symm
          conv => lhs; rhs; rw [hsp]
          rw [List.append_right_inj]
          constructor
          · intro h x hx
            rw [← h, List.mem_replicate] at hx
            exact hx.2
          · intro h
            symm
            rw [List.eq_replicate_iff]
            exact ⟨by rw [List.length_drop, h52], h⟩
        by_cases hz : ∀ x ∈ L.drop (20 + 8 * m), x = 0
        · rw [if_pos hz, if_pos (hiff.2 hz)]
        · rw [if_neg hz, if_neg (fun h => hz (hiff.1 h))]
    · rw [if_neg (fun h => hm h.2), if_neg (fun h => hm (by have := h.2; omega))]
  · rw [if_neg (fun h => h52 h.1), if_neg (fun h => h52 h.1)]
end Go.Proofs.YtdbnlngkmfmnnaaGreatDoor

/- humusref15.Decode: the whole. -/
namespace Go.Proofs.YtdbnlngkmfmnnaaGreatDoor
open Go.RowKit

theorem docDec_nat {L : List Nat} {d : RowD} (hL : ∀ x ∈ L, x < 256) (h : docDec L = some d) : okRow d = true ∧ d.key < 18446744073709551616 ∧ ∃ x y z : Nat, d.wr = x ∧ d.rc = y ∧ d.rn = z := by
  unfold docDec at h
  by_cases h1 : 20 ≤ L.length ∧ L.getD 19 0 ≤ 4
  · rw [if_pos h1] at h
    cases ho : takeAll L (kinds (L.getD 19 0)) 0 with
    | none => rw [ho] at h; cases h
    | some r =>
      obtain ⟨I, a⟩ := r
      rw [ho, Option.bind_some] at h
      have hl := takeAll_len ho
      rw [kinds_len] at hl
      have hx := (takeAll_end hL (Nat.zero_le _) ho).2.2
      obtain ⟨i0, i1, i2, i3, i4, i5, C, rfl⟩ := six_of_len hl
      unfold docRow at h
      simp only at h
      by_cases h2 : okRow (rowOf i0 i1 i2 i3 i4 C) = true ∧ rowBytes (rowOf i0 i1 i2 i3 i4 C) = L
      · rw [if_pos h2] at h
        injection h with h
        subst h
        exact ⟨h2.1, hx i1 (by simp), i2.n, i3.n, i4.n, rfl, rfl, rfl⟩
      · rw [if_neg h2] at h; cases h
  · rw [if_neg h1] at h; cases h

theorem dec15_any (A : Option Addr) (c : Nat) (L : List Nat) (w : World) (hB : BC w w.heap.size A L) (hn : L.length ≤ 1000) (hc : L.length ≤ c) (hc2 : c ≤ 9223372036854775807) :
    Calls Tryz.prog 86 #[.slice A L.length c] w (DOut w (decL L)) := by
  rw [← doc15_eq hB.1]
  unfold doc15
  by_cases h52 : L.length = 52
  · obtain ⟨b, off, rfl, _⟩ := hB.2 (by omega)
    obtain ⟨m, h19⟩ : ∃ m, L[19]? = some m := ⟨_, List.getElem?_eq_getElem (by omega)⟩
    have hg : L.getD 19 0 = m := by rw [List.getD_eq_getElem?_getD, h19]; rfl
    rw [hg]
    by_cases h4 : m ≤ 4
    · rw [if_pos ⟨h52, h4⟩]
      cases ho : docDec (L.take (20 + 8 * m)) with
      | none => exact dec15_none b off c L w hB h52 (by omega) hc2 m h19 h4 ho
      | some d =>
        obtain ⟨hok, hk, x, y, z, hx, hy, hz⟩ := docDec_nat (fun x hx => hB.1 x (List.mem_of_mem_take hx)) ho
        obtain ⟨key, dead, cols, xw, yw, zw⟩ := d
        simp only at hx hy hz hk
        subst hx hy hz
        obtain ⟨g1, g2, g3, g4, g5⟩ := (okRow_iff _).1 hok
        unfold tailOk at g5
        simp only at g3 g5
        exact dec15_some b off c L w hB h52 (by omega) hc2 m h19 h4 key dead cols x y z ho g3 hk (by omega) (by omega) (by omega)
    · rw [if_neg (fun h => h4 h.2)]
      exact dec15_wide b off c L w hB h52 m h19 (by omega)
  · rw [if_neg (fun h => h52 h.1)]
    exact dec15_short A c L w (by unfold maxLen; omega) h52
end Go.Proofs.YtdbnlngkmfmnnaaGreatDoor

/- heap.Rows: the closure that gathers, and the one that compares. -/
namespace Go.Proofs.YtdbnlngkmfmnnaaGreatDoor
open Go.RowKit

set_option maxHeartbeats 2000000 in
theorem rows1_any (pl pq r lo hi : Nat) (acc : List RowD) (d : RowD) (A : Option Addr) (c : Nat) (x y : Int) (w : World) (hlo : w.cell? ⟨pl, 0, none⟩ = some (.float .f64 lo)) (hhi : w.cell? ⟨pq, 0, none⟩ = some (.float .f64 hi)) (hg : Gath r acc w)
    (hf : ∀ v, w.heap[r]? = some (.cells #[v] 22 (0, 0)) → FX w v.ownBlock A d.cols) (hc : d.cols.length ≤ c) (hA : A = none → c = 0) (bk : d.key < 18446744073709551616) (bl : lo < 18446744073709551616) (bh : hi < 18446744073709551616) (hn : acc.length ≤ 100000) :
    Calls Tryz.prog 47 #[.agg (d.cells A c), .agg #[.int .i64 x, .int .i64 y], .pointer (some ⟨pl, 0, none⟩), .pointer (some ⟨pq, 0, none⟩), .pointer (some ⟨r, 0, none⟩)] w fun e w' => e = .returned (.bool true) ∧ Gath r (if betw d.key lo hi = true then acc ++ [d] else acc) w' ∧ Below r w w' := by
  have cb := betw_any d.key lo hi bk bl bh
  obtain ⟨v, hv, hown⟩ := hg.is
  have hfx := hf v hv
  have hr : r < w.heap.size := (Array.getElem?_eq_some_iff.1 hv).1
  obtain ⟨Av, cv, rfl, _, _, hown3⟩ := hown.form
  obtain ⟨n, hlen⟩ : ∃ n, acc.length = n := ⟨_, rfl⟩
  rw [hlen] at hn hv hfx hown hown3
  obtain ⟨b, hb⟩ : ∃ b, betw d.key lo hi = b := ⟨_, rfl⟩
  rw [hb] at cb ⊢
  have LO := cell_on (cell_on hlo (.cells (d.cells A c) 30)) (.cells #[.int .i64 x, .int .i64 y] 33)
  have HI := cell_on (cell_on hhi (.cells (d.cells A c) 30)) (.cells #[.int .i64 x, .int .i64 y] 33)
  have hbw : Below w.heap.size w ((w.alloc (.cells (d.cells A c) 30)).alloc (.cells #[.int .i64 x, .int .i64 y] 33)) := ((Below.refl _ _).alloc (Nat.le_refl _) _).alloc (by simp) _
  have hv2 := (hbw.block r hr).trans hv
  have ro := cell_of_row _ r 0 _ _ _ hv2
  have hown2 := hown.below hbw
  have hfx2 := hfx.below hbw
  have hnb : ∀ g, Value.ownBlock (.slice Av n cv) = some g → r + 1 ≤ g := fun g hg => (hown3 g hg).1
  simp only [List.getElem?_toArray, List.getElem?_cons_zero] at ro
  cases b with
  | false =>
    unfold RowD.cells at *
    have HG := Lib.hid hg
    have HBW := Lib.hid hbw
    have HR := Lib.hid hr
    clear hown hown2 hown3 hfx hfx2 hf hv hv2 hg hbw hnb ro hr
    go_enter Tryz.func47, Tryz.ntmps47
    go_wp2_with (go_at_call 48; (with_reducible refine (cb _).mono ?_); rintro e w' ⟨rfl, rfl⟩)
    go_ret
    exact ⟨rfl, HG.out.on HBW.out, HBW.out.mono (Nat.le_of_lt HR.out)⟩
  | true =>
    have ro2 := cell_on ro (.cells (d.cells A c) 30)
    have HV2 := Lib.hid hv2
    have HO2 := Lib.hid hown2
    have HF2 := Lib.hid hfx2
    have HBW := Lib.hid hbw
    have HR := Lib.hid hr
    have HNB := Lib.hid hnb
    have HL := Lib.hid hlen
    have HC := Lib.hid hc
    have HA := Lib.hid hA
    obtain ⟨key, dead, cols, x3, z3, t3⟩ := d
    simp only [RowD.cells] at *
    clear hown hown2 hown3 hfx hfx2 hf hv hv2 hg hbw hnb hr hlen hc hA hlo hhi hb
    go_enter Tryz.func47, Tryz.ntmps47
    go_wp2_with (first
      | (go_at_call 48; (with_reducible refine (cb _).mono ?_); rintro e w' ⟨rfl, rfl⟩)
      | (at_builtin; go_loud (refine wpList_put_row rfl (.tmp 13) (.tmp 15) rfl HO2.out HL.out (Nat.le_trans HR.out HBW.out.size) rfl (by simp [Act.eval, Act.put]) ⟨key, dead, cols, x3, z3, t3⟩ A c HF2.out HC.out HA.out hn ?_); rintro g cap w5 ho5 hg5; have k5 := (hg5.block r (Nat.lt_of_lt_of_le HR.out HBW.out.size) (fun e => Nat.lt_irrefl r (HNB.out r e.symm))).trans HV2.out; have ro5 := cell_of_row _ r 0 _ _ _ k5; have fr5 := frozen_of_row _ r 0 _ _ k5; simp only [List.getElem?_toArray, List.getElem?_cons_zero] at ro5; clear k5; have HO5 := Lib.hid ho5; have HG5 := Lib.hid hg5; clear ho5 hg5))
    go_ret
    refine ⟨rfl, Gath.put HV2.out HO2.out HO5.out HG5.out, ?_⟩
    have h1 : Below r w w5 := (HBW.out.mono (Nat.le_of_lt HR.out)).grown HG5.out (Nat.le_of_lt (Nat.lt_of_lt_of_le HR.out HBW.out.size)) fun g hg => Nat.le_of_lt (HNB.out g hg)
    exact h1.setCell (p := ⟨r, 0, none⟩) (Nat.le_refl _) _

set_option maxHeartbeats 1000000 in
theorem rows2_any (d1 d2 : RowD) (A1 A2 : Option Addr) (c1 c2 : Nat) (w : World) (k1 : d1.key < 18446744073709551616) (k2 : d2.key < 18446744073709551616) :
    Calls Tryz.prog 50 #[.agg (d1.cells A1 c1), .agg (d2.cells A2 c2)] w fun e w' => e = .returned (.int .i64 (cmpZ d1.rank d2.rank)) ∧ w' = (w.alloc (.cells (d1.cells A1 c1) 30)).alloc (.cells (d2.cells A2 c2) 30) := by
  have cc := compare_any d1.key d2.key k1 k2
  unfold RowD.rank
  unfold RowD.cells
  clear k1 k2
  go_enter Tryz.func50, Tryz.ntmps50
  go_wp2_with (go_at_call 51; (with_reducible refine (cc _).mono ?_); rintro e w' ⟨rfl, rfl⟩)
  go_ret
  exact ⟨rfl, rfl⟩
end Go.Proofs.YtdbnlngkmfmnnaaGreatDoor

/- heap.all, with the closure of Rows. -/
namespace Go.Proofs.YtdbnlngkmfmnnaaGreatDoor
open Go.RowKit

theorem gath_fx {r : Nat} {acc : List RowD} {wr W w2 W2 : World} {A : Option Addr} {l : List Nat} (hg : Gath r acc wr) (hb : Below wr.heap.size wr W2) (hf : FN W w2 A l) (hW : wr.heap.size ≤ W.heap.size) (hb2 : Below w2.heap.size w2 W2) : ∀ v, W2.heap[r]? = some (.cells #[v] 22 (0, 0)) → FX W2 v.ownBlock A l := by
  intro v hv
  obtain ⟨v0, h1, h2⟩ := hg.is
  have h3 := (hb.block r (Array.getElem?_eq_some_iff.1 h1).1).trans h1
  rw [hv] at h3
  injection h3 with h3
  injection h3 with h3
  have h4 : v = v0 := by simpa using h3
  subst h4
  obtain ⟨_, _, _, _, _, h5⟩ := h2.form
  exact (hf.on hb2).to_FX fun g hg => Nat.lt_of_lt_of_le (h5 g hg).2 hW
theorem Gath.lt {r : Nat} {acc : List RowD} {W : World} (h : Gath r acc W) : r < W.heap.size := by
  obtain ⟨v, h1, _⟩ := h.is
  exact (Array.getElem?_eq_some_iff.1 h1).1

theorem get_yes {A : Option Addr} {c i k n : Nat} {l : List LeafD} {w : World} (h : LC w w.heap.size A l) {d : LeafD} (hd : l[i]? = some d) {s : List Nat} (hs : d.slots[k]? = some s) (hn : s.length ≤ 1000) (hl : l.length = n) (m : n ≤ maxLen) {r : RowD} (hr : decL s = some r) :
    Calls Tryz.prog 53 #[.slice A n c, .agg #[.int .i64 (i : Nat), .int .i64 (k : Nat)]] w fun e w' => ∃ A' c', e = .returned (.tuple #[.agg #[.float .f64 r.key, .bool r.dead, .slice A' r.cols.length c', .int .i64 r.wr, .int .i64 r.rc, .int .i64 r.rn], .bool true]) ∧ Below w.heap.size w w' ∧ Hid (FN w w' A' r.cols ∧ r.cols.length ≤ c' ∧ (A' = none → c' = 0) ∧ r.key < 18446744073709551616) := by
  subst hl
  refine (get_in A c i k l w h d hd s hs hn m).mono fun e w' ⟨h1, h2⟩ => ?_
  have hg : getL l i k = some r := by
    unfold getL slotAt
    rw [if_neg (by omega)]
    simp [hd, hs, hr]
  rw [hg] at h2
  obtain ⟨A', c', rfl, h3⟩ := h2
  exact ⟨A', c', rfl, h1, h3⟩
theorem get_no {A : Option Addr} {c i k n : Nat} {l : List LeafD} {w : World} (h : LC w w.heap.size A l) {d : LeafD} (hd : l[i]? = some d) {s : List Nat} (hs : d.slots[k]? = some s) (hn : s.length ≤ 1000) (hl : l.length = n) (m : n ≤ maxLen) (hr : decL s = none) :
    Calls Tryz.prog 53 #[.slice A n c, .agg #[.int .i64 (i : Nat), .int .i64 (k : Nat)]] w fun e w' => ∃ key dead A' n' c' x z t, e = .returned (.tuple #[.agg #[.float .f64 key, .bool dead, .slice A' n' c', .int .i64 x, .int .i64 z, .int .i64 t], .bool false]) ∧ Below w.heap.size w w' := by
  subst hl
  refine (get_in A c i k l w h d hd s hs hn m).mono fun e w' ⟨h1, h2⟩ => ?_
  have hg : getL l i k = none := by
    unfold getL slotAt
    rw [if_neg (by omega)]
    simp [hd, hs, hr]
  rw [hg] at h2
  obtain ⟨d', A', c', rfl, h3⟩ := h2
  exact ⟨_, _, _, _, _, _, _, _, rfl, h1⟩

/-- Those gathered ahead. -/
def gath (p : RowD → Bool) (l : List LeafD) (j : Nat) (ss : List (List Nat)) (k : Nat) : List RowD := (rowsL (l.take j)).filter p ++ (rowsS (ss.take k)).filter p
theorem gath_zero (p : RowD → Bool) (l : List LeafD) (j : Nat) (ss : List (List Nat)) : gath p l j ss 0 = (rowsL (l.take j)).filter p := by unfold gath rowsS; simp
theorem gath_all {p : RowD → Bool} {l : List LeafD} {j : Nat} {d : LeafD} (hd : l[j]? = some d) : gath p l j d.slots d.slots.length = (rowsL (l.take (j + 1))).filter p := by
  unfold gath
  rw [List.take_length, take_at' hd, rowsL_snoc, List.filter_append]
theorem gath_same {p : RowD → Bool} {l : List LeafD} {j : Nat} {ss : List (List Nat)} {k : Nat} {s : List Nat} (hs : ss[k]? = some s) (hd : decL s = none) : gath p l j ss (k + 1) = gath p l j ss k := by
  unfold gath; rw [take_at' hs, rowsS_snoc, hd]; simp
theorem gath_more {p : RowD → Bool} {l : List LeafD} {j : Nat} {ss : List (List Nat)} {k : Nat} {s : List Nat} {r : RowD} (hs : ss[k]? = some s) (hd : decL s = some r) : gath p l j ss (k + 1) = if p r = true then gath p l j ss k ++ [r] else gath p l j ss k := by
  unfold gath; rw [take_at' hs, rowsS_snoc, hd]
  by_cases h : p r = true
  · simp [h]
  · simp [h]
theorem gath_le {p : RowD → Bool} {l : List LeafD} {j : Nat} {ss : List (List Nat)} {k : Nat} (h : ∀ d ∈ l, d.slots.length ≤ 64) (hl : l.length ≤ 62) (hs : ss.length ≤ 64) : (gath p l j ss k).length ≤ 100000 := by
  unfold gath
  rw [List.length_append]
  have h0 : (rowsL (l.take j)).length ≤ 64 * (l.take j).length := rowsL_le fun d hd => h d (List.mem_of_mem_take hd)
  have h1 := List.length_filter_le p (rowsL (l.take j))
  have h2 := List.length_filter_le p (rowsS (ss.take k))
  have h3 : (rowsS (ss.take k)).length ≤ (ss.take k).length := List.length_filterMap_le _ _
  rw [List.length_take] at h0 h3
  omega

theorem two_cells {W : World} {B : Nat} {a0 a1 : Value} {t : TypeId} (h : W.heap[B]? = some (.cells #[a0, a1] t (0, 0))) : (W.cell? ⟨B, 0, none⟩ = some a0 ∧ W.cell? ⟨B, 1, none⟩ = some a1) ∧ W.frozen? ⟨B, 0, none⟩ = false ∧ W.frozen? ⟨B, 1, none⟩ = false := by
  refine ⟨⟨?_, ?_⟩, frozen_of_row W B 0 _ _ h, frozen_of_row W B 1 _ _ h⟩
  all_goals
    rw [cell_of_row W B _ _ _ _ h]; rfl
theorem rows_c {w wr w2 : World} {o : Obj} {pl pq r lo hi c : Nat} {x y : Int} {acc : List RowD} {d : RowD} {A : Option Addr} (hg : Gath r acc wr) (hb0 : Below r w wr) (hb : Below wr.heap.size wr (wr.alloc o)) (hb3 : Below (wr.alloc o).heap.size (wr.alloc o) w2) (ht : FN (wr.alloc o) w2 A d.cols ∧ d.cols.length ≤ c ∧ (A = none → c = 0) ∧ d.key < 18446744073709551616)
    (hlo : w.cell? ⟨pl, 0, none⟩ = some (.float .f64 lo)) (hhi : w.cell? ⟨pq, 0, none⟩ = some (.float .f64 hi)) (hpl : pl < r) (hpq : pq < r) (hn : acc.length ≤ 100000) (bl : lo < 18446744073709551616) (bh : hi < 18446744073709551616) :
    Calls Tryz.prog 47 #[.agg #[.float .f64 d.key, .bool d.dead, .slice A d.cols.length c, .int .i64 d.wr, .int .i64 d.rc, .int .i64 d.rn], .agg #[.int .i64 x, .int .i64 y], .pointer (some ⟨pl, 0, none⟩), .pointer (some ⟨pq, 0, none⟩), .pointer (some ⟨r, 0, none⟩)] (w2.alloc (.cells #[.float .f64 d.key, .bool d.dead, .slice A d.cols.length c, .int .i64 d.wr, .int .i64 d.rc, .int .i64 d.rn] 30))
      fun e w' => e = .returned (.bool true) ∧ Gath r (if betw d.key lo hi = true then acc ++ [d] else acc) w' ∧ Below r w w' := by
  have hbz : Below wr.heap.size wr (w2.alloc (.cells #[.float .f64 d.key, .bool d.dead, .slice A d.cols.length c, .int .i64 d.wr, .int .i64 d.rc, .int .i64 d.rn] 30)) := (hb.trans (hb3.mono hb.size)).alloc (Nat.le_trans hb.size hb3.size) _
  have hr := hg.lt
  have hbr := hb0.trans (hbz.mono (Nat.le_of_lt hr))
  refine (rows1_any pl pq r lo hi acc d A c x y _ ((hbr.cell (p := ⟨pl, 0, none⟩) hpl).trans hlo) ((hbr.cell (p := ⟨pq, 0, none⟩) hpq).trans hhi) (hg.on hbz) (gath_fx hg hbz ht.1 hb.size ((Below.refl _ _).alloc (Nat.le_refl _) _)) ht.2.1 ht.2.2.1 ht.2.2.2 bl bh hn).mono fun e w' h => ⟨h.1, h.2.1, hbr.trans h.2.2⟩

set_option maxHeartbeats 4000000 in
set_option maxRecDepth 100000 in
theorem allrows_any (A : Option Addr) (c pl pq r lo hi B : Nat) (l : List LeafD) (w : World) (h : LC w B A l) (hBr : B ≤ r) (hpl : pl < r) (hpq : pq < r) (hlo : w.cell? ⟨pl, 0, none⟩ = some (.float .f64 lo)) (hhi : w.cell? ⟨pq, 0, none⟩ = some (.float .f64 hi))
    (hg : Gath r [] w) (hl : l.length ≤ 62) (hs : ∀ d ∈ l, d.slots.length ≤ 64 ∧ ∀ s ∈ d.slots, s.length ≤ 255) (bl : lo < 18446744073709551616) (bh : hi < 18446744073709551616) :
    Calls Tryz.prog 46 #[.slice A l.length c, .func (.func 47) #[] #[.pointer (some ⟨pl, 0, none⟩), .pointer (some ⟨pq, 0, none⟩), .pointer (some ⟨r, 0, none⟩)]] w fun e w' => e = .returned (.tuple #[]) ∧ Gath r ((rowsL l).filter fun d => betw d.key lo hi) w' ∧ Below r w w' := by
  obtain ⟨n, hn⟩ : ∃ n, l.length = n := ⟨_, rfl⟩
  rw [hn] at hl ⊢
  obtain ⟨p, hp⟩ : ∃ p, p = fun d : RowD => betw d.key lo hi := ⟨_, rfl⟩
  rw [← hp]
  have H := Lib.hid h
  have N := Lib.hid hn
  have HS := Lib.hid hs
  have HG := Lib.hid hg
  have HLO := Lib.hid hlo
  have HHI := Lib.hid hhi
  have HP := Lib.hid hp
  have BL := Lib.hid bl
  have BH := Lib.hid bh
  clear h hn hs hg hlo hhi hp bl bh
  have hsf := run_store_f64
  go_enter Tryz.func46, Tryz.ntmps46
  go_wp2
  go_loopw [12] (fun i wr => ∃ j : Nat, j ≤ n ∧ i = .int .i64 j ∧ Gath r ((rowsL (l.take j)).filter p) wr ∧ Below r w wr) (fun i _ => n - (intOf i).toNat)
  case atStart => exact ⟨0, Nat.zero_le _, rfl, by simpa [rowsL] using HG.out, Below.refl _ _⟩
  case round =>
    obtain ⟨j, hj, rfl, hg, hb⟩ := hrel
    have HG1 := Lib.hid hg
    have HB := Lib.hid hb
    clear hg hb
    by_cases hlt : j < n
    · obtain ⟨d, hd⟩ := get_at' N hlt
      obtain ⟨b, off, A1, k1, A2, k2, e, hbB, hc0, hc1, hz, hsc, m1, m2, q1, q2, _, _⟩ := (H.out.below (HB.out.mono hBr)).at_ hd
      subst e
      obtain ⟨n1, hn1⟩ : ∃ n, d.itl.length = n := ⟨_, rfl⟩
      obtain ⟨n2, hn2⟩ : ∃ n, d.slots.length = n := ⟨_, rfl⟩
      rw [hn1] at hc0
      rw [hn2] at hc1 m2
      unfold maxLen at m2
      have hd64 := (HS.out d (List.mem_of_getElem? hd)).1
      have hbx : Below wr.heap.size wr (wr.alloc (.cells #[.slice A1 n1 k1, .slice A2 n2 k2] 66)) := (Below.refl _ _).alloc (Nat.le_refl _) _
      have hg2 := HG1.out.on hbx
      have hb2 := HB.out.trans (hbx.mono (Nat.le_of_lt HG1.out.lt))
      have HD := Lib.hid hd
      have N2 := Lib.hid hn2
      have HD64 := Lib.hid hd64
      have HG2 := Lib.hid hg2
      have HB2 := Lib.hid hb2
      clear hd hn1 hn2 hd64 hg2 hb2 hbx hz hsc m1 q1 q2
      go_wp2
      go_loopw [20] (fun i wr => ∃ k : Nat, k ≤ n2 ∧ i = .int .i64 k ∧ Gath r (gath p l j d.slots k) wr ∧ Below r w wr) (fun i _ => n2 - (intOf i).toNat)
      case atStart => exact ⟨0, Nat.zero_le _, rfl, by rw [gath_zero]; exact HG2.out, HB2.out⟩
      case round =>
        obtain ⟨k, hk, rfl, hg, hb⟩ := hrel
        have HG3 := Lib.hid hg
        have HB3 := Lib.hid hb
        clear hg hb
        by_cases hlt2 : k < n2
        · obtain ⟨s, hs⟩ := get_at' N2 hlt2
          have hs255 := (HS.out d (List.mem_of_getElem? HD.out)).2 s (List.mem_of_getElem? hs)
          have hbx : Below wr.heap.size wr (wr.alloc (.cells #[.int .i64 (j : Nat), .int .i64 (k : Nat)] 33)) := (Below.refl _ _).alloc (Nat.le_refl _) _
          have hlc : LC (wr.alloc (.cells #[.int .i64 (j : Nat), .int .i64 (k : Nat)] 33)) (wr.alloc (.cells #[.int .i64 (j : Nat), .int .i64 (k : Nat)] 33)).heap.size (some ⟨b, off, none⟩) l := ((H.out.below (HB3.out.mono hBr)).below (hbx.mono (Nat.le_trans hBr (Nat.le_of_lt HG3.out.lt)))).more (Nat.le_trans (Nat.le_trans hBr (Nat.le_of_lt HG3.out.lt)) hbx.size)
          have hkb := heap_alloc_new wr (.cells #[.int .i64 (j : Nat), .int .i64 (k : Nat)] 33)
          have hklt : wr.heap.size < (wr.alloc (.cells #[.int .i64 (j : Nat), .int .i64 (k : Nat)] 33)).heap.size := by simp
          have HS1 := Lib.hid hs
          cases hdec : decL s with
          | none =>
            have DC := Lib.hid (get_no (c := c) hlc HD.out hs (by omega) N.out (by unfold maxLen; omega) hdec)
            have HE := Lib.hid (gath_same (p := p) (l := l) (j := j) hs hdec)
            have HBX := Lib.hid hbx
            clear hs hdec hlc hbx hkb hklt
            go_wp2_with (go_at_call 53; (with_reducible refine DC.out.mono ?_); rintro e w2 ⟨key, dead, A3, n3, c3, x3, z3, t3, rfl, hb3⟩; have HB4 := Lib.hid hb3; clear hb3)
            have hbz : Below wr.heap.size wr (w2.alloc (.cells #[.float .f64 key, .bool dead, .slice A3 n3 c3, .int .i64 x3, .int .i64 z3, .int .i64 t3] 30)) := (HBX.out.trans (HB4.out.mono HBX.out.size)).alloc (Nat.le_trans HBX.out.size HB4.out.size) _
            exact ⟨⟨k + 1, by omega, by go_num, by rw [HE.out]; exact HG3.out.on hbz, HB3.out.trans (hbz.mono (Nat.le_of_lt HG3.out.lt))⟩, by simp [intOf]; omega⟩
          | some x =>
            have DC := Lib.hid (get_yes (c := c) hlc HD.out hs (by omega) N.out (by unfold maxLen; omega) hdec)
            have HE := Lib.hid (gath_more (p := p) (l := l) (j := j) hs hdec)
            have HLE := Lib.hid (gath_le (p := p) (l := l) (j := j) (ss := d.slots) (k := k) (fun d hd => (HS.out d hd).1) (by rw [N.out]; exact hl) HD64.out)
            have HBX := Lib.hid hbx
            have HKB := Lib.hid hkb
            have HKL := Lib.hid hklt
            clear hs hdec hlc hbx hkb hklt
            go_wp2_with (first
              | (go_at_call 53; (with_reducible refine DC.out.mono ?_); rintro e w2 ⟨A3, c3, rfl, hb3, htl⟩; have r1 := rows_c (c := c3) (x := j) (y := k) HG3.out HB3.out HBX.out hb3 htl.out HLO.out HHI.out hpl hpq HLE.out BL.out BH.out; obtain ⟨⟨u0, u1⟩, _⟩ := two_cells ((hb3.block wr.heap.size HKL.out).trans HKB.out); have u2 := cell_on u0 (.cells #[.float .f64 x.key, .bool x.dead, .slice A3 x.cols.length c3, .int .i64 x.wr, .int .i64 x.rc, .int .i64 x.rn] 30); have u3 := cell_on u1 (.cells #[.float .f64 x.key, .bool x.dead, .slice A3 x.cols.length c3, .int .i64 x.wr, .int .i64 x.rc, .int .i64 x.rn] 30); have R1 := Lib.hid r1; clear hb3 htl r1 u0 u1)
              | (go_at_call 47; (with_reducible refine R1.out.mono ?_); rintro e w3 ⟨rfl, hg5, hb5⟩; have HG5 := Lib.hid hg5; have HB5 := Lib.hid hb5; clear hg5 hb5))
            exact ⟨⟨k + 1, by omega, by go_num, by rw [HE.out, show p x = betw x.key lo hi by rw [HP.out]]; exact HG5.out, HB5.out⟩, by simp [intOf]; omega⟩
        · have hkn : k = n2 := by omega
          subst hkn
          have HE := Lib.hid (gath_all (p := p) HD.out)
          rw [N2.out] at HE
          go_wp2
          exact ⟨⟨j + 1, by omega, by go_num, by rw [← HE.out]; exact HG3.out, HB3.out⟩, by simp [intOf]; omega⟩
    · have hjn : j = n := by omega
      subst hjn
      have HE := Lib.hid (show (rowsL l).filter p = (rowsL (l.take j)).filter p by rw [List.take_of_length_le (by rw [N.out]; omega)])
      go_wp2
      go_end0
      exact ⟨rfl, by rw [HE.out]; exact HG1.out, HB.out⟩
end Go.Proofs.YtdbnlngkmfmnnaaGreatDoor

/- slices.SortFunc, laid for rows. -/
namespace Go.Proofs.YtdbnlngkmfmnnaaGreatDoor
open Go.Shelf Go.RowKit Go.Sort

def rowSort_ren : Go.Shelf.Ren := ⟨fun | 6 => 49 | 15 => 88 | 14 => 87 | 28 => 114 | 29 => 115 | 20 => 106 | 21 => 107 | 22 => 108 | 23 => 109 | 24 => 110 | 25 => 111 | 26 => 112 | 27 => 113 | 46 => 134 | 47 => 135 | 48 => 136 | 49 => 137 | 50 => 138 | 57 => 151 | n => n, fun | 22 => 22 | 24 => 30 | 25 => 87 | 3 => 3 | 39 => 110 | 0 => 0 | 53 => 136 | 55 => 67 | 4 => 4 | 46 => 129 | 45 => 128 | 50 => 133 | 5 => 5 | 9 => 9 | 66 => 155 | 70 => 159 | 76 => 178 | 77 => 179 | n => n, fun | n => n⟩
theorem rowSort : SlLaysF0.n6 Tryz.prog rowSort_ren where
  mixed := by kernel_rfl
  f6 := ⟨Tryz.f49.name, by decide, Tryz.func49.trans (congrArg some (by kernel_rfl))⟩
  f14 := ⟨Tryz.f87.name, by decide, Tryz.func87.trans (congrArg some (by kernel_rfl))⟩
  f15 := Tryz.func88.trans (congrArg some (by kernel_rfl))
  f20 := ⟨Tryz.f106.name, by decide, Tryz.func106.trans (congrArg some (by kernel_rfl))⟩
  f21 := ⟨Tryz.f107.name, by decide, Tryz.func107.trans (congrArg some (by kernel_rfl))⟩
  f22 := ⟨Tryz.f108.name, by decide, Tryz.func108.trans (congrArg some (by kernel_rfl))⟩
  f23 := ⟨Tryz.f109.name, by decide, Tryz.func109.trans (congrArg some (by kernel_rfl))⟩
  f24 := ⟨Tryz.f110.name, by decide, Tryz.func110.trans (congrArg some (by kernel_rfl))⟩
  f25 := ⟨Tryz.f111.name, by decide, Tryz.func111.trans (congrArg some (by kernel_rfl))⟩
  f26 := ⟨Tryz.f112.name, by decide, Tryz.func112.trans (congrArg some (by kernel_rfl))⟩
  f27 := ⟨Tryz.f113.name, by decide, Tryz.func113.trans (congrArg some (by kernel_rfl))⟩
  f28 := Tryz.func114.trans (congrArg some (by kernel_rfl))
  f29 := Tryz.func115.trans (congrArg some (by kernel_rfl))
  f46 := ⟨Tryz.f134.name, by decide, Tryz.func134.trans (congrArg some (by kernel_rfl))⟩
  f47 := Tryz.func135.trans (congrArg some (by kernel_rfl))
  f48 := Tryz.func136.trans (congrArg some (by kernel_rfl))
  f49 := ⟨Tryz.f137.name, by decide, Tryz.func137.trans (congrArg some (by kernel_rfl))⟩
  f50 := ⟨Tryz.f138.name, by decide, Tryz.func138.trans (congrArg some (by kernel_rfl))⟩
  f57 := ⟨Tryz.f151.name, by decide, Tryz.func151.trans (congrArg some (by kernel_rfl))⟩
  t0 := Tryz.underlying0
  a0 := Tryz.isAgg0
  z0 := Tryz.sizeOf0
  v0 := Tryz.zeroValue0
  t3 := Tryz.underlying3
  a3 := Tryz.isAgg3
  z3 := Tryz.sizeOf3
  v3 := Tryz.zeroValue3
  t4 := Tryz.underlying4
  a4 := Tryz.isAgg4
  z4 := Tryz.sizeOf4
  v4 := Tryz.zeroValue4
  t5 := Tryz.underlying5
  a5 := Tryz.isAgg5
  z5 := Tryz.sizeOf5
  v5 := Tryz.zeroValue5
  t9 := Tryz.underlying9
  a9 := Tryz.isAgg9
  z9 := Tryz.sizeOf9
  v9 := Tryz.zeroValue9
  t22 := Tryz.underlying22
  a22 := Tryz.isAgg22
  z22 := Tryz.sizeOf22
  v22 := Tryz.zeroValue22
  t25 := Tryz.underlying87
  a25 := Tryz.isAgg87
  z25 := Tryz.sizeOf87
  v25 := Tryz.zeroValue87
  t39 := Tryz.underlying110
  a39 := Tryz.isAgg110
  z39 := Tryz.sizeOf110
  v39 := Tryz.zeroValue110
  t45 := Tryz.underlying128
  a45 := Tryz.isAgg128
  z45 := Tryz.sizeOf128
  v45 := Tryz.zeroValue128
  t46 := Tryz.underlying129
  a46 := Tryz.isAgg129
  z46 := Tryz.sizeOf129
  v46 := Tryz.zeroValue129
  t50 := Tryz.underlying133
  a50 := Tryz.isAgg133
  z50 := Tryz.sizeOf133
  v50 := Tryz.zeroValue133
  t53 := Tryz.underlying136
  a53 := Tryz.isAgg136
  z53 := Tryz.sizeOf136
  v53 := Tryz.zeroValue136
  t55 := Tryz.underlying67
  a55 := Tryz.isAgg67
  z55 := Tryz.sizeOf67
  v55 := Tryz.zeroValue67
  t66 := Tryz.underlying155
  a66 := Tryz.isAgg155
  z66 := Tryz.sizeOf155
  v66 := Tryz.zeroValue155
  t70 := Tryz.underlying159
  a70 := Tryz.isAgg159
  z70 := Tryz.sizeOf159
  v70 := Tryz.zeroValue159
  t76 := Tryz.underlying178
  a76 := Tryz.isAgg178
  z76 := Tryz.sizeOf178
  v76 := Tryz.zeroValue178
  t77 := Tryz.underlying179
  a77 := Tryz.isAgg179
  z77 := Tryz.sizeOf179
  v77 := Tryz.zeroValue179

/-- A row where it stands. -/
structure RowE where
  d : RowD
  A : Option Addr
  c : Nat
  hk : d.key < 18446744073709551616
instance : Inhabited RowE := ⟨⟨zeroD, none, 0, by decide⟩⟩
def encE (x : RowE) : List Value := (x.d.cells x.A x.c).toList
def cfE (x y : RowE) : Int := cmpZ x.d.rank y.d.rank
theorem encE_len (x : RowE) : (encE x).length = 6 := rfl
theorem encE_one (x : RowE) : ∀ v ∈ encE x, v.oneCell' = true := by
  intro v hv
  simp only [encE, RowD.cells, List.mem_cons, List.not_mem_nil, or_false] at hv
  rcases hv with rfl | rfl | rfl | rfl | rfl | rfl <;> rfl
theorem ltE (x y : RowE) : ltOf cfE x y = decide (x.d.rank < y.d.rank) := by unfold ltOf cfE; exact cmpZ_lt _ _
theorem swoE : SWO (ltOf cfE) where
  irrefl x := by rw [ltE]; simp
  trans x y z h1 h2 := by rw [ltE] at *; simp at *; omega
  ntrans x y z h1 h2 := by rw [ltE] at *; simp at *; omega
theorem closureE (x y : RowE) (W : World) : Calls Tryz.prog 50 #[.agg (encE x).toArray, .agg (encE y).toArray] W fun e w' => e = .returned (.int .i64 (cfE x y)) ∧ ∃ q os', w' = grow (W.drewN q) os' :=
  by
  refine (rows2_any x.d y.d x.A y.A x.c y.c W x.hk y.hk).mono ?_
  rintro e w' ⟨rfl, rfl⟩
  exact ⟨rfl, 0, _, by rw [alloc_eq_grow, alloc_eq_grow, grow_grow]; rfl⟩
theorem laysE (blk off size : Nat) (w : World) : CmpLays Tryz.prog 50 #[] encE 6 cfE blk off size w := fun _ _ _ _ x y => closureE x y _
theorem agg30 (w : World) : (isAgg 30).run Tryz.prog w = .ok true w := Tryz.isAgg30 w
theorem size30 (w : World) : (Go.sizeOf 30).run Tryz.prog w = .ok 6 w := Tryz.sizeOf30 w

theorem sort_any (g cap : Nat) (d : Array RowE) (w : World) (hH : HoldsK encE 6 w g 0 d) (hg : g < w.heap.size) (hs : d.size < 4611686018427387904) :
    Calls Tryz.prog 49 #[.slice (some ⟨g, 0, none⟩) d.size cap, .func (.func 50) #[] #[]] w fun e w' => e = .returned (.tuple #[]) ∧ ∃ d' n os, PermIn 0 d.size d d' ∧ SortedIn (ltOf cfE) 0 d.size d' ∧ w' = sortWorldK encE 6 w g 0 n d' os :=
  AnyQ.slices_SortFunc rowSort 6 agg30 size30 encE encE_len encE_one cfE swoE 50 #[] g 0 cap d w (enters_of Tryz.func50 (by kernel_rfl) rfl) (laysE g 0 d.size w) hH hg hs
theorem sort_none (A : Option Addr) (cap : Nat) (w : World) : Calls Tryz.prog 49 #[.slice A 0 cap, .func (.func 50) #[] #[]] w fun e w' => e = .returned (.tuple #[]) ∧ w' = w := AnyF.slices_SortFunc_none rowSort A cap _ w
end Go.Proofs.YtdbnlngkmfmnnaaGreatDoor
