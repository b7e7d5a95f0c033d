/- Which rows may be: the document's answer is the program's. -/
import Derived.Test.YtdbnlngkmfmnnaaGreatDoorH05
import Derived.Test.YtdbnlngkmfmnnaaGreatDoorH04
import Derived.Test.YtdbnlngkmfmnnaaGreatDoorH08
import Derived.Test.YtdbnlngkmfmnnaaGreatDoorH06
namespace Go.Proofs.YtdbnlngkmfmnnaaGreatDoor
open Go.RowKit

def tailOk (x y z : Int) : Prop := 0 ≤ x ∧ x ≤ 2147483647 ∧ 0 ≤ y ∧ y < 65536 ∧ 0 ≤ z ∧ z ≤ 2147483647 ∧ (y ≠ 0 ∨ z ≤ 0)
theorem okRow_iff (d : RowD) : okRow d = true ↔ (∀ x ∈ d.cols, x = numValN x) ∧ d.key = numKeyN d.key ∧ d.cols.length ≤ 4 ∧ (d.dead = true → d.cols.length = 0) ∧ tailOk d.wr d.rc d.rn := by
  unfold okRow tailOk
  simp only [Bool.and_eq_true, Bool.not_eq_true', Bool.or_eq_false_iff, decide_eq_false_iff_not, Bool.and_eq_false_iff, List.any_eq_false, Bool.not_eq_true', decide_eq_false_iff_not, Decidable.not_not]
  constructor
  · rintro ⟨⟨⟨⟨⟨h1, h2⟩, h3⟩, h4⟩, h5⟩, h6⟩
    refine ⟨fun x hx => by simpa using h1 x hx, by simpa using h2, by omega, fun hd => ?_, by omega⟩
    rcases h4 with h4 | h4
    · rw [hd] at h4; cases h4
    · omega
  · rintro ⟨h1, h2, h3, h4, h5⟩
    refine ⟨⟨⟨⟨⟨fun x hx => by simpa using h1 x hx, by simpa using h2⟩, by omega⟩, ?_⟩, by omega⟩, by omega⟩
    cases hd : d.dead with
    | false => exact .inl rfl
    | true => right; have := h4 hd; omega

set_option maxHeartbeats 2000000 in
theorem rmay_any (a : RowD) (A : Option Addr) (c : Nat) (w : World) (h : FC w w.heap.size A a.cols) (m : a.cols.length ≤ maxLen) (hk : a.key < 18446744073709551616) :
    Calls Tryz.prog 9 #[.agg (a.cells A c)] w fun e w' => e = .returned (.bool (okRow a)) ∧ Below w.heap.size w w' := by
  have hoi := okRow_iff a
  obtain ⟨k, d, l, x, y, z⟩ := a
  simp only [RowD.cells] at *
  unfold maxLen at m
  obtain ⟨R, hR⟩ : ∃ R, okRow ⟨k, d, l, x, y, z⟩ = R := ⟨_, rfl⟩
  rw [hR] at hoi ⊢
  have hnk := numKeyN_eq k hk
  have NO : Hid (¬ ((∀ v ∈ l, v = numValN v) ∧ k = numKeyN k ∧ l.length ≤ 4 ∧ (d = true → l.length = 0)) → R = false) := fun hx => by
    cases R with
    | false => rfl
    | true => have := hoi.1 rfl; exact absurd ⟨this.1, this.2.1, this.2.2.1, this.2.2.2.1⟩ hx
  have YES : Hid (((∀ v ∈ l, v = numValN v) ∧ k = numKeyN k ∧ l.length ≤ 4 ∧ (d = true → l.length = 0)) → (R = true ↔ tailOk x y z)) := fun hx => by
    rw [hoi]
    exact ⟨fun h => h.2.2.2.2, fun h => ⟨hx.1, hx.2.1, hx.2.2.1, hx.2.2.2, h⟩⟩
  clear hR hoi
  obtain ⟨n, hn⟩ : ∃ n, l.length = n := ⟨_, rfl⟩
  rw [hn] at m ⊢
  have H := Lib.hid h
  have N := Lib.hid hn
  clear h hn
  have ck := key_any k hk
  have h21 := run_bits
  by_cases e1 : keyN k = k
  · rw [e1] at ck hnk
    have HNK := Lib.hid hnk
    clear e1 hk hnk
    by_cases e2 : 4 < n
    · have e2' : decide ((4 : Int) < (n : Int)) = true := by simp; omega
      have hR := NO.out fun h => by have := h.2.2.1; rw [N.out] at this; omega
      subst hR
      go_enter Tryz.func9, Tryz.ntmps9
      go_wp2
      go_quiet ((go_at_call 33; exact quiet_w (ck _)))
      go_wp2
      go_ret
      exact ⟨rfl, below_drewN (((Below.refl _ _).alloc (Nat.le_refl _) _)) _⟩
    · have e2' : decide ((4 : Int) < (n : Int)) = false := by simp; omega
      cases d with
      | true =>
        by_cases e3 : 0 < n
        · have e3' : decide ((0 : Int) < (n : Int)) = true := by simp; omega
          have hR := NO.out fun h => by have := h.2.2.2 rfl; rw [N.out] at this; omega
          subst hR
          go_enter Tryz.func9, Tryz.ntmps9
          go_wp2
          go_quiet ((go_at_call 33; exact quiet_w (ck _)))
          go_wp2
          go_ret
          exact ⟨rfl, below_drewN (((Below.refl _ _).alloc (Nat.le_refl _) _)) _⟩
        · have e3' : decide ((0 : Int) < (n : Int)) = false := by simp; omega
          have hl : l = [] := List.eq_nil_of_length_eq_zero (by rw [N.out]; omega)
          have HT := Lib.hid (YES.out ⟨by rw [hl]; simp, HNK.out.symm, by rw [N.out]; omega, fun _ => by rw [hl]; rfl⟩)
          clear hl
          go_enter Tryz.func9, Tryz.ntmps9
          go_wp2
          go_quiet ((go_at_call 33; exact quiet_w (ck _)))
          go_wp2
          go_loopw [3] (fun i wr => ∃ j : Nat, j ≤ n ∧ i = .int .i64 j ∧ wr.heap[w.heap.size]? = some (.cells #[.float .f64 k, .bool true, .slice A n c, .int .i64 x, .int .i64 y, .int .i64 z] 30 (0, 0)) ∧ Below w.heap.size w wr) (fun i _ => n - (intOf i).toNat)
          case atStart => exact ⟨0, Nat.zero_le _, rfl, heap_alloc_new w _, below_drewN (((Below.refl _ _).alloc (Nat.le_refl _) _)) _⟩
          case round =>
            obtain ⟨j, hj, rfl, gh, hb⟩ := hrel
            have g2 := cell_of_row wr w.heap.size 2 _ _ _ gh
            have g3 := cell_of_row wr w.heap.size 3 _ _ _ gh
            have g4 := cell_of_row wr w.heap.size 4 _ _ _ gh
            have g5 := cell_of_row wr w.heap.size 5 _ _ _ gh
            simp only [List.getElem?_toArray, List.getElem?_cons_succ, List.getElem?_cons_zero] at g2 g3 g4 g5
            have HB := Lib.hid hb
            clear hb
            by_cases hlt : j < n
            · exact absurd hlt (by omega)
            · go_wp2
              all_goals
                go_ret
                refine ⟨ret_bool ?_, HB.out⟩
                rw [Bool.eq_iff_iff, HT.out]
                unfold tailOk
                first | (simp; omega) | simp
      | false =>
        go_enter Tryz.func9, Tryz.ntmps9
        go_wp2
        go_quiet ((go_at_call 33; exact quiet_w (ck _)))
        go_wp2
        go_loopw [3] (fun i wr => ∃ j : Nat, j ≤ n ∧ i = .int .i64 j ∧ (∀ v ∈ l.take j, v = numValN v) ∧ wr.heap[w.heap.size]? = some (.cells #[.float .f64 k, .bool false, .slice A n c, .int .i64 x, .int .i64 y, .int .i64 z] 30 (0, 0)) ∧ Below w.heap.size w wr) (fun i _ => n - (intOf i).toNat)
        case atStart => exact ⟨0, Nat.zero_le _, rfl, by simp, heap_alloc_new w _, below_drewN (((Below.refl _ _).alloc (Nat.le_refl _) _)) _⟩
        case round =>
          obtain ⟨j, hj, rfl, hvs, gh, hb⟩ := hrel
          have HVS := Lib.hid hvs
          clear hvs
          have g2 := cell_of_row wr w.heap.size 2 _ _ _ gh
          have g3 := cell_of_row wr w.heap.size 3 _ _ _ gh
          have g4 := cell_of_row wr w.heap.size 4 _ _ _ gh
          have g5 := cell_of_row wr w.heap.size 5 _ _ _ gh
          simp only [List.getElem?_toArray, List.getElem?_cons_succ, List.getElem?_cons_zero] at g2 g3 g4 g5
          have HB := Lib.hid hb
          clear hb
          by_cases hlt : j < n
          · obtain ⟨b1, o1, e1, q1, r1⟩ := (H.out.below HB.out).2 (by have := N.out; omega)
            subst e1
            have hx := H.out.1 (l[j]'(by have := N.out; omega)) (List.getElem_mem _)
            have g1 := r1 j _ (List.getElem?_eq_getElem (by have := N.out; omega))
            have cv := fun W => value_any (l[j]'(by have := N.out; omega)) hx W
            have hnv := numValN_eq _ hx
            obtain ⟨v, hv⟩ : ∃ v, l[j]? = some v := ⟨_, List.getElem?_eq_getElem (by have := N.out; omega)⟩
            have hvj : l[j]'(by have := N.out; omega) = v := (List.getElem?_eq_some_iff.1 hv).2
            have HV := Lib.hid hv
            rw [hvj] at g1 cv hnv
            clear r1 q1 hv hx hvj
            by_cases e3 : valN v = v
            · rw [e3] at cv hnv
              have HX : Hid (∀ y ∈ l.take (j + 1), y = numValN y) := by
                intro y hy
                rw [take_at' HV.out] at hy
                rcases List.mem_append.1 hy with hy | hy
                · exact HVS.out y hy
                · rw [List.mem_singleton.1 hy]; exact hnv.symm
              clear e3 hnv
              go_wp2
              go_quiet ((go_at_call 34; exact quiet_w (cv _)))
              go_wp2
              go_roundw
              case rel => exact ⟨j + 1, by omega, by go_num, HX.out, gh, below_drewN HB.out _⟩
              case measure => simp [intOf]; omega
            · have e3' : ((v : Int) != ((valN v : Nat) : Int)) = true := by simp only [bne_iff_ne]; omega
              have hR := NO.out fun h => e3 (by rw [← hnv]; exact (h.1 v (List.mem_of_getElem? HV.out)).symm)
              subst hR
              clear e3 hnv
              go_wp2
              go_quiet ((go_at_call 34; exact quiet_w (cv _)))
              go_wp2
              go_ret
              exact ⟨rfl, below_drewN HB.out _⟩
          · have hjn : l.take j = l := List.take_of_length_le (by rw [N.out]; omega)
            have HT := Lib.hid (YES.out ⟨by have := HVS.out; rwa [hjn] at this, HNK.out.symm, by rw [N.out]; omega, fun h => by cases h⟩)
            clear hjn
            go_wp2
            all_goals
              go_ret
              refine ⟨ret_bool ?_, HB.out⟩
              rw [Bool.eq_iff_iff, HT.out]
              unfold tailOk
              first | (simp; omega) | simp
  · have e1' : ((k : Int) != (keyN k : Int)) = true := by simp only [bne_iff_ne]; omega
    have hR := NO.out fun h => e1 (by rw [← hnk]; exact h.2.1.symm)
    subst hR
    clear hnk
    go_enter Tryz.func9, Tryz.ntmps9
    go_wp2
    go_quiet ((go_at_call 33; exact quiet_w (ck _)))
    go_wp2
    go_ret
    exact ⟨rfl, below_drewN (((Below.refl _ _).alloc (Nat.le_refl _) _)) _⟩
end Go.Proofs.YtdbnlngkmfmnnaaGreatDoor

/- The document's Put: items' bytes. -/
namespace Go.Proofs.YtdbnlngkmfmnnaaGreatDoor
open Go.RowKit

def goodIt (i : It) : Prop := (1 ≤ i.k ∧ i.k ≤ 3 ∧ fitsN i.k i.n = true ∧ i.x = 0) ∨ (i.k = 4 ∧ i.n = 0 ∧ i.x < 18446744073709551616)
def itB (i : It) : List Nat := if i.k = 4 then be 8 (valN i.x) else be (wid i.k) i.n
theorem itB_pos {i : It} (h : goodIt i) : 0 < (itB i).length := by
  unfold itB
  rcases h with ⟨h1, h3, _⟩ | ⟨h1, _⟩
  · rw [if_neg (by omega), be_len]
    have : i.k = 1 ∨ i.k = 2 ∨ i.k = 3 := by omega
    rcases this with h | h | h <;> rw [h] <;> decide
  · rw [if_pos h1, be_len]; decide
theorem itB_le (i : It) : (itB i).length ≤ 8 := by
  unfold itB
  split
  · rw [be_len]
    decide
  · rw [be_len]
    unfold wid
    split
    · omega
    · split
      · omega
      · split <;> omega
theorem itB_lt (i : It) : ∀ x ∈ itB i, x < 256 := by
  unfold itB
  split <;> exact be_lt _ _

theorem ritem_good (i : It) (h : goodIt i) (w : World) :
    Calls Tryz.prog 147 #[.agg #[.int .i64 (i.k : Nat), .int .i64 (i.n : Nat), .float .f64 i.x, .string ⟨#[]⟩]] w fun e w' => e = .returned (.bool true) ∧ Below w.heap.size w w' := by
  obtain ⟨k, n, x⟩ := i
  rcases h with ⟨h1, h3, hf, hx⟩ | ⟨h1, h2, hx⟩
  · simp only at h1 h3 hf hx
    subst hx
    have := ritem_num k n h1 h3 w
    rw [hf] at this
    exact this
  · simp only at h1 h2
    subst h1 h2
    exact ritem_flt x w
theorem fits_lt {k n : Nat} (h : fitsN k n = true) : n < 4294967296 := by
  unfold fitsN at h
  simp only [decide_eq_true_eq] at h
  omega
theorem one_good (i : It) (h : goodIt i) (w : World) :
    Calls Tryz.prog 148 #[.agg #[.int .i64 (i.k : Nat), .int .i64 (i.n : Nat), .float .f64 i.x, .string ⟨#[]⟩]] w (BigOut w (itB i)) := by
  obtain ⟨k, n, x⟩ := i
  unfold itB
  rcases h with ⟨h1, h3, hf, hx⟩ | ⟨h1, h2, hx⟩
  · simp only at h1 h3 hf hx
    subst hx
    simp only
    rw [if_neg (by omega)]
    exact one_num k n h1 h3 (fits_lt hf) w
  · simp only at h1 h2 hx
    subst h1 h2
    exact one_flt x hx w

/-- Bytes of one's own. -/
def OB (w : World) (base : Nat) (v : Value) (L : List Nat) : Prop := w.ownsRow base 5 1 v L.length (L.map fun (x : Nat) => Value.int .u8 (x : Nat)) ∧ ∀ x ∈ L, x < 256
theorem OB.same {w W : World} {base : Nat} {v : Value} {L : List Nat} (h : OB w base v L) (hb : Below w.heap.size w W) : OB W base v L := ⟨h.1.kept (below_grown hb none) (by cases v.ownBlock <;> simp), h.2⟩
theorem OB.reads {w : World} {base : Nat} {v : Value} {L : List Nat} (h : OB w base v L) : ∃ A c, v = .slice A L.length c ∧ BC w w.heap.size A L ∧ L.length ≤ c ∧ c ≤ 9223372036854775807 ∧ (A = none → c = 0) := by
  obtain ⟨h1, h2⟩ := h
  rcases h1.2 with ⟨rfl, h0⟩ | ⟨g, cap, cur, rfl, hb, hh, hnc, hcm, hcs, htake⟩
  · exact ⟨none, 0, by rw [h0], ⟨h2, fun hl => by omega⟩, by omega, by omega, fun _ => rfl⟩
  · refine ⟨_, cap, rfl, ⟨h2, fun _ => ⟨g, 0, rfl, (Array.getElem?_eq_some_iff.1 hh).1, fun j x hx => ?_⟩⟩, hnc, by unfold maxLen at hcm; omega, (fun h => by cases h)⟩
    rw [Nat.zero_add, h1.cellAt j (by have := (List.getElem?_eq_some_iff.1 hx).1; omega), List.getElem?_map, hx]
    rfl

set_option maxRecDepth 100000 in
theorem add_bytes {ops : Array Oper} {rest : List Oper} {o : Oper} {a : Act} {Q : Exit → Act → World → Prop} (hgd : o.guard = none) (s e : Operand)
    (ho : o.op = .call { callee := .builtin .append, args := #[s, e], argTypes := #[53, 53] })
    {W : World} {base : Nat} {v : Value} {L X : List Nat} {n m c : Nat} {A : Option Addr} (h : OB W base v L) (hbase : base ≤ W.heap.size) (hX : BC W W.heap.size A X) (hn : L.length = n) (hm : X.length = m) (h0 : 0 < m) (hnm : n + m ≤ 100000) (hs : a.eval s = v) (he : a.eval e = .slice A m c)
    (hK : ∀ g cap w', OB w' base (.slice (some ⟨g, 0, none⟩) (n + m) cap) (L ++ X) → W.grownBy w' v.ownBlock → wpList Tryz.prog ops Q rest (a.put o.dst (.slice (some ⟨g, 0, none⟩) (n + m) cap)) w') :
    wpList Tryz.prog ops Q (o :: rest) a W := by
  subst hn hm
  obtain ⟨i0, hi0, hz0, hz1, hz2⟩ := info_parts info5
  obtain ⟨b, off, eA, _, hc⟩ := hX.2 h0
  subst eA
  refine wpList_append_lies W hgd s e 53 ho base 5 i0 (.int .u8 0) 1 1 Tryz.underlying53 hi0 hz0 hz1 hz2 rfl (by decide) v L.length (L.map fun (x : Nat) => Value.int .u8 (x : Nat)) hs h.1 ⟨b, off, none⟩ X.length c
    (X.map fun (x : Nat) => Value.int .u8 (x : Nat)) he (by simp) (fun j u hu => ?_) (fun u hu => by obtain ⟨_, _, rfl⟩ := List.mem_map.1 hu; rfl) h0 (by unfold maxLen; omega) (by omega) hbase _ rfl ?_
  · rw [List.getElem?_map] at hu
    cases hx : X[j]? with
    | none => rw [hx] at hu; cases hu
    | some x =>
      rw [hx] at hu
      injection hu with hu
      subst hu
      have := hc j x hx
      unfold Addr.add
      by_cases hj : j = 0
      · subst hj; simpa using this
      · rw [if_neg hj]; exact this
  · intro g cap w' hown hgrow _ _
    refine hK g cap w' ⟨?_, fun x hx => ?_⟩ hgrow
    · rw [List.length_append, List.map_append]; exact hown
    · rcases List.mem_append.1 hx with hx | hx
      · exact h.2 x hx
      · exact hX.1 x hx

def bytesOf (I : List It) : List Nat := I.flatMap itB
theorem bytesOf_le (I : List It) : (bytesOf I).length ≤ 8 * I.length := by
  unfold bytesOf
  induction I with
  | nil => simp
  | cons i I ih => rw [List.flatMap_cons, List.length_append, List.length_cons]; have := itB_le i; omega

set_option maxHeartbeats 4000000 in
set_option maxRecDepth 100000 in
theorem rput_any (A : Option Addr) (c : Nat) (I : List It) (w : World) (h : IX w A I) (hg : ∀ i ∈ I, goodIt i) (hn : I.length ≤ 100) :
    Calls Tryz.prog 127 #[.slice A I.length c] w fun e w' => ∃ v, e = .returned (.tuple #[v, .bool true]) ∧ OB w' w.heap.size v (bytesOf I) ∧ Below w.heap.size w w' := by
  obtain ⟨n, hnl⟩ : ∃ n, I.length = n := ⟨_, rfl⟩
  rw [hnl] at hn ⊢
  have H := Lib.hid h
  have N := Lib.hid hnl
  have HG := Lib.hid hg
  clear h hnl hg
  have HO0 := Lib.hid (show OB (w.alloc (.cells #[] 5)) w.heap.size (.slice (some ⟨w.heap.size, 0, none⟩) 0 0) [] from ⟨World.ownsRow_lit w #[] 0 (Nat.le_refl _) (by unfold maxLen; omega) rfl, by simp⟩)
  go_enter Tryz.func127, Tryz.ntmps127
  go_wp2
  go_loopw [5, 4] (fun i v wr => ∃ (j m : Nat) (Av : Option Addr) (cv : Nat), j ≤ n ∧ i = .int .i64 j ∧ v = .slice Av m cv ∧ (bytesOf (I.take j)).length = m ∧ OB wr w.heap.size v (bytesOf (I.take j)) ∧ Below w.heap.size w wr) (fun i _ _ => n - (intOf i).toNat)
  case atStart => exact ⟨0, 0, _, _, Nat.zero_le _, rfl, rfl, rfl, HO0.out, (Below.refl _ _).alloc (Nat.le_refl _) _⟩
  case round =>
    obtain ⟨j, m, Av, cv, hj, rfl, rfl, hm, hob, hb⟩ := hrel
    have HM := Lib.hid hm
    have HOB := Lib.hid hob
    have HB := Lib.hid hb
    clear hm hob hb
    by_cases hlt : j < n
    · obtain ⟨it, hit⟩ := get_at' N hlt
      obtain ⟨g, e, hgl, c0, c1, c2, c3⟩ := H.out.on HB.out j it hit
      subst e
      have hgood := HG.out it (List.mem_of_getElem? hit)
      have CM := Lib.hid (ritem_good it hgood wr)
      have CO := Lib.hid (fun W (hb : Below wr.heap.size wr W) => one_good it hgood W)
      have HT := Lib.hid (show bytesOf (I.take (j + 1)) = bytesOf (I.take j) ++ itB it by unfold bytesOf; rw [take_at' hit, List.flatMap_append]; simp)
      have HP := Lib.hid (itB_pos hgood)
      have HMM := Lib.hid (show m ≤ 800 by rw [← HM.out]; have := bytesOf_le (I.take j); rw [List.length_take] at this; omega)
      have HIB := Lib.hid (itB_le it)
      obtain ⟨X, hX⟩ : ∃ X, itB it = X := ⟨_, rfl⟩
      rw [hX] at HT HP HIB
      obtain ⟨q, hq⟩ : ∃ q, X.length = q := ⟨_, rfl⟩
      have HQ := Lib.hid hq
      have CO2 : Hid (∀ W, Below wr.heap.size wr W → Calls Tryz.prog 148 #[.agg #[.int .i64 (it.k : Nat), .int .i64 (it.n : Nat), .float .f64 it.x, .string ⟨#[]⟩]] W fun e w' => ∃ g c4, e = .returned (.slice (some ⟨g, 0, none⟩) q c4) ∧ BC w' w'.heap.size (some ⟨g, 0, none⟩) X ∧ Below wr.heap.size wr w') := fun W hb => by
        refine (CO.out W hb).mono fun e w' hh => ?_
        obtain ⟨g, c4, h1, h2, _, _, h3⟩ := hh
        rw [hX] at h1 h2
        rw [hq] at h1
        exact ⟨g, c4, h1, h2, hb.trans (h3.mono hb.size)⟩
      have HLT := Lib.hid hgl
      clear hit hgood CO hX hq hgl
      go_wp2_with (first
        | (go_at_call 147; (with_reducible refine CM.out.mono ?_); rintro e w1 ⟨rfl, hb1⟩; have d0 := (hb1.cell (p := ⟨g, j * 4, none⟩) HLT.out).trans c0; have d1 := (hb1.cell (p := ⟨g, j * 4 + 1, none⟩) HLT.out).trans c1; have d2 := (hb1.cell (p := ⟨g, j * 4 + 2, none⟩) HLT.out).trans c2; have d3 := (hb1.cell (p := ⟨g, j * 4 + 3, none⟩) HLT.out).trans c3; have HB1 := Lib.hid hb1; clear hb1)
        | (go_at_call 148; (with_reducible refine (CO2.out _ HB1.out).mono ?_); rintro e w2 ⟨g2, c4, rfl, hbc, hb2⟩; have HBC := Lib.hid hbc; have HB2 := Lib.hid hb2; clear hbc hb2)
        | (at_builtin; go_loud (refine add_bytes (c := c4) (v := .slice Av m cv) rfl (.tmp 19) (.tmp 24) rfl (HOB.out.same HB2.out) (Nat.le_trans HB.out.size HB2.out.size) HBC.out HM.out HQ.out (by rw [← HQ.out]; exact HP.out) (by have := HIB.out; rw [HQ.out] at this; have := HMM.out; omega) (by simp [Act.eval, Act.put]) (by simp [Act.eval, Act.put]) ?_); rintro g3 cap w3 ho3 hg3; have HO3 := Lib.hid ho3; have HG3 := Lib.hid hg3; clear ho3 hg3))
      refine ⟨⟨j + 1, m + q, _, _, by omega, by go_num, rfl, by rw [HT.out, List.length_append, HM.out, HQ.out], by rw [HT.out]; exact HO3.out, ?_⟩, by simp [intOf]; omega⟩
      exact (HB.out.trans (HB2.out.mono HB.out.size)).grown HG3.out (Nat.le_trans HB.out.size HB2.out.size) fun k hk => (HOB.out.1.lt k hk).1
    · have hjn : j = n := by omega
      subst hjn
      have HE := Lib.hid (show bytesOf I = bytesOf (I.take j) by rw [List.take_of_length_le (by rw [N.out]; omega)])
      go_wp2
      go_ret2
      exact ⟨_, rfl, by rw [HE.out]; exact HOB.out, HB.out⟩
end Go.Proofs.YtdbnlngkmfmnnaaGreatDoor

/- Leaves: what their cells read as; the functions that look for something in a slice. -/
namespace Go.Proofs.YtdbnlngkmfmnnaaGreatDoor
open Go.RowKit

structure LeafD where
  itl : List Int
  slots : List (List Nat)

/-- The cells of whole numbers. -/
def ZC (w : World) (B : Nat) (A : Option Addr) (l : List Int) : Prop :=
  0 < l.length → ∃ b off, A = some ⟨b, off, none⟩ ∧ b < B ∧ ∀ j x, l[j]? = some x → w.cell? ⟨b, off + j, none⟩ = some (.int .i64 x)
/-- The cells of slots. -/
def SC (w : World) (B : Nat) (A : Option Addr) (ss : List (List Nat)) : Prop :=
  0 < ss.length → ∃ b off, A = some ⟨b, off, none⟩ ∧ b < B ∧ ∀ i s, ss[i]? = some s → ∃ A' c', w.cell? ⟨b, off + i, none⟩ = some (.slice A' s.length c') ∧ BC w B A' s ∧ s.length ≤ c' ∧ c' ≤ 9223372036854775807 ∧ (A' = none → c' = 0)
theorem ZC.below {w w' : World} {B : Nat} {A : Option Addr} {l : List Int} (h : ZC w B A l) (hb : Below B w w') : ZC w' B A l := fun hl => by
  obtain ⟨b, off, e, hB, hc⟩ := h hl
  exact ⟨b, off, e, hB, fun j x hx => (hb.cell (p := ⟨b, off + j, none⟩) hB).trans (hc j x hx)⟩
theorem ZC.more {w : World} {B B' : Nat} {A : Option Addr} {l : List Int} (h : ZC w B A l) (hb : B ≤ B') : ZC w B' A l := fun hl => by
  obtain ⟨b, off, e, hB, hc⟩ := h hl
  exact ⟨b, off, e, by omega, hc⟩
theorem SC.below {w w' : World} {B : Nat} {A : Option Addr} {l : List (List Nat)} (h : SC w B A l) (hb : Below B w w') : SC w' B A l := fun hl => by
  obtain ⟨b, off, e, hB, hc⟩ := h hl
  refine ⟨b, off, e, hB, fun i s hs => ?_⟩
  obtain ⟨A', c', h1, h2, h3⟩ := hc i s hs
  exact ⟨A', c', (hb.cell (p := ⟨b, off + i, none⟩) hB).trans h1, h2.below hb, h3⟩
theorem SC.more {w : World} {B B' : Nat} {A : Option Addr} {l : List (List Nat)} (h : SC w B A l) (hb : B ≤ B') : SC w B' A l := fun hl => by
  obtain ⟨b, off, e, hB, hc⟩ := h hl
  refine ⟨b, off, e, by omega, fun i s hs => ?_⟩
  obtain ⟨A', c', h1, h2, h3⟩ := hc i s hs
  exact ⟨A', c', h1, h2.more hb, h3⟩
theorem ZC.at_ {w : World} {B : Nat} {A : Option Addr} {l : List Int} (h : ZC w B A l) {k : Nat} {x : Int} (hx : l[k]? = some x) : ∃ b off, A = some ⟨b, off, none⟩ ∧ b < B ∧ w.cell? ⟨b, off + k, none⟩ = some (.int .i64 x) := by
  obtain ⟨b, off, e, hB, hc⟩ := h (by have := (List.getElem?_eq_some_iff.1 hx).1; omega)
  exact ⟨b, off, e, hB, hc k x hx⟩
theorem SC.at_ {w : World} {B : Nat} {A : Option Addr} {l : List (List Nat)} (h : SC w B A l) {k : Nat} {s : List Nat} (hs : l[k]? = some s) :
    ∃ b off A' c', A = some ⟨b, off, none⟩ ∧ b < B ∧ w.cell? ⟨b, off + k, none⟩ = some (.slice A' s.length c') ∧ BC w B A' s ∧ s.length ≤ c' ∧ c' ≤ 9223372036854775807 ∧ (A' = none → c' = 0) := by
  obtain ⟨b, off, e, hB, hc⟩ := h (by have := (List.getElem?_eq_some_iff.1 hs).1; omega)
  obtain ⟨A', c', h1, h2⟩ := hc k s hs
  exact ⟨b, off, A', c', e, hB, h1, h2⟩

/-- Where the first is of which p holds; -1: nowhere. -/
def idxI {α : Type} (p : α → Bool) (l : List α) : Int := match l.findIdx? p with | some k => k | none => -1
theorem idxI_none {α : Type} {p : α → Bool} {l : List α} (h : ∀ x ∈ l, p x = false) : idxI p l = -1 := by
  have : l.findIdx? p = none := by rw [List.findIdx?_eq_none_iff]; exact h
  unfold idxI; rw [this]
theorem idxI_at {α : Type} {p : α → Bool} {l : List α} {k : Nat} {x : α} (h : ∀ y ∈ l.take k, p y = false) (hx : l[k]? = some x) (hp : p x = true) : idxI p l = k := by
  obtain ⟨hk, rfl⟩ := List.getElem?_eq_some_iff.1 hx
  have : l.findIdx? p = some k := by
    rw [List.findIdx?_eq_some_iff_getElem]
    refine ⟨hk, hp, fun j hj => ?_⟩
    have hm : l[j]'(by omega) ∈ l.take k := by
      rw [List.mem_iff_getElem]
      exact ⟨j, by rw [List.length_take]; omega, by simp⟩
    rw [h _ hm]; simp
  unfold idxI; rw [this]
theorem idxI_any {α : Type} (p : α → Bool) (l : List α) : decide (0 ≤ idxI p l) = l.any p := by
  unfold idxI
  cases h : l.findIdx? p with
  | none =>
    rw [List.findIdx?_eq_none_iff] at h
    have : l.any p = false := by rw [List.any_eq_false]; intro x hx; rw [h x hx]; simp
    rw [this]; rfl
  | some k =>
    rw [List.findIdx?_eq_some_iff_getElem] at h
    obtain ⟨hk, hp, _⟩ := h
    have : l.any p = true := List.any_eq_true.2 ⟨_, List.getElem_mem _, hp⟩
    rw [this]
    exact decide_eq_true (by simp)

theorem get_up {α : Type} {p : α → Bool} {l : List α} {k : Nat} {x : α} (h : ∀ y ∈ l.take k, p y = false) (hx : l[k]? = some x) (hp : p x = false) : ∀ y ∈ l.take (k + 1), p y = false := by
  rw [take_at' hx]
  intro y hy
  rcases List.mem_append.1 hy with hy | hy
  · exact h y hy
  · rw [List.mem_singleton.1 hy]; exact hp

set_option maxHeartbeats 2000000 in
theorem zindex_any (A : Option Addr) (c B : Nat) (l : List Int) (v : Int) (w : World) (h : ZC w B A l) (m : l.length ≤ maxLen) :
    Calls Tryz.prog 78 #[.slice A l.length c, .int .i64 v] w fun e w' => e = .returned (.int .i64 (idxI (fun x => x == v) l)) ∧ w = w' := by
  unfold maxLen at m
  obtain ⟨n, hn⟩ : ∃ n, l.length = n := ⟨_, rfl⟩
  rw [hn] at m ⊢
  have H := Lib.hid h
  have N := Lib.hid hn
  clear h hn
  obtain ⟨R, hR⟩ : ∃ R, idxI (fun x => x == v) l = R := ⟨_, rfl⟩
  rw [hR]
  have HR := Lib.hid hR
  clear hR
  go_enter Tryz.func78, Tryz.ntmps78
  go_wp2
  go_loopw [8] (fun i wr => ∃ j : Nat, j ≤ n ∧ i = .int .i64 j ∧ (∀ x ∈ l.take j, (x == v) = false) ∧ wr = w) (fun i _ => n - (intOf i).toNat)
  case atStart => exact ⟨0, Nat.zero_le _, rfl, by simp, rfl⟩
  case round =>
    obtain ⟨j, hj, rfl, ht, rfl⟩ := hrel
    have HT := Lib.hid ht
    clear ht
    by_cases hlt : j < n
    · obtain ⟨x, hx⟩ := get_at' N hlt
      obtain ⟨b, off, e, _, hc0⟩ := H.out.at_ hx
      subst e
      have HX := Lib.hid hx
      clear hx
      by_cases hv : x = v
      · subst hv
        go_wp2
        go_ret
        exact ⟨by rw [← HR.out, idxI_at HT.out HX.out (by simp)]; exact rfl, rfl⟩
      · have hv' : ¬ v = x := fun h => hv h.symm
        go_wp2
        refine ⟨⟨j + 1, by omega, by go_num, get_up HT.out HX.out (by simpa using hv), trivial⟩, by simp [intOf]; omega⟩
    · have hjn : j = n := by omega
      subst hjn
      go_wp2
      go_ret
      have ht := HT.out
      rw [List.take_of_length_le (by have := N.out; omega)] at ht
      exact ⟨by rw [← HR.out, idxI_none ht]; exact rfl, rfl⟩

theorem zcontains_any (A : Option Addr) (c B : Nat) (l : List Int) (v : Int) (w : World) (h : ZC w B A l) (m : l.length ≤ maxLen) :
    Calls Tryz.prog 77 #[.slice A l.length c, .int .i64 v] w fun e w' => e = .returned (.bool (l.any fun x => x == v)) ∧ w = w' := by
  have ci := zindex_any A c B l v w h m
  rw [← idxI_any]
  generalize idxI (fun x => x == v) l = R at *
  obtain ⟨n, hn⟩ : ∃ n, l.length = n := ⟨_, rfl⟩
  rw [hn] at ci ⊢
  clear h m hn
  go_enter Tryz.func77, Tryz.ntmps77
  go_wp2_with (go_at_call 78; (with_reducible refine ci.mono ?_); rintro e w' ⟨rfl, rfl⟩)
  go_ret
  exact ⟨rfl, rfl⟩
end Go.Proofs.YtdbnlngkmfmnnaaGreatDoor

/- Slots looked through. -/
namespace Go.Proofs.YtdbnlngkmfmnnaaGreatDoor
open Go.RowKit

def longP : List Nat → Bool := fun s => decide ((255 : Int) < (s.length : Int))
theorem long_any (A : Option Addr) (n c : Nat) (w : World) : Calls Tryz.prog 90 #[.slice A n c] w fun e w' => e = .returned (.bool (decide ((255 : Int) < (n : Int)))) ∧ w = w' := by
  go_enter Tryz.func90, Tryz.ntmps90
  go_wp2
  go_ret
  exact ⟨rfl, rfl⟩
set_option maxHeartbeats 2000000 in
theorem longIndex_any (A : Option Addr) (c B : Nat) (l : List (List Nat)) (w : World) (h : SC w B A l) (m : l.length ≤ maxLen) :
    Calls Tryz.prog 82 #[.slice A l.length c, .func (.func 90) #[] #[]] w fun e w' => e = .returned (.int .i64 (idxI longP l)) ∧ w = w' := by
  unfold maxLen at m
  obtain ⟨n, hn⟩ : ∃ n, l.length = n := ⟨_, rfl⟩
  rw [hn] at m ⊢
  have H := Lib.hid h
  have N := Lib.hid hn
  clear h hn
  obtain ⟨R, hR⟩ : ∃ R, idxI longP l = R := ⟨_, rfl⟩
  rw [hR]
  have HR := Lib.hid hR
  clear hR
  go_enter Tryz.func82, Tryz.ntmps82
  go_wp2
  go_loopw [8] (fun i wr => ∃ j : Nat, j ≤ n ∧ i = .int .i64 j ∧ (∀ x ∈ l.take j, longP x = false) ∧ wr = w) (fun i _ => n - (intOf i).toNat)
  case atStart => exact ⟨0, Nat.zero_le _, rfl, by simp, rfl⟩
  case round =>
    obtain ⟨j, hj, rfl, ht, rfl⟩ := hrel
    have HT := Lib.hid ht
    clear ht
    by_cases hlt : j < n
    · obtain ⟨x, hx⟩ := get_at' N hlt
      obtain ⟨b, off, A', c', e, _, hc0, _⟩ := H.out.at_ hx
      subst e
      have HX := Lib.hid hx
      clear hx
      have cb := long_any A' x.length c' wr
      cases hv : longP x with
      | true =>
        have hv' := hv
        unfold longP at hv'
        rw [hv'] at cb
        have HV := Lib.hid hv
        clear hv hv'
        go_wp2_with (go_at_call 90; (with_reducible refine cb.mono ?_); rintro e w' ⟨rfl, rfl⟩)
        go_ret
        exact ⟨by rw [← HR.out, idxI_at HT.out HX.out HV.out]; exact rfl, rfl⟩
      | false =>
        have hv' := hv
        unfold longP at hv'
        rw [hv'] at cb
        have HV := Lib.hid hv
        clear hv hv'
        go_wp2_with (go_at_call 90; (with_reducible refine cb.mono ?_); rintro e w' ⟨rfl, rfl⟩)
        refine ⟨⟨j + 1, by omega, by go_num, get_up HT.out HX.out HV.out, trivial⟩, by simp [intOf]; omega⟩
    · have hjn : j = n := by omega
      subst hjn
      go_wp2
      go_ret
      have ht := HT.out
      rw [List.take_of_length_le (by have := N.out; omega)] at ht
      exact ⟨by rw [← HR.out, idxI_none ht]; exact rfl, rfl⟩
theorem longAny_any (A : Option Addr) (c B : Nat) (l : List (List Nat)) (w : World) (h : SC w B A l) (m : l.length ≤ maxLen) :
    Calls Tryz.prog 73 #[.slice A l.length c, .func (.func 90) #[] #[]] w fun e w' => e = .returned (.bool (l.any longP)) ∧ w = w' := by
  have ci := longIndex_any A c B l w h m
  rw [← idxI_any]
  generalize idxI longP l = R at *
  obtain ⟨n, hn⟩ : ∃ n, l.length = n := ⟨_, rfl⟩
  rw [hn] at ci ⊢
  clear h m hn
  go_enter Tryz.func73, Tryz.ntmps73
  go_wp2_with (go_at_call 82; (with_reducible refine ci.mono ?_); rintro e w' ⟨rfl, rfl⟩)
  go_ret
  exact ⟨rfl, rfl⟩

/-- How many bytes slots need. -/
def needS (l : List (List Nat)) : Nat := 18 + (l.map fun s => 1 + s.length).sum
theorem needS_snoc (l : List (List Nat)) (s : List Nat) : needS (l ++ [s]) = needS l + (1 + s.length) := by unfold needS; rw [List.map_append, List.sum_append]; simp; omega
theorem needS_le (l : List (List Nat)) (h : ∀ s ∈ l, s.length ≤ 255) : needS l ≤ 18 + 256 * l.length := by
  unfold needS
  induction l with
  | nil => simp
  | cons s l ih =>
    have h1 := h s List.mem_cons_self
    have h2 := ih fun x hx => h x (List.mem_cons_of_mem _ hx)
    rw [List.map_cons, List.sum_cons, List.length_cons]
    omega
/-- The cells of a leaf. -/
def LeafD.cells (d : LeafD) (A1 : Option Addr) (c1 : Nat) (A2 : Option Addr) (c2 : Nat) : Array Value := #[.slice A1 d.itl.length c1, .slice A2 d.slots.length c2]

set_option maxHeartbeats 2000000 in
theorem need_any (A1 A2 : Option Addr) (n1 c1 c2 B : Nat) (l : List (List Nat)) (w : World) (hB : B ≤ w.heap.size) (h : SC w B A2 l) (m : l.length ≤ 64) (hs : ∀ s ∈ l, s.length ≤ 255) :
    Calls Tryz.prog 91 #[.agg #[.slice A1 n1 c1, .slice A2 l.length c2]] w fun e w' => e = .returned (.int .i64 (needS l : Nat)) ∧ Below w.heap.size w w' := by
  have h' := h.below ((Below.refl B w).alloc hB (.cells #[.slice A1 n1 c1, .slice A2 l.length c2] 66))
  obtain ⟨n, hn⟩ : ∃ n, l.length = n := ⟨_, rfl⟩
  rw [hn] at m h' ⊢
  have H := Lib.hid h'
  have N := Lib.hid hn
  have HS := Lib.hid hs
  obtain ⟨R, hR⟩ : ∃ R, needS l = R := ⟨_, rfl⟩
  rw [hR]
  have HR := Lib.hid hR
  clear hR h h' hn hs
  go_enter Tryz.func91, Tryz.ntmps91
  go_wp2
  go_loopw [9, 3] (fun i u wr => ∃ j : Nat, j ≤ n ∧ i = .int .i64 j ∧ u = .int .i64 (needS (l.take j) : Nat) ∧ wr = w.alloc (.cells #[.slice A1 n1 c1, .slice A2 n c2] 66)) (fun i _ _ => n - (intOf i).toNat)
  case atStart => exact ⟨0, Nat.zero_le _, rfl, rfl, rfl⟩
  case round =>
    obtain ⟨j, hj, rfl, rfl, rfl⟩ := hrel
    by_cases hlt : j < n
    · obtain ⟨x, hx⟩ := get_at' N hlt
      obtain ⟨b, off, A', c', e, _, hc0, _⟩ := H.out.at_ hx
      subst e
      have hx255 := HS.out x (List.mem_of_getElem? hx)
      have HE : Hid (needS (l.take (j + 1)) = needS (l.take j) + (1 + x.length)) := by rw [take_at' hx, needS_snoc]; exact rfl
      have hq := needS_le (l.take j) fun s hs => HS.out s (List.mem_of_mem_take hs)
      have hq2 : needS (l.take j) ≤ 18 + 256 * 64 := by rw [List.length_take] at hq; omega
      obtain ⟨q, hqq⟩ : ∃ q, needS (l.take j) = q := ⟨_, rfl⟩
      rw [hqq] at HE hq2 ⊢
      clear hx hq hqq
      obtain ⟨y, hy⟩ : ∃ y, x.length = y := ⟨_, rfl⟩
      rw [hy] at hc0 hx255 HE
      clear hy
      go_wp2
      exact ⟨⟨j + 1, by omega, by go_num, by rw [HE.out]; go_num, trivial⟩, by simp [intOf]; omega⟩
    · have hjn : j = n := by omega
      subst hjn
      have HJ := Lib.hid (show needS (l.take j) = R by rw [List.take_of_length_le (by have := N.out; omega)]; exact HR.out)
      rw [HJ.out]
      go_wp2
      go_ret
      exact ⟨rfl, (Below.refl _ _).alloc (Nat.le_refl _) _⟩
end Go.Proofs.YtdbnlngkmfmnnaaGreatDoor
