/- Rows of one's own, sorted. -/
import Derived.Test.YtdbnlngkmfmnnaaGreatDoorH14
namespace Go.Proofs.YtdbnlngkmfmnnaaGreatDoor
open Go.Shelf Go.RowKit Go.Sort

theorem RX.elems {w : World} {o : Option Nat} : ∀ {l : List RowD} {xs : List Value}, RX w o l xs → (∀ d ∈ l, d.key < 18446744073709551616) →
    ∃ E : List RowE, E.map (·.d) = l ∧ xs = E.flatMap encE ∧ ∀ x ∈ E, FX w o x.A x.d.cols ∧ x.d.cols.length ≤ x.c ∧ (x.A = none → x.c = 0)
  | [], xs, h, _ => ⟨[], rfl, by rw [show xs = [] from h]; rfl, by simp⟩
  | d :: l, xs, ⟨A', c', ys, e, h1, h2, h3, h4⟩, hk => by
    obtain ⟨E, e1, e2, e3⟩ := RX.elems h4 fun x hx => hk x (List.mem_cons_of_mem _ hx)
    refine ⟨⟨d, A', c', hk d List.mem_cons_self⟩ :: E, by rw [List.map_cons, e1], by rw [e, e2, List.flatMap_cons]; rfl, fun x hx => ?_⟩
    rcases List.mem_cons.1 hx with rfl | hx
    · exact ⟨h1, h2, h3⟩
    · exact e3 x hx
theorem flat_get {E : List RowE} : ∀ {i : Nat} {x : RowE}, E[i]? = some x → ∀ j, j < 6 → (E.flatMap encE)[i * 6 + j]? = (encE x)[j]? := by
  induction E with
  | nil => intro i x h; simp at h
  | cons d l ih =>
    intro i x h j hj
    have hl : (encE d).length = 6 := rfl
    rw [List.flatMap_cons]
    cases i with
    | zero =>
      simp only [List.getElem?_cons_zero, Option.some.injEq] at h
      subst h
      rw [List.getElem?_append_left (by rw [hl]; omega)]
      simp
    | succ i =>
      rw [List.getElem?_cons_succ] at h
      rw [List.getElem?_append_right (by rw [hl]; omega), hl, show (i + 1) * 6 + j - 6 = i * 6 + j by omega]
      exact ih h j hj
theorem holds_own {w : World} {base g cap n : Nat} {E : List RowE} (h : w.ownsRow base 30 6 (.slice (some ⟨g, 0, none⟩) n cap) n (E.flatMap encE)) (hn : E.length = n) : HoldsK encE 6 w g 0 E.toArray := by
  intro t ht
  rw [size_flatK] at ht
  have ht' : t < n * 6 := by simpa [hn] using ht
  have hi : t / 6 < n := by omega
  rw [get_flatK _ _ _ _ ht, Nat.zero_add]
  refine ⟨?_, h.frozenAt t⟩
  have hx : E[t / 6]? = some (E[t / 6]'(by omega)) := List.getElem?_eq_getElem _
  have hg := flat_get hx (t % 6) (by omega)
  rw [show t / 6 * 6 + t % 6 = t by omega] at hg
  rw [h.cellAt t ht', hg]
  have e1 : E.toArray[t / 6]! = E[t / 6]'(by omega) := by rw [getElem!_pos E.toArray (t / 6) (by simp; omega)]; simp
  rw [e1]
  have hl : t % 6 < (encE (E[t / 6]'(by omega))).length := by rw [encE_len]; omega
  rw [List.getElem?_eq_getElem hl, getElem!_pos (encE (E[t / 6]'(by omega))) (t % 6) hl]
  rfl

theorem sw_heap (w : World) (g n : Nat) (d : Array RowE) (os : Array Obj) {i : Nat} (hi : i < w.heap.size) (hne : i ≠ g) : (sortWorldK encE 6 w g 0 n d os).heap[i]? = w.heap[i]? := by
  unfold sortWorldK
  rw [heap_grow_old _ _ (by unfold putRowK; simp; exact hi)]
  unfold putRowK putRow mapBlock
  simp only [heap_ahead, Array.getElem?_modify]
  rw [if_neg (fun h => hne h.symm)]
theorem sw_size (w : World) (g n : Nat) (d : Array RowE) (os : Array Obj) : w.heap.size ≤ (sortWorldK encE 6 w g 0 n d os).heap.size := by
  unfold sortWorldK putRowK
  simp
theorem sw_grown (w : World) (g n : Nat) (d : Array RowE) (os : Array Obj) : w.grownBy (sortWorldK encE 6 w g 0 n d os) (some g) :=
  ⟨rfl, rfl, rfl, sw_size w g n d os, fun i hi hne => sw_heap w g n d os hi (fun e => hne (by rw [e]))⟩

theorem sorted_of {d : Array RowE} (h : SortedIn (ltOf cfE) 0 d.size d) : (d.toList.map (·.d)).Pairwise fun a b => ¬ b.rank < a.rank := by
  rw [List.pairwise_map, List.pairwise_iff_getElem]
  intro i j hi hj hij
  rw [Array.length_toList] at hi hj
  have := h i j (Nat.zero_le _) hij hj
  rw [ltE, getElem!_pos d j hj, getElem!_pos d i hi] at this
  simpa using this

theorem sortown_any {w : World} {base : Nat} {v : Value} {l : List RowD} (h : Own w base v l) (hk : ∀ d ∈ l, d.key < 18446744073709551616 ∧ d.cols.length ≤ maxLen) (hn : l.length ≤ 100000) :
    Calls Tryz.prog 49 #[v, .func (.func 50) #[] #[]] w fun e w' => e = .returned (.tuple #[]) ∧ w.grownBy w' v.ownBlock ∧ ∃ l' : List RowD, l'.Perm l ∧ l'.Pairwise (fun a b => ¬ b.rank < a.rank) ∧ ∃ A c, v = .slice A l.length c ∧ RC w' w'.heap.size A l' ∧ (A = none → c = 0) ∧ l.length ≤ c := by
  obtain ⟨xs, h1, h2⟩ := h
  rcases h1.2 with ⟨rfl, h0⟩ | ⟨g, cap, cur, rfl, hb, hh, hnc, hcm, hcs, htake⟩
  · have hl : l = [] := List.eq_nil_of_length_eq_zero h0
    subst hl
    refine (sort_none none 0 w).mono fun e w' ⟨he, hw⟩ => ⟨he, ?_, [], .refl _, .nil, none, 0, rfl, ⟨by simp, by simp⟩, fun _ => rfl, Nat.le_refl _⟩
    rw [hw]
    exact grown_refl w _
  · have hg : g < w.heap.size := by
      rcases Nat.lt_or_ge g w.heap.size with hlt | hge
      · exact hlt
      · rw [Array.getElem?_eq_none hge] at hh; cases hh
    obtain ⟨E, e1, e2, e3⟩ := h2.elems fun d hd => (hk d hd).1
    subst e2
    have hlE : E.length = l.length := by rw [← e1, List.length_map]
    have hH := holds_own h1 hlE
    have hsz : E.toArray.size = l.length := by simpa using hlE
    have hc := sort_any g cap E.toArray w hH hg (by rw [hsz]; omega)
    rw [hsz] at hc
    refine hc.mono fun e w' ⟨he, d', n, os, hp, hso, hw⟩ => ⟨he, ?_, d'.toList.map (·.d), ?_, ?_, some ⟨g, 0, none⟩, cap, rfl, ?_, (fun e => by cases e), hnc⟩
    · rw [hw]; exact sw_grown w g n d' os
    · have hd's : d'.size = E.toArray.size := hp.1
      have h5 := hp.2.2
      rw [Array.extract_eq_self_of_le (by omega), Array.extract_eq_self_of_le (by omega)] at h5
      rw [← e1]
      exact h5.map _
    · have hd's : d'.size = l.length := hp.1.trans hsz
      rw [← hd's] at hso
      exact sorted_of hso
    · have hd's : d'.size = E.toArray.size := hp.1
      have hH' : HoldsK encE 6 w' g 0 d' := by rw [hw]; exact holdsK_sortWorldK_c encE 6 w g 0 E.toArray d' n os hH hg hd's
      have hperm : d'.toList.Perm E := by
        have h5 := hp.2.2
        rw [Array.extract_eq_self_of_le (by omega), Array.extract_eq_self_of_le (by omega)] at h5
        exact h5
      have hgs : g < w'.heap.size := by rw [hw]; exact Nat.lt_of_lt_of_le hg (sw_size w g n d' os)
      refine ⟨fun d hd => ?_, fun _ => ⟨g, 0, rfl, hgs, fun i d hd => ?_⟩⟩
      · obtain ⟨x, hx, rfl⟩ := List.mem_map.1 hd
        exact hk _ (e1 ▸ List.mem_map.2 ⟨x, hperm.mem_iff.1 hx, rfl⟩)
      · rw [List.getElem?_map] at hd
        cases hx : d'.toList[i]? with
        | none => rw [hx] at hd; cases hd
        | some x =>
          rw [hx] at hd
          injection hd with hd
          subst hd
          obtain ⟨q1, q2, q3⟩ := e3 x (hperm.mem_iff.1 (List.mem_of_getElem? hx))
          have hi : i < d'.size := by have := (List.getElem?_eq_some_iff.1 hx).1; simpa using this
          have hxi : d'[i]! = x := by
            rw [getElem!_pos d' i hi]
            obtain ⟨h6, h7⟩ := List.getElem?_eq_some_iff.1 hx
            simpa using h7
          refine ⟨x.A, x.c, ?_, q2, q3, fun j v hv => ?_⟩
          · refine ⟨q1.1, fun hl => ?_⟩
            obtain ⟨b, off, eA, hB, hne, hcell⟩ := q1.2 hl
            refine ⟨b, off, eA, by rw [hw]; exact Nat.lt_of_lt_of_le hB (sw_size w g n d' os), fun j y hy => ?_⟩
            have hbg : b ≠ g := fun e => hne (by rw [e]; rfl)
            rw [hw, World.cell?_of_block (sw_heap w g n d' os hB hbg)]
            exact hcell j y hy
          · have hj : j < 6 := by
              have := (Array.getElem?_eq_some_iff.1 hv).1
              simpa [RowD.cells] using this
            have h6 := (hH'.cell hi hj).1
            rw [hxi] at h6
            rw [h6]
            have hl : j < (encE x).length := by rw [encE_len]; exact hj
            rw [getElem!_pos (encE x) j hl, ← List.getElem?_eq_getElem hl]
            simpa [encE] using hv
end Go.Proofs.YtdbnlngkmfmnnaaGreatDoor

/- heap.Rows. -/
namespace Go.Proofs.YtdbnlngkmfmnnaaGreatDoor
open Go.RowKit

/-- The rows of a range, by rising rank. -/
def RowsAre (l : List LeafD) (lo hi : Nat) (L : List RowD) : Prop :=
  (OkHeap l → L.Perm ((rowsL l).filter fun d => betw d.key lo hi) ∧ L.Pairwise fun a b => a.rank < b.rank) ∧ (¬ OkHeap l → L = [])
def RowsOut (w : World) (l : List LeafD) (lo hi : Nat) (e : Ending) (w' : World) : Prop := Below w.heap.size w w' ∧ ∃ L : List RowD, RowsAre l lo hi L ∧ ∃ A c, e = .returned (.slice A L.length c) ∧ RC w' w'.heap.size A L ∧ (A = none → c = 0) ∧ L.length ≤ c

theorem strict_of {L M : List RowD} (hp : L.Perm M) (hn : (M.map RowD.rank).Nodup) (hs : L.Pairwise fun a b => ¬ b.rank < a.rank) : L.Pairwise fun a b => a.rank < b.rank := by
  have hn2 : (L.map RowD.rank).Nodup := (hp.map RowD.rank).nodup_iff.2 hn
  have h3 : L.Pairwise fun a b => a.rank ≠ b.rank := by
    have := hn2
    unfold List.Nodup at this
    rwa [List.pairwise_map] at this
  exact (hs.and h3).imp fun h => by omega
theorem filter_ranks {l : List RowD} {p : RowD → Bool} (h : (l.map RowD.rank).Nodup) : ((l.filter p).map RowD.rank).Nodup := h.sublist (List.filter_sublist.map _)
theorem okHeap_rows {l : List LeafD} (h : OkHeap l) {p : RowD → Bool} : ((rowsL l).filter p).length ≤ 100000 := by
  have h1 := rowsL_le fun d hd => (h.2.2.1 d hd).1.2.1
  have h2 := List.length_filter_le p (rowsL l)
  have h3 := h.2.1
  omega
theorem Gath.nil (w : World) : Gath w.heap.size [] (w.alloc (.cells #[.slice none 0 0] 22)) := ⟨_, heap_alloc_new w _, [], World.ownsRow_nil _ _ _ _, rfl⟩

/-- The keys of leaves' rows are numbers' bits. -/
def Keyed2 (l : List LeafD) : Prop := ∀ d ∈ rowsL l, d.key < 18446744073709551616 ∧ d.cols.length ≤ maxLen
theorem decL_cols {s : List Nat} {d : RowD} (hb : ∀ x ∈ s, x < 256) (h : decL s = some d) : d.key < 18446744073709551616 ∧ d.cols.length ≤ maxLen := by
  unfold decL at h
  split at h
  · split at h
    · rename_i r hr
      split at h
      · injection h with h
        subst h
        refine ⟨rowDec_key (fun x hx => hb x (List.mem_of_mem_take hx)) hr, ?_⟩
        unfold rowDec at hr
        cases ho : takeAll (s.take (lenAt s)) headK 0 with
        | none => rw [ho] at hr; cases hr
        | some q =>
          obtain ⟨l, a⟩ := q
          obtain ⟨_, _, hx, i0, i1, i2, i3, i4, i5, rfl⟩ := headK_end (fun x hx => hb x (List.mem_of_mem_take hx)) ho
          rw [ho] at hr
          simp only [rowDec2] at hr
          split at hr
          · rename_i h45
            split at hr
            · rename_i c m ht
              split at hr
              · injection hr with hr
                rw [← hr]
                show (c.map (·.x)).length ≤ maxLen
                rw [List.length_map, takeAll_len ht, List.length_replicate]
                unfold maxLen
                omega
              · cases hr
            · cases hr
          · cases hr
      · cases h
    · cases h
  · cases h
theorem LC.keyed {w : World} {B : Nat} {A : Option Addr} {l : List LeafD} (h : LC w B A l) : Keyed2 l := by
  intro d hd
  unfold rowsL at hd
  obtain ⟨x, hx, hd⟩ := List.mem_flatMap.1 hd
  unfold rowsS at hd
  obtain ⟨s, hs, hd⟩ := List.mem_filterMap.1 hd
  obtain ⟨i, hi⟩ := List.mem_iff_getElem?.1 hx
  obtain ⟨k, hk⟩ := List.mem_iff_getElem?.1 hs
  obtain ⟨_, _, _, _, _, _, _, _, _, _, _, hsc, _⟩ := h.at_ hi
  obtain ⟨_, _, _, _, _, _, _, hbc, _⟩ := hsc.at_ hk
  exact decL_cols hbc.1 hd

theorem rows_sort {w w3 : World} {r nv lo hi : Nat} {Av : Option Addr} {cv : Nat} {l : List LeafD} (ho : nv = ((rowsL l).filter fun d => betw d.key lo hi).length ∧ Own w3 (r + 1) (.slice Av nv cv) ((rowsL l).filter fun d => betw d.key lo hi)) (hv : w3.heap[r]? = some (.cells #[.slice Av nv cv] 22 (0, 0))) (hb : Below w.heap.size w w3) (hs : r < w3.heap.size) (hwr : w.heap.size ≤ r) (hok : OkHeap l) (hk : Keyed2 l) :
    Calls Tryz.prog 49 #[.slice Av nv cv, .func (.func 50) #[] #[]] w3 fun e w' => e = .returned (.tuple #[]) ∧ w'.cell? ⟨r, 0, none⟩ = some (.slice Av nv cv) ∧ Hid (RowsOut w l lo hi (.returned (.slice Av nv cv)) w') := by
  obtain ⟨hnv, hown⟩ := ho
  obtain ⟨_, _, _, _, _, hnb⟩ := hown.form
  refine (sortown_any hown (fun d hd => hk d (List.mem_filter.1 hd).1) (okHeap_rows hok)).mono fun e w' hh => ?_
  obtain ⟨he, hg, L, hp, hs2, A, c, hvv, hrc, hA, hle⟩ := hh
  injection hvv with e1 e2 e3
  subst e1 e3
  have hbx := (hg.block r hs (fun e => by have := (hnb r e.symm).1; omega)).trans hv
  have hc := cell_of_row _ r 0 _ _ _ hbx
  refine ⟨he, by simpa using hc, ?_, L, ⟨fun _ => ⟨hp, strict_of hp (filter_ranks hok.2.2.2) hs2⟩, fun h => absurd hok h⟩, Av, cv, ?_, hrc, hA, ?_⟩
  · exact hb.grown hg (Nat.le_trans hwr (Nat.le_of_lt hs)) fun g hg => by have := (hnb g hg).1; omega
  · rw [hp.length_eq, hnv]
  · rw [hp.length_eq]; exact hle

set_option maxHeartbeats 4000000 in
set_option maxRecDepth 100000 in
theorem rows_any (A : Option Addr) (c lo hi : Nat) (l : List LeafD) (w : World) (h : LC w w.heap.size A l) (m : l.length ≤ maxLen) (bl : lo < 18446744073709551616) (bh : hi < 18446744073709551616) :
    Calls Tryz.prog 15 #[.slice A l.length c, .float .f64 lo, .float .f64 hi] w (RowsOut w l lo hi) := by
  have hb0 : Below w.heap.size w ((w.alloc (.cells #[.float .f64 lo] 25)).alloc (.cells #[.float .f64 hi] 25)) := ((Below.refl _ _).alloc (Nat.le_refl _) _).alloc (by simp) _
  have ck := check_any A c l ((w.alloc (.cells #[.float .f64 lo] 25)).alloc (.cells #[.float .f64 hi] 25)) ((h.below hb0).more hb0.size) m
  obtain ⟨n, hn⟩ : ∃ n, l.length = n := ⟨_, rfl⟩
  rw [hn] at ck ⊢
  have hmf : ∀ (fn : Fn) (first cap : Array Value) (w : World), (Instr.makeFunc fn first cap).run Tryz.prog w = .ok (.func fn first cap) w := fun _ _ _ _ => rfl
  have HB0 := Lib.hid hb0
  cases hok : okHeapB l with
  | false =>
    rw [hok] at ck
    have CK := Lib.hid (ck.mono fun e w' hh => (⟨hh.1, hb0.trans (hh.2.mono hb0.size)⟩ : _ ∧ Below w.heap.size w w'))
    have NO : Hid (¬ OkHeap l) := fun h => by rw [show okHeapB l = true from chk_true h] at hok; cases hok
    clear ck hok h m hn bl bh hb0
    go_enter Tryz.func15, Tryz.ntmps15
    go_wp2_with (go_at_call 19; (with_reducible refine CK.out.mono ?_); rintro e w1 ⟨rfl, hb1⟩)
    go_ret
    exact ⟨hb1, [], ⟨fun h => absurd h NO.out, fun _ => rfl⟩, none, 0, rfl, ⟨by simp, by simp⟩, fun _ => rfl, Nat.le_refl _⟩
  | true =>
    rw [hok] at ck
    have hoh : OkHeap l := chk_iff.1 hok
    have HOH := Lib.hid hoh
    have HKE := Lib.hid h.keyed
    have hsz : ((w.alloc (.cells #[.float .f64 lo] 25)).alloc (.cells #[.float .f64 hi] 25)).heap.size = w.heap.size + 1 + 1 := by simp
    have CK : Hid (Calls Tryz.prog 19 #[.slice A n c] ((w.alloc (.cells #[.float .f64 lo] 25)).alloc (.cells #[.float .f64 hi] 25)) fun e w' => e = .returned (.int .i64 0) ∧ Below w.heap.size w w' ∧ Hid (w.heap.size + 1 < w'.heap.size) ∧ w'.cell? ⟨w.heap.size, 0, none⟩ = some (.float .f64 lo) ∧ w'.cell? ⟨w.heap.size + 1, 0, none⟩ = some (.float .f64 hi)) := ck.mono fun e w' hh => by
      have s0 := hh.2.size
      rw [hsz] at s0
      refine ⟨hh.1, hb0.trans (hh.2.mono hb0.size), by show w.heap.size + 1 < w'.heap.size; omega, ?_, ?_⟩
      · have k := (hh.2.block w.heap.size (by rw [hsz]; omega)).trans (heap_alloc2_old w (.cells #[.float .f64 lo] 25) (.cells #[.float .f64 hi] 25))
        have := cell_of_row _ _ 0 _ _ _ k
        simpa using this
      · have k := (hh.2.block (w.heap.size + 1) (by rw [hsz]; omega)).trans (two_new w (.cells #[.float .f64 lo] 25) (.cells #[.float .f64 hi] 25))
        have := cell_of_row _ _ 0 _ _ _ k
        simpa using this
    have CA : Hid (∀ w1 : World, Below w.heap.size w w1 → w.heap.size + 1 < w1.heap.size → w1.cell? ⟨w.heap.size, 0, none⟩ = some (.float .f64 lo) → w1.cell? ⟨w.heap.size + 1, 0, none⟩ = some (.float .f64 hi) →
        Calls Tryz.prog 46 #[.slice A n c, .func (.func 47) #[] #[.pointer (some ⟨w.heap.size, 0, none⟩), .pointer (some ⟨w.heap.size + 1, 0, none⟩), .pointer (some ⟨w1.heap.size, 0, none⟩)]] (w1.alloc (.cells #[.slice none 0 0] 22))
          fun e w' => e = .returned (.tuple #[]) ∧ ∃ Av nv cv, w'.heap[w1.heap.size]? = some (.cells #[.slice Av nv cv] 22 (0, 0)) ∧ Hid (nv = ((rowsL l).filter fun d => betw d.key lo hi).length ∧ Own w' (w1.heap.size + 1) (.slice Av nv cv) ((rowsL l).filter fun d => betw d.key lo hi)) ∧ Below w.heap.size w w' ∧ w1.heap.size < w'.heap.size) := fun w1 hb1 hs1 c1 c2 => by
      subst hn
      have hba : Below w1.heap.size w1 (w1.alloc (.cells #[.slice none 0 0] 22)) := (Below.refl _ _).alloc (Nat.le_refl _) _
      refine (allrows_any A c w.heap.size (w.heap.size + 1) w1.heap.size lo hi w.heap.size l (w1.alloc (.cells #[.slice none 0 0] 22)) ((h.below hb1).below (hba.mono hb1.size)) hb1.size (by omega) hs1 (cell_on c1 _) (cell_on c2 _) (Gath.nil w1) hoh.2.1 (fun d hd => ⟨(hoh.2.2.1 d hd).1.2.1, (hoh.2.2.1 d hd).1.2.2.2.2.1⟩) bl bh).mono fun e w' hh => ?_
      obtain ⟨v, hv, hown⟩ := hh.2.1.is
      obtain ⟨Av, cv, rfl, _⟩ := hown.form
      refine ⟨hh.1, Av, _, cv, hv, ⟨rfl, hown⟩, ?_, hh.2.1.lt⟩
      exact hb1.trans ((hba.trans (hh.2.2.mono (Nat.le_refl _))).mono hb1.size)
    clear ck hok h m hn bl bh hb0 hsz hoh
    go_enter Tryz.func15, Tryz.ntmps15
    go_wp2_with (first
      | (go_at_call 19; (with_reducible refine CK.out.mono ?_); rintro e w1 ⟨rfl, hb1, hs1, c1, c2⟩; have HB1 := Lib.hid hb1; clear hb1)
      | (go_at_call 46; (with_reducible refine (CA.out _ HB1.out hs1.out c1 c2).mono ?_); rintro e w3 ⟨rfl, Av, nv, cv, hv, hown, hb3, hs3⟩; have ro := cell_of_row _ _ 0 _ _ _ hv; simp only [List.getElem?_toArray, List.getElem?_cons_zero] at ro; have HV := Lib.hid hv; have HB3 := Lib.hid hb3; have HS3 := Lib.hid hs3; clear hv hb3 hs3)
      | (go_at_call 49; (with_reducible refine (rows_sort hown.out HV.out HB3.out HS3.out HB1.out.size HOH.out HKE.out).mono ?_); rintro e w4 ⟨rfl, ro4, hout⟩))
    go_ret
    exact hout.out
end Go.Proofs.YtdbnlngkmfmnnaaGreatDoor

/- humusref08.Need, humusref08.May. -/
namespace Go.Proofs.YtdbnlngkmfmnnaaGreatDoor
open Go.RowKit

theorem needS_le2 (l : List (List Nat)) (M : Nat) (h : ∀ s ∈ l, s.length ≤ M) : needS l ≤ 18 + (M + 1) * l.length := by
  unfold needS
  induction l with
  | nil => simp
  | cons s l ih =>
    have h1 := h s List.mem_cons_self
    have h2 := ih fun x hx => h x (List.mem_cons_of_mem _ hx)
    rw [List.map_cons, List.sum_cons, List.length_cons, Nat.mul_add]
    omega

set_option maxHeartbeats 2000000 in
theorem rneed_any (A1 A2 : Option Addr) (n1 c1 c2 B : Nat) (l : List (List Nat)) (w : World) (hB : B ≤ w.heap.size) (h : SC w B A2 l) (m : l.length ≤ 1000) (hs : ∀ s ∈ l, s.length ≤ 1000) :
    Calls Tryz.prog 85 #[.agg #[.slice A1 n1 c1, .slice A2 l.length c2]] w fun e w' => e = .returned (.int .i64 (needS l : Nat)) ∧ Below w.heap.size w w' := by
  have h' := h.below ((Below.refl B w).alloc hB (.cells #[.slice A1 n1 c1, .slice A2 l.length c2] 66))
  obtain ⟨n, hn⟩ : ∃ n, l.length = n := ⟨_, rfl⟩
  rw [hn] at m h' ⊢
  have H := Lib.hid h'
  have N := Lib.hid hn
  have HS := Lib.hid hs
  obtain ⟨R, hR⟩ : ∃ R, needS l = R := ⟨_, rfl⟩
  rw [hR]
  have HR := Lib.hid hR
  clear hR h h' hn hs
  go_enter Tryz.func85, Tryz.ntmps85
  go_wp2
  go_loopw [4, 3] (fun i u wr => ∃ j : Nat, j ≤ n ∧ i = .int .i64 j ∧ u = .int .i64 (needS (l.take j) : Nat) ∧ wr = w.alloc (.cells #[.slice A1 n1 c1, .slice A2 n c2] 66)) (fun i _ _ => n - (intOf i).toNat)
  case atStart => exact ⟨0, Nat.zero_le _, rfl, rfl, rfl⟩
  case round =>
    obtain ⟨j, hj, rfl, rfl, rfl⟩ := hrel
    by_cases hlt : j < n
    · obtain ⟨x, hx⟩ := get_at' N hlt
      obtain ⟨b, off, A', c', e, _, hc0, _⟩ := H.out.at_ hx
      subst e
      have hx255 := HS.out x (List.mem_of_getElem? hx)
      have HE : Hid (needS (l.take (j + 1)) = needS (l.take j) + (1 + x.length)) := by rw [take_at' hx, needS_snoc]; exact rfl
      have hq := needS_le2 (l.take j) 1000 fun s hs => HS.out s (List.mem_of_mem_take hs)
      have hq2 : needS (l.take j) ≤ 18 + 1001 * 1000 := by rw [List.length_take] at hq; omega
      obtain ⟨q, hqq⟩ : ∃ q, needS (l.take j) = q := ⟨_, rfl⟩
      rw [hqq] at HE hq2 ⊢
      clear hx hq hqq
      obtain ⟨y, hy⟩ : ∃ y, x.length = y := ⟨_, rfl⟩
      rw [hy] at hc0 hx255 HE
      clear hy
      go_wp2
      exact ⟨⟨j + 1, by omega, by go_num, by rw [HE.out]; go_num, trivial⟩, by simp [intOf]; omega⟩
    · have hjn : j = n := by omega
      subst hjn
      have HJ := Lib.hid (show needS (l.take j) = R by rw [List.take_of_length_le (by have := N.out; omega)]; exact HR.out)
      rw [HJ.out]
      go_wp2
      go_ret
      exact ⟨rfl, (Below.refl _ _).alloc (Nat.le_refl _) _⟩

/-- The world within May's loops. -/
structure MB (w : World) (o : Obj) (W : World) : Prop where
  below : Below w.heap.size w W
  box : W.heap[w.heap.size]? = some o
theorem MB.drew {w : World} {o : Obj} {W : World} (h : MB w o W) : MB w o W.drew := ⟨h.below.drew, h.box⟩
theorem MB.two {w W : World} {v0 v1 : Value} {t : TypeId} (h : MB w (.cells #[v0, v1] t (0, 0)) W) : W.cell? ⟨w.heap.size, 0, none⟩ = some v0 ∧ W.cell? ⟨w.heap.size, 1, none⟩ = some v1 := by
  constructor
  · rw [cell_of_row _ _ 0 _ _ _ h.box]; rfl
  · rw [cell_of_row _ _ 1 _ _ _ h.box]; rfl

theorem itl_no {d : LeafD} {i k : Nat} {x y : Int} (hi : d.itl[i]? = some x) (hk : d.itl[k]? = some y) (hlt : k < i) (h : 0 < x) (he : y = x) : ¬ OkLeaf d := fun hok =>
  (hok.2.2.2.1 i x hi).2.2 h y (List.mem_of_getElem? (show (d.itl.take i)[k]? = some y by rw [List.getElem?_take, if_pos hlt]; exact hk)) he

theorem step_ne {l : List Int} {k : Nat} {x y : Int} (h : 0 < x → ∀ z ∈ l.take k, z ≠ x) (hy : l[k]? = some y) (hne : 0 < x → y ≠ x) : 0 < x → ∀ z ∈ l.take (k + 1), z ≠ x := by
  intro hp z hz
  rw [take_at' hy] at hz
  rcases List.mem_append.1 hz with hz | hz
  · exact h hp z hz
  · rw [List.mem_singleton.1 hz]; exact hne hp

theorem slots_ok {d : LeafD} {n2 : Nat} (hn : d.slots.length = n2) (h : ∀ i, i < n2 → ∀ s, d.slots[i]? = some s → s.length ≤ 255 ∧ (i + 1 = n2 → s.length ≠ 0)) : (∀ s, d.slots.getLast? = some s → s.length ≠ 0) ∧ ∀ s ∈ d.slots, s.length ≤ 255 := by
  constructor
  · intro s hs
    rw [List.getLast?_eq_getElem?, hn] at hs
    have := (List.getElem?_eq_some_iff.1 hs).1
    exact (h (n2 - 1) (by omega) s hs).2 (by omega)
  · intro s hs
    obtain ⟨i, hi⟩ := List.mem_iff_getElem?.1 hs
    have := (List.getElem?_eq_some_iff.1 hi).1
    exact (h i (by omega) s hi).1

set_option maxHeartbeats 4000000 in
set_option maxRecDepth 100000 in
theorem rmay08_any (d : LeafD) (A1 A2 : Option Addr) (c1 c2 : Nat) (w : World) (h1 : ZC w w.heap.size A1 d.itl) (h2 : SC w w.heap.size A2 d.slots) (m1 : d.itl.length ≤ maxLen) (m2 : d.slots.length ≤ maxLen) :
    Calls Tryz.prog 42 #[.agg (d.cells A1 c1 A2 c2)] w fun e w' => e = .returned (.bool (okLeafB d)) ∧ Below w.heap.size w w' := by
  obtain ⟨n1, hn1⟩ : ∃ n, d.itl.length = n := ⟨_, rfl⟩
  obtain ⟨n2, hn2⟩ : ∃ n, d.slots.length = n := ⟨_, rfl⟩
  unfold LeafD.cells
  unfold maxLen at m1 m2
  rw [hn1] at m1 ⊢
  rw [hn2] at m2 ⊢
  obtain ⟨R, hR⟩ : ∃ R, okLeafB d = R := ⟨_, rfl⟩
  rw [hR]
  have HR := Lib.hid hR
  have NO : Hid (¬ OkLeaf d → R = false) := fun h => by rw [← hR]; exact okLeafB_false h
  have hb0 : Below w.heap.size w (w.alloc (.cells #[.slice A1 n1 c1, .slice A2 n2 c2] 66)) := (Below.refl w.heap.size w).alloc (Nat.le_refl _) _
  have MB0 : Hid (MB w (.cells #[.slice A1 n1 c1, .slice A2 n2 c2] 66 (0, 0)) (w.alloc (.cells #[.slice A1 n1 c1, .slice A2 n2 c2] 66))) := ⟨hb0, heap_alloc_new _ _⟩
  have N1 := Lib.hid hn1
  have N2 := Lib.hid hn2
  have H1 := Lib.hid h1
  have H2 := Lib.hid h2
  have CN := Lib.hid (fun (W : World) (hb : Below w.heap.size w W) (h64 : n2 ≤ 64) (hs : ∀ s ∈ d.slots, s.length ≤ 255) => (rneed_any A1 A2 n1 c1 c2 w.heap.size d.slots W hb.size (h2.below hb) (by omega) (fun s hx => by have := hs s hx; omega)))
  clear h1 h2 hR hn1 hn2 hb0
  by_cases e1 : n1 = 4
  · subst e1
    by_cases e2 : 64 < n2
    · have e2' : decide ((64 : Int) < (n2 : Int)) = true := by simp; omega
      have hR := NO.out fun h => by have := h.2.1; rw [N2.out] at this; omega
      subst hR
      go_enter Tryz.func42, Tryz.ntmps42
      go_wp2
      go_ret
      exact ⟨rfl, MB0.out.below⟩
    · have e2' : decide ((64 : Int) < (n2 : Int)) = false := by simp; omega
      go_enter Tryz.func42, Tryz.ntmps42
      go_wp2
      go_loopw [3] (fun i wr => ∃ j : Nat, j ≤ 4 ∧ i = .int .i64 j ∧ (∀ i, i < j → ∀ x, d.itl[i]? = some x → 0 ≤ x ∧ x ≤ 2147483647 ∧ (0 < x → ∀ y ∈ d.itl.take i, y ≠ x)) ∧ MB w (.cells #[.slice A1 4 c1, .slice A2 n2 c2] 66 (0, 0)) wr) (fun i _ => 4 - (intOf i).toNat)
      case atStart => exact ⟨0, Nat.zero_le _, rfl, fun i hi => absurd hi (Nat.not_lt_zero _), MB0.out⟩
      case round =>
        obtain ⟨j, hj, rfl, ht, hmb⟩ := hrel
        have HT := Lib.hid ht
        obtain ⟨q0, q1⟩ := hmb.two
        have HMB := Lib.hid hmb
        clear ht hmb
        by_cases hlt : j < 4
        · obtain ⟨x, hx⟩ := get_at' N1 hlt
          obtain ⟨b, off, e, hbB, hc0⟩ := (H1.out.below HMB.out.below).at_ hx
          subst e
          have HX := Lib.hid hx
          have HbB := Lib.hid hbB
          clear hx hbB
          by_cases x1 : x < 0
          · have hR := NO.out (fun h => by have := h.2.2.2.1 j x HX.out; omega)
            subst hR
            go_wp2
            go_ret
            exact ⟨rfl, HMB.out.below⟩
          · by_cases x2 : 2147483647 < x
            · have hR := NO.out (fun h => by have := h.2.2.2.1 j x HX.out; omega)
              subst hR
              go_wp2
              go_ret
              exact ⟨rfl, HMB.out.below⟩
            · go_wp2
              rename World => wo
              go_loopw [4] (fun i wr => ∃ k : Nat, k ≤ j ∧ i = .int .i64 k ∧ (0 < x → ∀ z ∈ d.itl.take k, z ≠ x) ∧ MB w (.cells #[.slice (some ⟨b, off, none⟩) 4 c1, .slice A2 n2 c2] 66 (0, 0)) wr) (fun i _ => j - (intOf i).toNat)
              case atStart => exact ⟨0, Nat.zero_le _, rfl, by simp, HMB.out⟩
              case round =>
                obtain ⟨k, hk, rfl, hu, hmb⟩ := hrel
                have HU := Lib.hid hu
                clear q0 q1 hc0
                obtain ⟨q0, q1⟩ := hmb.two
                have HMK := Lib.hid hmb
                clear hu hmb
                by_cases hkj : k < j
                · obtain ⟨y, hy⟩ := get_at' N1 (show k < 4 by omega)
                  obtain ⟨b', off', e, _, hc1⟩ := (H1.out.below HMK.out.below).at_ hy
                  obtain ⟨b'', off'', e', _, hc0⟩ := (H1.out.below HMK.out.below).at_ HX.out
                  injection e with e; injection e with e3 e4
                  injection e' with e'; injection e' with e5 e6
                  subst e3 e4 e5 e6
                  have HY := Lib.hid hy
                  have HYP := Lib.hid (HT.out k hkj y HY.out).1
                  have hk4 : (k : Int) < 4 := by omega
                  have hj4 : (j : Int) < 4 := by omega
                  clear hy
                  by_cases y0 : y = 0
                  · have y0' : decide (y = 0) = true := decide_eq_true y0
                    subst y0
                    go_wp2
                    go_region
                    go_wp2
                    exact ⟨⟨k + 1, by omega, by go_num, step_ne HU.out HY.out (fun h e => by omega), HMK.out.drew⟩, by simp [intOf]; omega⟩
                  · have yn : (y != 0) = true := by simpa using y0
                    have Y0 := Lib.hid y0
                    clear y0
                    by_cases yx : y = x
                    · have hR := NO.out (itl_no HX.out HY.out hkj (by have := HYP.out; have := Y0.out; omega) yx)
                      subst hR
                      subst yx
                      have yy : (y == y) = true := by simp
                      go_wp2
                      go_region
                      go_wp2
                      go_ret
                      exact ⟨rfl, HMK.out.below.drew⟩
                    · have yx' : (y == x) = false := by simpa using yx
                      have YX := Lib.hid yx
                      clear yx
                      go_wp2
                      go_region
                      go_wp2
                      exact ⟨⟨k + 1, by omega, by go_num, step_ne HU.out HY.out (fun _ => YX.out), HMK.out.drew⟩, by simp [intOf]; omega⟩
                · have hkj : k = j := by omega
                  subst hkj
                  go_wp2
                  refine ⟨⟨k + 1, by omega, by go_num, itl_step HT.out HX.out ⟨by omega, by omega, HU.out⟩, HMK.out⟩, by simp [intOf]; omega⟩
        · have hj4 : j = 4 := by omega
          subst hj4
          go_wp2
          rename World => wo
          go_loopw [5] (fun i wr => ∃ k : Nat, k ≤ n2 ∧ i = .int .i64 k ∧ (∀ i, i < k → ∀ s, d.slots[i]? = some s → s.length ≤ 255 ∧ (i + 1 = n2 → s.length ≠ 0)) ∧ MB w (.cells #[.slice A1 4 c1, .slice A2 n2 c2] 66 (0, 0)) wr) (fun i _ => n2 - (intOf i).toNat)
          case atStart => exact ⟨0, Nat.zero_le _, rfl, fun i hi => absurd hi (Nat.not_lt_zero _), HMB.out⟩
          case round =>
            obtain ⟨k, hk, rfl, hu, hmb⟩ := hrel
            have HU := Lib.hid hu
            clear q0 q1
            obtain ⟨q0, q1⟩ := hmb.two
            have HMK := Lib.hid hmb
            clear hu hmb
            by_cases hkn : k < n2
            · obtain ⟨s, hs⟩ := get_at' N2 hkn
              obtain ⟨b, off, A', c', e, _, hc0, _⟩ := (H2.out.below HMK.out.below).at_ hs
              subst e
              have HS := Lib.hid hs
              obtain ⟨y, hy⟩ : ∃ y, s.length = y := ⟨_, rfl⟩
              have HY := Lib.hid hy
              rw [hy] at hc0
              clear hs hy
              by_cases y1 : 255 < y
              · have y1' : decide ((255 : Int) < (y : Int)) = true := by simp; omega
                have hR := NO.out (fun h => by have := h.2.2.2.2.1 s (List.mem_of_getElem? HS.out); rw [HY.out] at this; omega)
                subst hR
                go_wp2
                go_ret
                exact ⟨rfl, HMK.out.below⟩
              · have y1' : decide ((255 : Int) < (y : Int)) = false := by simp; omega
                by_cases kn : k + 1 = n2
                · have kn' : ((k : Int) == (n2 : Int) - 1) = true := by simp; omega
                  have kn'' : decide ((k : Int) = (n2 : Int) - 1) = true := by simp; omega
                  by_cases y0 : y = 0
                  · have hR := NO.out (fun h => h.2.2.1 s (last_at N2.out (by rw [show n2 - 1 = k by omega]; exact HS.out)) (by rw [HY.out]; exact y0))
                    subst hR
                    subst y0
                    go_wp2
                    go_ret
                    exact ⟨rfl, HMK.out.below⟩
                  · have y0' : ¬ (y : Int) = 0 := by omega
                    go_wp2
                    exact ⟨⟨k + 1, by omega, by go_num, fun i hi s' hs' => by
                      rcases Nat.lt_or_eq_of_le (Nat.le_of_lt_succ hi) with h3 | rfl
                      · exact HU.out i h3 s' hs'
                      · rw [HS.out] at hs'; injection hs' with hs'; rw [← hs', HY.out]; exact ⟨by omega, fun _ => y0⟩, HMK.out⟩, by simp [intOf]; omega⟩
                · have kn' : ((k : Int) == (n2 : Int) - 1) = false := by simp; omega
                  have kn'' : decide ((k : Int) = (n2 : Int) - 1) = false := by simp; omega
                  go_wp2
                  exact ⟨⟨k + 1, by omega, by go_num, fun i hi s' hs' => by
                      rcases Nat.lt_or_eq_of_le (Nat.le_of_lt_succ hi) with h3 | rfl
                      · exact HU.out i h3 s' hs'
                      · rw [HS.out] at hs'; injection hs' with hs'; rw [← hs', HY.out]; exact ⟨by omega, fun h => absurd h kn⟩, HMK.out⟩, by simp [intOf]; omega⟩
            · have hkn : k = n2 := by omega
              subst hkn
              obtain ⟨f1, f2⟩ := slots_ok N2.out HU.out
              have F1 := Lib.hid f1
              have F2 := Lib.hid f2
              have cn := CN.out _ HMK.out.below (by omega) f2
              rw [N2.out] at cn
              obtain ⟨q, hqq⟩ : ∃ q, needS d.slots = q := ⟨_, rfl⟩
              rw [hqq] at cn
              have CQ := Lib.hid cn
              have HQ := Lib.hid hqq
              clear cn hqq f1 f2
              by_cases x1 : q ≤ 508
              · have x1' : decide ((q : Int) ≤ 508) = true := by simp; omega
                have hR : R = true := by
                  rw [← HR.out]
                  exact okLeafB_true ⟨N1.out, by rw [N2.out]; omega, F1.out, fun i x hx => HT.out i (by have := (List.getElem?_eq_some_iff.1 hx).1; rw [N1.out] at this; exact this) x hx, F2.out, by rw [HQ.out]; exact x1⟩
                subst hR
                go_wp2_with (go_at_call 85; (with_reducible refine CQ.out.mono ?_); rintro e w' ⟨rfl, hb⟩)
                go_ret
                exact ⟨rfl, HMK.out.below.trans (hb.mono HMK.out.below.size)⟩
              · have x1' : decide ((q : Int) ≤ 508) = false := by simp; omega
                have hR := NO.out (fun h => by have := h.2.2.2.2.2; rw [HQ.out] at this; exact x1 this)
                subst hR
                go_wp2_with (go_at_call 85; (with_reducible refine CQ.out.mono ?_); rintro e w' ⟨rfl, hb⟩)
                go_ret
                exact ⟨rfl, HMK.out.below.trans (hb.mono HMK.out.below.size)⟩
  · have e1' : ¬ (n1 : Int) = 4 := by omega
    have hR := NO.out fun h => by have := h.1; rw [N1.out] at this; exact e1 this
    subst hR
    go_enter Tryz.func42, Tryz.ntmps42
    go_wp2
    go_ret
    exact ⟨rfl, MB0.out.below⟩
end Go.Proofs.YtdbnlngkmfmnnaaGreatDoor
