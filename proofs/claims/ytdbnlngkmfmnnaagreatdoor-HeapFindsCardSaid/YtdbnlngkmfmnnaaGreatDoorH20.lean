/- humusref15.Rows. -/
import Derived.Test.YtdbnlngkmfmnnaaGreatDoorH19
namespace Go.Proofs.YtdbnlngkmfmnnaaGreatDoor
open Go.RowKit

/-- What the document's Rows answers. -/
def RowsR (w : World) (L : List RowD) (e : Ending) (w' : World) : Prop := Below w.heap.size w w' ∧ ∃ A c, e = .returned (.slice A L.length c) ∧ RC w' w'.heap.size A L

/-- The rows so far, as they lie. -/
def OutI (out : List RowD) (v : Value) (W : World) : Prop := ∃ b off c, v = .slice (some ⟨b, off, none⟩) out.length c ∧ RC W W.heap.size (some ⟨b, off, none⟩) out ∧ out.length ≤ c

/-- Where row r belongs. -/
def place (out : List RowD) (r : RowD) : Nat := out.findIdx fun d => !decide (d.rank < r.rank)

theorem place_lt {out : List RowD} {r d : RowD} {k a : Nat} (h : place out r = a) (hk : k < a) (hd : out[k]? = some d) : d.rank < r.rank := by
  unfold place at h
  have := List.not_of_lt_findIdx (p := fun d : RowD => !decide (d.rank < r.rank)) (xs := out) (i := k) (by rw [h]; exact hk)
  rw [(List.getElem?_eq_some_iff.1 hd).2] at this
  simpa using this
theorem place_ge {out : List RowD} {r d : RowD} {a : Nat} (h : place out r = a) (hd : out[a]? = some d) : ¬ d.rank < r.rank := by
  unfold place at h
  have hlt := (List.getElem?_eq_some_iff.1 hd).1
  have := List.findIdx_getElem (p := fun d : RowD => !decide (d.rank < r.rank)) (xs := out) (w := by rw [h]; exact hlt)
  simp only [h] at this
  rw [(List.getElem?_eq_some_iff.1 hd).2] at this
  simpa using this

theorem row_six {wr W : World} {b j : Nat} {v0 v1 v2 v3 v4 v5 : Value} (hbl : b < wr.heap.size) (hb : Below wr.heap.size wr W) (h : wr.cell? ⟨b, j * 6, none⟩ = some v0 ∧ wr.cell? ⟨b, j * 6 + 1, none⟩ = some v1 ∧ wr.cell? ⟨b, j * 6 + 2, none⟩ = some v2 ∧ wr.cell? ⟨b, j * 6 + 3, none⟩ = some v3 ∧ wr.cell? ⟨b, j * 6 + 4, none⟩ = some v4 ∧ wr.cell? ⟨b, j * 6 + 5, none⟩ = some v5) :
    W.cell? ⟨b, j * 6, none⟩ = some v0 ∧ W.cell? ⟨b, j * 6 + 1, none⟩ = some v1 ∧ W.cell? ⟨b, j * 6 + 2, none⟩ = some v2 ∧ W.cell? ⟨b, j * 6 + 3, none⟩ = some v3 ∧ W.cell? ⟨b, j * 6 + 4, none⟩ = some v4 ∧ W.cell? ⟨b, j * 6 + 5, none⟩ = some v5 :=
  ⟨(hb.cell (p := ⟨b, j * 6, none⟩) hbl).trans h.1, (hb.cell (p := ⟨b, j * 6 + 1, none⟩) hbl).trans h.2.1, (hb.cell (p := ⟨b, j * 6 + 2, none⟩) hbl).trans h.2.2.1, (hb.cell (p := ⟨b, j * 6 + 3, none⟩) hbl).trans h.2.2.2.1, (hb.cell (p := ⟨b, j * 6 + 4, none⟩) hbl).trans h.2.2.2.2.1, (hb.cell (p := ⟨b, j * 6 + 5, none⟩) hbl).trans h.2.2.2.2.2⟩
theorem RC.take {w : World} {B : Nat} {A : Option Addr} {l : List RowD} (h : RC w B A l) (k : Nat) : RC w B A (l.take k) :=
  ⟨fun d hd => h.1 d (List.mem_of_mem_take hd), fun hl => by
    obtain ⟨b, off, e, hB, hc⟩ := h.2 (by rw [List.length_take] at hl; omega)
    refine ⟨b, off, e, hB, fun i d hd => hc i d ?_⟩
    rw [List.getElem?_take] at hd
    split at hd
    · exact hd
    · cases hd⟩
theorem RC.drop {w : World} {B b off : Nat} {l : List RowD} (h : RC w B (some ⟨b, off, none⟩) l) (k : Nat) : RC w B (some ⟨b, off + k * 6, none⟩) (l.drop k) :=
  ⟨fun d hd => h.1 d (List.mem_of_mem_drop hd), fun hl => by
    obtain ⟨b', off', e, hB, hc⟩ := h.2 (by rw [List.length_drop] at hl; omega)
    injection e with e; injection e with e1 e2
    subst e1 e2
    refine ⟨b, off + k * 6, rfl, hB, fun i d hd => ?_⟩
    rw [List.getElem?_drop] at hd
    obtain ⟨A', c', h1, h2, h3, h4⟩ := hc (k + i) d hd
    refine ⟨A', c', h1, h2, h3, fun j v hv => ?_⟩
    rw [show off + k * 6 + i * 6 + j = off + (k + i) * 6 + j by omega]
    exact h4 j v hv⟩
theorem rc_take {wr W : World} {A : Option Addr} {out : List RowD} (h : RC wr wr.heap.size A out) (hb : Below wr.heap.size wr W) (k : Nat) : RC W wr.heap.size A (out.take k) := (h.below hb).take k
theorem step_append_run {ops : Array Oper} {o : Oper} {a : Act} {K : Act → World → Prop} {Q : Exit → Act → World → Prop} {E : Prop} {W W' : World} {v x r : Value} (hgd : o.guard = none) (s y : Operand)
    (ho : o.op = .call { callee := .builtin .append, args := #[s, y], argTypes := #[22, 22] } ∧ o.type = 22) (hs : a.eval s = v) (hx : a.eval y = x) (hr : (Builtin.append_ #[22, 22] 22 #[v, x]).run Tryz.prog W = .ok r W') (h : K (a.put o.dst r) W') :
    if Region.wanted o (yielded ops a.tmps) = true then Oper.wp Tryz.prog o a W K Q else E := by
  have hw : Region.wanted o (yielded ops a.tmps) = true := by simp [Region.wanted, hgd]
  rw [if_pos hw]
  unfold Oper.wp execOp
  simp only [ho.1, ho.2, resolve, invoke, builtin, Sem.run_bind, Sem.run_pure, Result.andThen_ok, List.map_toArray, List.map_cons, List.map_nil, hs, hx, hr]
  exact h
theorem app_second {wr W : World} {g c4 k q n1 base : Nat} {A4 A' : Option Addr} {c' : Nat} {out : List RowD} {d : RowD} (hown : Own W base (.slice A4 k c4) (out.take k)) (hBb : wr.heap.size ≤ base) (hbase : base ≤ W.heap.size) (hq : out.length = q) (hk : k ≤ q) (hq1 : q ≤ 90000) (hb : Below wr.heap.size wr W) (hg : W.heap[g]? = some (.cells #[.float .f64 d.key, .bool d.dead, .slice A' d.cols.length c', .int .i64 d.wr, .int .i64 d.rc, .int .i64 d.rn] 30 (0, 0))) (hfc : FC wr n1 A' d.cols) (hl : d.cols.length ≤ c') (hA : A' = none → c' = 0) (hn1 : n1 = wr.heap.size := by rfl) :
    ∃ g2 cap w', (Builtin.append_ #[22, 22] 22 #[.slice A4 k c4, .slice (some ⟨g, 0, none⟩) 1 1]).run Tryz.prog W = .ok (.slice (some ⟨g2, 0, none⟩) (k + 1) cap) w' ∧ Own w' base (.slice (some ⟨g2, 0, none⟩) (k + 1) cap) (out.take k ++ [d]) ∧ Below base W w' := by
  subst hn1
  obtain ⟨_, _, _, _, _, hlt⟩ := hown.form
  obtain ⟨g2, cap, w', h1, h2, h3, _⟩ := run_append_row1 (n := k) 22 hown (by rw [List.length_take]; omega) hbase d A' c' hg (FX.of_FC (hfc.below hb) hb.size fun g hg => Nat.le_trans hBb (hlt g hg).1) hl hA (by omega)
  exact ⟨g2, cap, w', h1, h2, h3⟩
theorem app_third {wr W : World} {g c4 k q bo oo base : Nat} {out : List RowD} {d : RowD} (hown : Own W base (.slice (some ⟨g, 0, none⟩) (k + 1) c4) (out.take k ++ [d])) (hBb : wr.heap.size ≤ base) (hbase : base ≤ W.heap.size) (hq : out.length = q) (hk : k ≤ q) (hq1 : q ≤ 90000) (hb : Below wr.heap.size wr W) (hL : RC wr wr.heap.size (some ⟨bo, oo, none⟩) out) (co : Nat) :
    ∃ A' c' w', (Builtin.append_ #[22, 22] 22 #[.slice (some ⟨g, 0, none⟩) (k + 1) c4, .slice (some ⟨bo, oo + k * 6, none⟩) (q - k) co]).run Tryz.prog W = .ok (.slice A' (k + 1 + (q - k)) c') w' ∧ Own w' base (.slice A' (k + 1 + (q - k)) c') (out.take k ++ [d] ++ out.drop k) ∧ Below base W w' := by
  obtain ⟨A', c', w', h1, h2, h3, _⟩ := run_append_rows2 (n := k + 1) (m := q - k) (c := co) 22 hown (by rw [List.length_append, List.length_take]; simp; omega) hbase ((hL.below hb).drop k) (by rw [List.length_drop]; omega) hBb (by omega) (by omega)
  exact ⟨A', c', w', h1, h2, h3⟩
theorem app_third0 {wr W : World} {g c4 k q bo oo base : Nat} {out : List RowD} {d : RowD} (hown : Own W base (.slice (some ⟨g, 0, none⟩) (k + 1) c4) (out.take k ++ [d])) (hBb : wr.heap.size ≤ base) (hbase : base ≤ W.heap.size) (hq : out.length = q) (hk : k ≤ q) (hq1 : q ≤ 90000) (_hb : Below wr.heap.size wr W) (h0 : q - k = 0) (co : Nat) :
    ∃ A' c' w', (Builtin.append_ #[22, 22] 22 #[.slice (some ⟨g, 0, none⟩) (k + 1) c4, .slice (some ⟨bo, oo, none⟩) 0 co]).run Tryz.prog W = .ok (.slice A' (k + 1) c') w' ∧ Own w' base (.slice A' (k + 1 + (q - k)) c') (out.take k ++ [d] ++ out.drop k) ∧ Below base W w' := by
  have hd : out.drop k = [] := List.drop_eq_nil_of_le (by omega)
  rw [hd, h0]
  obtain ⟨A', c', w', h1, h2, h3, _⟩ := run_append_rows2 (n := k + 1) (m := 0) (c := co) (A := some ⟨bo, oo, none⟩) (L := []) (B := wr.heap.size) 22 hown (by rw [List.length_append, List.length_take]; simp; omega) hbase ⟨by simp, by simp⟩ rfl hBb (by omega) (by omega)
  exact ⟨A', c', w', h1, h2, h3⟩
theorem out_end0 {W : World} {base k q c : Nat} {A : Option Addr} {out : List RowD} {r : RowD} (ho : Own W base (.slice A (k + 1 + (q - k)) c) (out.take k ++ [r] ++ out.drop k)) (h0 : q - k = 0) (h : OutI (insOne out r) (.slice A (k + 1 + (q - k)) c) W) : OutI (insOne out r) (.slice A (k + 1) c) W := by
  rw [h0] at h
  exact h
theorem out_end {W : World} {base k q c : Nat} {A : Option Addr} {out : List RowD} {r : RowD} (ho : Own W base (.slice A (k + 1 + (q - k)) c) (out.take k ++ [r] ++ out.drop k)) (hp : place out r = k) (hq : out.length = q) (hk : k ≤ q) (h1 : ∀ d ∈ out, d.key < 18446744073709551616 ∧ d.cols.length ≤ maxLen) (h2 : r.key < 18446744073709551616 ∧ r.cols.length ≤ maxLen) : OutI (insOne out r) (.slice A (k + 1 + (q - k)) c) W := by
  have hi : insOne out r = out.take k ++ [r] ++ out.drop k := by
    unfold insOne
    unfold place at hp
    rw [hp, List.append_assoc]
    rfl
  obtain ⟨A', c', e, hrc, _, hl⟩ := ho.reads fun d hd => by
    rcases List.mem_append.1 hd with hd | hd
    · rcases List.mem_append.1 hd with hd | hd
      · exact h1 d (List.mem_of_mem_take hd)
      · rw [List.mem_singleton.1 hd]; exact h2
    · exact h1 d (List.mem_of_mem_drop hd)
  injection e with e1 e2 e3
  subst e1 e3
  obtain ⟨b, off, eA, _⟩ := hrc.2 (by rw [← e2]; omega)
  rw [hi]
  subst eA
  exact ⟨b, off, c, by rw [← e2], hrc, hl⟩
theorem own_zero (W : World) : Own (W.alloc (.cells #[] 30)) W.heap.size (.slice (some ⟨W.heap.size, 0, none⟩) 0 0) [] :=
  ⟨[], World.ownsRow_lit (base := W.heap.size) (e := 30) (size := 6) W #[] 0 (Nat.le_refl _) (by unfold maxLen; omega) rfl, rfl⟩
theorem app_first {W : World} {base g B k q : Nat} {A : Option Addr} {out : List RowD} (hown : Own W base (.slice (some ⟨g, 0, none⟩) 0 0) []) (hL : RC W B A (out.take k)) (hq : out.length = q) (hk : k ≤ q) (hq1 : q ≤ 90000) (hbase : base ≤ W.heap.size) (co : Nat) (hB : B ≤ base := by simp) :
    ∃ A' c' w', (Builtin.append_ #[22, 22] 22 #[.slice (some ⟨g, 0, none⟩) 0 0, .slice A k co]).run Tryz.prog W = .ok (.slice A' k c') w' ∧ Own w' base (.slice A' k c') (out.take k) ∧ Below base W w' ∧ W.grownBy w' (Value.slice (some ⟨g, 0, none⟩) 0 0).ownBlock := by
  obtain ⟨A', c', w', h1, h2, h3, h4⟩ := run_append_rows2 (n := 0) (c := co) 22 hown rfl hbase hL (m := k) (by rw [List.length_take]; omega) hB (Nat.zero_le _) (by omega)
  exact ⟨A', c', w', by simpa using h1, by simpa using h2, h3, h4⟩

set_option maxHeartbeats 4000000 in
set_option maxRecDepth 100000 in
theorem rrows15_any (A : Option Addr) (c lo hi : Nat) (l : List LeafD) (w : World) (h : LC w w.heap.size A l) (m : l.length ≤ 90) (hs : ∀ d ∈ l, d.slots.length ≤ 1000 ∧ ∀ s ∈ d.slots, s.length ≤ 1000) (bl : lo < 18446744073709551616) (bh : hi < 18446744073709551616) :
    Calls Tryz.prog 23 #[.slice A l.length c, .float .f64 lo, .float .f64 hi] w (RowsR w (insAll (fun d => betw d.key lo hi) (rowsL l))) := by
  have ca := rall_any A c l w h m hs
  obtain ⟨n, hn⟩ : ∃ n, l.length = n := ⟨_, rfl⟩
  rw [hn] at ca ⊢
  have CA : Hid (Calls Tryz.prog 43 #[.slice A n c] w fun e w' => ∃ A1 k1 Ab cb, e = .returned (.tuple #[.slice A1 (allL l).length k1, .slice Ab (allL l).length cb]) ∧ RowsIn w.heap.size w' A1 Ab (allL l) ∧ Below w.heap.size w w') := ca.mono fun e w' hh => by
    obtain ⟨v, vb, rfl, hp⟩ := hh
    obtain ⟨A1, k1, Ab, cb, e1, e2, h1⟩ := hp.reads
    exact ⟨A1, k1, Ab, cb, by rw [e1, e2], h1, hp.below⟩
  have hlen : (allL l).length ≤ 90000 := by
    have := allL_len (fun d hd => (hs d hd).1) l.length
    rw [List.take_length] at this
    omega
  have hkey : Keyed2 l := h.keyed
  rw [← allL_fst]
  obtain ⟨P, hP⟩ : ∃ P, allL l = P := ⟨_, rfl⟩
  have HKP : Hid (∀ x ∈ P, x.1.key < 18446744073709551616 ∧ x.1.cols.length ≤ maxLen) := fun x hx => hkey x.1 (by rw [← allL_fst, hP]; exact List.mem_map_of_mem hx)
  rw [hP] at CA hlen ⊢
  obtain ⟨p, hp⟩ : ∃ p, p = fun d : RowD => betw d.key lo hi := ⟨_, rfl⟩
  rw [← hp]
  have HPD := Lib.hid hp
  obtain ⟨z, hz⟩ : ∃ z, P.length = z := ⟨_, rfl⟩
  rw [hz] at CA hlen
  have HZ := Lib.hid hz
  have BL := Lib.hid bl
  have BH := Lib.hid bh
  clear h hn hs ca hP hkey hz hp bl bh
  have hsf := run_store_f64
  go_enter Tryz.func23, Tryz.ntmps23
  go_wp2_with (go_at_call 43; (with_reducible refine CA.out.mono ?_); rintro e w1 ⟨A1, k1, Ab, cb, rfl, hri, hb1⟩; have HRI := Lib.hid hri; have HB1 := Lib.hid hb1; clear hri hb1)
  rename World => wo
  go_loopw [10, 9] (fun i v wr => ∃ j : Nat, j ≤ z ∧ i = .int .i64 j ∧ OutI (insAll p ((P.take j).map (·.1))) v wr ∧ Below wo.heap.size wo wr) (fun i _ _ => z - (intOf i).toNat)
  case atStart =>
    refine ⟨0, Nat.zero_le _, rfl, ⟨wo.heap.size, 0, 0, rfl, ⟨?_, ?_⟩, Nat.zero_le _⟩, (Below.refl _ _).alloc (Nat.le_refl _) _⟩
    · simp [insAll]
    · simp [insAll]
  case round =>
    obtain ⟨j, hj, rfl, hout, hb⟩ := hrel
    have HOUT := Lib.hid hout
    have HB := Lib.hid hb
    obtain ⟨bo, oo, co, rfl, hro, hco⟩ := hout
    obtain ⟨out, ho⟩ : ∃ out, insAll p ((P.take j).map (·.1)) = out := ⟨_, rfl⟩
    rw [ho] at HOUT hro hco
    obtain ⟨q, hq⟩ : ∃ q, out.length = q := ⟨_, rfl⟩
    have hq1 : q ≤ 90000 := by
      have h1 := (insAll_perm p ((P.take j).map (·.1))).length_eq
      have h2 := List.length_filter_le p ((P.take j).map (·.1))
      rw [ho, hq] at h1
      rw [List.length_map, List.length_take] at h2
      omega
    have HQ := Lib.hid hq
    have HO := Lib.hid ho
    have HRO := Lib.hid hro
    rw [ho, hq]
    rw [hq] at hco
    clear hb hro hq ho
    by_cases hlt : j < z
    · obtain ⟨x, hx⟩ := get_at' HZ hlt
      obtain ⟨b, A', c', b2, e, hbb, hbl, hfc, hfx, hlc, hA', a0, a1, a2, a3, a4, a5, htl⟩ := (HRI.out.on HB.out).at_ j x hx
      subst e
      clear htl
      obtain ⟨hak, hcm⟩ := HKP.out x (List.mem_of_getElem? hx)
      have L1 := less_any x.1.key lo hak BL.out
      have L2 := less_any x.1.key hi hak BH.out
      rw [lessN_rank _ _ hak BL.out] at L1
      rw [lessN_rank _ _ hak BH.out] at L2
      have HX := Lib.hid hx
      have hst : insAll p ((P.take (j + 1)).map (·.1)) = if p x.1 = true then insOne out x.1 else out := by
        rw [take_at' hx, List.map_append]
        show insAll p (_ ++ [x.1]) = _
        rw [insAll_snoc, HO.out]
      have HST := Lib.hid hst
      have hpx : p x.1 = betw x.1.key lo hi := by rw [HPD.out]
      have hjz' : (j : Int) < (z : Int) := by omega
      have HAK := Lib.hid hak
      have HKX := Lib.hid (And.intro hak hcm)
      clear hst hx
      by_cases h1 : rankN x.1.key < rankN lo
      · have hp0 : p x.1 = false := by rw [hpx]; unfold betw; rw [decide_eq_false (by omega)]; rfl
        rw [decide_eq_true h1] at L1
        have HNX : Hid (insAll p ((P.take (j + 1)).map (·.1)) = out) := by rw [HST.out, hp0]; exact rfl
        clear h1 hp0 hpx L2
        go_wp2_with (go_at_call 14; (with_reducible refine (L1 _).mono ?_); rintro e w' ⟨rfl, rfl⟩)
        go_roundw
        case rel =>
          exact ⟨j + 1, by omega, by go_num, by rw [HNX.out]; exact ⟨bo, oo, co, by rw [HQ.out], HRO.out, by rw [HQ.out]; exact hco⟩, HB.out⟩
        case measure => simp [intOf]; omega
      · rw [decide_eq_false h1] at L1
        by_cases h2 : rankN x.1.key < rankN hi
        · rw [decide_eq_true h2] at L2
          have hp1 : p x.1 = true := by rw [hpx]; unfold betw; rw [decide_eq_true (by omega), decide_eq_true h2]; rfl
          have HNX : Hid (insAll p ((P.take (j + 1)).map (·.1)) = insOne out x.1) := by rw [HST.out, if_pos hp1]; exact rfl
          clear h1 h2 hp1 hpx
          go_wp2_with (go_at_call 14; first | ((with_reducible refine (L1 _).mono ?_); rintro e w' ⟨rfl, rfl⟩) | ((with_reducible refine (L2 _).mono ?_); rintro e w' ⟨rfl, rfl⟩))
          obtain ⟨a, ha⟩ : ∃ a, place out x.1 = a := ⟨_, rfl⟩
          have haq : a ≤ q := by rw [← ha, ← HQ.out]; exact List.findIdx_le_length
          have HPL := Lib.hid ha
          clear ha
          go_loopw [12] (fun i w2 => ∃ k : Nat, k ≤ a ∧ i = .int .i64 k ∧ w2 = wr) (fun i _ => a - (intOf i).toNat)
          case atStart => exact ⟨0, Nat.zero_le _, rfl, rfl⟩
          case round =>
            obtain ⟨k, hk, rfl, rfl⟩ := hrel
            by_cases hka : k < a
            · have hkq' : decide ((k : Int) < (q : Int)) = true := by simp; omega
              obtain ⟨d, hd⟩ := get_at' HQ (show k < q by omega)
              obtain ⟨bd, od, _, _, ed, _, _, _, _, hdk, _, d0, _⟩ := HRO.out.at_ hd
              injection ed with ed; injection ed with ed1 ed2
              subst ed1 ed2
              have LD := less_any d.key x.1.key hdk HAK.out
              rw [lessN_rank _ _ hdk HAK.out] at LD
              have hdr : rankN d.key < rankN x.1.key := place_lt HPL.out hka hd
              rw [decide_eq_true hdr] at LD
              clear hd hdr hdk
              go_wp2_with (go_at_call 14; (with_reducible refine (LD _).mono ?_); rintro e w' ⟨rfl, rfl⟩)
              exact ⟨⟨k + 1, by omega, by go_num, trivial⟩, by simp [intOf]; omega⟩
            · have hka : k = a := by omega
              subst hka
              by_cases hkq : k < q
              · have hkq' : decide ((k : Int) < (q : Int)) = true := by simp; omega
                obtain ⟨d, hd⟩ := get_at' HQ hkq
                obtain ⟨bd, od, _, _, ed, _, _, _, _, hdk, _, d0, _⟩ := HRO.out.at_ hd
                injection ed with ed; injection ed with ed1 ed2
                subst ed1 ed2
                have LD := less_any d.key x.1.key hdk HAK.out
                rw [lessN_rank _ _ hdk HAK.out] at LD
                have hdr : ¬ rankN d.key < rankN x.1.key := place_ge HPL.out hd
                rw [decide_eq_false hdr] at LD
                clear hd hdr hdk
                go_wp2_with (go_at_call 14; (with_reducible refine (LD _).mono ?_); rintro e w' ⟨rfl, rfl⟩)
                have hk0 : (0 : Int) ≤ (k : Int) := by omega
                have hk1 : (k : Int) ≤ (co : Int) := by omega
                have hk2 : (k : Int) ≤ (q : Int) := by omega
                have hk3 : (q : Int) ≤ (co : Int) := by omega
                have hck : ¬ co = k := by omega
                have hkq2 : k ≤ q := by omega
                have sS := And.intro a0 (And.intro a1 (And.intro a2 (And.intro a3 (And.intro a4 a5))))
                refine wp_region_held_drew (S := (fun w' => w'.cell? ⟨b, j * 6, none⟩ = some (.float .f64 x.1.key) ∧ w'.cell? ⟨b, j * 6 + 1, none⟩ = some (.bool x.1.dead) ∧ w'.cell? ⟨b, j * 6 + 2, none⟩ = some (.slice A' x.1.cols.length c') ∧ w'.cell? ⟨b, j * 6 + 3, none⟩ = some (.int .i64 x.1.wr) ∧ w'.cell? ⟨b, j * 6 + 4, none⟩ = some (.int .i64 x.1.rc) ∧ w'.cell? ⟨b, j * 6 + 5, none⟩ = some (.int .i64 x.1.rn))) (by kernel_rfl) ?_ (fun hHeld => ?_)
                · first | exact sS | go_keep
                refine wpAnyH_take (i := 1) (v := ?_) rfl (by kernel_rfl) (by kernel_rfl) (by kernel_rfl) (fun _ _ _ h => h) (Or.inl ⟨by rfl, ?_⟩) (by assumption) ?_
                rotate_left
                · (intro w hSw; (try dsimp only at hSw); go_simp; try with_reducible rfl)
                try simp only [puts]
                refine wpAnyH_take (i := 2) (v := ?_) rfl (by kernel_rfl) (by kernel_rfl) (by kernel_rfl) (fun _ _ _ h => h) (Or.inl ⟨by rfl, ?_⟩) (by assumption) ?_
                rotate_left
                · (intro w hSw; (try dsimp only at hSw); go_simp; try with_reducible rfl)
                try simp only [puts]
                refine wpAnyH_take (i := 3) (v := ?_) rfl (by kernel_rfl) (by kernel_rfl) (by kernel_rfl) (fun _ _ _ h => h) (Or.inl ⟨by rfl, ?_⟩) (by assumption) ?_
                rotate_left
                · (intro w hSw; (try dsimp only at hSw); go_simp; try with_reducible rfl)
                try simp only [puts]
                refine wpAnyH_take (i := 5) (v := ?_) rfl (by kernel_rfl) (by kernel_rfl) (by kernel_rfl) (fun _ _ _ h => h) (Or.inl ⟨by rfl, ?_⟩) (by assumption) ?_
                rotate_left
                · (intro w hSw; (try dsimp only at hSw); go_simp; try with_reducible rfl)
                try simp only [puts]
                refine wpAnyH_take (i := 6) (v := ?_) rfl (by kernel_rfl) (by kernel_rfl) (by kernel_rfl) (fun _ _ _ h => h) (Or.inl ⟨by rfl, ?_⟩) (by assumption) ?_
                rotate_left
                · (intro w hSw; (try dsimp only at hSw); go_simp; try with_reducible rfl)
                try simp only [puts]
                refine wpAnyH_take (i := 7) (v := ?_) rfl (by kernel_rfl) (by kernel_rfl) (by kernel_rfl) (fun _ _ _ h => h) (Or.inl ⟨by rfl, ?_⟩) (by assumption) ?_
                rotate_left
                · (intro w hSw; (try dsimp only at hSw); go_simp; try with_reducible rfl)
                try simp only [puts]
                refine wpAnyH_take (i := 8) (v := ?_) rfl (by kernel_rfl) (by kernel_rfl) (by kernel_rfl) (fun _ _ _ h => h) (Or.inl ⟨by rfl, ?_⟩) (by assumption) ?_
                rotate_left
                · (intro w hSw; (try dsimp only at hSw); go_simp; try with_reducible rfl)
                try simp only [puts]
                refine wpAnyH_take (i := 11) (v := ?_) rfl (by kernel_rfl) (by kernel_rfl) (by kernel_rfl) (fun _ _ _ h => h) (Or.inl ⟨by rfl, ?_⟩) (by assumption) ?_
                rotate_left
                · (intro w hSw; (try dsimp only at hSw); go_simp; try with_reducible rfl)
                try simp only [puts]
                refine wpAnyH_take (i := 12) (v := ?_) rfl (by kernel_rfl) (by kernel_rfl) (by kernel_rfl) (fun _ _ _ h => h) (Or.inl ⟨by rfl, ?_⟩) (by assumption) ?_
                rotate_left
                · (intro w hSw; (try dsimp only at hSw); go_simp; try with_reducible rfl)
                try simp only [puts]
                refine wpAnyH_take (i := 13) (v := ?_) rfl (by kernel_rfl) (by kernel_rfl) (by kernel_rfl) (fun _ _ _ h => h) (Or.inl ⟨by rfl, ?_⟩) (by assumption) ?_
                rotate_left
                · (intro w hSw; (try dsimp only at hSw); go_simp; try with_reducible rfl)
                try simp only [puts]
                have HB0 := Lib.hid ((Below.refl wr.heap.size wr).drew)
                have SX := Lib.hid (fun (W : World) (hb : Below wr.heap.size wr W) => row_six hbl hb sS)
                refine wpAnyH_ready (rs := [0, 9]) (by kernel_rfl) (by simp) ?_
                refine AllReadyH.cons rfl (fun K hK => ?_) (AllReadyH.cons rfl (fun K hK => ?_) AllReadyH.nil)
                · have HB1 := Lib.hid (HB0.out.alloc HB0.out.size (.cells #[] 30))
                  have HE := Lib.hid (own_zero wr.drew)
                  go_simp
                  refine hK.out _ _ ?_ (fun hHeld => ?_)
                  · exact SX.out _ HB1.out
                  clear hK
                  try simp only [puts]
                  refine wpAnyH_ready (rs := [4, 9]) (by kernel_rfl) (by simp) ?_
                  refine AllReadyH.cons rfl (fun K hK => ?_) (AllReadyH.cons rfl (fun K hK => ?_) AllReadyH.nil)
                  · obtain ⟨A4, c4, w4, hr4, ho4, hb4, hg4⟩ := app_first (W := wr.drew.alloc (.cells #[] 30)) HE.out (rc_take HRO.out HB1.out k) HQ.out hkq2 hq1 (by simp) co
                    have HB4 := Lib.hid (HB1.out.trans (hb4.mono (by simp)))
                    have HO4 := Lib.hid ho4
                    have HG4 := Lib.hid hg4
                    clear ho4 hb4 hg4
                    refine step_append_run (by rfl) (.tmp 54) (.tmp 57) ⟨by rfl, by rfl⟩ (by rfl) (by rfl) hr4 ?_
                    refine hK.out _ _ ?_ (fun hHeld => ?_)
                    · exact SX.out _ HB4.out
                    clear hK
                    try simp only [puts]
                    refine wpAnyH_ready (rs := [9]) (by kernel_rfl) (by simp) ?_
                    refine AllReadyH.cons rfl (fun K hK => ?_) AllReadyH.nil
                    have HB9 := Lib.hid (HB4.out.alloc HB4.out.size (.cells #[.float .f64 x.1.key, .bool x.1.dead, .slice A' x.1.cols.length c', .int .i64 x.1.wr, .int .i64 x.1.rc, .int .i64 x.1.rn] 30))
                    have HO9 := Lib.hid (HO4.out.below ((Below.refl _ _).alloc (Nat.le_refl _) (.cells #[.float .f64 x.1.key, .bool x.1.dead, .slice A' x.1.cols.length c', .int .i64 x.1.wr, .int .i64 x.1.rc, .int .i64 x.1.rn] 30)))
                    have HC9 := Lib.hid (heap_alloc_new w4 (.cells #[.float .f64 x.1.key, .bool x.1.dead, .slice A' x.1.cols.length c', .int .i64 x.1.wr, .int .i64 x.1.rc, .int .i64 x.1.rn] 30))
                    go_simp
                    refine hK.out _ _ ?_ (fun hHeld => ?_)
                    · exact SX.out _ HB9.out
                    clear hK
                    try simp only [puts]
                    refine wpAnyH_ready (rs := [10]) (by kernel_rfl) (by simp) ?_
                    refine AllReadyH.cons rfl (fun K hK => ?_) AllReadyH.nil
                    obtain ⟨g10, c10, w10, hr10, ho10, hb10⟩ := app_second HO9.out (Nat.le_refl wr.heap.size) HB9.out.size HQ.out hkq2 hq1 HB9.out HC9.out hfc hlc hA'
                    have HB10 := Lib.hid (HB9.out.trans hb10)
                    have HO10 := Lib.hid ho10
                    clear ho10 hb10
                    refine step_append_run (by rfl) (.tmp 58) (.tmp 63) ⟨by rfl, by rfl⟩ (by rfl) (by rfl) hr10 ?_
                    refine hK.out _ _ ?_ (fun hHeld => ?_)
                    · exact SX.out _ HB10.out
                    clear hK
                    try simp only [puts]
                    refine wpAnyH_ready (rs := [14]) (by kernel_rfl) (by simp) ?_
                    refine AllReadyH.cons rfl (fun K hK => ?_) AllReadyH.nil
                    obtain ⟨A14, c14, w14, hr14, ho14, hb14⟩ := app_third HO10.out (Nat.le_refl wr.heap.size) HB10.out.size HQ.out hkq2 hq1 HB10.out HRO.out (co - k)
                    have HB14 := Lib.hid (HB10.out.trans hb14)
                    have HO14 := Lib.hid ho14
                    clear ho14 hb14
                    refine step_append_run (by rfl) (.tmp 64) (.tmp 67) ⟨by rfl, by rfl⟩ (by rfl) (by rfl) hr14 ?_
                    refine hK.out _ _ ?_ (fun hHeld => ?_)
                    · exact SX.out _ HB14.out
                    clear hK
                    try simp only [puts]
                    refine wpAnyH_take (i := 15) (v := ?_) rfl (by kernel_rfl) (by kernel_rfl) (by kernel_rfl) (fun _ _ _ h => h) (Or.inl ⟨by rfl, ?_⟩) (by assumption) ?_
                    rotate_left
                    · (intro w hSw; (try dsimp only at hSw); go_simp; try with_reducible rfl)
                    try simp only [puts]
                    refine wpAnyH_done (by kernel_rfl) ?_ _
                    go_wp2
                    exact ⟨⟨j + 1, by omega, by go_num, by rw [HNX.out]; exact out_end HO14.out HPL.out HQ.out hkq2 HRO.out.1 HKX.out, HB.out.trans (HB14.out.mono HB.out.size)⟩, by simp [intOf]; omega⟩
                  · have HB9 := Lib.hid (HB1.out.alloc HB1.out.size (.cells #[.float .f64 x.1.key, .bool x.1.dead, .slice A' x.1.cols.length c', .int .i64 x.1.wr, .int .i64 x.1.rc, .int .i64 x.1.rn] 30))
                    have HE2 := Lib.hid (HE.out.below ((Below.refl _ _).alloc (Nat.le_refl _) (.cells #[.float .f64 x.1.key, .bool x.1.dead, .slice A' x.1.cols.length c', .int .i64 x.1.wr, .int .i64 x.1.rc, .int .i64 x.1.rn] 30)))
                    have hc9 : ((wr.drew.alloc (.cells #[] 30)).alloc (.cells #[.float .f64 x.1.key, .bool x.1.dead, .slice A' x.1.cols.length c', .int .i64 x.1.wr, .int .i64 x.1.rc, .int .i64 x.1.rn] 30)).heap[wr.heap.size + 1]? = some (.cells #[.float .f64 x.1.key, .bool x.1.dead, .slice A' x.1.cols.length c', .int .i64 x.1.wr, .int .i64 x.1.rc, .int .i64 x.1.rn] 30 (0, 0)) := (by have := heap_alloc_new (wr.drew.alloc (.cells #[] 30)) (.cells #[.float .f64 x.1.key, .bool x.1.dead, .slice A' x.1.cols.length c', .int .i64 x.1.wr, .int .i64 x.1.rc, .int .i64 x.1.rn] 30); simpa using this)
                    have HC9 := Lib.hid hc9
                    clear hc9
                    go_simp
                    refine hK.out _ _ ?_ (fun hHeld => ?_)
                    · exact SX.out _ HB9.out
                    clear hK
                    try simp only [puts]
                    refine wpAnyH_ready (rs := [4]) (by kernel_rfl) (by simp) ?_
                    refine AllReadyH.cons rfl (fun K hK => ?_) AllReadyH.nil
                    obtain ⟨A4, c4, w4, hr4, ho4, hb4, hg4⟩ := app_first (W := (wr.drew.alloc (.cells #[] 30)).alloc (.cells #[.float .f64 x.1.key, .bool x.1.dead, .slice A' x.1.cols.length c', .int .i64 x.1.wr, .int .i64 x.1.rc, .int .i64 x.1.rn] 30)) HE2.out (rc_take HRO.out HB9.out k) HQ.out hkq2 hq1 HB9.out.size co
                    have HB4 := Lib.hid (HB9.out.trans (hb4.mono (Nat.le_refl _)))
                    have HO4 := Lib.hid ho4
                    have HC4 := Lib.hid ((hg4.block (wr.heap.size + 1) (by simp) (by simp [Value.ownBlock])).trans HC9.out)
                    clear ho4 hb4 hg4
                    refine step_append_run (by rfl) (.tmp 54) (.tmp 57) ⟨by rfl, by rfl⟩ (by rfl) (by rfl) hr4 ?_
                    refine hK.out _ _ ?_ (fun hHeld => ?_)
                    · exact SX.out _ HB4.out
                    clear hK
                    try simp only [puts]
                    refine wpAnyH_ready (rs := [10]) (by kernel_rfl) (by simp) ?_
                    refine AllReadyH.cons rfl (fun K hK => ?_) AllReadyH.nil
                    obtain ⟨g10, c10, w10, hr10, ho10, hb10⟩ := app_second HO4.out (Nat.le_refl wr.heap.size) HB4.out.size HQ.out hkq2 hq1 HB4.out HC4.out hfc hlc hA'
                    have HB10 := Lib.hid (HB4.out.trans hb10)
                    have HO10 := Lib.hid ho10
                    clear ho10 hb10
                    refine step_append_run (by rfl) (.tmp 58) (.tmp 63) ⟨by rfl, by rfl⟩ (by rfl) (by rfl) hr10 ?_
                    refine hK.out _ _ ?_ (fun hHeld => ?_)
                    · exact SX.out _ HB10.out
                    clear hK
                    try simp only [puts]
                    refine wpAnyH_ready (rs := [14]) (by kernel_rfl) (by simp) ?_
                    refine AllReadyH.cons rfl (fun K hK => ?_) AllReadyH.nil
                    obtain ⟨A14, c14, w14, hr14, ho14, hb14⟩ := app_third HO10.out (Nat.le_refl wr.heap.size) HB10.out.size HQ.out hkq2 hq1 HB10.out HRO.out (co - k)
                    have HB14 := Lib.hid (HB10.out.trans hb14)
                    have HO14 := Lib.hid ho14
                    clear ho14 hb14
                    refine step_append_run (by rfl) (.tmp 64) (.tmp 67) ⟨by rfl, by rfl⟩ (by rfl) (by rfl) hr14 ?_
                    refine hK.out _ _ ?_ (fun hHeld => ?_)
                    · exact SX.out _ HB14.out
                    clear hK
                    try simp only [puts]
                    refine wpAnyH_take (i := 15) (v := ?_) rfl (by kernel_rfl) (by kernel_rfl) (by kernel_rfl) (fun _ _ _ h => h) (Or.inl ⟨by rfl, ?_⟩) (by assumption) ?_
                    rotate_left
                    · (intro w hSw; (try dsimp only at hSw); go_simp; try with_reducible rfl)
                    try simp only [puts]
                    refine wpAnyH_done (by kernel_rfl) ?_ _
                    go_wp2
                    exact ⟨⟨j + 1, by omega, by go_num, by rw [HNX.out]; exact out_end HO14.out HPL.out HQ.out hkq2 HRO.out.1 HKX.out, HB.out.trans (HB14.out.mono HB.out.size)⟩, by simp [intOf]; omega⟩
                · have HB9 := Lib.hid (HB0.out.alloc HB0.out.size (.cells #[.float .f64 x.1.key, .bool x.1.dead, .slice A' x.1.cols.length c', .int .i64 x.1.wr, .int .i64 x.1.rc, .int .i64 x.1.rn] 30))
                  have HC9 := Lib.hid (heap_alloc_new wr.drew (.cells #[.float .f64 x.1.key, .bool x.1.dead, .slice A' x.1.cols.length c', .int .i64 x.1.wr, .int .i64 x.1.rc, .int .i64 x.1.rn] 30))
                  go_simp
                  refine hK.out _ _ ?_ (fun hHeld => ?_)
                  · exact SX.out _ HB9.out
                  clear hK
                  try simp only [puts]
                  refine wpAnyH_ready (rs := [0]) (by kernel_rfl) (by simp) ?_
                  refine AllReadyH.cons rfl (fun K hK => ?_) AllReadyH.nil
                  have HB1 := Lib.hid (HB9.out.alloc HB9.out.size (.cells #[] 30))
                  have he1 : Own ((wr.drew.alloc (.cells #[.float .f64 x.1.key, .bool x.1.dead, .slice A' x.1.cols.length c', .int .i64 x.1.wr, .int .i64 x.1.rc, .int .i64 x.1.rn] 30)).alloc (.cells #[] 30)) (wr.heap.size + 1) (.slice (some ⟨wr.heap.size + 1, 0, none⟩) 0 0) [] := (by have := own_zero (wr.drew.alloc (.cells #[.float .f64 x.1.key, .bool x.1.dead, .slice A' x.1.cols.length c', .int .i64 x.1.wr, .int .i64 x.1.rc, .int .i64 x.1.rn] 30)); simpa using this)
                  have HE := Lib.hid he1
                  have HC1 := Lib.hid ((Below.heap_alloc (wr.drew.alloc (.cells #[.float .f64 x.1.key, .bool x.1.dead, .slice A' x.1.cols.length c', .int .i64 x.1.wr, .int .i64 x.1.rc, .int .i64 x.1.rn] 30)) (.cells #[] 30) wr.heap.size (by simp)).trans HC9.out)
                  clear he1
                  go_simp
                  refine hK.out _ _ ?_ (fun hHeld => ?_)
                  · exact SX.out _ HB1.out
                  clear hK
                  try simp only [puts]
                  refine wpAnyH_ready (rs := [4]) (by kernel_rfl) (by simp) ?_
                  refine AllReadyH.cons rfl (fun K hK => ?_) AllReadyH.nil
                  obtain ⟨A4, c4, w4, hr4, ho4, hb4, hg4⟩ := app_first (W := (wr.drew.alloc (.cells #[.float .f64 x.1.key, .bool x.1.dead, .slice A' x.1.cols.length c', .int .i64 x.1.wr, .int .i64 x.1.rc, .int .i64 x.1.rn] 30)).alloc (.cells #[] 30)) HE.out (rc_take HRO.out HB1.out k) HQ.out hkq2 hq1 (by simp) co
                  have HB4 := Lib.hid (HB1.out.trans (hb4.mono (Nat.le_succ _)))
                  have HBS := Lib.hid (show wr.heap.size + 1 ≤ w4.heap.size from Nat.le_trans (by simp) hb4.size)
                  have HO4 := Lib.hid ho4
                  have HC4 := Lib.hid ((hg4.block wr.heap.size (by simp; omega) (by simp [Value.ownBlock])).trans HC1.out)
                  clear ho4 hb4 hg4
                  refine step_append_run (by rfl) (.tmp 54) (.tmp 57) ⟨by rfl, by rfl⟩ (by rfl) (by rfl) hr4 ?_
                  refine hK.out _ _ ?_ (fun hHeld => ?_)
                  · exact SX.out _ HB4.out
                  clear hK
                  try simp only [puts]
                  refine wpAnyH_ready (rs := [10]) (by kernel_rfl) (by simp) ?_
                  refine AllReadyH.cons rfl (fun K hK => ?_) AllReadyH.nil
                  obtain ⟨g10, c10, w10, hr10, ho10, hb10⟩ := app_second HO4.out (Nat.le_succ wr.heap.size) HBS.out HQ.out hkq2 hq1 HB4.out HC4.out hfc hlc hA'
                  have HB10 := Lib.hid (HB4.out.trans (hb10.mono (Nat.le_succ _)))
                  have HBT := Lib.hid hb10.size
                  have HO10 := Lib.hid ho10
                  clear ho10 hb10
                  refine step_append_run (by rfl) (.tmp 58) (.tmp 63) ⟨by rfl, by rfl⟩ (by rfl) (by rfl) hr10 ?_
                  refine hK.out _ _ ?_ (fun hHeld => ?_)
                  · exact SX.out _ HB10.out
                  clear hK
                  try simp only [puts]
                  refine wpAnyH_ready (rs := [14]) (by kernel_rfl) (by simp) ?_
                  refine AllReadyH.cons rfl (fun K hK => ?_) AllReadyH.nil
                  obtain ⟨A14, c14, w14, hr14, ho14, hb14⟩ := app_third HO10.out (Nat.le_succ wr.heap.size) (Nat.le_trans HBS.out HBT.out) HQ.out hkq2 hq1 HB10.out HRO.out (co - k)
                  have HB14 := Lib.hid (HB10.out.trans (hb14.mono (Nat.le_succ _)))
                  have HO14 := Lib.hid ho14
                  clear ho14 hb14
                  refine step_append_run (by rfl) (.tmp 64) (.tmp 67) ⟨by rfl, by rfl⟩ (by rfl) (by rfl) hr14 ?_
                  refine hK.out _ _ ?_ (fun hHeld => ?_)
                  · exact SX.out _ HB14.out
                  clear hK
                  try simp only [puts]
                  refine wpAnyH_take (i := 15) (v := ?_) rfl (by kernel_rfl) (by kernel_rfl) (by kernel_rfl) (fun _ _ _ h => h) (Or.inl ⟨by rfl, ?_⟩) (by assumption) ?_
                  rotate_left
                  · (intro w hSw; (try dsimp only at hSw); go_simp; try with_reducible rfl)
                  try simp only [puts]
                  refine wpAnyH_done (by kernel_rfl) ?_ _
                  go_wp2
                  exact ⟨⟨j + 1, by omega, by go_num, by rw [HNX.out]; exact out_end HO14.out HPL.out HQ.out hkq2 HRO.out.1 HKX.out, HB.out.trans (HB14.out.mono HB.out.size)⟩, by simp [intOf]; omega⟩
              · have hkq' : decide ((k : Int) < (q : Int)) = false := by simp; omega
                go_wp2
                by_cases hck : co = k
                · have hck' := hck.symm
                  subst hck'
                  clear hck
                  have hk0 : (0 : Int) ≤ (k : Int) := by omega
                  have hkn := Lib.hid (show q - k = 0 by omega)
                  have hk1 : (k : Int) ≤ (k : Int) := by omega
                  have hk2 : (k : Int) ≤ (q : Int) := by omega
                  have hk3 : (q : Int) ≤ (k : Int) := by omega
                  have hkq2 : k ≤ q := by omega
                  have sS := And.intro a0 (And.intro a1 (And.intro a2 (And.intro a3 (And.intro a4 a5))))
                  refine wp_region_held_drew (S := (fun w' => w'.cell? ⟨b, j * 6, none⟩ = some (.float .f64 x.1.key) ∧ w'.cell? ⟨b, j * 6 + 1, none⟩ = some (.bool x.1.dead) ∧ w'.cell? ⟨b, j * 6 + 2, none⟩ = some (.slice A' x.1.cols.length c') ∧ w'.cell? ⟨b, j * 6 + 3, none⟩ = some (.int .i64 x.1.wr) ∧ w'.cell? ⟨b, j * 6 + 4, none⟩ = some (.int .i64 x.1.rc) ∧ w'.cell? ⟨b, j * 6 + 5, none⟩ = some (.int .i64 x.1.rn))) (by kernel_rfl) ?_ (fun hHeld => ?_)
                  · first | exact sS | go_keep
                  refine wpAnyH_take (i := 1) (v := ?_) rfl (by kernel_rfl) (by kernel_rfl) (by kernel_rfl) (fun _ _ _ h => h) (Or.inl ⟨by rfl, ?_⟩) (by assumption) ?_
                  rotate_left
                  · (intro w hSw; (try dsimp only at hSw); go_simp; try with_reducible rfl)
                  try simp only [puts]
                  refine wpAnyH_take (i := 2) (v := ?_) rfl (by kernel_rfl) (by kernel_rfl) (by kernel_rfl) (fun _ _ _ h => h) (Or.inl ⟨by rfl, ?_⟩) (by assumption) ?_
                  rotate_left
                  · (intro w hSw; (try dsimp only at hSw); go_simp; try with_reducible rfl)
                  try simp only [puts]
                  refine wpAnyH_take (i := 3) (v := ?_) rfl (by kernel_rfl) (by kernel_rfl) (by kernel_rfl) (fun _ _ _ h => h) (Or.inl ⟨by rfl, ?_⟩) (by assumption) ?_
                  rotate_left
                  · (intro w hSw; (try dsimp only at hSw); go_simp; try with_reducible rfl)
                  try simp only [puts]
                  refine wpAnyH_take (i := 5) (v := ?_) rfl (by kernel_rfl) (by kernel_rfl) (by kernel_rfl) (fun _ _ _ h => h) (Or.inl ⟨by rfl, ?_⟩) (by assumption) ?_
                  rotate_left
                  · (intro w hSw; (try dsimp only at hSw); go_simp; try with_reducible rfl)
                  try simp only [puts]
                  refine wpAnyH_take (i := 6) (v := ?_) rfl (by kernel_rfl) (by kernel_rfl) (by kernel_rfl) (fun _ _ _ h => h) (Or.inl ⟨by rfl, ?_⟩) (by assumption) ?_
                  rotate_left
                  · (intro w hSw; (try dsimp only at hSw); go_simp; try with_reducible rfl)
                  try simp only [puts]
                  refine wpAnyH_take (i := 7) (v := ?_) rfl (by kernel_rfl) (by kernel_rfl) (by kernel_rfl) (fun _ _ _ h => h) (Or.inl ⟨by rfl, ?_⟩) (by assumption) ?_
                  rotate_left
                  · (intro w hSw; (try dsimp only at hSw); go_simp; try with_reducible rfl)
                  try simp only [puts]
                  refine wpAnyH_take (i := 8) (v := ?_) rfl (by kernel_rfl) (by kernel_rfl) (by kernel_rfl) (fun _ _ _ h => h) (Or.inl ⟨by rfl, ?_⟩) (by assumption) ?_
                  rotate_left
                  · (intro w hSw; (try dsimp only at hSw); go_simp; try with_reducible rfl)
                  try simp only [puts]
                  refine wpAnyH_take (i := 11) (v := ?_) rfl (by kernel_rfl) (by kernel_rfl) (by kernel_rfl) (fun _ _ _ h => h) (Or.inl ⟨by rfl, ?_⟩) (by assumption) ?_
                  rotate_left
                  · (intro w hSw; (try dsimp only at hSw); go_simp; try with_reducible rfl)
                  try simp only [puts]
                  refine wpAnyH_take (i := 12) (v := ?_) rfl (by kernel_rfl) (by kernel_rfl) (by kernel_rfl) (fun _ _ _ h => h) (Or.inl ⟨by rfl, ?_⟩) (by assumption) ?_
                  rotate_left
                  · (intro w hSw; (try dsimp only at hSw); go_simp; try with_reducible rfl)
                  try simp only [puts]
                  refine wpAnyH_take (i := 13) (v := ?_) rfl (by kernel_rfl) (by kernel_rfl) (by kernel_rfl) (fun _ _ _ h => h) (Or.inl ⟨by rfl, ?_⟩) (by assumption) ?_
                  rotate_left
                  · (intro w hSw; (try dsimp only at hSw); go_simp; try with_reducible rfl)
                  try simp only [puts]
                  have HB0 := Lib.hid ((Below.refl wr.heap.size wr).drew)
                  have SX := Lib.hid (fun (W : World) (hb : Below wr.heap.size wr W) => row_six hbl hb sS)
                  refine wpAnyH_ready (rs := [0, 9]) (by kernel_rfl) (by simp) ?_
                  refine AllReadyH.cons rfl (fun K hK => ?_) (AllReadyH.cons rfl (fun K hK => ?_) AllReadyH.nil)
                  · have HB1 := Lib.hid (HB0.out.alloc HB0.out.size (.cells #[] 30))
                    have HE := Lib.hid (own_zero wr.drew)
                    go_simp
                    refine hK.out _ _ ?_ (fun hHeld => ?_)
                    · exact SX.out _ HB1.out
                    clear hK
                    try simp only [puts]
                    refine wpAnyH_ready (rs := [4, 9]) (by kernel_rfl) (by simp) ?_
                    refine AllReadyH.cons rfl (fun K hK => ?_) (AllReadyH.cons rfl (fun K hK => ?_) AllReadyH.nil)
                    · obtain ⟨A4, c4, w4, hr4, ho4, hb4, hg4⟩ := app_first (W := wr.drew.alloc (.cells #[] 30)) HE.out (rc_take HRO.out HB1.out k) HQ.out hkq2 hq1 (by simp) k
                      have HB4 := Lib.hid (HB1.out.trans (hb4.mono (by simp)))
                      have HO4 := Lib.hid ho4
                      have HG4 := Lib.hid hg4
                      clear ho4 hb4 hg4
                      refine step_append_run (by rfl) (.tmp 54) (.tmp 57) ⟨by rfl, by rfl⟩ (by rfl) (by rfl) hr4 ?_
                      refine hK.out _ _ ?_ (fun hHeld => ?_)
                      · exact SX.out _ HB4.out
                      clear hK
                      try simp only [puts]
                      refine wpAnyH_ready (rs := [9]) (by kernel_rfl) (by simp) ?_
                      refine AllReadyH.cons rfl (fun K hK => ?_) AllReadyH.nil
                      have HB9 := Lib.hid (HB4.out.alloc HB4.out.size (.cells #[.float .f64 x.1.key, .bool x.1.dead, .slice A' x.1.cols.length c', .int .i64 x.1.wr, .int .i64 x.1.rc, .int .i64 x.1.rn] 30))
                      have HO9 := Lib.hid (HO4.out.below ((Below.refl _ _).alloc (Nat.le_refl _) (.cells #[.float .f64 x.1.key, .bool x.1.dead, .slice A' x.1.cols.length c', .int .i64 x.1.wr, .int .i64 x.1.rc, .int .i64 x.1.rn] 30)))
                      have HC9 := Lib.hid (heap_alloc_new w4 (.cells #[.float .f64 x.1.key, .bool x.1.dead, .slice A' x.1.cols.length c', .int .i64 x.1.wr, .int .i64 x.1.rc, .int .i64 x.1.rn] 30))
                      go_simp
                      refine hK.out _ _ ?_ (fun hHeld => ?_)
                      · exact SX.out _ HB9.out
                      clear hK
                      try simp only [puts]
                      refine wpAnyH_ready (rs := [10]) (by kernel_rfl) (by simp) ?_
                      refine AllReadyH.cons rfl (fun K hK => ?_) AllReadyH.nil
                      obtain ⟨g10, c10, w10, hr10, ho10, hb10⟩ := app_second HO9.out (Nat.le_refl wr.heap.size) HB9.out.size HQ.out hkq2 hq1 HB9.out HC9.out hfc hlc hA'
                      have HB10 := Lib.hid (HB9.out.trans hb10)
                      have HO10 := Lib.hid ho10
                      clear ho10 hb10
                      refine step_append_run (by rfl) (.tmp 58) (.tmp 63) ⟨by rfl, by rfl⟩ (by rfl) (by rfl) hr10 ?_
                      refine hK.out _ _ ?_ (fun hHeld => ?_)
                      · exact SX.out _ HB10.out
                      clear hK
                      try simp only [puts]
                      refine wpAnyH_ready (rs := [14]) (by kernel_rfl) (by simp) ?_
                      refine AllReadyH.cons rfl (fun K hK => ?_) AllReadyH.nil
                      obtain ⟨A14, c14, w14, hr14, ho14, hb14⟩ := app_third0 (bo := bo) (oo := oo) HO10.out (Nat.le_refl wr.heap.size) HB10.out.size HQ.out hkq2 hq1 HB10.out hkn.out 0
                      have HB14 := Lib.hid (HB10.out.trans hb14)
                      have HO14 := Lib.hid ho14
                      clear ho14 hb14
                      refine step_append_run (by rfl) (.tmp 64) (.tmp 67) ⟨by rfl, by rfl⟩ (by rfl) (by rfl) hr14 ?_
                      refine hK.out _ _ ?_ (fun hHeld => ?_)
                      · exact SX.out _ HB14.out
                      clear hK
                      try simp only [puts]
                      refine wpAnyH_take (i := 15) (v := ?_) rfl (by kernel_rfl) (by kernel_rfl) (by kernel_rfl) (fun _ _ _ h => h) (Or.inl ⟨by rfl, ?_⟩) (by assumption) ?_
                      rotate_left
                      · (intro w hSw; (try dsimp only at hSw); go_simp; try with_reducible rfl)
                      try simp only [puts]
                      refine wpAnyH_done (by kernel_rfl) ?_ _
                      go_wp2
                      exact ⟨⟨j + 1, by omega, by go_num, by rw [HNX.out]; exact out_end0 HO14.out hkn.out (out_end HO14.out HPL.out HQ.out hkq2 HRO.out.1 HKX.out), HB.out.trans (HB14.out.mono HB.out.size)⟩, by simp [intOf]; omega⟩
                    · have HB9 := Lib.hid (HB1.out.alloc HB1.out.size (.cells #[.float .f64 x.1.key, .bool x.1.dead, .slice A' x.1.cols.length c', .int .i64 x.1.wr, .int .i64 x.1.rc, .int .i64 x.1.rn] 30))
                      have HE2 := Lib.hid (HE.out.below ((Below.refl _ _).alloc (Nat.le_refl _) (.cells #[.float .f64 x.1.key, .bool x.1.dead, .slice A' x.1.cols.length c', .int .i64 x.1.wr, .int .i64 x.1.rc, .int .i64 x.1.rn] 30)))
                      have hc9 : ((wr.drew.alloc (.cells #[] 30)).alloc (.cells #[.float .f64 x.1.key, .bool x.1.dead, .slice A' x.1.cols.length c', .int .i64 x.1.wr, .int .i64 x.1.rc, .int .i64 x.1.rn] 30)).heap[wr.heap.size + 1]? = some (.cells #[.float .f64 x.1.key, .bool x.1.dead, .slice A' x.1.cols.length c', .int .i64 x.1.wr, .int .i64 x.1.rc, .int .i64 x.1.rn] 30 (0, 0)) := (by have := heap_alloc_new (wr.drew.alloc (.cells #[] 30)) (.cells #[.float .f64 x.1.key, .bool x.1.dead, .slice A' x.1.cols.length c', .int .i64 x.1.wr, .int .i64 x.1.rc, .int .i64 x.1.rn] 30); simpa using this)
                      have HC9 := Lib.hid hc9
                      clear hc9
                      go_simp
                      refine hK.out _ _ ?_ (fun hHeld => ?_)
                      · exact SX.out _ HB9.out
                      clear hK
                      try simp only [puts]
                      refine wpAnyH_ready (rs := [4]) (by kernel_rfl) (by simp) ?_
                      refine AllReadyH.cons rfl (fun K hK => ?_) AllReadyH.nil
                      obtain ⟨A4, c4, w4, hr4, ho4, hb4, hg4⟩ := app_first (W := (wr.drew.alloc (.cells #[] 30)).alloc (.cells #[.float .f64 x.1.key, .bool x.1.dead, .slice A' x.1.cols.length c', .int .i64 x.1.wr, .int .i64 x.1.rc, .int .i64 x.1.rn] 30)) HE2.out (rc_take HRO.out HB9.out k) HQ.out hkq2 hq1 HB9.out.size k
                      have HB4 := Lib.hid (HB9.out.trans (hb4.mono (Nat.le_refl _)))
                      have HO4 := Lib.hid ho4
                      have HC4 := Lib.hid ((hg4.block (wr.heap.size + 1) (by simp) (by simp [Value.ownBlock])).trans HC9.out)
                      clear ho4 hb4 hg4
                      refine step_append_run (by rfl) (.tmp 54) (.tmp 57) ⟨by rfl, by rfl⟩ (by rfl) (by rfl) hr4 ?_
                      refine hK.out _ _ ?_ (fun hHeld => ?_)
                      · exact SX.out _ HB4.out
                      clear hK
                      try simp only [puts]
                      refine wpAnyH_ready (rs := [10]) (by kernel_rfl) (by simp) ?_
                      refine AllReadyH.cons rfl (fun K hK => ?_) AllReadyH.nil
                      obtain ⟨g10, c10, w10, hr10, ho10, hb10⟩ := app_second HO4.out (Nat.le_refl wr.heap.size) HB4.out.size HQ.out hkq2 hq1 HB4.out HC4.out hfc hlc hA'
                      have HB10 := Lib.hid (HB4.out.trans hb10)
                      have HO10 := Lib.hid ho10
                      clear ho10 hb10
                      refine step_append_run (by rfl) (.tmp 58) (.tmp 63) ⟨by rfl, by rfl⟩ (by rfl) (by rfl) hr10 ?_
                      refine hK.out _ _ ?_ (fun hHeld => ?_)
                      · exact SX.out _ HB10.out
                      clear hK
                      try simp only [puts]
                      refine wpAnyH_ready (rs := [14]) (by kernel_rfl) (by simp) ?_
                      refine AllReadyH.cons rfl (fun K hK => ?_) AllReadyH.nil
                      obtain ⟨A14, c14, w14, hr14, ho14, hb14⟩ := app_third0 (bo := bo) (oo := oo) HO10.out (Nat.le_refl wr.heap.size) HB10.out.size HQ.out hkq2 hq1 HB10.out hkn.out 0
                      have HB14 := Lib.hid (HB10.out.trans hb14)
                      have HO14 := Lib.hid ho14
                      clear ho14 hb14
                      refine step_append_run (by rfl) (.tmp 64) (.tmp 67) ⟨by rfl, by rfl⟩ (by rfl) (by rfl) hr14 ?_
                      refine hK.out _ _ ?_ (fun hHeld => ?_)
                      · exact SX.out _ HB14.out
                      clear hK
                      try simp only [puts]
                      refine wpAnyH_take (i := 15) (v := ?_) rfl (by kernel_rfl) (by kernel_rfl) (by kernel_rfl) (fun _ _ _ h => h) (Or.inl ⟨by rfl, ?_⟩) (by assumption) ?_
                      rotate_left
                      · (intro w hSw; (try dsimp only at hSw); go_simp; try with_reducible rfl)
                      try simp only [puts]
                      refine wpAnyH_done (by kernel_rfl) ?_ _
                      go_wp2
                      exact ⟨⟨j + 1, by omega, by go_num, by rw [HNX.out]; exact out_end0 HO14.out hkn.out (out_end HO14.out HPL.out HQ.out hkq2 HRO.out.1 HKX.out), HB.out.trans (HB14.out.mono HB.out.size)⟩, by simp [intOf]; omega⟩
                  · have HB9 := Lib.hid (HB0.out.alloc HB0.out.size (.cells #[.float .f64 x.1.key, .bool x.1.dead, .slice A' x.1.cols.length c', .int .i64 x.1.wr, .int .i64 x.1.rc, .int .i64 x.1.rn] 30))
                    have HC9 := Lib.hid (heap_alloc_new wr.drew (.cells #[.float .f64 x.1.key, .bool x.1.dead, .slice A' x.1.cols.length c', .int .i64 x.1.wr, .int .i64 x.1.rc, .int .i64 x.1.rn] 30))
                    go_simp
                    refine hK.out _ _ ?_ (fun hHeld => ?_)
                    · exact SX.out _ HB9.out
                    clear hK
                    try simp only [puts]
                    refine wpAnyH_ready (rs := [0]) (by kernel_rfl) (by simp) ?_
                    refine AllReadyH.cons rfl (fun K hK => ?_) AllReadyH.nil
                    have HB1 := Lib.hid (HB9.out.alloc HB9.out.size (.cells #[] 30))
                    have he1 : Own ((wr.drew.alloc (.cells #[.float .f64 x.1.key, .bool x.1.dead, .slice A' x.1.cols.length c', .int .i64 x.1.wr, .int .i64 x.1.rc, .int .i64 x.1.rn] 30)).alloc (.cells #[] 30)) (wr.heap.size + 1) (.slice (some ⟨wr.heap.size + 1, 0, none⟩) 0 0) [] := (by have := own_zero (wr.drew.alloc (.cells #[.float .f64 x.1.key, .bool x.1.dead, .slice A' x.1.cols.length c', .int .i64 x.1.wr, .int .i64 x.1.rc, .int .i64 x.1.rn] 30)); simpa using this)
                    have HE := Lib.hid he1
                    have HC1 := Lib.hid ((Below.heap_alloc (wr.drew.alloc (.cells #[.float .f64 x.1.key, .bool x.1.dead, .slice A' x.1.cols.length c', .int .i64 x.1.wr, .int .i64 x.1.rc, .int .i64 x.1.rn] 30)) (.cells #[] 30) wr.heap.size (by simp)).trans HC9.out)
                    clear he1
                    go_simp
                    refine hK.out _ _ ?_ (fun hHeld => ?_)
                    · exact SX.out _ HB1.out
                    clear hK
                    try simp only [puts]
                    refine wpAnyH_ready (rs := [4]) (by kernel_rfl) (by simp) ?_
                    refine AllReadyH.cons rfl (fun K hK => ?_) AllReadyH.nil
                    obtain ⟨A4, c4, w4, hr4, ho4, hb4, hg4⟩ := app_first (W := (wr.drew.alloc (.cells #[.float .f64 x.1.key, .bool x.1.dead, .slice A' x.1.cols.length c', .int .i64 x.1.wr, .int .i64 x.1.rc, .int .i64 x.1.rn] 30)).alloc (.cells #[] 30)) HE.out (rc_take HRO.out HB1.out k) HQ.out hkq2 hq1 (by simp) k
                    have HB4 := Lib.hid (HB1.out.trans (hb4.mono (Nat.le_succ _)))
                    have HBS := Lib.hid (show wr.heap.size + 1 ≤ w4.heap.size from Nat.le_trans (by simp) hb4.size)
                    have HO4 := Lib.hid ho4
                    have HC4 := Lib.hid ((hg4.block wr.heap.size (by simp; omega) (by simp [Value.ownBlock])).trans HC1.out)
                    clear ho4 hb4 hg4
                    refine step_append_run (by rfl) (.tmp 54) (.tmp 57) ⟨by rfl, by rfl⟩ (by rfl) (by rfl) hr4 ?_
                    refine hK.out _ _ ?_ (fun hHeld => ?_)
                    · exact SX.out _ HB4.out
                    clear hK
                    try simp only [puts]
                    refine wpAnyH_ready (rs := [10]) (by kernel_rfl) (by simp) ?_
                    refine AllReadyH.cons rfl (fun K hK => ?_) AllReadyH.nil
                    obtain ⟨g10, c10, w10, hr10, ho10, hb10⟩ := app_second HO4.out (Nat.le_succ wr.heap.size) HBS.out HQ.out hkq2 hq1 HB4.out HC4.out hfc hlc hA'
                    have HB10 := Lib.hid (HB4.out.trans (hb10.mono (Nat.le_succ _)))
                    have HBT := Lib.hid hb10.size
                    have HO10 := Lib.hid ho10
                    clear ho10 hb10
                    refine step_append_run (by rfl) (.tmp 58) (.tmp 63) ⟨by rfl, by rfl⟩ (by rfl) (by rfl) hr10 ?_
                    refine hK.out _ _ ?_ (fun hHeld => ?_)
                    · exact SX.out _ HB10.out
                    clear hK
                    try simp only [puts]
                    refine wpAnyH_ready (rs := [14]) (by kernel_rfl) (by simp) ?_
                    refine AllReadyH.cons rfl (fun K hK => ?_) AllReadyH.nil
                    obtain ⟨A14, c14, w14, hr14, ho14, hb14⟩ := app_third0 (bo := bo) (oo := oo) HO10.out (Nat.le_succ wr.heap.size) (Nat.le_trans HBS.out HBT.out) HQ.out hkq2 hq1 HB10.out hkn.out 0
                    have HB14 := Lib.hid (HB10.out.trans (hb14.mono (Nat.le_succ _)))
                    have HO14 := Lib.hid ho14
                    clear ho14 hb14
                    refine step_append_run (by rfl) (.tmp 64) (.tmp 67) ⟨by rfl, by rfl⟩ (by rfl) (by rfl) hr14 ?_
                    refine hK.out _ _ ?_ (fun hHeld => ?_)
                    · exact SX.out _ HB14.out
                    clear hK
                    try simp only [puts]
                    refine wpAnyH_take (i := 15) (v := ?_) rfl (by kernel_rfl) (by kernel_rfl) (by kernel_rfl) (fun _ _ _ h => h) (Or.inl ⟨by rfl, ?_⟩) (by assumption) ?_
                    rotate_left
                    · (intro w hSw; (try dsimp only at hSw); go_simp; try with_reducible rfl)
                    try simp only [puts]
                    refine wpAnyH_done (by kernel_rfl) ?_ _
                    go_wp2
                    exact ⟨⟨j + 1, by omega, by go_num, by rw [HNX.out]; exact out_end0 HO14.out hkn.out (out_end HO14.out HPL.out HQ.out hkq2 HRO.out.1 HKX.out), HB.out.trans (HB14.out.mono HB.out.size)⟩, by simp [intOf]; omega⟩
                · have hk0 : (0 : Int) ≤ (k : Int) := by omega
                  have hk1 : (k : Int) ≤ (co : Int) := by omega
                  have hk2 : (k : Int) ≤ (q : Int) := by omega
                  have hk3 : (q : Int) ≤ (co : Int) := by omega
                  have hkq2 : k ≤ q := by omega
                  have sS := And.intro a0 (And.intro a1 (And.intro a2 (And.intro a3 (And.intro a4 a5))))
                  refine wp_region_held_drew (S := (fun w' => w'.cell? ⟨b, j * 6, none⟩ = some (.float .f64 x.1.key) ∧ w'.cell? ⟨b, j * 6 + 1, none⟩ = some (.bool x.1.dead) ∧ w'.cell? ⟨b, j * 6 + 2, none⟩ = some (.slice A' x.1.cols.length c') ∧ w'.cell? ⟨b, j * 6 + 3, none⟩ = some (.int .i64 x.1.wr) ∧ w'.cell? ⟨b, j * 6 + 4, none⟩ = some (.int .i64 x.1.rc) ∧ w'.cell? ⟨b, j * 6 + 5, none⟩ = some (.int .i64 x.1.rn))) (by kernel_rfl) ?_ (fun hHeld => ?_)
                  · first | exact sS | go_keep
                  refine wpAnyH_take (i := 1) (v := ?_) rfl (by kernel_rfl) (by kernel_rfl) (by kernel_rfl) (fun _ _ _ h => h) (Or.inl ⟨by rfl, ?_⟩) (by assumption) ?_
                  rotate_left
                  · (intro w hSw; (try dsimp only at hSw); go_simp; try with_reducible rfl)
                  try simp only [puts]
                  refine wpAnyH_take (i := 2) (v := ?_) rfl (by kernel_rfl) (by kernel_rfl) (by kernel_rfl) (fun _ _ _ h => h) (Or.inl ⟨by rfl, ?_⟩) (by assumption) ?_
                  rotate_left
                  · (intro w hSw; (try dsimp only at hSw); go_simp; try with_reducible rfl)
                  try simp only [puts]
                  refine wpAnyH_take (i := 3) (v := ?_) rfl (by kernel_rfl) (by kernel_rfl) (by kernel_rfl) (fun _ _ _ h => h) (Or.inl ⟨by rfl, ?_⟩) (by assumption) ?_
                  rotate_left
                  · (intro w hSw; (try dsimp only at hSw); go_simp; try with_reducible rfl)
                  try simp only [puts]
                  refine wpAnyH_take (i := 5) (v := ?_) rfl (by kernel_rfl) (by kernel_rfl) (by kernel_rfl) (fun _ _ _ h => h) (Or.inl ⟨by rfl, ?_⟩) (by assumption) ?_
                  rotate_left
                  · (intro w hSw; (try dsimp only at hSw); go_simp; try with_reducible rfl)
                  try simp only [puts]
                  refine wpAnyH_take (i := 6) (v := ?_) rfl (by kernel_rfl) (by kernel_rfl) (by kernel_rfl) (fun _ _ _ h => h) (Or.inl ⟨by rfl, ?_⟩) (by assumption) ?_
                  rotate_left
                  · (intro w hSw; (try dsimp only at hSw); go_simp; try with_reducible rfl)
                  try simp only [puts]
                  refine wpAnyH_take (i := 7) (v := ?_) rfl (by kernel_rfl) (by kernel_rfl) (by kernel_rfl) (fun _ _ _ h => h) (Or.inl ⟨by rfl, ?_⟩) (by assumption) ?_
                  rotate_left
                  · (intro w hSw; (try dsimp only at hSw); go_simp; try with_reducible rfl)
                  try simp only [puts]
                  refine wpAnyH_take (i := 8) (v := ?_) rfl (by kernel_rfl) (by kernel_rfl) (by kernel_rfl) (fun _ _ _ h => h) (Or.inl ⟨by rfl, ?_⟩) (by assumption) ?_
                  rotate_left
                  · (intro w hSw; (try dsimp only at hSw); go_simp; try with_reducible rfl)
                  try simp only [puts]
                  refine wpAnyH_take (i := 11) (v := ?_) rfl (by kernel_rfl) (by kernel_rfl) (by kernel_rfl) (fun _ _ _ h => h) (Or.inl ⟨by rfl, ?_⟩) (by assumption) ?_
                  rotate_left
                  · (intro w hSw; (try dsimp only at hSw); go_simp; try with_reducible rfl)
                  try simp only [puts]
                  refine wpAnyH_take (i := 12) (v := ?_) rfl (by kernel_rfl) (by kernel_rfl) (by kernel_rfl) (fun _ _ _ h => h) (Or.inl ⟨by rfl, ?_⟩) (by assumption) ?_
                  rotate_left
                  · (intro w hSw; (try dsimp only at hSw); go_simp; try with_reducible rfl)
                  try simp only [puts]
                  refine wpAnyH_take (i := 13) (v := ?_) rfl (by kernel_rfl) (by kernel_rfl) (by kernel_rfl) (fun _ _ _ h => h) (Or.inl ⟨by rfl, ?_⟩) (by assumption) ?_
                  rotate_left
                  · (intro w hSw; (try dsimp only at hSw); go_simp; try with_reducible rfl)
                  try simp only [puts]
                  have HB0 := Lib.hid ((Below.refl wr.heap.size wr).drew)
                  have SX := Lib.hid (fun (W : World) (hb : Below wr.heap.size wr W) => row_six hbl hb sS)
                  refine wpAnyH_ready (rs := [0, 9]) (by kernel_rfl) (by simp) ?_
                  refine AllReadyH.cons rfl (fun K hK => ?_) (AllReadyH.cons rfl (fun K hK => ?_) AllReadyH.nil)
                  · have HB1 := Lib.hid (HB0.out.alloc HB0.out.size (.cells #[] 30))
                    have HE := Lib.hid (own_zero wr.drew)
                    go_simp
                    refine hK.out _ _ ?_ (fun hHeld => ?_)
                    · exact SX.out _ HB1.out
                    clear hK
                    try simp only [puts]
                    refine wpAnyH_ready (rs := [4, 9]) (by kernel_rfl) (by simp) ?_
                    refine AllReadyH.cons rfl (fun K hK => ?_) (AllReadyH.cons rfl (fun K hK => ?_) AllReadyH.nil)
                    · obtain ⟨A4, c4, w4, hr4, ho4, hb4, hg4⟩ := app_first (W := wr.drew.alloc (.cells #[] 30)) HE.out (rc_take HRO.out HB1.out k) HQ.out hkq2 hq1 (by simp) co
                      have HB4 := Lib.hid (HB1.out.trans (hb4.mono (by simp)))
                      have HO4 := Lib.hid ho4
                      have HG4 := Lib.hid hg4
                      clear ho4 hb4 hg4
                      refine step_append_run (by rfl) (.tmp 54) (.tmp 57) ⟨by rfl, by rfl⟩ (by rfl) (by rfl) hr4 ?_
                      refine hK.out _ _ ?_ (fun hHeld => ?_)
                      · exact SX.out _ HB4.out
                      clear hK
                      try simp only [puts]
                      refine wpAnyH_ready (rs := [9]) (by kernel_rfl) (by simp) ?_
                      refine AllReadyH.cons rfl (fun K hK => ?_) AllReadyH.nil
                      have HB9 := Lib.hid (HB4.out.alloc HB4.out.size (.cells #[.float .f64 x.1.key, .bool x.1.dead, .slice A' x.1.cols.length c', .int .i64 x.1.wr, .int .i64 x.1.rc, .int .i64 x.1.rn] 30))
                      have HO9 := Lib.hid (HO4.out.below ((Below.refl _ _).alloc (Nat.le_refl _) (.cells #[.float .f64 x.1.key, .bool x.1.dead, .slice A' x.1.cols.length c', .int .i64 x.1.wr, .int .i64 x.1.rc, .int .i64 x.1.rn] 30)))
                      have HC9 := Lib.hid (heap_alloc_new w4 (.cells #[.float .f64 x.1.key, .bool x.1.dead, .slice A' x.1.cols.length c', .int .i64 x.1.wr, .int .i64 x.1.rc, .int .i64 x.1.rn] 30))
                      go_simp
                      refine hK.out _ _ ?_ (fun hHeld => ?_)
                      · exact SX.out _ HB9.out
                      clear hK
                      try simp only [puts]
                      refine wpAnyH_ready (rs := [10]) (by kernel_rfl) (by simp) ?_
                      refine AllReadyH.cons rfl (fun K hK => ?_) AllReadyH.nil
                      obtain ⟨g10, c10, w10, hr10, ho10, hb10⟩ := app_second HO9.out (Nat.le_refl wr.heap.size) HB9.out.size HQ.out hkq2 hq1 HB9.out HC9.out hfc hlc hA'
                      have HB10 := Lib.hid (HB9.out.trans hb10)
                      have HO10 := Lib.hid ho10
                      clear ho10 hb10
                      refine step_append_run (by rfl) (.tmp 58) (.tmp 63) ⟨by rfl, by rfl⟩ (by rfl) (by rfl) hr10 ?_
                      refine hK.out _ _ ?_ (fun hHeld => ?_)
                      · exact SX.out _ HB10.out
                      clear hK
                      try simp only [puts]
                      refine wpAnyH_ready (rs := [14]) (by kernel_rfl) (by simp) ?_
                      refine AllReadyH.cons rfl (fun K hK => ?_) AllReadyH.nil
                      obtain ⟨A14, c14, w14, hr14, ho14, hb14⟩ := app_third HO10.out (Nat.le_refl wr.heap.size) HB10.out.size HQ.out hkq2 hq1 HB10.out HRO.out (co - k)
                      have HB14 := Lib.hid (HB10.out.trans hb14)
                      have HO14 := Lib.hid ho14
                      clear ho14 hb14
                      refine step_append_run (by rfl) (.tmp 64) (.tmp 67) ⟨by rfl, by rfl⟩ (by rfl) (by rfl) hr14 ?_
                      refine hK.out _ _ ?_ (fun hHeld => ?_)
                      · exact SX.out _ HB14.out
                      clear hK
                      try simp only [puts]
                      refine wpAnyH_take (i := 15) (v := ?_) rfl (by kernel_rfl) (by kernel_rfl) (by kernel_rfl) (fun _ _ _ h => h) (Or.inl ⟨by rfl, ?_⟩) (by assumption) ?_
                      rotate_left
                      · (intro w hSw; (try dsimp only at hSw); go_simp; try with_reducible rfl)
                      try simp only [puts]
                      refine wpAnyH_done (by kernel_rfl) ?_ _
                      go_wp2
                      exact ⟨⟨j + 1, by omega, by go_num, by rw [HNX.out]; exact out_end HO14.out HPL.out HQ.out hkq2 HRO.out.1 HKX.out, HB.out.trans (HB14.out.mono HB.out.size)⟩, by simp [intOf]; omega⟩
                    · have HB9 := Lib.hid (HB1.out.alloc HB1.out.size (.cells #[.float .f64 x.1.key, .bool x.1.dead, .slice A' x.1.cols.length c', .int .i64 x.1.wr, .int .i64 x.1.rc, .int .i64 x.1.rn] 30))
                      have HE2 := Lib.hid (HE.out.below ((Below.refl _ _).alloc (Nat.le_refl _) (.cells #[.float .f64 x.1.key, .bool x.1.dead, .slice A' x.1.cols.length c', .int .i64 x.1.wr, .int .i64 x.1.rc, .int .i64 x.1.rn] 30)))
                      have hc9 : ((wr.drew.alloc (.cells #[] 30)).alloc (.cells #[.float .f64 x.1.key, .bool x.1.dead, .slice A' x.1.cols.length c', .int .i64 x.1.wr, .int .i64 x.1.rc, .int .i64 x.1.rn] 30)).heap[wr.heap.size + 1]? = some (.cells #[.float .f64 x.1.key, .bool x.1.dead, .slice A' x.1.cols.length c', .int .i64 x.1.wr, .int .i64 x.1.rc, .int .i64 x.1.rn] 30 (0, 0)) := (by have := heap_alloc_new (wr.drew.alloc (.cells #[] 30)) (.cells #[.float .f64 x.1.key, .bool x.1.dead, .slice A' x.1.cols.length c', .int .i64 x.1.wr, .int .i64 x.1.rc, .int .i64 x.1.rn] 30); simpa using this)
                      have HC9 := Lib.hid hc9
                      clear hc9
                      go_simp
                      refine hK.out _ _ ?_ (fun hHeld => ?_)
                      · exact SX.out _ HB9.out
                      clear hK
                      try simp only [puts]
                      refine wpAnyH_ready (rs := [4]) (by kernel_rfl) (by simp) ?_
                      refine AllReadyH.cons rfl (fun K hK => ?_) AllReadyH.nil
                      obtain ⟨A4, c4, w4, hr4, ho4, hb4, hg4⟩ := app_first (W := (wr.drew.alloc (.cells #[] 30)).alloc (.cells #[.float .f64 x.1.key, .bool x.1.dead, .slice A' x.1.cols.length c', .int .i64 x.1.wr, .int .i64 x.1.rc, .int .i64 x.1.rn] 30)) HE2.out (rc_take HRO.out HB9.out k) HQ.out hkq2 hq1 HB9.out.size co
                      have HB4 := Lib.hid (HB9.out.trans (hb4.mono (Nat.le_refl _)))
                      have HO4 := Lib.hid ho4
                      have HC4 := Lib.hid ((hg4.block (wr.heap.size + 1) (by simp) (by simp [Value.ownBlock])).trans HC9.out)
                      clear ho4 hb4 hg4
                      refine step_append_run (by rfl) (.tmp 54) (.tmp 57) ⟨by rfl, by rfl⟩ (by rfl) (by rfl) hr4 ?_
                      refine hK.out _ _ ?_ (fun hHeld => ?_)
                      · exact SX.out _ HB4.out
                      clear hK
                      try simp only [puts]
                      refine wpAnyH_ready (rs := [10]) (by kernel_rfl) (by simp) ?_
                      refine AllReadyH.cons rfl (fun K hK => ?_) AllReadyH.nil
                      obtain ⟨g10, c10, w10, hr10, ho10, hb10⟩ := app_second HO4.out (Nat.le_refl wr.heap.size) HB4.out.size HQ.out hkq2 hq1 HB4.out HC4.out hfc hlc hA'
                      have HB10 := Lib.hid (HB4.out.trans hb10)
                      have HO10 := Lib.hid ho10
                      clear ho10 hb10
                      refine step_append_run (by rfl) (.tmp 58) (.tmp 63) ⟨by rfl, by rfl⟩ (by rfl) (by rfl) hr10 ?_
                      refine hK.out _ _ ?_ (fun hHeld => ?_)
                      · exact SX.out _ HB10.out
                      clear hK
                      try simp only [puts]
                      refine wpAnyH_ready (rs := [14]) (by kernel_rfl) (by simp) ?_
                      refine AllReadyH.cons rfl (fun K hK => ?_) AllReadyH.nil
                      obtain ⟨A14, c14, w14, hr14, ho14, hb14⟩ := app_third HO10.out (Nat.le_refl wr.heap.size) HB10.out.size HQ.out hkq2 hq1 HB10.out HRO.out (co - k)
                      have HB14 := Lib.hid (HB10.out.trans hb14)
                      have HO14 := Lib.hid ho14
                      clear ho14 hb14
                      refine step_append_run (by rfl) (.tmp 64) (.tmp 67) ⟨by rfl, by rfl⟩ (by rfl) (by rfl) hr14 ?_
                      refine hK.out _ _ ?_ (fun hHeld => ?_)
                      · exact SX.out _ HB14.out
                      clear hK
                      try simp only [puts]
                      refine wpAnyH_take (i := 15) (v := ?_) rfl (by kernel_rfl) (by kernel_rfl) (by kernel_rfl) (fun _ _ _ h => h) (Or.inl ⟨by rfl, ?_⟩) (by assumption) ?_
                      rotate_left
                      · (intro w hSw; (try dsimp only at hSw); go_simp; try with_reducible rfl)
                      try simp only [puts]
                      refine wpAnyH_done (by kernel_rfl) ?_ _
                      go_wp2
                      exact ⟨⟨j + 1, by omega, by go_num, by rw [HNX.out]; exact out_end HO14.out HPL.out HQ.out hkq2 HRO.out.1 HKX.out, HB.out.trans (HB14.out.mono HB.out.size)⟩, by simp [intOf]; omega⟩
                  · have HB9 := Lib.hid (HB0.out.alloc HB0.out.size (.cells #[.float .f64 x.1.key, .bool x.1.dead, .slice A' x.1.cols.length c', .int .i64 x.1.wr, .int .i64 x.1.rc, .int .i64 x.1.rn] 30))
                    have HC9 := Lib.hid (heap_alloc_new wr.drew (.cells #[.float .f64 x.1.key, .bool x.1.dead, .slice A' x.1.cols.length c', .int .i64 x.1.wr, .int .i64 x.1.rc, .int .i64 x.1.rn] 30))
                    go_simp
                    refine hK.out _ _ ?_ (fun hHeld => ?_)
                    · exact SX.out _ HB9.out
                    clear hK
                    try simp only [puts]
                    refine wpAnyH_ready (rs := [0]) (by kernel_rfl) (by simp) ?_
                    refine AllReadyH.cons rfl (fun K hK => ?_) AllReadyH.nil
                    have HB1 := Lib.hid (HB9.out.alloc HB9.out.size (.cells #[] 30))
                    have he1 : Own ((wr.drew.alloc (.cells #[.float .f64 x.1.key, .bool x.1.dead, .slice A' x.1.cols.length c', .int .i64 x.1.wr, .int .i64 x.1.rc, .int .i64 x.1.rn] 30)).alloc (.cells #[] 30)) (wr.heap.size + 1) (.slice (some ⟨wr.heap.size + 1, 0, none⟩) 0 0) [] := (by have := own_zero (wr.drew.alloc (.cells #[.float .f64 x.1.key, .bool x.1.dead, .slice A' x.1.cols.length c', .int .i64 x.1.wr, .int .i64 x.1.rc, .int .i64 x.1.rn] 30)); simpa using this)
                    have HE := Lib.hid he1
                    have HC1 := Lib.hid ((Below.heap_alloc (wr.drew.alloc (.cells #[.float .f64 x.1.key, .bool x.1.dead, .slice A' x.1.cols.length c', .int .i64 x.1.wr, .int .i64 x.1.rc, .int .i64 x.1.rn] 30)) (.cells #[] 30) wr.heap.size (by simp)).trans HC9.out)
                    clear he1
                    go_simp
                    refine hK.out _ _ ?_ (fun hHeld => ?_)
                    · exact SX.out _ HB1.out
                    clear hK
                    try simp only [puts]
                    refine wpAnyH_ready (rs := [4]) (by kernel_rfl) (by simp) ?_
                    refine AllReadyH.cons rfl (fun K hK => ?_) AllReadyH.nil
                    obtain ⟨A4, c4, w4, hr4, ho4, hb4, hg4⟩ := app_first (W := (wr.drew.alloc (.cells #[.float .f64 x.1.key, .bool x.1.dead, .slice A' x.1.cols.length c', .int .i64 x.1.wr, .int .i64 x.1.rc, .int .i64 x.1.rn] 30)).alloc (.cells #[] 30)) HE.out (rc_take HRO.out HB1.out k) HQ.out hkq2 hq1 (by simp) co
                    have HB4 := Lib.hid (HB1.out.trans (hb4.mono (Nat.le_succ _)))
                    have HBS := Lib.hid (show wr.heap.size + 1 ≤ w4.heap.size from Nat.le_trans (by simp) hb4.size)
                    have HO4 := Lib.hid ho4
                    have HC4 := Lib.hid ((hg4.block wr.heap.size (by simp; omega) (by simp [Value.ownBlock])).trans HC1.out)
                    clear ho4 hb4 hg4
                    refine step_append_run (by rfl) (.tmp 54) (.tmp 57) ⟨by rfl, by rfl⟩ (by rfl) (by rfl) hr4 ?_
                    refine hK.out _ _ ?_ (fun hHeld => ?_)
                    · exact SX.out _ HB4.out
                    clear hK
                    try simp only [puts]
                    refine wpAnyH_ready (rs := [10]) (by kernel_rfl) (by simp) ?_
                    refine AllReadyH.cons rfl (fun K hK => ?_) AllReadyH.nil
                    obtain ⟨g10, c10, w10, hr10, ho10, hb10⟩ := app_second HO4.out (Nat.le_succ wr.heap.size) HBS.out HQ.out hkq2 hq1 HB4.out HC4.out hfc hlc hA'
                    have HB10 := Lib.hid (HB4.out.trans (hb10.mono (Nat.le_succ _)))
                    have HBT := Lib.hid hb10.size
                    have HO10 := Lib.hid ho10
                    clear ho10 hb10
                    refine step_append_run (by rfl) (.tmp 58) (.tmp 63) ⟨by rfl, by rfl⟩ (by rfl) (by rfl) hr10 ?_
                    refine hK.out _ _ ?_ (fun hHeld => ?_)
                    · exact SX.out _ HB10.out
                    clear hK
                    try simp only [puts]
                    refine wpAnyH_ready (rs := [14]) (by kernel_rfl) (by simp) ?_
                    refine AllReadyH.cons rfl (fun K hK => ?_) AllReadyH.nil
                    obtain ⟨A14, c14, w14, hr14, ho14, hb14⟩ := app_third HO10.out (Nat.le_succ wr.heap.size) (Nat.le_trans HBS.out HBT.out) HQ.out hkq2 hq1 HB10.out HRO.out (co - k)
                    have HB14 := Lib.hid (HB10.out.trans (hb14.mono (Nat.le_succ _)))
                    have HO14 := Lib.hid ho14
                    clear ho14 hb14
                    refine step_append_run (by rfl) (.tmp 64) (.tmp 67) ⟨by rfl, by rfl⟩ (by rfl) (by rfl) hr14 ?_
                    refine hK.out _ _ ?_ (fun hHeld => ?_)
                    · exact SX.out _ HB14.out
                    clear hK
                    try simp only [puts]
                    refine wpAnyH_take (i := 15) (v := ?_) rfl (by kernel_rfl) (by kernel_rfl) (by kernel_rfl) (fun _ _ _ h => h) (Or.inl ⟨by rfl, ?_⟩) (by assumption) ?_
                    rotate_left
                    · (intro w hSw; (try dsimp only at hSw); go_simp; try with_reducible rfl)
                    try simp only [puts]
                    refine wpAnyH_done (by kernel_rfl) ?_ _
                    go_wp2
                    exact ⟨⟨j + 1, by omega, by go_num, by rw [HNX.out]; exact out_end HO14.out HPL.out HQ.out hkq2 HRO.out.1 HKX.out, HB.out.trans (HB14.out.mono HB.out.size)⟩, by simp [intOf]; omega⟩
        · rw [decide_eq_false h2] at L2
          have hp0 : p x.1 = false := by rw [hpx]; unfold betw; rw [decide_eq_false h2, Bool.and_false]
          have HNX : Hid (insAll p ((P.take (j + 1)).map (·.1)) = out) := by rw [HST.out, hp0]; exact rfl
          clear h1 h2 hp0 hpx
          go_wp2_with (go_at_call 14; first | ((with_reducible refine (L1 _).mono ?_); rintro e w' ⟨rfl, rfl⟩) | ((with_reducible refine (L2 _).mono ?_); rintro e w' ⟨rfl, rfl⟩))
          go_roundw
          case rel => exact ⟨j + 1, by omega, by go_num, by rw [HNX.out]; exact ⟨bo, oo, co, by rw [HQ.out], HRO.out, by rw [HQ.out]; exact hco⟩, HB.out⟩
          case measure => simp [intOf]; omega
    · have hjz : z = j := by omega
      subst hjz
      have HE : Hid (insAll p (P.map (·.1)) = out) := by
        have := HO.out
        rwa [List.take_of_length_le (by rw [HZ.out]; omega)] at this
      go_wp2
      go_ret
      refine ⟨HB1.out.trans (HB.out.mono HB1.out.size), some ⟨bo, oo, none⟩, co, ?_, ?_⟩
      · rw [HE.out, HQ.out]; rfl
      · rw [HE.out]; exact HRO.out
end Go.Proofs.YtdbnlngkmfmnnaaGreatDoor
