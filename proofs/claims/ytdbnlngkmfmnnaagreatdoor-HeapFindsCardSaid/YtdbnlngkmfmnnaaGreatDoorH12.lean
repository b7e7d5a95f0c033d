/- humusref04.Decode: a taking. -/
import Derived.Test.YtdbnlngkmfmnnaaGreatDoorH11
namespace Go.Proofs.YtdbnlngkmfmnnaaGreatDoor
open Go.RowKit

def rowBytes (d : RowD) : List Nat := bytesOf (rowI d.key (if d.dead then 1 else 0) d.cols d.wr.toNat d.rc.toNat d.rn.toNat)

theorem step_add_col {ops : Array Oper} {o : Oper} {a : Act} {K : Act → World → Prop} {Q : Exit → Act → World → Prop} {E : Prop} (hgd : o.guard = none) (s e : Operand)
    (ho : o.op = .call { callee := .builtin .append, args := #[s, e], argTypes := #[26, 26] })
    {w W : World} {key x y z : Nat} {dead : Bool} {u : Value} {l : List Nat} (h : InR w key dead x y z u l W) (c : Nat) (g0 : Nat) (hg0 : W.heap[g0]? = some (.cells #[.float .f64 c] 25 (0, 0))) (hs : a.eval s = u) (he : a.eval e = .slice (some ⟨g0, 0, none⟩) 1 1) {q : Nat} (hq : l.length = q) (hm : q ≤ 1000)
    (hK : ∀ g cap w', InR w key dead x y z (.slice (some ⟨g, 0, none⟩) (q + 1) cap) (l ++ [c]) (w'.setCell ⟨w.heap.size, 2, none⟩ (.slice (some ⟨g, 0, none⟩) (q + 1) cap)) → w'.cell? ⟨w.heap.size, 2, none⟩ = some u → w'.frozen? ⟨w.heap.size, 2, none⟩ = false → (∀ p : Addr, p.block < w.heap.size → w'.cell? p = W.cell? p) →
      K (a.put o.dst (.slice (some ⟨g, 0, none⟩) (q + 1) cap)) w') : if Region.wanted o (yielded ops a.tmps) = true then Oper.wp Tryz.prog o a W K Q else E := by
  subst hq
  obtain ⟨i0, hi0, hz0, hz1, hz2⟩ := info_parts info25
  have hl := h.lt
  refine step_append_lies W hgd s e 26 ho (w.heap.size + 1) 25 i0 (.float .f64 0) 1 8 Tryz.underlying26 hi0 hz0 hz1 hz2 rfl (by decide) u l.length (l.map (Value.float .f64)) hs h.own ⟨g0, 0, none⟩ 1 1
    [.float .f64 c] he rfl (World.news_of_block hg0) (by intro z hz; simp only [List.mem_cons, List.not_mem_nil, or_false] at hz; rcases hz with rfl; rfl) (by omega) (by unfold maxLen; omega) (by omega) (by omega) _ rfl ?_
  intro g cap w' hown hgrow hat hlt
  have e1 : (l ++ [c]).length = l.length + 1 := by simp
  have e2 : (l ++ [c]).map (Value.float .f64) = l.map (Value.float .f64) ++ [.float .f64 c] := by simp
  have hd := h.done (u' := .slice (some ⟨g, 0, none⟩) (l.length + 1) cap) (l' := l ++ [c]) (by rw [e1, e2]; exact hown) hgrow
  have hnb : ∀ b, u.ownBlock = some b → w.heap.size + 1 ≤ b := fun b hb => (h.own.lt b hb).1
  refine hK g cap w' hd ?_ ?_ fun p hp => hgrow.cell_far p (by omega) (fun e => by have := hnb p.block e.symm; omega)
  · rw [hgrow.cell_far ⟨w.heap.size, 2, none⟩ hl (fun e => by have := hnb w.heap.size e.symm; omega), cell_of_row _ _ 2 _ _ _ h.row]; rfl
  · rw [hgrow.frozen_far ⟨w.heap.size, 2, none⟩ hl (fun e => by have := hnb w.heap.size e.symm; omega)]; exact frozen_of_row _ _ 2 _ _ h.row

theorem InR.start2 (w : World) (key : Nat) (dead : Bool) (x y z : Nat) : InR w key dead x y z (.slice none 0 0) [] (w.alloc (.cells #[.float .f64 key, .bool dead, .slice none 0 0, .int .i64 (x : Nat), .int .i64 (y : Nat), .int .i64 (z : Nat)] 30)).drew :=
  ⟨((Below.refl _ _).alloc (Nat.le_refl _) _).drew, heap_alloc_new w _, World.ownsRow_nil _ _ _ _⟩
theorem IX.head {w : World} {A : Option Addr} {i0 i1 i2 i3 i4 i5 : It} {C : List It} (h : IX w A (i0 :: i1 :: i2 :: i3 :: i4 :: i5 :: C)) : ∃ g, A = some ⟨g, 0, none⟩ ∧ g < w.heap.size ∧
    w.cell? ⟨g, 1, none⟩ = some (.int .i64 (i0.n : Nat)) ∧ w.cell? ⟨g, 6, none⟩ = some (.float .f64 i1.x) ∧ w.cell? ⟨g, 9, none⟩ = some (.int .i64 (i2.n : Nat)) ∧ w.cell? ⟨g, 13, none⟩ = some (.int .i64 (i3.n : Nat)) ∧ w.cell? ⟨g, 17, none⟩ = some (.int .i64 (i4.n : Nat)) := by
  obtain ⟨g, e, hg, _, d0, _, _⟩ := h 0 i0 rfl
  obtain ⟨g1, e1, _, _, _, d1, _⟩ := h 1 i1 rfl
  obtain ⟨g2, e2, _, _, d2, _, _⟩ := h 2 i2 rfl
  obtain ⟨g3, e3, _, _, d3, _, _⟩ := h 3 i3 rfl
  obtain ⟨g4, e4, _, _, d4, _, _⟩ := h 4 i4 rfl
  rw [e] at e1 e2 e3 e4
  injection e1 with e1; injection e1 with e1
  injection e2 with e2; injection e2 with e2
  injection e3 with e3; injection e3 with e3
  injection e4 with e4; injection e4 with e4
  subst e1 e2 e3 e4
  exact ⟨g, e, hg, d0, d1, d2, d3, d4⟩

theorem heldR {W : World} {T n B b off c : Nat} {L : List Nat} {t : TypeId} {v0 v1 v2 v3 v4 v5 : Value} (h : W.heap[T]? = some (.cells #[v0, v1, v2, v3, v4, v5] t (0, 0))) (hb : BC W B (some ⟨b, off, none⟩) L) (hl : L.length = n) (hn : 0 < n) :
    W.cell? ⟨T, 0, none⟩ = some v0 ∧ W.cell? ⟨T, 1, none⟩ = some v1 ∧ W.cell? ⟨T, 2, none⟩ = some v2 ∧ W.cell? ⟨T, 3, none⟩ = some v3 ∧ W.cell? ⟨T, 4, none⟩ = some v4 ∧ W.cell? ⟨T, 5, none⟩ = some v5 ∧ (convert 53 9 (.slice (some ⟨b, off, none⟩) n c)).run Tryz.prog W = .ok (.string (strB L)) W := by
  obtain ⟨⟨g0, g1, g2, g3, g4, g5⟩, _⟩ := six h
  exact ⟨g0, g1, g2, g3, g4, g5, conv_bytes hb hl hn⟩
theorem rowBytes_pos (d : RowD) : 0 < (rowBytes d).length := by
  unfold rowBytes bytesOf rowI headI
  rw [List.cons_append, List.flatMap_cons, List.length_append]
  have : ∀ x, (itB ⟨1, x, 0⟩).length = 1 := fun x => by unfold itB; rw [if_neg (by simp), be_len]; rfl
  rw [this]
  omega
theorem rowBytes_lt (d : RowD) : ∀ x ∈ rowBytes d, x < 256 := by
  unfold rowBytes bytesOf
  intro x hx
  obtain ⟨i, _, hi⟩ := List.mem_flatMap.1 hx
  exact itB_lt i x hi

set_option maxHeartbeats 8000000 in
set_option maxRecDepth 100000 in
theorem rdecode_some (b off c : Nat) (L : List Nat) (w : World) (hB : BC w w.heap.size (some ⟨b, off, none⟩) L) (hn : L.length ≤ 1000) (h : 20 ≤ L.length) (hc : L.length ≤ c) (hc2 : c ≤ 9223372036854775807) (m : Nat) (h19 : L[19]? = some m) (h4 : m ≤ 4)
    (i0 i1 i2 i3 i4 i5 : It) (C : List It) (a : Nat) (ho : takeAll L (kinds m) 0 = some (i0 :: i1 :: i2 :: i3 :: i4 :: i5 :: C, a)) (hxs : ∀ i ∈ C, i.x < 18446744073709551616) (hk : i1.x < 18446744073709551616) :
    Calls Tryz.prog 105 #[.slice (some ⟨b, off, none⟩) L.length c] w (DOut w (if okRow (rowOf i0 i1 i2 i3 i4 C) = true ∧ rowBytes (rowOf i0 i1 i2 i3 i4 C) = L then some (rowOf i0 i1 i2 i3 i4 C) else none)) := by
  obtain ⟨b', off', e, hb, hcl⟩ := hB.2 (by omega)
  injection e with e; injection e with e1 e2; subst e1 e2
  have c19 := hcl 19 m h19
  have hm256 := hB.1 m (List.mem_of_getElem? h19)
  obtain ⟨n, hln⟩ : ∃ n, L.length = n := ⟨_, rfl⟩
  have hCl : C.length = m := by have := takeAll_len ho; rw [kinds_len] at this; simp only [List.length_cons] at this; omega
  rw [hln] at h hn hc ⊢
  obtain ⟨O, hO⟩ : ∃ O, (if okRow (rowOf i0 i1 i2 i3 i4 C) = true ∧ rowBytes (rowOf i0 i1 i2 i3 i4 C) = L then some (rowOf i0 i1 i2 i3 i4 C) else none) = O := ⟨_, rfl⟩
  rw [hO]
  have HO := Lib.hid hO
  clear hO
  obtain ⟨q, hq⟩ : ∃ q, 6 + m = q := ⟨_, rfl⟩
  have f1 : decide ((n : Int) < 20) = false := by simp; omega
  have f2 : decide ((4 : Int) < (m : Int)) = false := by simp; omega
  have f3 : (19 : Int) < (n : Int) := by omega
  have p0 : (0 : Int) < (q : Int) := by omega
  have n0 : 0 < q := by omega
  have n1 : 1 < q := by omega
  have n2 : 2 < q := by omega
  have n3 : 3 < q := by omega
  have n4 : 4 < q := by omega
  have p1 : (1 : Int) < (q : Int) := by omega
  have p2 : (2 : Int) < (q : Int) := by omega
  have p3 : (3 : Int) < (q : Int) := by omega
  have p4 : (4 : Int) < (q : Int) := by omega
  have c19a := cell_on c19 zbox
  have C19 := Lib.hid c19
  have HBB := Lib.hid hb
  have HQ := Lib.hid hq
  have RTK := Lib.hid (fun W v (hv : RK w v (kinds m) W) => (by
    obtain ⟨A2, c2, e2, hh⟩ := rtake_k hB hln hn hc hc2 h4 hv
    rw [ho] at hh
    refine ⟨A2, c2, e2, hh.mono fun e w' ⟨h1, A3, c3, h2, h3⟩ => ?_⟩
    obtain ⟨g, rfl, hg⟩ := h3.head
    exact ⟨g, c3, by rw [h2, show (i0 :: i1 :: i2 :: i3 :: i4 :: i5 :: C).length = q by simp only [List.length_cons, hCl]; omega], h1, hg, h3⟩ : ∃ A2 c2, v = .slice A2 (6 + m) c2 ∧ Calls Tryz.prog 133 #[.slice (some ⟨b, off, none⟩) n c, .slice A2 (6 + m) c2] W fun e w' => ∃ g c3, e = .returned (.tuple #[.slice (some ⟨g, 0, none⟩) q c3, .int .i64 (a : Nat), .int .i64 0]) ∧ RK w v (kinds m) w' ∧
      (g < w'.heap.size ∧ w'.cell? ⟨g, 1, none⟩ = some (.int .i64 (i0.n : Nat)) ∧ w'.cell? ⟨g, 6, none⟩ = some (.float .f64 i1.x) ∧ w'.cell? ⟨g, 9, none⟩ = some (.int .i64 (i2.n : Nat)) ∧ w'.cell? ⟨g, 13, none⟩ = some (.int .i64 (i3.n : Nat)) ∧ w'.cell? ⟨g, 17, none⟩ = some (.int .i64 (i4.n : Nat))) ∧ IX w' (some ⟨g, 0, none⟩) (i0 :: i1 :: i2 :: i3 :: i4 :: i5 :: C)))
  have HS := Lib.hid (RK.start w)
  have HB := Lib.hid hB
  have HLN := Lib.hid hln
  have HCL := Lib.hid hCl
  have HXS := Lib.hid hxs
  have HKEY := Lib.hid hk
  have hsf := run_store_f64
  obtain ⟨dead, hdead⟩ : ∃ dead, decide (i0.n = 1) = dead := ⟨_, rfl⟩
  have hdead' : decide ((i0.n : Int) = 1) = dead := by rw [← hdead]; exact decide_eq_decide.2 (by omega)
  have hdead2 : ((i0.n : Int) == 1) = dead := by rw [show ((i0.n : Int) == 1) = decide ((i0.n : Int) = 1) from rfl]; exact hdead'
  clear hB hcl h19 hln c19 hb ho hq hCl hxs hk
  unfold zbox at c19a
  unfold DOut
  go_enter Tryz.func105, Tryz.ntmps105
  go_wp2
  go_loopw [5, 4] (fun i v wr => ∃ (j : Nat) (A2 : Option Addr) (c2 : Nat), j ≤ m ∧ i = .int .i64 j ∧ v = .slice A2 (6 + j) c2 ∧ RK w v (kinds j) wr) (fun i _ _ => m - (intOf i).toNat)
  case atStart => exact ⟨0, _, _, Nat.zero_le _, rfl, rfl, HS.out⟩
  case round =>
    obtain ⟨j, A2, c2, hj, rfl, rfl, hrk⟩ := hrel
    have c19b := (hrk.below.cell (p := ⟨b, off + 19, none⟩) HBB.out).trans C19.out
    by_cases hlt : j < m
    · have HRK := Lib.hid hrk
      have HLK := Lib.hid (kinds_len j)
      clear hrk
      go_wp2_with (at_builtin; go_loud (refine put_k (v := .slice A2 (6 + j) c2) rfl (.tmp 30) (.tmp 31) rfl HRK.out (by simp [Act.eval, Act.put]) (by simp [Act.eval, Act.put]) HLK.out (by omega) ?_); rintro g5 cap5 w5 hr5; have HR5 := Lib.hid hr5; clear hr5)
      exact ⟨⟨j + 1, _, _, by omega, by go_num, rfl, by rw [kinds_succ]; exact HR5.out⟩, by simp [intOf]; omega⟩
    · have hjn : j = m := by omega
      subst hjn
      obtain ⟨A3, c3, e3, hc3⟩ := RTK.out _ _ hrk
      injection e3 with e3 _ e4
      subst e3 e4
      have HC3 := Lib.hid hc3
      clear hc3 hrk
      go_wp2_with (go_at_call 133; (with_reducible refine HC3.out.mono ?_); rintro e w4 ⟨g, c3, rfl, hrk, ⟨hgl, d0, d1, d2, d3, d4⟩, hix⟩; have HGL := Lib.hid hgl; have HIX := Lib.hid hix; have HRK := Lib.hid hrk; clear hrk hgl hix)
      go_region_held3 (fun w' => w'.cell? ⟨g, 1, none⟩ = some (.int .i64 (i0.n : Nat)) ∧ w'.cell? ⟨g, 6, none⟩ = some (.float .f64 i1.x) ∧ w'.cell? ⟨g, 9, none⟩ = some (.int .i64 (i2.n : Nat)) ∧ w'.cell? ⟨g, 13, none⟩ = some (.int .i64 (i3.n : Nat)) ∧ w'.cell? ⟨g, 17, none⟩ = some (.int .i64 (i4.n : Nat))) (first | go_keep | exact ⟨d0, d1, d2, d3, d4⟩) (fail)
      go_wp2
      have HN := Lib.hid (show j ≤ 4 from h4)
      go_loopw [10] (fun i wr => ∃ (t p : Nat) (u : Value), t = 6 + p ∧ p ≤ j ∧ i = .int .i64 t ∧ InR w4 i1.x dead i2.n i3.n i4.n u ((C.take p).map (·.x)) wr) (fun i _ => q - (intOf i).toNat)
      case atStart =>
        exact ⟨6, 0, _, rfl, Nat.zero_le _, rfl, InR.start2 w4 i1.x dead i2.n i3.n i4.n⟩
      case round =>
        rename World => wo
        obtain ⟨t, p, u, ht, hp, rfl, hin⟩ := hrel
        have HT := Lib.hid ht
        clear ht
        by_cases hlt2 : p < j
        · obtain ⟨it, hit⟩ := get_at' HCL hlt2
          have htq : t < q := by have := HT.out; have := HQ.out; omega
          have htq' : (t : Int) < (q : Int) := by omega
          have htb : t ≤ 9 := by have := HT.out; omega
          obtain ⟨g3, e3, hg3, s0, s1, s2, s3⟩ := (HIX.out.on hin.below) t it (by rw [HT.out, show 6 + p = p + 1 + 1 + 1 + 1 + 1 + 1 by omega]; exact hit)
          injection e3 with e3
          injection e3 with e3
          subst e3
          have r2 := cell_of_row _ _ 2 _ _ _ hin.row
          simp only [List.getElem?_toArray, List.getElem?_cons_succ, List.getElem?_cons_zero] at r2
          have HLC := Lib.hid (show ((C.take p).map (·.x)).length = p by rw [List.length_map, List.length_take, HCL.out]; omega)
          have HTK := Lib.hid (show (C.take (p + 1)).map (·.x) = (C.take p).map (·.x) ++ [it.x] by rw [take_at' hit, List.map_append]; rfl)
          obtain ⟨l, hl⟩ : ∃ l, (C.take p).map (·.x) = l := ⟨_, rfl⟩
          rw [hl] at HLC HTK hin
          have HIN := Lib.hid hin
          have HS2 := Lib.hid (fun (W : World) (hb : Below wo.heap.size wo W) => (hb.cell (p := ⟨g, t * 4 + 2, none⟩) hg3).trans s2)
          have r2a := cell_on r2 (.cells #[.float .f64 it.x] 25)
          have HNE := Lib.hid (fun (t : Nat) => show (⟨g, t * 4 + 2, none⟩ : Addr) ≠ ⟨w4.heap.size, 2, none⟩ from fun e => by injection e with e; have := HGL.out; omega)
          have HPJ := Lib.hid hlt2
          have HTQ := Lib.hid htq
          clear hin hit hl s0 s1 s3 hg3
          go_wp2
          refine wp_region_held_drew (S := (fun w' => w'.cell? ⟨g, t * 4 + 2, none⟩ = some (.float .f64 it.x))) (by kernel_rfl) ?_ (fun hHeld => ?_)
          · first | exact sS | exact sT | go_keep
          refine wpAnyH_take (i := 0) (v := ?vv101) rfl (by kernel_rfl) (by kernel_rfl) (by kernel_rfl) (fun _ _ _ h => h) (Or.inl ⟨by rfl, ?hy101⟩) (by assumption) ?rest101
          case hy101 => (intro w hSw; (try dsimp only at hSw); go_simp; try with_reducible rfl)
          try simp only [puts]
          refine wpAnyH_take (i := 2) (v := ?vv102) rfl (by kernel_rfl) (by kernel_rfl) (by kernel_rfl) (fun _ _ _ h => h) (Or.inl ⟨by rfl, ?hy102⟩) (by assumption) ?rest102
          case hy102 => (intro w hSw; (try dsimp only at hSw); go_simp; try with_reducible rfl)
          try simp only [puts]
          refine wpAnyH_take (i := 3) (v := ?vv103) rfl (by kernel_rfl) (by kernel_rfl) (by kernel_rfl) (fun _ _ _ h => h) (Or.inl ⟨by rfl, ?hy103⟩) (by assumption) ?rest103
          case hy103 => (intro w hSw; (try dsimp only at hSw); go_simp; try with_reducible rfl)
          try simp only [puts]
          refine wpAnyH_take (i := 4) (v := ?vv104) rfl (by kernel_rfl) (by kernel_rfl) (by kernel_rfl) (fun _ _ _ h => h) (Or.inl ⟨by rfl, ?hy104⟩) (by assumption) ?rest104
          case hy104 => (intro w hSw; (try dsimp only at hSw); go_simp; try with_reducible rfl)
          try simp only [puts]
          refine wpAnyH_take (i := 5) (v := ?vv105) rfl (by kernel_rfl) (by kernel_rfl) (by kernel_rfl) (fun _ _ _ h => h) (Or.inl ⟨by rfl, ?hy105⟩) (by assumption) ?rest105
          case hy105 => (intro w hSw; (try dsimp only at hSw); go_simp; try with_reducible rfl)
          try simp only [puts]
          refine wpAnyH_take (i := 6) (v := ?vv106) rfl (by kernel_rfl) (by kernel_rfl) (by kernel_rfl) (fun _ _ _ h => h) (Or.inl ⟨by rfl, ?hy106⟩) (by assumption) ?rest106
          case hy106 => (intro w hSw; (try dsimp only at hSw); go_simp; try with_reducible rfl)
          try simp only [puts]
          refine wpAnyH_ready (rs := [1, 7]) (by kernel_rfl) (by simp) ?_
          refine AllReadyH.cons rfl (fun K hK => ?_) (AllReadyH.cons rfl (fun K hK => ?_) AllReadyH.nil)
          · go_simp
            refine hK.out _ _ ?_ (fun hHeld => ?_)
            · first | exact sS | exact sT | go_keep
            clear hK
            try simp only [puts]
            refine wpAnyH_ready (rs := [7]) (by kernel_rfl) (by simp) ?_
            refine AllReadyH.cons rfl (fun K hK => ?_) AllReadyH.nil
            go_simp
            refine hK.out _ _ ?_ (fun hHeld => ?_)
            · first | exact sS | exact sT | go_keep
            clear hK
            try simp only [puts]
            refine wpAnyH_ready (rs := [8]) (by kernel_rfl) (by simp) ?_
            refine AllReadyH.cons rfl (fun K hK => ?_) AllReadyH.nil
            (refine step_add_col (by rfl) (.tmp 73) (.tmp 79) (by rfl) (HIN.out.same (((Below.refl _ _).alloc (Nat.le_refl _) _).drew)) it.x _ (heap_alloc_new _ _) (by rfl) (by rfl) HLC.out (by omega) ?_; intro g5 cap5 w5 hd hc2 hf2 hfar; have sS : w5.cell? ⟨g, t * 4 + 2, none⟩ = some (.float .f64 it.x) := (hfar ⟨g, t * 4 + 2, none⟩ HGL.out).trans (HS2.out _ (((Below.refl _ _).alloc (Nat.le_refl _) _).drew)); have sT := (World.cell?_setCell_other w5 ⟨w4.heap.size, 2, none⟩ ⟨g, t * 4 + 2, none⟩ (.slice (some ⟨g5, 0, none⟩) (p + 1) cap5) (HNE.out t).symm).trans sS; have HD5 := Lib.hid hd; clear hd hfar)
            refine hK.out _ _ ?_ (fun hHeld => ?_)
            · first | exact sS | exact sT | go_keep
            clear hK
            try simp only [puts]
            refine wpAnyH_take (i := 9) (v := ?vv107) rfl (by kernel_rfl) (by kernel_rfl) (by kernel_rfl) (fun _ _ _ h => h) (Or.inl ⟨by rfl, ?hy107⟩) (by assumption) ?rest107
            case hy107 => (intro w hSw; (try dsimp only at hSw); go_simp; try with_reducible rfl)
            try simp only [puts]
            refine wpAnyH_ready (rs := [10]) (by kernel_rfl) (by simp) ?_
            refine AllReadyH.cons rfl (fun K hK => ?_) AllReadyH.nil
            go_simp
            refine hK.out _ _ ?_ (fun hHeld => ?_)
            · first | exact sS | exact sT | go_keep
            clear hK
            try simp only [puts]
            refine wpAnyH_done (by kernel_rfl) ?_ _
            go_wp2
            exact ⟨⟨t + 1, p + 1, _, by have := HT.out; omega, by have := HPJ.out; omega, by go_num, by rw [HTK.out]; exact HD5.out⟩, by simp [intOf]; have := HTQ.out; omega⟩
          · go_simp
            refine hK.out _ _ ?_ (fun hHeld => ?_)
            · first | exact sS | exact sT | go_keep
            clear hK
            try simp only [puts]
            refine wpAnyH_ready (rs := [1]) (by kernel_rfl) (by simp) ?_
            refine AllReadyH.cons rfl (fun K hK => ?_) AllReadyH.nil
            go_simp
            refine hK.out _ _ ?_ (fun hHeld => ?_)
            · first | exact sS | exact sT | go_keep
            clear hK
            try simp only [puts]
            refine wpAnyH_ready (rs := [8]) (by kernel_rfl) (by simp) ?_
            refine AllReadyH.cons rfl (fun K hK => ?_) AllReadyH.nil
            (refine step_add_col (by rfl) (.tmp 73) (.tmp 79) (by rfl) (HIN.out.same (((Below.refl _ _).alloc (Nat.le_refl _) _).drew)) it.x _ (heap_alloc_new _ _) (by rfl) (by rfl) HLC.out (by omega) ?_; intro g5 cap5 w5 hd hc2 hf2 hfar; have sS : w5.cell? ⟨g, t * 4 + 2, none⟩ = some (.float .f64 it.x) := (hfar ⟨g, t * 4 + 2, none⟩ HGL.out).trans (HS2.out _ (((Below.refl _ _).alloc (Nat.le_refl _) _).drew)); have sT := (World.cell?_setCell_other w5 ⟨w4.heap.size, 2, none⟩ ⟨g, t * 4 + 2, none⟩ (.slice (some ⟨g5, 0, none⟩) (p + 1) cap5) (HNE.out t).symm).trans sS; have HD5 := Lib.hid hd; clear hd hfar)
            refine hK.out _ _ ?_ (fun hHeld => ?_)
            · first | exact sS | exact sT | go_keep
            clear hK
            try simp only [puts]
            refine wpAnyH_take (i := 9) (v := ?vv108) rfl (by kernel_rfl) (by kernel_rfl) (by kernel_rfl) (fun _ _ _ h => h) (Or.inl ⟨by rfl, ?hy108⟩) (by assumption) ?rest108
            case hy108 => (intro w hSw; (try dsimp only at hSw); go_simp; try with_reducible rfl)
            try simp only [puts]
            refine wpAnyH_ready (rs := [10]) (by kernel_rfl) (by simp) ?_
            refine AllReadyH.cons rfl (fun K hK => ?_) AllReadyH.nil
            go_simp
            refine hK.out _ _ ?_ (fun hHeld => ?_)
            · first | exact sS | exact sT | go_keep
            clear hK
            try simp only [puts]
            refine wpAnyH_done (by kernel_rfl) ?_ _
            go_wp2
            exact ⟨⟨t + 1, p + 1, _, by have := HT.out; omega, by have := HPJ.out; omega, by go_num, by rw [HTK.out]; exact HD5.out⟩, by simp [intOf]; have := HTQ.out; omega⟩
        · have hpj : p = j := by omega
          have htq : ¬ t < q := by have := HT.out; have := HQ.out; omega
          have htq' : ¬ (t : Int) < (q : Int) := by omega
          rw [List.take_of_length_le (by rw [HCL.out]; omega)] at hin
          clear hpj hlt2 hp
          obtain ⟨Ac, cc, rfl, hfn, hcc, hAc⟩ := hin.cols (fun x hx => by obtain ⟨i, hi, rfl⟩ := List.mem_map.1 hx; exact HXS.out i hi)
          have hlen : (C.map (·.x)).length = j := by rw [List.length_map, HCL.out]
          have RM := Lib.hid (fun (W : World) (hb : Below wo.heap.size wo W) => rmay_any (rowOf i0 i1 i2 i3 i4 C) Ac cc W ((hfn.to_FC.below hb).more hb.size) (by show (C.map (·.x)).length ≤ maxLen; rw [hlen]; unfold maxLen; omega) HKEY.out)
          rw [hlen] at hin hcc
          unfold RowD.cells at RM
          simp only [rowOf, hlen, hdead] at RM
          have BL := Lib.hid (fun (W : World) (hb : Below wo.heap.size wo W) => ((HB.out.below (HRK.out.below.trans (hin.below.mono HRK.out.below.size))).below (hb.mono (Nat.le_trans HRK.out.below.size hin.below.size))).more (Nat.le_trans HRK.out.below.size (Nat.le_trans hin.below.size hb.size)))
          have HIN := Lib.hid hin
          have HFN := Lib.hid hfn
          have HCC := Lib.hid hcc
          have HAC := Lib.hid hAc
          have HLEN := Lib.hid hlen
          have hWB : Below wo.heap.size wo wo.drew := (Below.refl _ _).drew
          have sS := heldR (c := c) (HIN.out.same hWB).row (BL.out _ hWB) HLN.out (by omega)
          cases hok : okRow (rowOf i0 i1 i2 i3 i4 C) with
          | false =>
            have hO := HO.out
            rw [if_neg (by rw [hok]; simp)] at hO
            simp only [rowOf, hdead] at hok
            rw [hok] at RM
            subst hO
            have HW4 := Lib.hid HRK.out.lt
            clear hok hin hfn hcc hAc hlen
            obtain ⟨t0, t1, t2, t3, t4, t5, _⟩ := sS
            go_wp2
            refine wp_region_any (by kernel_rfl) ?_
            change wpAny _ _ _ _ _ _ _ (World.drew _)
            refine wpAny_ready (rs := [0]) (by kernel_rfl) (by decide) ?_
            refine AllReady.cons rfl (fun K0 h0 => ?_) AllReady.nil
            refine want_step rfl ?_
            go_wp2
            refine wpAny_ready (rs := [1]) (by kernel_rfl) (by decide) ?_
            refine AllReady.cons rfl (fun K1 h1 => ?_) AllReady.nil
            refine want_step rfl ?_
            go_wp2_with (go_at_call 9; (with_reducible refine (RM.out _ hWB).mono ?_); rintro e w5 ⟨rfl, hb5⟩; have HIN5 := Lib.hid (HIN.out.same (hWB.trans hb5)); clear hb5)
            refine wpAny_ready (rs := [2]) (by kernel_rfl) (by decide) ?_
            refine AllReady.cons rfl (fun K2 h2 => ?_) AllReady.nil
            refine want_step rfl ?_
            go_wp2
            refine wpAny_ready (rs := [3]) (by kernel_rfl) (by decide) ?_
            refine AllReady.cons rfl (fun K3 h3 => ?_) AllReady.nil
            refine want_step rfl ?_
            go_wp2
            refine wpAny_take (i := 4) (v := undef) rfl (by kernel_rfl) (by kernel_rfl) (by kernel_rfl) (fun _ _ _ h => h) (.inr ⟨by kernel_rfl, rfl⟩) ?_
            simp only [Act.put, List.setIfInBounds_toArray, List.set_cons_zero, List.set_cons_succ]
            refine wpAny_take (i := 7) (v := undef) rfl (by kernel_rfl) (by kernel_rfl) (by kernel_rfl) (fun _ _ _ h => h) (.inr ⟨by kernel_rfl, rfl⟩) ?_
            simp only [Act.put, List.setIfInBounds_toArray, List.set_cons_zero, List.set_cons_succ]
            refine wpAny_take (i := 5) (v := undef) rfl (by kernel_rfl) (by kernel_rfl) (by kernel_rfl) (fun _ _ _ h => h) (.inr ⟨by kernel_rfl, rfl⟩) ?_
            simp only [Act.put, List.setIfInBounds_toArray, List.set_cons_zero, List.set_cons_succ]
            refine wpAny_take (i := 8) (v := undef) rfl (by kernel_rfl) (by kernel_rfl) (by kernel_rfl) (fun _ _ _ h => h) (.inr ⟨by kernel_rfl, rfl⟩) ?_
            simp only [Act.put, List.setIfInBounds_toArray, List.set_cons_zero, List.set_cons_succ]
            refine wpAny_take (i := 6) (v := undef) rfl (by kernel_rfl) (by kernel_rfl) (by kernel_rfl) (fun _ _ _ h => h) (.inr ⟨by kernel_rfl, rfl⟩) ?_
            simp only [Act.put, List.setIfInBounds_toArray, List.set_cons_zero, List.set_cons_succ]
            refine wpAny_take (i := 9) (v := undef) rfl (by kernel_rfl) (by kernel_rfl) (by kernel_rfl) (fun _ _ _ h => h) (.inr ⟨by kernel_rfl, rfl⟩) ?_
            simp only [Act.put, List.setIfInBounds_toArray, List.set_cons_zero, List.set_cons_succ]
            refine wpAny_take (i := 10) (v := .bool true) rfl (by kernel_rfl) (by kernel_rfl) (by kernel_rfl) (fun _ _ _ h => h) (.inl ⟨by kernel_rfl, fun W => by go_simp⟩) ?_
            refine wpAny_done (by kernel_rfl) ?_ _
            obtain ⟨⟨g0, g1, g2, g3, g4, g5⟩, ⟨q0, q1, q2, q3, q4, q5⟩⟩ := six ((HIN5.out.below.block _ HW4.out).trans HRK.out.box)
            simp [Act.put]
            go_wp2
            refine bodyPost_ret (v := .tuple #[zeroRow, .bool false]) (by simp [results, Tryz.results105, go_sem, zeroRow, g0, g1, g2, g3, g4, g5]) rfl ?_
            exact ⟨below_six (HRK.out.below.trans (HIN5.out.below.mono HRK.out.below.size)) (Nat.le_refl _) _ (Nat.le_refl _) _ _ _ _ _ _, rfl⟩
          | true =>
            have hoi := (okRow_iff _).1 hok
            unfold tailOk at hoi
            have CB : Hid (∀ (W : World) (hb : Below wo.heap.size wo W), Calls Tryz.prog 100 #[.agg #[.float .f64 i1.x, .bool dead, .slice Ac j cc, .int .i64 (i2.n : Nat), .int .i64 (i3.n : Nat), .int .i64 (i4.n : Nat)]] W fun e w' => ∃ A5 c5, e = .returned (.slice A5 (rowBytes (rowOf i0 i1 i2 i3 i4 C)).length c5) ∧ BC w' w'.heap.size A5 (rowBytes (rowOf i0 i1 i2 i3 i4 C)) ∧ Below W.heap.size W w') := fun W hb => by
              have := rbytes_any i1.x dead (C.map (·.x)) i2.n i3.n i4.n Ac cc W ((hfn.to_FC.below hb).more hb.size) (by rw [hlen]; exact HN.out) HKEY.out (by have := hoi.2.2.2.2.2.1; simp only [rowOf] at this; omega) (by have := hoi.2.2.2.2.2.2.2.1; simp only [rowOf] at this; omega) (by have := hoi.2.2.2.2.2.2.2.2.2.1; simp only [rowOf] at this; omega)
              rw [hlen] at this
              refine this.mono fun e w' ⟨v, e1, h1, h2⟩ => ?_
              have e3 : bytesOf (rowI i1.x (if dead = true then 1 else 0) (C.map (·.x)) i2.n i3.n i4.n) = rowBytes (rowOf i0 i1 i2 i3 i4 C) := by
                unfold rowBytes rowOf
                simp only [hdead, Int.toNat_natCast]
              rw [e3] at h1
              obtain ⟨A5, c5, e5, hbc, _⟩ := h1.reads
              exact ⟨A5, c5, by rw [e1, e5], hbc, h2⟩
            have hXp := rowBytes_pos (rowOf i0 i1 i2 i3 i4 C)
            have hXl := rowBytes_lt (rowOf i0 i1 i2 i3 i4 C)
            have hO := HO.out
            have hok2 := hok
            simp only [rowOf, hdead] at hok2
            rw [hok2] at RM
            rw [hok] at hO
            simp only [true_and] at hO
            have HR := Lib.hid (show rowOf i0 i1 i2 i3 i4 C = ⟨i1.x, dead, C.map (·.x), i2.n, i3.n, i4.n⟩ by unfold rowOf; rw [hdead])
            obtain ⟨D, hD⟩ : ∃ D, rowOf i0 i1 i2 i3 i4 C = D := ⟨_, rfl⟩
            rw [hD] at CB hXp hXl hO HR
            obtain ⟨X, hX⟩ : ∃ X, rowBytes D = X := ⟨_, rfl⟩
            rw [hX] at CB hXp hXl hO
            obtain ⟨z, hz⟩ : ∃ z, X.length = z := ⟨_, rfl⟩
            rw [hz] at CB hXp
            have HXP := Lib.hid hXp
            have HZ := Lib.hid hz
            have HXL := Lib.hid hXl
            have HBL := Lib.hid HB.out.1
            have HW4 := Lib.hid HRK.out.lt
            clear hok hok2 hoi hin hfn hcc hAc hlen hD hX hz hXp hXl
            by_cases hXL : X = L
            · rw [if_pos hXL] at hO
              have hcmp : (strB X) = (strB L) := by rw [hXL]
              clear hXL
              subst hO
              go_wp2
              refine wp_region_held_drew (S := (fun w' => w'.cell? ⟨w4.heap.size, 0, none⟩ = some (.float .f64 i1.x) ∧ w'.cell? ⟨w4.heap.size, 1, none⟩ = some (.bool dead) ∧ w'.cell? ⟨w4.heap.size, 2, none⟩ = some (.slice Ac j cc) ∧ w'.cell? ⟨w4.heap.size, 3, none⟩ = some (.int .i64 (i2.n : Nat)) ∧ w'.cell? ⟨w4.heap.size, 4, none⟩ = some (.int .i64 (i3.n : Nat)) ∧ w'.cell? ⟨w4.heap.size, 5, none⟩ = some (.int .i64 (i4.n : Nat)) ∧ (convert 53 9 (.slice (some ⟨b, off, none⟩) n c)).run Tryz.prog w' = .ok (.string (strB L)) w')) (by kernel_rfl) ?_ (fun hHeld => ?_)
              · exact sS
              refine wpAnyH_take (i := 0) (v := ?vv1) rfl (by kernel_rfl) (by kernel_rfl) (by kernel_rfl) (fun _ _ _ h => h) (Or.inl ⟨by rfl, ?hy1⟩) (by assumption) ?rest1
              case hy1 => (intro w hSw; (try dsimp only at hSw); go_simp; try with_reducible rfl)
              try simp only [puts]
              refine wpAnyH_ready (rs := [1]) (by kernel_rfl) (by simp) ?_
              refine AllReadyH.cons rfl (fun K hK => ?_) AllReadyH.nil
              go_simp
              ((with_reducible refine (RM.out _ hWB).mono ?_); rintro e w5 ⟨rfl, hb5⟩; have hb5' := hWB.trans hb5; clear sS; have sS := heldR (c := c) (HIN.out.same hb5').row (BL.out _ hb5') HLN.out (by omega); have HB5 := Lib.hid hb5'; clear hb5 hb5')
              refine hK.out _ _ ?_ (fun hHeld => ?_)
              · exact sS
              clear hK
              try simp only [puts]
              refine wpAnyH_take (i := 2) (v := ?vv2) rfl (by kernel_rfl) (by kernel_rfl) (by kernel_rfl) (fun _ _ _ h => h) (Or.inl ⟨by rfl, ?hy2⟩) (by assumption) ?rest2
              case hy2 => (intro w hSw; (try dsimp only at hSw); go_simp; try with_reducible rfl)
              try simp only [puts]
              refine wpAnyH_take (i := 3) (v := ?vv3) rfl (by kernel_rfl) (by kernel_rfl) (by kernel_rfl) (fun _ _ _ h => h) (Or.inl ⟨by rfl, ?hy3⟩) (by assumption) ?rest3
              case hy3 => (intro w hSw; (try dsimp only at hSw); go_simp; try with_reducible rfl)
              try simp only [puts]
              refine wpAnyH_take (i := 4) (v := ?vv4) rfl (by kernel_rfl) (by kernel_rfl) (by kernel_rfl) (fun _ _ _ h => h) (Or.inl ⟨by rfl, ?hy4⟩) (by assumption) ?rest4
              case hy4 => (intro w hSw; (try dsimp only at hSw); go_simp; try with_reducible rfl)
              try simp only [puts]
              refine wpAnyH_take (i := 7) (v := ?vv5) rfl (by kernel_rfl) (by kernel_rfl) (by kernel_rfl) (fun _ _ _ h => h) (Or.inl ⟨by rfl, ?hy5⟩) (by assumption) ?rest5
              case hy5 => (intro w hSw; (try dsimp only at hSw); go_simp; try with_reducible rfl)
              try simp only [puts]
              refine wpAnyH_take (i := 8) (v := ?vv6) rfl (by kernel_rfl) (by kernel_rfl) (by kernel_rfl) (fun _ _ _ h => h) (Or.inl ⟨by rfl, ?hy6⟩) (by assumption) ?rest6
              case hy6 => (intro w hSw; (try dsimp only at hSw); go_simp; try with_reducible rfl)
              try simp only [puts]
              refine wpAnyH_ready (rs := [5]) (by kernel_rfl) (by simp) ?_
              refine AllReadyH.cons rfl (fun K hK => ?_) AllReadyH.nil
              go_simp
              ((with_reducible refine (CB.out _ HB5.out).mono ?_); rintro e w6 ⟨A5, c5, rfl, hbc, hb6⟩; have hb6' := HB5.out.trans (hb6.mono HB5.out.size); clear sS; have sS := heldR (c := c) (HIN.out.same hb6').row (BL.out _ hb6') HLN.out (by omega); have v6 := conv_bytes (c := c5) hbc HZ.out HXP.out; have HB6 := Lib.hid hb6'; have HIN6 := Lib.hid (HIN.out.same hb6'); clear hb6 hb6' hbc)
              refine hK.out _ _ ?_ (fun hHeld => ?_)
              · exact sS
              clear hK
              try simp only [puts]
              refine wpAnyH_ready (rs := [6]) (by kernel_rfl) (by simp) ?_
              refine AllReadyH.cons rfl (fun K hK => ?_) AllReadyH.nil
              go_simp
              refine hK.out _ _ ?_ (fun hHeld => ?_)
              · exact sS
              clear hK
              try simp only [puts]
              refine wpAnyH_take (i := 9) (v := ?vv7) rfl (by kernel_rfl) (by kernel_rfl) (by kernel_rfl) (fun _ _ _ h => h) (Or.inl ⟨by rfl, ?hy7⟩) (by assumption) ?rest7
              case hy7 => (intro w hSw; (try dsimp only at hSw); go_simp; try with_reducible rfl)
              try simp only [puts]
              refine wpAnyH_take (i := 10) (v := ?vv8) rfl (by kernel_rfl) (by kernel_rfl) (by kernel_rfl) (fun _ _ _ h => h) (Or.inl ⟨by rfl, ?hy8⟩) (by assumption) ?rest8
              case hy8 => (intro w hSw; (try dsimp only at hSw); go_simp; try with_reducible rfl)
              try simp only [puts]
              refine wpAnyH_done (by kernel_rfl) ?_ _
              obtain ⟨⟨g0, g1, g2, g3, g4, g5⟩, ⟨q0, q1, q2, q3, q4, q5⟩⟩ := six ((HIN6.out.below.block _ HW4.out).trans HRK.out.box)
              go_wp2
              refine bodyPost_ret (v := .tuple #[.agg #[.float .f64 i1.x, .bool dead, .slice Ac j cc, .int .i64 (i2.n : Nat), .int .i64 (i3.n : Nat), .int .i64 (i4.n : Nat)], .bool true]) (by simp [results, Tryz.results105, go_sem, g0, g1, g2, g3, g4, g5]) rfl ?_
              refine ⟨below_six (HRK.out.below.trans (HIN6.out.below.mono HRK.out.below.size)) (Nat.le_refl _) _ (Nat.le_refl _) _ _ _ _ _ _, Ac, cc, ?_, ?_, ?_, HAC.out⟩
              · rw [HR.out]; unfold RowD.cells; simp only [HLEN.out]
              · rw [HR.out]; exact ((HFN.out.on HB6.out).six HW4.out _ _ _ _ _ _).early (Nat.le_of_lt HW4.out)
              · rw [HR.out]; show (C.map (·.x)).length ≤ cc; rw [HLEN.out]; exact HCC.out
            · rw [if_neg hXL] at hO
              have hcmp : ((strB X).toList == (strB L).toList) = false := strB_bne HXL.out HBL.out hXL
              clear hXL
              subst hO
              go_wp2
              refine wp_region_held_drew (S := (fun w' => w'.cell? ⟨w4.heap.size, 0, none⟩ = some (.float .f64 i1.x) ∧ w'.cell? ⟨w4.heap.size, 1, none⟩ = some (.bool dead) ∧ w'.cell? ⟨w4.heap.size, 2, none⟩ = some (.slice Ac j cc) ∧ w'.cell? ⟨w4.heap.size, 3, none⟩ = some (.int .i64 (i2.n : Nat)) ∧ w'.cell? ⟨w4.heap.size, 4, none⟩ = some (.int .i64 (i3.n : Nat)) ∧ w'.cell? ⟨w4.heap.size, 5, none⟩ = some (.int .i64 (i4.n : Nat)) ∧ (convert 53 9 (.slice (some ⟨b, off, none⟩) n c)).run Tryz.prog w' = .ok (.string (strB L)) w')) (by kernel_rfl) ?_ (fun hHeld => ?_)
              · exact sS
              refine wpAnyH_take (i := 0) (v := ?vv9) rfl (by kernel_rfl) (by kernel_rfl) (by kernel_rfl) (fun _ _ _ h => h) (Or.inl ⟨by rfl, ?hy9⟩) (by assumption) ?rest9
              case hy9 => (intro w hSw; (try dsimp only at hSw); go_simp; try with_reducible rfl)
              try simp only [puts]
              refine wpAnyH_ready (rs := [1]) (by kernel_rfl) (by simp) ?_
              refine AllReadyH.cons rfl (fun K hK => ?_) AllReadyH.nil
              go_simp
              ((with_reducible refine (RM.out _ hWB).mono ?_); rintro e w5 ⟨rfl, hb5⟩; have hb5' := hWB.trans hb5; clear sS; have sS := heldR (c := c) (HIN.out.same hb5').row (BL.out _ hb5') HLN.out (by omega); have HB5 := Lib.hid hb5'; clear hb5 hb5')
              refine hK.out _ _ ?_ (fun hHeld => ?_)
              · exact sS
              clear hK
              try simp only [puts]
              refine wpAnyH_take (i := 2) (v := ?vv10) rfl (by kernel_rfl) (by kernel_rfl) (by kernel_rfl) (fun _ _ _ h => h) (Or.inl ⟨by rfl, ?hy10⟩) (by assumption) ?rest10
              case hy10 => (intro w hSw; (try dsimp only at hSw); go_simp; try with_reducible rfl)
              try simp only [puts]
              refine wpAnyH_take (i := 3) (v := ?vv11) rfl (by kernel_rfl) (by kernel_rfl) (by kernel_rfl) (fun _ _ _ h => h) (Or.inl ⟨by rfl, ?hy11⟩) (by assumption) ?rest11
              case hy11 => (intro w hSw; (try dsimp only at hSw); go_simp; try with_reducible rfl)
              try simp only [puts]
              refine wpAnyH_take (i := 4) (v := ?vv12) rfl (by kernel_rfl) (by kernel_rfl) (by kernel_rfl) (fun _ _ _ h => h) (Or.inl ⟨by rfl, ?hy12⟩) (by assumption) ?rest12
              case hy12 => (intro w hSw; (try dsimp only at hSw); go_simp; try with_reducible rfl)
              try simp only [puts]
              refine wpAnyH_take (i := 7) (v := ?vv13) rfl (by kernel_rfl) (by kernel_rfl) (by kernel_rfl) (fun _ _ _ h => h) (Or.inl ⟨by rfl, ?hy13⟩) (by assumption) ?rest13
              case hy13 => (intro w hSw; (try dsimp only at hSw); go_simp; try with_reducible rfl)
              try simp only [puts]
              refine wpAnyH_take (i := 8) (v := ?vv14) rfl (by kernel_rfl) (by kernel_rfl) (by kernel_rfl) (fun _ _ _ h => h) (Or.inl ⟨by rfl, ?hy14⟩) (by assumption) ?rest14
              case hy14 => (intro w hSw; (try dsimp only at hSw); go_simp; try with_reducible rfl)
              try simp only [puts]
              refine wpAnyH_ready (rs := [5]) (by kernel_rfl) (by simp) ?_
              refine AllReadyH.cons rfl (fun K hK => ?_) AllReadyH.nil
              go_simp
              ((with_reducible refine (CB.out _ HB5.out).mono ?_); rintro e w6 ⟨A5, c5, rfl, hbc, hb6⟩; have hb6' := HB5.out.trans (hb6.mono HB5.out.size); clear sS; have sS := heldR (c := c) (HIN.out.same hb6').row (BL.out _ hb6') HLN.out (by omega); have v6 := conv_bytes (c := c5) hbc HZ.out HXP.out; have HB6 := Lib.hid hb6'; have HIN6 := Lib.hid (HIN.out.same hb6'); clear hb6 hb6' hbc)
              refine hK.out _ _ ?_ (fun hHeld => ?_)
              · exact sS
              clear hK
              try simp only [puts]
              refine wpAnyH_ready (rs := [6]) (by kernel_rfl) (by simp) ?_
              refine AllReadyH.cons rfl (fun K hK => ?_) AllReadyH.nil
              go_simp
              refine hK.out _ _ ?_ (fun hHeld => ?_)
              · exact sS
              clear hK
              try simp only [puts]
              refine wpAnyH_take (i := 9) (v := ?vv15) rfl (by kernel_rfl) (by kernel_rfl) (by kernel_rfl) (fun _ _ _ h => h) (Or.inl ⟨by rfl, ?hy15⟩) (by assumption) ?rest15
              case hy15 => (intro w hSw; (try dsimp only at hSw); go_simp; try with_reducible rfl)
              try simp only [puts]
              refine wpAnyH_take (i := 10) (v := ?vv16) rfl (by kernel_rfl) (by kernel_rfl) (by kernel_rfl) (fun _ _ _ h => h) (Or.inl ⟨by rfl, ?hy16⟩) (by assumption) ?rest16
              case hy16 => (intro w hSw; (try dsimp only at hSw); go_simp; try with_reducible rfl)
              try simp only [puts]
              refine wpAnyH_done (by kernel_rfl) ?_ _
              obtain ⟨⟨g0, g1, g2, g3, g4, g5⟩, ⟨q0, q1, q2, q3, q4, q5⟩⟩ := six ((HIN6.out.below.block _ HW4.out).trans HRK.out.box)
              go_wp2
              refine bodyPost_ret (v := .tuple #[zeroRow, .bool false]) (by simp [results, Tryz.results105, go_sem, zeroRow, g0, g1, g2, g3, g4, g5]) rfl ?_
              exact ⟨below_six (HRK.out.below.trans (HIN6.out.below.mono HRK.out.below.size)) (Nat.le_refl _) _ (Nat.le_refl _) _ _ _ _ _ _, rfl⟩
end Go.Proofs.YtdbnlngkmfmnnaaGreatDoor

/- humusref04.Decode: the whole. -/
namespace Go.Proofs.YtdbnlngkmfmnnaaGreatDoor
open Go.RowKit

def docRow (L : List Nat) (I : List It) : Option RowD := match I with
  | i0 :: i1 :: i2 :: i3 :: i4 :: _ :: C => if okRow (rowOf i0 i1 i2 i3 i4 C) = true ∧ rowBytes (rowOf i0 i1 i2 i3 i4 C) = L then some (rowOf i0 i1 i2 i3 i4 C) else none
  | _ => none
/-- The document's row of bytes. -/
def docDec (L : List Nat) : Option RowD := if 20 ≤ L.length ∧ L.getD 19 0 ≤ 4 then (takeAll L (kinds (L.getD 19 0)) 0).bind fun r => docRow L r.1 else none

theorem six_of_len {I : List It} {m : Nat} (h : I.length = 6 + m) : ∃ i0 i1 i2 i3 i4 i5 C, I = i0 :: i1 :: i2 :: i3 :: i4 :: i5 :: C := by
  match I with
  | i0 :: i1 :: i2 :: i3 :: i4 :: i5 :: C => exact ⟨i0, i1, i2, i3, i4, i5, C, rfl⟩
  | [] => simp at h; omega
  | [_] => simp at h; omega
  | [_, _] => simp at h; omega
  | [_, _, _] => simp at h; omega
  | [_, _, _, _] => simp at h; omega
  | [_, _, _, _, _] => simp at h; omega

theorem rdecode_any (A : Option Addr) (c : Nat) (L : List Nat) (w : World) (hB : BC w w.heap.size A L) (hn : L.length ≤ 1000) (hc : L.length ≤ c) (hc2 : c ≤ 9223372036854775807) :
    Calls Tryz.prog 105 #[.slice A L.length c] w (DOut w (docDec L)) := by
  unfold docDec
  by_cases h20 : 20 ≤ L.length
  · obtain ⟨b, off, rfl, _⟩ := hB.2 (by omega)
    obtain ⟨m, h19⟩ : ∃ m, L[19]? = some m := ⟨_, List.getElem?_eq_getElem (by omega)⟩
    have hg : L.getD 19 0 = m := by rw [List.getD_eq_getElem?_getD, h19]; rfl
    rw [hg]
    by_cases h4 : m ≤ 4
    · rw [if_pos ⟨h20, h4⟩]
      cases ho : takeAll L (kinds m) 0 with
      | none => exact rdecode_none b off c L w hB hn h20 hc hc2 m h19 h4 ho
      | some r =>
        obtain ⟨I, a⟩ := r
        have hl := takeAll_len ho
        rw [kinds_len] at hl
        have hx := (takeAll_end hB.1 (Nat.zero_le _) ho).2.2
        obtain ⟨i0, i1, i2, i3, i4, i5, C, rfl⟩ := six_of_len hl
        exact rdecode_some b off c L w hB hn h20 hc hc2 m h19 h4 i0 i1 i2 i3 i4 i5 C a ho (fun i hi => hx i (by simp [hi])) (hx i1 (by simp))
    · rw [if_neg (fun h => h4 h.2)]
      exact rdecode_wide b off c L w hB (by unfold maxLen; omega) h20 m h19 (by omega)
  · rw [if_neg (fun h => h20 h.1)]
    exact rdecode_short A c L w (by unfold maxLen; omega) (by omega)
end Go.Proofs.YtdbnlngkmfmnnaaGreatDoor
