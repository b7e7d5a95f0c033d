/- row.Decode: the whole. -/
import Derived.Test.YtdbnlngkmfmnnaaGreatDoorH05
import Derived.Deep.DeepCutAuto
import Derived.Test.YtdbnlngkmfmnnaaGreatDoorH04
import Derived.Deep.RegionWith
namespace Go.Proofs.YtdbnlngkmfmnnaaGreatDoor
open Go.RowKit

set_option maxHeartbeats 4000000 in
set_option maxRecDepth 100000 in
theorem rowdec_ok (b off c : Nat) (L : List Nat) (w : World) (hB : BC w w.heap.size (some ⟨b, off, none⟩) L) (hn : L.length ≤ 1000) (hc : L.length ≤ c) (h21 : 21 ≤ c) (hc2 : c ≤ 9223372036854775807) (i0 i1 i2 i3 i4 i5 : It) (ho : takeAll L headK 0 = some ([i0, i1, i2, i3, i4, i5], 20)) (h20 : 20 ≤ L.length) (hx0 : i0.n ≤ 1) (hx5 : i5.n ≤ 4)
    (cl : List It) (m : Nat) (ho2 : takeAll (L.drop 20) (List.replicate i5.n 4) 0 = some (cl, m)) (hxs : ∀ i ∈ cl, i.x < 18446744073709551616) :
    Calls Tryz.prog 92 #[.slice (some ⟨b, off, none⟩) L.length c] w (RowOut w (if 20 + m = L.length ∧ okRow (rowOf i0 i1 i2 i3 i4 cl) = true then some (rowOf i0 i1 i2 i3 i4 cl) else none)) := by
  obtain ⟨n, hln⟩ : ∃ n, L.length = n := ⟨_, rfl⟩
  obtain ⟨k, hk⟩ : ∃ k, i5.n = k := ⟨_, rfl⟩
  have hcl : cl.length = k := by rw [takeAll_len ho2, List.length_replicate, hk]
  have hL := hB.1
  have hm : m ≤ 1000 := by
    have := (takeAll_end (L := L.drop 20) (fun x hx => hL x (List.mem_of_mem_drop hx)) (Nat.zero_le _) ho2).2.1
    rw [List.length_drop] at this
    omega
  rw [hln] at hn hc h20 ⊢
  rw [hk] at hx5
  obtain ⟨O, hO⟩ : ∃ O, (if 20 + m = n ∧ okRow (rowOf i0 i1 i2 i3 i4 cl) = true then some (rowOf i0 i1 i2 i3 i4 cl) else none) = O := ⟨_, rfl⟩
  rw [hO]
  have HO := Lib.hid hO
  clear hO
  have C1 := Lib.hid (head_take hB hln hn hc hc2 ho)
  have C2 : Hid (∀ {W : World} {g : Nat} (hd : Hd w W g i0 i1 i2 i3 i4 i5) (A : Option Addr) (ck : Nat) (W1 : World) (hb : Below W.heap.size W W1) (hK : IC W1 W1.heap.size A (List.replicate k 4)), Calls Tryz.prog 117 #[.slice (some ⟨b, off + 20, none⟩) (n - 20) (c - 20), .slice A k ck] W1 fun e w' => ∃ A3 c3, e = .returned (.tuple #[.slice A3 k c3, .int .i64 (m : Nat), .int .i64 0]) ∧ Hd w w' g i0 i1 i2 i3 i4 i5 ∧ IX w' A3 cl) := fun hd A ck W1 hb hK =>
    (take_c hb (((hB.drop 20).below hd.below).more hd.below.size) hK (by simp [List.mem_replicate]) (by rw [List.length_drop, hln]) (List.length_replicate) (by omega) (by omega) (by omega) (by omega)).mono fun e w' ⟨h1, h2, h3⟩ => by
      rw [hk] at ho2
      rw [ho2] at h3
      obtain ⟨v, he, hown⟩ := h3
      obtain ⟨A3, c3, rfl, hix⟩ := IX.of_own hown
      rw [hcl] at he
      exact ⟨A3, c3, he, hd.on h1, hix⟩
  have N := Lib.hid hcl
  have HXS := Lib.hid hxs
  clear hB ho hln ho2 hcl hxs hL
  unfold zbox at C1
  have hsf := run_store_f64
  have h0' : ¬ (1 : Int) < (i0.n : Int) := by omega
  have h5' : ¬ (4 : Int) < (k : Int) := by omega
  have hne : ¬ c = 20 := by omega
  have n20 : (20 : Int) ≤ (n : Int) := by omega
  have nc : (n : Int) ≤ (c : Int) := by omega
  obtain ⟨dead, hdead⟩ : ∃ dead, decide (i0.n = 1) = dead := ⟨_, rfl⟩
  have hdead' : decide ((i0.n : Int) = 1) = dead := by rw [← hdead]; exact decide_eq_decide.2 (by omega)
  go_enter Tryz.func92, Tryz.ntmps92
  go_wp2_with (first
    | (go_at_call 103; (with_reducible refine (head_any _).mono ?_); rintro e w1 ⟨A, ck, rfl, hic, hb1⟩; have HIC := Lib.hid hic; have HB1 := Lib.hid hb1; clear hic hb1)
    | (go_at_call 117; (with_reducible refine (C1.out _ _ _ HB1.out HIC.out).mono ?_); rintro e w2 ⟨g, cap, rfl, hd⟩; obtain ⟨⟨g0, g1, g2, g3, g4, g5⟩, ⟨q0, q1, q2, q3, q4, q5⟩⟩ := six hd.box; have c0 := hd.c0; have c5 := hd.c5; rw [hk] at c5; have c5a := cell_on c5 (.cells #[.int .i64 4] 3); have HD := Lib.hid hd; clear hd))
  go_region_held3 (fun w' => w'.cell? ⟨g, 21, none⟩ = some (.int .i64 (k : Nat)))
    (first | go_keep | exact hk ▸ HD3.out.c5)
    (first
    | (go_at_call 118; (with_reducible refine (rep_drew _ _ hx5).mono ?_); rintro e w3 ⟨A2, ck2, rfl, hic2, hb3⟩; have HIC2 := Lib.hid hic2; have HB3 := Lib.hid hb3; have HD3 := Lib.hid (HD.out.on hb3); clear hic2 hb3)
    | (go_at_call 117; (with_reducible refine (C2.out HD.out _ _ _ HB3.out HIC2.out).mono ?_); rintro e w4 ⟨A3, c3, rfl, hd, hix⟩; clear HD3; have d0 := hd.c0; have d1 := hd.c1; have d2 := hd.c2; have d3 := hd.c3; have d4 := hd.c4; have HD3 := Lib.hid hd; have HIX := Lib.hid hix; clear hd hix))
  go_wp2
  go_region_held3 (fun w' => w'.cell? ⟨g, 1, none⟩ = some (.int .i64 (i0.n : Nat)) ∧ w'.cell? ⟨g, 6, none⟩ = some (.float .f64 i1.x) ∧ w'.cell? ⟨g, 9, none⟩ = some (.int .i64 (i2.n : Nat)) ∧ w'.cell? ⟨g, 13, none⟩ = some (.int .i64 (i3.n : Nat)) ∧ w'.cell? ⟨g, 17, none⟩ = some (.int .i64 (i4.n : Nat))) (first | go_keep | exact ⟨d0, d1, d2, d3, d4⟩) (fail)
  go_wp2
  go_loopw [75] (fun i wr => ∃ (j : Nat) (u : Value), j ≤ k ∧ i = .int .i64 j ∧ InR w4 i1.x dead i2.n i3.n i4.n u ((cl.take j).map (·.x)) wr) (fun i _ => k - (intOf i).toNat)
  case atStart =>
    have h := InR.start w4 i1.x dead i2.n i3.n i4.n
    rw [← hdead'] at h
    exact ⟨0, _, Nat.zero_le _, rfl, by rw [← hdead']; exact h⟩
  case round =>
    obtain ⟨j, u, hj, rfl, hin⟩ := hrel
    by_cases hlt : j < k
    · obtain ⟨it, hit⟩ := get_at' N hlt
      obtain ⟨g3, e3, hg3, s0, s1, s2, s3⟩ := (HIX.out.on hin.below) j it hit
      subst e3
      have r2 := cell_of_row _ _ 2 _ _ _ hin.row
      simp only [List.getElem?_toArray, List.getElem?_cons_succ, List.getElem?_cons_zero] at r2
      have r2a := cell_on r2 (.cells #[.int .i64 (it.k : Nat), .int .i64 (it.n : Nat), .float .f64 it.x, .string ⟨#[]⟩] 123)
      have HIN := Lib.hid (hin.same ((Below.refl _ _).alloc (Nat.le_refl _) (.cells #[.int .i64 (it.k : Nat), .int .i64 (it.n : Nat), .float .f64 it.x, .string ⟨#[]⟩] 123)))
      have HLN := Lib.hid (show ((cl.take j).map (·.x)).length = j by rw [List.length_map, List.length_take, N.out]; omega)
      have HT := Lib.hid (show (cl.take (j + 1)).map (·.x) = (cl.take j).map (·.x) ++ [it.x] by rw [take_at' hit, List.map_append]; rfl)
      obtain ⟨l, hl⟩ : ∃ l, (cl.take j).map (·.x) = l := ⟨_, rfl⟩
      rw [hl] at HLN HT HIN
      clear hin hit hl
      go_wp2_with (at_builtin; refine add_col rfl (.tmp 80) (.tmp 83) rfl HIN.out it.x rfl (by simp [Act.eval, Act.put]) HLN.out (by omega) ?_; rintro g4 cap4 w5 hd hc2 hf2; have HD5 := Lib.hid hd; clear hd)
      exact ⟨⟨j + 1, _, by omega, by go_num, by rw [HT.out]; exact HD5.out⟩, by simp [intOf]; omega⟩
    · have hjk : j = k := by omega
      subst hjk
      have hin2 := hin
      rw [List.take_of_length_le (by rw [N.out]; omega)] at hin2
      obtain ⟨Ac, cc, rfl, hfn, hcc, hAc⟩ := hin2.cols (fun x hx => by obtain ⟨i, hi, rfl⟩ := List.mem_map.1 hx; exact HXS.out i hi)
      have hlen : (cl.map (·.x)).length = j := by rw [List.length_map, N.out]
      have rc : Calls Tryz.prog 102 #[.agg ((rowOf i0 i1 i2 i3 i4 cl).cells Ac cc)] wr fun e w' => e = .returned (.int .i64 (if okRow (rowOf i0 i1 i2 i3 i4 cl) then 0 else 1)) ∧ Below wr.heap.size wr w' :=
        rcheck_any _ Ac cc wr hfn.to_FC (by show (cl.map (·.x)).length ≤ maxLen; rw [hlen]; unfold maxLen; omega)
      rw [hlen] at hin2 hcc
      unfold RowD.cells at rc
      simp only [rowOf, hlen, hdead] at rc
      have hd6 := HD3.out.on (hin2.below)
      obtain ⟨⟨g0, g1, g2, g3, g4, g5⟩, ⟨q0, q1, q2, q3, q4, q5⟩⟩ := six hd6.box
      obtain ⟨⟨p0, p1, p2, p3, p4, p5⟩, _⟩ := six hin2.row
      by_cases hm20 : 20 + m = n
      · have hmi : (20 : Int) + (m : Int) = (n : Int) := by omega
        cases hok : okRow (rowOf i0 i1 i2 i3 i4 cl) with
        | false =>
          have hO := HO.out
          rw [if_neg (by rw [hok]; simp)] at hO
          simp only [rowOf, hdead] at hok
          rw [hok] at rc
          have RC := Lib.hid (rc.mono fun e w' h => (⟨h.1, hd6.on h.2⟩ : _ ∧ Hd w w' g i0 i1 i2 i3 i4 i5))
          subst hO
          clear rc hin hin2 hfn hok hd6
          go_wp2_with (go_at_call 102; (with_reducible refine RC.out.mono ?_); rintro e w6 ⟨rfl, hd⟩; obtain ⟨⟨g0, g1, g2, g3, g4, g5⟩, ⟨q0, q1, q2, q3, q4, q5⟩⟩ := six hd.box; have HD6 := Lib.hid hd; clear hd)
          refine bodyPost_ret (v := .tuple #[zeroRow, .int .i64 4]) (by simp [results, Tryz.results92, go_sem, zeroRow, g0, g1, g2, g3, g4, g5]) rfl ?_
          exact ⟨below_six HD6.out.below (Nat.le_refl _) _ (Nat.le_refl _) _ _ _ _ _ _, rfl⟩
        | true =>
          have hO := HO.out
          rw [if_pos ⟨hm20, hok⟩] at hO
          simp only [rowOf, hdead] at hok hO
          rw [hok] at rc
          have RC := Lib.hid (rc.mono fun e w' h => (⟨h.1, hd6.on h.2, hin2.same h.2, hfn.on h.2⟩ : _ ∧ Hd w w' g i0 i1 i2 i3 i4 i5 ∧ InR w4 i1.x dead i2.n i3.n i4.n (.slice Ac j cc) (cl.map (·.x)) w' ∧ FN w4 w' Ac (cl.map (·.x))))
          have HW := Lib.hid (show w.heap.size < w4.heap.size from Nat.lt_trans HD3.out.gt HD3.out.lt)
          have HLEN := Lib.hid hlen
          have HCC := Lib.hid hcc
          have HAC := Lib.hid hAc
          subst hO
          clear rc hin hin2 hfn hok hd6 hlen hcc hAc
          go_wp2_with (go_at_call 102; (with_reducible refine RC.out.mono ?_); rintro e w6 ⟨rfl, hd, hin, hfn⟩; obtain ⟨⟨g0, g1, g2, g3, g4, g5⟩, ⟨q0, q1, q2, q3, q4, q5⟩⟩ := six hd.box; obtain ⟨⟨p0, p1, p2, p3, p4, p5⟩, _⟩ := six hin.row; have HD6 := Lib.hid hd; have HFN := Lib.hid hfn; clear hd hin hfn)
          refine bodyPost_ret (v := .tuple #[.agg #[.float .f64 i1.x, .bool dead, .slice Ac j cc, .int .i64 (i2.n : Nat), .int .i64 (i3.n : Nat), .int .i64 (i4.n : Nat)], .int .i64 0]) (by simp [results, Tryz.results92, go_sem, g0, g1, g2, g3, g4, g5]) rfl ?_
          refine ⟨below_six HD6.out.below (Nat.le_refl _) _ (Nat.le_refl _) _ _ _ _ _ _, Ac, cc, ?_, ((HFN.out.six HW.out _ _ _ _ _ _).early (Nat.le_of_lt HW.out)), by show (cl.map (·.x)).length ≤ cc; rw [HLEN.out]; exact HCC.out, HAC.out⟩
          unfold RowD.cells
          simp only [HLEN.out]
      · have hmi : ¬ (20 : Int) + (m : Int) = (n : Int) := by omega
        have hO := HO.out
        rw [if_neg (fun h => hm20 h.1)] at hO
        subst hO
        have HD6 := Lib.hid hd6
        clear rc hin hin2 hfn hd6
        go_wp2
        refine bodyPost_ret (v := .tuple #[zeroRow, .int .i64 4]) (by simp [results, Tryz.results92, go_sem, zeroRow, g0, g1, g2, g3, g4, g5]) rfl ?_
        exact ⟨below_six HD6.out.below (Nat.le_refl _) _ (Nat.le_refl _) _ _ _ _ _ _, rfl⟩

theorem rowdec_any (b off c : Nat) (L : List Nat) (w : World) (hB : BC w w.heap.size (some ⟨b, off, none⟩) L) (hn : L.length ≤ 1000) (hc : L.length ≤ c) (h21 : 21 ≤ c) (hc2 : c ≤ 9223372036854775807) :
    Calls Tryz.prog 92 #[.slice (some ⟨b, off, none⟩) L.length c] w (RowOut w (rowDec L)) := by
  unfold rowDec
  cases ho : takeAll L headK 0 with
  | none => exact (rowdec_none b off c L w hB hn hc hc2 ho).mono fun e w' h => ⟨h.2, h.1⟩
  | some r =>
    obtain ⟨l, a⟩ := r
    obtain ⟨rfl, h20, hx, i0, i1, i2, i3, i4, i5, rfl⟩ := headK_end hB.1 ho
    show Calls Tryz.prog 92 _ w (RowOut w (rowDec2 L i0 i1 i2 i3 i4 i5 20))
    unfold rowDec2
    by_cases hbig : i0.n ≤ 1 ∧ i5.n ≤ 4
    · rw [if_pos hbig]
      cases ho2 : takeAll (L.drop 20) (List.replicate i5.n 4) 0 with
      | none => exact (rowdec_cut b off c L w hB hn hc h21 hc2 i0 i1 i2 i3 i4 i5 ho h20 hbig.1 hbig.2 ho2).mono fun e w' h => ⟨h.2, h.1⟩
      | some r =>
        obtain ⟨cl, m⟩ := r
        exact rowdec_ok b off c L w hB hn hc h21 hc2 i0 i1 i2 i3 i4 i5 ho h20 hbig.1 hbig.2 cl m ho2 (takeAll_end (fun x hx => hB.1 x (List.mem_of_mem_drop hx)) (Nat.zero_le _) ho2).2.2
    · rw [if_neg hbig]
      exact (rowdec_big b off c L w hB hn hc hc2 i0 i1 i2 i3 i4 i5 20 ho hbig).mono fun e w' h => ⟨h.2, h.1⟩
end Go.Proofs.YtdbnlngkmfmnnaaGreatDoor

/- bytes.trimRightByte of noughts. -/
namespace Go.Proofs.YtdbnlngkmfmnnaaGreatDoor
open Go.RowKit

set_option maxHeartbeats 2000000 in
theorem trimRight_any (b off c : Nat) (L : List Nat) (B : Nat) (w : World) (h : BC w B (some ⟨b, off, none⟩) L) (hn : L.length ≤ 1000) (hc : L.length ≤ c) (hc2 : c ≤ 9223372036854775807) :
    Calls Tryz.prog 120 #[.slice (some ⟨b, off, none⟩) L.length c, .int .u8 0] w fun e w' => ∃ m, m ≤ L.length ∧ e = .returned (.slice (some ⟨b, off, none⟩) m c) ∧ (∀ x ∈ L.drop m, x = 0) ∧ (0 < m → ∃ x, L[m - 1]? = some x ∧ x ≠ 0) ∧ w = w' := by
  obtain ⟨n, hln⟩ : ∃ n, L.length = n := ⟨_, rfl⟩
  rw [hln] at hn hc ⊢
  have H := Lib.hid h
  have N := Lib.hid hln
  clear h hln
  go_enter Tryz.func120, Tryz.ntmps120
  go_wp2
  go_loopw [0] (fun i wr => ∃ m : Nat, m ≤ n ∧ i = .slice (some ⟨b, off, none⟩) m c ∧ (∀ x ∈ L.drop m, x = 0) ∧ wr = w) (fun i _ => match i with | .slice _ m _ => m | _ => 0)
  case atStart => exact ⟨n, Nat.le_refl _, rfl, by rw [List.drop_of_length_le (by have := N.out; omega)]; simp, rfl⟩
  case round =>
    obtain ⟨m, hm, rfl, ht, rfl⟩ := hrel
    have HT := Lib.hid ht
    clear ht
    rcases Nat.eq_zero_or_pos m with rfl | hpos
    · go_wp2
      go_ret
      exact ⟨0, Nat.zero_le _, rfl, HT.out, fun h => absurd h (Nat.lt_irrefl _), rfl⟩
    · obtain ⟨x, hx⟩ : ∃ x, L[m - 1]? = some x := ⟨_, List.getElem?_eq_getElem (by have := N.out; omega)⟩
      obtain ⟨b', off', e, _, hcell⟩ := H.out.2 (by have := N.out; omega)
      injection e with e
      injection e with e1 e2
      subst e1 e2
      have hc0 := hcell _ _ hx
      have HX := Lib.hid hx
      have e1 : ((m : Int) - 1) = ((m - 1 : Nat) : Int) := by omega
      have g1 : ¬ (m : Int) - 1 < 0 := by omega
      have g2 : (m : Int) - 1 < (m : Int) := by omega
      have e3 : ((m : Int) - 1).toNat = m - 1 := by omega
      have hp : (0 : Int) < (m : Int) := by omega
      clear hcell hx
      by_cases hz : x = 0
      · subst hz
        go_wp2
        refine ⟨⟨m - 1, by omega, rfl, ?_, trivial⟩, by show m - 1 < m; omega⟩
        intro y hy
        have e : L.drop (m - 1) = 0 :: L.drop m := by
          obtain ⟨h1, h2⟩ := List.getElem?_eq_some_iff.1 HX.out
          have := List.drop_eq_getElem_cons h1
          rw [h2, show m - 1 + 1 = m by omega] at this
          exact this
        rw [e] at hy
        rcases List.mem_cons.1 hy with rfl | hy
        · rfl
        · exact HT.out y hy
      · have hz2 : ¬ (x : Int) = 0 := by omega
        go_wp2
        go_ret
        exact ⟨m, hm, rfl, HT.out, fun _ => ⟨x, HX.out, hz⟩, rfl⟩
end Go.Proofs.YtdbnlngkmfmnnaaGreatDoor

/- bytes.trimLeftByte of noughts, where the last byte is none. -/
namespace Go.Proofs.YtdbnlngkmfmnnaaGreatDoor
open Go.RowKit


set_option maxHeartbeats 2000000 in
theorem trimLeft_some (b off c z : Nat) (L : List Nat) (B : Nat) (w : World) (h : BC w B (some ⟨b, off, none⟩) L) (hn : L.length ≤ 1000) (hc : L.length ≤ c) (hl : L[L.length - 1]? = some z) (hz : z ≠ 0) :
    Calls Tryz.prog 119 #[.slice (some ⟨b, off, none⟩) L.length c, .int .u8 0] w fun e w' => ∃ A m c', e = .returned (.slice A m c') ∧ 0 < m ∧ w = w' := by
  obtain ⟨n, hln⟩ : ∃ n, L.length = n := ⟨_, rfl⟩
  rw [hln] at hn hc hl ⊢
  have hn0 : 0 < n := by have := (List.getElem?_eq_some_iff.1 hl).1; omega
  have H := Lib.hid h
  have N := Lib.hid hln
  have HL := Lib.hid hl
  clear h hln hl
  go_enter Tryz.func119, Tryz.ntmps119
  go_wp2
  go_loopw [0] (fun i wr => ∃ j : Nat, j < n ∧ i = .slice (some ⟨b, off + j, none⟩) (n - j) (c - j) ∧ wr = w) (fun i _ => match i with | .slice _ m _ => m | _ => 0)
  case atStart => exact ⟨0, hn0, rfl, rfl⟩
  case round =>
    obtain ⟨j, hj, rfl, rfl⟩ := hrel
    obtain ⟨x, hx⟩ : ∃ x, L[j]? = some x := ⟨_, List.getElem?_eq_getElem (by have := N.out; omega)⟩
    obtain ⟨b', off', e, _, hcell⟩ := H.out.2 (by have := N.out; omega)
    injection e with e
    injection e with e1 e2
    subst e1 e2
    have hc0 := hcell _ _ hx
    have hp : (0 : Int) < ((n - j : Nat) : Int) := by omega
    have hp2 : 0 < n - j := by omega
    have hlt : j < n := hj
    have hjn : ¬ n ≤ j := by omega
    have HX := Lib.hid hx
    clear hcell hx
    by_cases hx0 : x = 0
    · subst hx0
      have hj2 : j + 1 < n := by
        rcases Nat.lt_or_ge (j + 1) n with h | h
        · exact h
        · have e : n - 1 = j := by omega
          have := HL.out
          rw [e, HX.out] at this
          injection this with this
          exact absurd this.symm hz
      go_wp2
      exact ⟨⟨j + 1, hj2, by rw [Nat.add_assoc, Nat.sub_sub, Nat.sub_sub], trivial⟩, by show n - j - 1 < n - j; omega⟩
    · have hz2 : ¬ (x : Int) = 0 := by omega
      go_wp2
      go_ret
      exact ⟨_, _, ⟨_, rfl⟩, hp2, rfl⟩
end Go.Proofs.YtdbnlngkmfmnnaaGreatDoor

/- bytes.trimLeftByte of noughts, where the last byte is none. -/
namespace Go.Proofs.YtdbnlngkmfmnnaaGreatDoor
open Go.RowKit

theorem trimLeft_nil (b off c : Nat) (w : World) : Calls Tryz.prog 119 #[.slice (some ⟨b, off, none⟩) 0 c, .int .u8 0] w fun e w' => e = .returned (.slice none 0 0) ∧ w = w' := by
  go_enter Tryz.func119, Tryz.ntmps119
  go_wp2
  go_loopw [0] (fun i wr => i = .slice (some ⟨b, off, none⟩) 0 c ∧ wr = w) (fun _ _ => 0)
  case atStart => exact ⟨rfl, rfl⟩
  case round =>
    obtain ⟨rfl, rfl⟩ := hrel
    go_wp2
    go_ret
    exact ⟨rfl, rfl⟩
end Go.Proofs.YtdbnlngkmfmnnaaGreatDoor

/- bytes.Trim of noughts. -/
namespace Go.Proofs.YtdbnlngkmfmnnaaGreatDoor
open Go.RowKit

theorem BC.take {w : World} {B : Nat} {A : Option Addr} {l : List Nat} (h : BC w B A l) (m : Nat) : BC w B A (l.take m) :=
  ⟨fun x hx => h.1 x (List.mem_of_mem_take hx), fun hl => by
    obtain ⟨b, off, e, hB, hc⟩ := h.2 (by rw [List.length_take] at hl; omega)
    refine ⟨b, off, e, hB, fun j x hx => hc j x ?_⟩
    rw [List.getElem?_take] at hx
    split at hx
    · exact hx
    · cases hx⟩

set_option maxRecDepth 1000000 in
set_option maxHeartbeats 2000000 in
theorem trim_any (b off c : Nat) (L : List Nat) (B : Nat) (w : World) (h : BC w B (some ⟨b, off, none⟩) L) (hn : L.length ≤ 1000) (hc : L.length ≤ c) (hc2 : c ≤ 9223372036854775807) (hp : 0 < L.length) :
    Calls Tryz.prog 93 #[.slice (some ⟨b, off, none⟩) L.length c, .string ⟨#[0]⟩] w fun e w' => ∃ A m c', e = .returned (.slice A m c') ∧ (m = 0 ↔ ∀ x ∈ L, x = 0) ∧ Below w.heap.size w w' := by
  have cr := fun W => trimRight_any b off c L B W
  obtain ⟨n, hln⟩ : ∃ n, L.length = n := ⟨_, rfl⟩
  rw [hln] at hn hc hp cr ⊢
  have H := Lib.hid h
  have N := Lib.hid hln
  have CR := Lib.hid (cr w.drew (h.below (Below.refl _ _).drew) hn hc hc2)
  clear cr h hln
  by_cases hall : ∀ x ∈ L, x = 0
  · have C0 : Hid (Calls Tryz.prog 120 #[.slice (some ⟨b, off, none⟩) n c, .int .u8 0] w.drew fun e w' => e = .returned (.slice (some ⟨b, off, none⟩) 0 c) ∧ w.drew = w') := CR.out.mono fun e w' ⟨m, hm, he, h1, h2, hw⟩ => by
      rcases Nat.eq_zero_or_pos m with rfl | hpos
      · exact ⟨he, hw⟩
      · obtain ⟨x, hx, hx0⟩ := h2 hpos
        exact absurd (hall x (List.mem_of_getElem? hx)) hx0
    have HALL := Lib.hid hall
    clear hall
    go_enter Tryz.func93, Tryz.ntmps93
    go_wp2
    go_region_with (first
      | (go_at_call 120; refine C0.out.mono ?_; rintro e w1 ⟨rfl, rfl⟩)
      | (go_at_call 119; refine (trimLeft_nil b off c _).mono ?_; rintro e w2 ⟨rfl, rfl⟩))
    all_goals
      go_wp2
      go_ret
      exact ⟨none, 0, 0, rfl, ⟨fun _ => HALL.out, fun _ => rfl⟩, (Below.refl _ _).drew⟩
  · have C0 : Hid (Calls Tryz.prog 120 #[.slice (some ⟨b, off, none⟩) n c, .int .u8 0] w.drew fun e w' => ∃ m, e = .returned (.slice (some ⟨b, off, none⟩) m c) ∧ Hid (m ≤ n ∧ ∃ x, L[m - 1]? = some x ∧ x ≠ 0 ∧ 0 < m) ∧ w.drew = w') := CR.out.mono fun e w' ⟨m, hm, he, h1, h2, hw⟩ => by
      rcases Nat.eq_zero_or_pos m with rfl | hpos
      · exact absurd (by simpa using h1) hall
      · obtain ⟨x, hx, hx0⟩ := h2 hpos
        exact ⟨m, he, ⟨hm, x, hx, hx0, hpos⟩, hw⟩
    have C1 : Hid (∀ m, Hid (m ≤ n ∧ ∃ x, L[m - 1]? = some x ∧ x ≠ 0 ∧ 0 < m) → Calls Tryz.prog 119 #[.slice (some ⟨b, off, none⟩) m c, .int .u8 0] w.drew fun e w' => ∃ A m c', e = .returned (.slice A m c') ∧ 0 < m ∧ w.drew = w') := fun m hq => by
      obtain ⟨hm, x, hx, hx0, hpos⟩ := hq.out
      have hlen : (L.take m).length = m := by rw [List.length_take]; have := N.out; omega
      have hg : (L.take m)[(L.take m).length - 1]? = some x := by rw [hlen, List.getElem?_take, if_pos (by omega)]; exact hx
      have ct := trimLeft_some b off c x (L.take m) B w.drew ((H.out.below (Below.refl _ _).drew).take m) (by omega) (by omega) hg hx0
      rw [hlen] at ct
      exact ct
    have HALL := Lib.hid hall
    clear hall
    go_enter Tryz.func93, Tryz.ntmps93
    go_wp2
    go_region_with (first
      | (go_at_call 120; refine C0.out.mono ?_; rintro e w1 ⟨m, rfl, hq, rfl⟩)
      | (go_at_call 119; refine (C1.out _ hq).mono ?_; rintro e w2 ⟨A, m2, c2, rfl, hm2, rfl⟩))
    all_goals
      go_wp2
      go_ret
      exact ⟨A, m2, c2, rfl, ⟨fun h => absurd h (by omega), fun h => absurd h HALL.out⟩, (Below.refl _ _).drew⟩
end Go.Proofs.YtdbnlngkmfmnnaaGreatDoor

/- heap.decode. -/
namespace Go.Proofs.YtdbnlngkmfmnnaaGreatDoor
open Go.RowKit

theorem trim_nil (A : Option Addr) (c : Nat) (w : World) : Calls Tryz.prog 93 #[.slice A 0 c, .string ⟨#[0]⟩] w fun e w' => e = .returned (.slice none 0 0) ∧ w = w' := by
  go_enter Tryz.func93, Tryz.ntmps93
  go_wp2
  go_ret
  exact ⟨rfl, rfl⟩

def zeroD : RowD := ⟨0, false, [], 0, 0, 0⟩
def lenAt (L : List Nat) : Nat := 20 + 8 * (L[19]?.getD 0)
/-- The row of bytes on a leaf. -/
def decL (L : List Nat) : Option RowD :=
  if L.length = 52 ∧ lenAt L ≤ 52 then
    match rowDec (L.take (lenAt L)) with
    | some d => if ∀ x ∈ L.drop (lenAt L), x = 0 then some d else none
    | none => none
  else none

def DecOut (w : World) (L : List Nat) (e : Ending) (w' : World) : Prop := Below w.heap.size w w' ∧ match decL L with
  | some d => ∃ A c, e = .returned (.tuple #[.agg (d.cells A c), .bool true]) ∧ FN w w' A d.cols ∧ d.cols.length ≤ c ∧ (A = none → c = 0) ∧ d.key < 18446744073709551616
  | none => ∃ d A c, e = .returned (.tuple #[.agg (d.cells A c), .bool false]) ∧ d.key < 18446744073709551616 ∧ (L.length ≠ 52 → d = zeroD ∧ A = none ∧ c = 0)

set_option maxHeartbeats 2000000 in
theorem decode_len (A : Option Addr) (c : Nat) (L : List Nat) (w : World) (hn : L.length ≤ 1000) (h52 : L.length ≠ 52) :
    Calls Tryz.prog 55 #[.slice A L.length c] w (DecOut w L) := by
  have hd : decL L = none := by unfold decL; rw [if_neg (fun h => h52 h.1)]
  have HD := Lib.hid hd
  obtain ⟨n, hln⟩ : ∃ n, L.length = n := ⟨_, rfl⟩
  rw [hln] at hn h52 ⊢
  have h52' : ¬ (n : Int) = 52 := by omega
  have hsf := run_store_f64
  clear hd hln
  go_enter Tryz.func55, Tryz.ntmps55
  go_wp2
  obtain ⟨⟨g0, g1, g2, g3, g4, g5⟩, ⟨q0, q1, q2, q3, q4, q5⟩⟩ := six (heap_alloc_new w zbox)
  unfold zbox at g0 g1 g2 g3 g4 g5
  refine bodyPost_ret (v := .tuple #[zeroRow, .bool false]) (by simp [results, Tryz.results55, go_sem, zeroRow, g0, g1, g2, g3, g4, g5]) rfl ?_
  unfold DecOut
  rw [HD.out]
  exact ⟨(Below.refl _ _).alloc (Nat.le_refl _) _, zeroD, none, 0, rfl, by decide, fun _ => ⟨rfl, rfl, rfl⟩⟩

set_option maxHeartbeats 2000000 in
theorem decode_big (b off c : Nat) (L : List Nat) (w : World) (hB : BC w w.heap.size (some ⟨b, off, none⟩) L) (h52 : L.length = 52) (hx : ¬ lenAt L ≤ 52) :
    Calls Tryz.prog 55 #[.slice (some ⟨b, off, none⟩) L.length c] w (DecOut w L) := by
  have hd : decL L = none := by unfold decL; rw [if_neg (fun h => hx h.2)]
  have HD := Lib.hid hd
  rw [h52]
  obtain ⟨x, hx19⟩ : ∃ x, L[19]? = some x := ⟨_, List.getElem?_eq_getElem (by omega)⟩
  unfold lenAt at hx
  rw [hx19] at hx
  simp only [Option.getD_some] at hx
  obtain ⟨b', off', e, _, hc⟩ := hB.2 (by omega)
  injection e with e
  injection e with e1 e2
  subst e1 e2
  have hc0 := hc 19 x hx19
  have hc1 := cell_on hc0 (.cells #[.float .f64 0, .bool false, .slice none 0 0, .int .i64 0, .int .i64 0, .int .i64 0] 30)
  have hx8 := hB.1 x (List.mem_of_getElem? hx19)
  have hx' : (52 : Int) < 20 + 8 * (x : Int) := by omega
  have hsf := run_store_f64
  clear hd hc hc0 hB h52 hx19
  go_enter Tryz.func55, Tryz.ntmps55
  go_wp2
  obtain ⟨⟨g0, g1, g2, g3, g4, g5⟩, ⟨q0, q1, q2, q3, q4, q5⟩⟩ := six (heap_alloc_new w zbox)
  unfold zbox at g0 g1 g2 g3 g4 g5
  refine bodyPost_ret (v := .tuple #[zeroRow, .bool false]) (by simp [results, Tryz.results55, go_sem, zeroRow, g0, g1, g2, g3, g4, g5]) rfl ?_
  unfold DecOut
  rw [HD.out]
  exact ⟨(Below.refl _ _).alloc (Nat.le_refl _) _, zeroD, none, 0, rfl, by decide, fun _ => ⟨rfl, rfl, rfl⟩⟩

/-- The bytes behind the row, trimmed. -/
theorem trim_c {b off c n : Nat} {L : List Nat} {w : World} (hB : BC w w.heap.size (some ⟨b, off, none⟩) L) (h52 : L.length = 52) (hn : n < 52) (hc : 52 ≤ c) (hc2 : c ≤ 9223372036854775807) (W : World) (hb : Below w.heap.size w W) :
    Calls Tryz.prog 93 #[.slice (some ⟨b, off + n, none⟩) (52 - n) (c - n), .string ⟨#[0]⟩] W fun e w' => ∃ A m c', e = .returned (.slice A m c') ∧ ((m : Int) == 0) = decide (∀ x ∈ L.drop n, x = 0) ∧ Below W.heap.size W w' := by
  have hl : (L.drop n).length = 52 - n := by rw [List.length_drop, h52]
  have h := trim_any b (off + n) (c - n) (L.drop n) W.heap.size W (((hB.drop n).below hb).more hb.size) (by omega) (by omega) (by omega) (by omega)
  rw [hl] at h
  refine h.mono fun e w' ⟨A, m, c', h1, h2, h3⟩ => ⟨A, m, c', h1, ?_, h3⟩
  show decide ((m : Int) = 0) = _
  exact decide_eq_decide.2 (by rw [← h2]; omega)

set_option maxHeartbeats 2000000 in
theorem decode_none (b off c : Nat) (L : List Nat) (w : World) (hB : BC w w.heap.size (some ⟨b, off, none⟩) L) (h52 : L.length = 52) (hc : L.length ≤ c) (hc2 : c ≤ 9223372036854775807) (hx : lenAt L ≤ 52) (ho : rowDec (L.take (lenAt L)) = none) :
    Calls Tryz.prog 55 #[.slice (some ⟨b, off, none⟩) L.length c] w (DecOut w L) := by
  have hd : decL L = none := by unfold decL; rw [if_pos ⟨h52, hx⟩, ho]
  have HD := Lib.hid hd
  have CR := Lib.hid (fun W (hb : Below w.heap.size w W) => rowdec_any b off c (L.take (lenAt L)) W (((hB.take _).below hb).more hb.size) (by rw [List.length_take]; omega) (by rw [List.length_take]; omega) (by omega) hc2)
  have hlt : (L.take (lenAt L)).length = lenAt L := by rw [List.length_take]; omega
  rw [ho, hlt] at CR
  rw [h52] at hc ⊢
  obtain ⟨x, hx19⟩ : ∃ x, L[19]? = some x := ⟨_, List.getElem?_eq_getElem (by omega)⟩
  have hla : lenAt L = 20 + 8 * x := by unfold lenAt; rw [hx19]; rfl
  rw [hla] at CR hx
  obtain ⟨b', off', e, _, hcc⟩ := hB.2 (by omega)
  injection e with e
  injection e with e1 e2
  subst e1 e2
  have hc0 := hcc 19 x hx19
  have hc1 := cell_on hc0 (.cells #[.float .f64 0, .bool false, .slice none 0 0, .int .i64 0, .int .i64 0, .int .i64 0] 30)
  have hx8 := hB.1 x (List.mem_of_getElem? hx19)
  have hx' : 20 + 8 * (x : Int) ≤ 52 := by omega
  have hx2 : 20 + 8 * (x : Int) ≤ (c : Int) := by omega
  have hxt : ((20 + 8 * (x : Int))).toNat = 20 + 8 * x := by omega
  have hsf := run_store_f64
  have CR2 : Hid (Calls Tryz.prog 92 #[.slice (some ⟨b, off, none⟩) (20 + 8 * x) c] (w.alloc zbox) fun e w' => e = .returned (.tuple #[zeroRow, .int .i64 4]) ∧ Below w.heap.size w w' ∧ w'.heap[w.heap.size]? = some zbox) := (CR.out _ ((Below.refl _ _).alloc (Nat.le_refl _) zbox)).mono fun e w' h => ⟨h.2, ((Below.refl _ _).alloc (Nat.le_refl _) zbox).trans (h.1.mono (by simp)), (h.1.block _ (by simp)).trans (heap_alloc_new w zbox)⟩
  unfold zbox zeroRow at CR2
  clear hd hcc hc0 hB h52 hx19 CR ho hlt hla
  go_enter Tryz.func55, Tryz.ntmps55
  go_wp2_with (go_at_call 92; (with_reducible refine CR2.out.mono ?_); rintro e w1 ⟨rfl, hb, hk⟩; have HB := Lib.hid hb; clear hb)
  have hk2 := (Below.heap_alloc w1 (.cells #[.float .f64 0, .bool false, .slice none 0 0, .int .i64 0, .int .i64 0, .int .i64 0] 30) w.heap.size (by have := (Array.getElem?_eq_some_iff.1 hk).1; exact this)).trans hk
  obtain ⟨⟨g0, g1, g2, g3, g4, g5⟩, ⟨q0, q1, q2, q3, q4, q5⟩⟩ := six hk2
  obtain ⟨⟨p0, p1, p2, p3, p4, p5⟩, _⟩ := six (heap_alloc_new w1 zbox)
  unfold zbox at p0 p1 p2 p3 p4 p5
  have hne : ¬ w1.heap.size = w.heap.size := by have := (Array.getElem?_eq_some_iff.1 hk).1; omega
  clear hk hk2
  have hne2 : ¬ w.heap.size = w1.heap.size := fun h => hne h.symm
  go_region
  go_wp2
  refine bodyPost_ret (v := .tuple #[zeroRow, .bool false]) (by simp [results, Tryz.results55, go_sem, zeroRow, g0, g1, g2, g3, g4, g5]) rfl ?_
  unfold DecOut
  rw [HD.out]
  exact ⟨(below_six (HB.out.alloc HB.out.size _) (Nat.le_refl _) _ (Nat.le_refl _) _ _ _ _ _ _).drew, zeroD, none, 0, rfl, by decide, fun _ => ⟨rfl, rfl, rfl⟩⟩

theorem dec_end {w w1 W3 : World} {L : List Nat} {key n k1 : Nat} {dead z : Bool} {cols : List Nat} {A1 : Option Addr} {xw xr xn : Int}
    (hd : decL L = if z = true then some ⟨key, dead, cols, xw, xr, xn⟩ else none) (hn : cols.length = n) (hdk : key < 18446744073709551616)
    (hfn : FN (w.alloc zbox) w1 A1 cols ∧ n ≤ k1 ∧ (A1 = none → k1 = 0)) (hb : Below w1.heap.size w1 W3) (hb0 : Below w.heap.size w w1) (h52 : L.length = 52) :
    DecOut w L (.returned (.tuple #[.agg #[.float .f64 key, .bool dead, .slice A1 n k1, .int .i64 xw, .int .i64 xr, .int .i64 xn], .bool z]))
      ((((((W3.setCell ⟨w.heap.size, 0, none⟩ (.float .f64 key)).setCell ⟨w.heap.size, 1, none⟩ (.bool dead)).setCell ⟨w.heap.size, 2, none⟩ (.slice A1 n k1)).setCell ⟨w.heap.size, 3, none⟩ (.int .i64 xw)).setCell ⟨w.heap.size, 4, none⟩ (.int .i64 xr)).setCell ⟨w.heap.size, 5, none⟩ (.int .i64 xn)) := by
  have hB := below_six (hb0.trans (hb.mono hb0.size)) (Nat.le_refl _) w.heap.size (Nat.le_refl _) (.float .f64 key) (.bool dead) (.slice A1 n k1) (.int .i64 xw) (.int .i64 xr) (.int .i64 xn)
  unfold DecOut
  rw [hd]
  subst hn
  cases z with
  | true => exact ⟨hB, A1, k1, rfl, (((hfn.1.on hb).six (by simp) _ _ _ _ _ _).early (by simp)), hfn.2.1, hfn.2.2, hdk⟩
  | false => exact ⟨hB, ⟨key, dead, cols, xw, xr, xn⟩, A1, k1, rfl, hdk, fun h => absurd h52 h⟩

theorem DecOut.drew {w W : World} {L : List Nat} {e : Ending} (h : DecOut w L e W) : DecOut w L e W.drew := by
  unfold DecOut at *
  refine ⟨h.1.drew, ?_⟩
  have h2 := h.2
  cases hd : decL L with
  | none => rw [hd] at h2; exact h2
  | some d =>
    rw [hd] at h2
    obtain ⟨A, c, h3, h4, h5⟩ := h2
    exact ⟨A, c, h3, h4.on (Below.refl _ _).drew, h5⟩

set_option maxHeartbeats 8000000 in
theorem decode_some (b off c : Nat) (L : List Nat) (w : World) (hB : BC w w.heap.size (some ⟨b, off, none⟩) L) (h52 : L.length = 52) (hc : L.length ≤ c) (hc2 : c ≤ 9223372036854775807) (hx : lenAt L ≤ 52) (d : RowD) (ho : rowDec (L.take (lenAt L)) = some d) (hdk : d.key < 18446744073709551616) :
    Calls Tryz.prog 55 #[.slice (some ⟨b, off, none⟩) L.length c] w (DecOut w L) := by
  obtain ⟨z, hz⟩ : ∃ z, decide (∀ x ∈ L.drop (lenAt L), x = 0) = z := ⟨_, rfl⟩
  have hd : decL L = if z = true then some d else none := by
    unfold decL; rw [if_pos ⟨h52, hx⟩, ho]
    subst hz
    by_cases h : ∀ x ∈ L.drop (lenAt L), x = 0
    · simp only [if_pos h, decide_eq_true h, if_true]
    · simp only [if_neg h, decide_eq_false h]; rfl
  have HD := Lib.hid hd
  have H52 := Lib.hid h52
  have CR := Lib.hid (fun W (hb : Below w.heap.size w W) => rowdec_any b off c (L.take (lenAt L)) W (((hB.take _).below hb).more hb.size) (by rw [List.length_take]; omega) (by rw [List.length_take]; omega) (by omega) hc2)
  have hlt : (L.take (lenAt L)).length = lenAt L := by rw [List.length_take]; omega
  rw [ho, hlt] at CR
  rw [h52] at hc ⊢
  obtain ⟨x, hx19⟩ : ∃ x, L[19]? = some x := ⟨_, List.getElem?_eq_getElem (by omega)⟩
  have hla : lenAt L = 20 + 8 * x := by unfold lenAt; rw [hx19]; rfl
  rw [hla] at CR hx hz
  have CT : Hid (20 + 8 * x < 52 → ∀ W, Below w.heap.size w W → Calls Tryz.prog 93 #[.slice (some ⟨b, off + (20 + 8 * x), none⟩) (52 - (20 + 8 * x)) (c - (20 + 8 * x)), .string ⟨#[0]⟩] W fun e w' => ∃ A m c', e = .returned (.slice A m c') ∧ ((m : Int) == 0) = z ∧ Below W.heap.size W w') := fun hlt W hb => by
    rw [← hz]; exact trim_c hB h52 hlt hc hc2 W hb
  have CT0 : Hid (20 + 8 * x = 52 → z = true) := fun h => by
    rw [← hz, h, List.drop_of_length_le (by omega)]; simp
  obtain ⟨b', off', e, _, hcc⟩ := hB.2 (by omega)
  injection e with e
  injection e with e1 e2
  subst e1 e2
  have hc0 := hcc 19 x hx19
  have hc1 := cell_on hc0 (.cells #[.float .f64 0, .bool false, .slice none 0 0, .int .i64 0, .int .i64 0, .int .i64 0] 30)
  have hx8 := hB.1 x (List.mem_of_getElem? hx19)
  have hx' : 20 + 8 * (x : Int) ≤ 52 := by omega
  have hx2 : 20 + 8 * (x : Int) ≤ (c : Int) := by omega
  have hxt : ((20 + 8 * (x : Int))).toNat = 20 + 8 * x := by omega
  have hsf := run_store_f64
  have CR2 : Hid (Calls Tryz.prog 92 #[.slice (some ⟨b, off, none⟩) (20 + 8 * x) c] (w.alloc zbox) fun e w' => ∃ A k, e = .returned (.tuple #[.agg #[.float .f64 d.key, .bool d.dead, .slice A d.cols.length k, .int .i64 d.wr, .int .i64 d.rc, .int .i64 d.rn], .int .i64 0]) ∧ Below w.heap.size w w' ∧ w'.heap[w.heap.size]? = some zbox ∧ Hid (FN (w.alloc zbox) w' A d.cols ∧ d.cols.length ≤ k ∧ (A = none → k = 0))) := (CR.out _ ((Below.refl _ _).alloc (Nat.le_refl _) zbox)).mono fun e w' h => by
    obtain ⟨h1, A, k, h2, h3, h4, h5⟩ := h
    exact ⟨A, k, h2, ((Below.refl _ _).alloc (Nat.le_refl _) zbox).trans (h1.mono (by simp)), (h1.block _ (by simp)).trans (heap_alloc_new w zbox), h3, h4, h5⟩
  have HDK := Lib.hid hdk
  obtain ⟨key, dead, cols, xw, xr, xn⟩ := d
  unfold zbox at CR2
  simp only at CR2
  obtain ⟨n, hn⟩ : ∃ n, cols.length = n := ⟨_, rfl⟩
  rw [hn] at CR2
  have HN := Lib.hid hn
  clear hd hcc hc0 hB h52 hx19 CR ho hlt hla hz hdk hn
  go_enter Tryz.func55, Tryz.ntmps55
  go_wp2_with (go_at_call 92; (with_reducible refine CR2.out.mono ?_); rintro e w1 ⟨A1, k1, rfl, hb, hk, hfn⟩; have HB := Lib.hid hb; clear hb)
  have hk2 := (Below.heap_alloc w1 (.cells #[.float .f64 key, .bool dead, .slice A1 n k1, .int .i64 xw, .int .i64 xr, .int .i64 xn] 30) w.heap.size (by have := (Array.getElem?_eq_some_iff.1 hk).1; exact this)).trans hk
  obtain ⟨⟨g0, g1, g2, g3, g4, g5⟩, ⟨q0, q1, q2, q3, q4, q5⟩⟩ := six hk2
  have hkn := heap_alloc_new w1 (.cells #[.float .f64 key, .bool dead, .slice A1 n k1, .int .i64 xw, .int .i64 xr, .int .i64 xn] 30)
  have HKN := Lib.hid hkn
  have HK2 := Lib.hid hk2
  obtain ⟨⟨p0, p1, p2, p3, p4, p5⟩, _⟩ := six hkn
  have hne : ¬ w1.heap.size = w.heap.size := by have := (Array.getElem?_eq_some_iff.1 hk).1; omega
  have hne2 : ¬ w.heap.size = w1.heap.size := fun h => hne h.symm
  clear hk hk2 hkn
  by_cases hlt : 20 + 8 * x < 52
  · have hxc : ¬ c = 20 + 8 * x := by omega
    go_region_with (go_at_call 93; (with_reducible refine (CT.out hlt _ ((HB.out.alloc HB.out.size _).drew)).mono ?_); rintro e w3 ⟨A3, m3, c3, rfl, hm3, hb3⟩; obtain ⟨⟨r0, r1, r2, r3, r4, r5⟩, ⟨s0, s1, s2, s3, s4, s5⟩⟩ := six ((hb3.block w.heap.size (Array.getElem?_eq_some_iff.1 HK2.out).1).trans HK2.out); obtain ⟨⟨t0, t1, t2, t3, t4, t5⟩, _⟩ := six ((hb3.block w1.heap.size (Array.getElem?_eq_some_iff.1 HKN.out).1).trans HKN.out); have HB3 := Lib.hid hb3; clear hb3)
    all_goals
      simp [Act.put]
      go_wp2
      refine bodyPost_ret (v := .tuple #[.agg #[.float .f64 key, .bool dead, .slice A1 n k1, .int .i64 xw, .int .i64 xr, .int .i64 xn], .bool z]) (by simp [results, Tryz.results55, go_sem, r0, r1, r2, r3, r4, r5, hm3]) rfl ?_
      exact dec_end HD.out HN.out HDK.out hfn.out (((Below.refl _ _).alloc (Nat.le_refl _) _).drew.trans (HB3.out.mono (by simp))) HB.out H52.out
  · have hxe : 20 + 8 * (x : Int) = 52 := by omega
    have hxn : 20 + 8 * x = 52 := by omega
    have hz := CT0.out hxn
    subst hz
    have HD2 : Hid (decL L = some ⟨key, dead, cols, xw, xr, xn⟩) := by rw [HD.out]; exact rfl
    clear HD CT CT0
    by_cases hcc : c = 52
    · go_region_with (go_at_call 93; (with_reducible refine (trim_nil _ _ _).mono ?_); rintro e w3 ⟨rfl, rfl⟩)
      all_goals
        simp [Act.put]
        go_wp2
        refine bodyPost_ret (v := .tuple #[.agg #[.float .f64 key, .bool dead, .slice A1 n k1, .int .i64 xw, .int .i64 xr, .int .i64 xn], .bool true]) (by simp [results, Tryz.results55, go_sem, g0, g1, g2, g3, g4, g5]) rfl ?_
        exact (dec_end (by rw [HD2.out]; rfl) HN.out HDK.out hfn.out ((Below.refl _ _).alloc (Nat.le_refl _) _) HB.out H52.out).drew
    · go_region_with (go_at_call 93; (with_reducible refine (trim_nil _ _ _).mono ?_); rintro e w3 ⟨rfl, rfl⟩)
      all_goals
        simp [Act.put]
        go_wp2
        refine bodyPost_ret (v := .tuple #[.agg #[.float .f64 key, .bool dead, .slice A1 n k1, .int .i64 xw, .int .i64 xr, .int .i64 xn], .bool true]) (by simp [results, Tryz.results55, go_sem, g0, g1, g2, g3, g4, g5]) rfl ?_
        exact (dec_end (by rw [HD2.out]; rfl) HN.out HDK.out hfn.out ((Below.refl _ _).alloc (Nat.le_refl _) _) HB.out H52.out).drew

theorem rowDec_key {L : List Nat} (hL : ∀ x ∈ L, x < 256) {d : RowD} (h : rowDec L = some d) : d.key < 18446744073709551616 := by
  unfold rowDec at h
  cases ho : takeAll L headK 0 with
  | none => rw [ho] at h; cases h
  | some r =>
    obtain ⟨l, a⟩ := r
    obtain ⟨_, _, hx, i0, i1, i2, i3, i4, i5, rfl⟩ := headK_end hL ho
    rw [ho] at h
    simp only [rowDec2] at h
    split at h
    · split at h
      · split at h
        · injection h with h
          rw [← h]
          exact hx i1 (by simp)
        · cases h
      · cases h
    · cases h

/-- **heap.decode.** -/
theorem decode_any (A : Option Addr) (c : Nat) (L : List Nat) (w : World) (hB : BC w w.heap.size A L) (hn : L.length ≤ 1000) (hc : L.length ≤ c) (hc2 : c ≤ 9223372036854775807) :
    Calls Tryz.prog 55 #[.slice A L.length c] w (DecOut w L) := by
  by_cases h52 : L.length = 52
  · obtain ⟨b, off, rfl, _⟩ := hB.2 (by omega)
    by_cases hx : lenAt L ≤ 52
    · cases ho : rowDec (L.take (lenAt L)) with
      | none => exact decode_none b off c L w hB h52 hc hc2 hx ho
      | some d => exact decode_some b off c L w hB h52 hc hc2 hx d ho (rowDec_key (fun x hx => hB.1 x (List.mem_of_mem_take hx)) ho)
    · exact decode_big b off c L w hB h52 hx
  · exact decode_len A c L w hn h52
end Go.Proofs.YtdbnlngkmfmnnaaGreatDoor
