/- row.Decode: the columns gathered. -/
import Derived.Test.YtdbnlngkmfmnnaaGreatDoorH05
import Derived.Deep.DeepCutAuto
import Derived.Deep.RegionWith
namespace Go.Proofs.YtdbnlngkmfmnnaaGreatDoor
open Go.RowKit

/-- Items that were taken, as a slice. -/
def IX (w : World) (A : Option Addr) (l : List It) : Prop := ∀ (i : Nat) (it : It), l[i]? = some it → ∃ g, A = some ⟨g, 0, none⟩ ∧ g < w.heap.size ∧
  w.cell? ⟨g, i * 4, none⟩ = some (.int .i64 (it.k : Nat)) ∧ w.cell? ⟨g, i * 4 + 1, none⟩ = some (.int .i64 (it.n : Nat)) ∧ w.cell? ⟨g, i * 4 + 2, none⟩ = some (.float .f64 it.x) ∧ w.cell? ⟨g, i * 4 + 3, none⟩ = some (.string ⟨#[]⟩)
theorem IX.of_own {w : World} {base : Nat} {v : Value} {l : List It} (h : w.ownsRow base 123 4 v l.length (cellsOf l)) : ∃ A c, v = .slice A l.length c ∧ IX w A l := by
  rcases Nat.eq_zero_or_pos l.length with h0 | hp
  · rcases h.2 with ⟨rfl, _⟩ | ⟨g, cap, cur, rfl, _⟩
    · exact ⟨none, 0, by rw [h0], fun i it hi => by have := (List.getElem?_eq_some_iff.1 hi).1; omega⟩
    · exact ⟨_, _, rfl, fun i it hi => by have := (List.getElem?_eq_some_iff.1 hi).1; omega⟩
  · obtain ⟨g, cap, e, hg, hc⟩ := (Got.of_own h hp).is
    refine ⟨_, _, e, fun i it hi => ?_⟩
    obtain ⟨h1, h2, h3, h4⟩ := hc i it hi
    exact ⟨g, rfl, hg, h3, h1, h2, h4⟩
theorem IX.on {w w' : World} {A : Option Addr} {l : List It} (h : IX w A l) (hb : Below w.heap.size w w') : IX w' A l := fun i it hi => by
  obtain ⟨g, e, hg, h1, h2, h3, h4⟩ := h i it hi
  exact ⟨g, e, Nat.lt_of_lt_of_le hg hb.size, (hb.cell (p := ⟨g, i * 4, none⟩) hg).trans h1, (hb.cell (p := ⟨g, i * 4 + 1, none⟩) hg).trans h2, (hb.cell (p := ⟨g, i * 4 + 2, none⟩) hg).trans h3, (hb.cell (p := ⟨g, i * 4 + 3, none⟩) hg).trans h4⟩

/-- The row that is made, and its columns so far. -/
structure InR (w : World) (key : Nat) (dead : Bool) (x y z : Nat) (u : Value) (l : List Nat) (W : World) : Prop where
  below : Below w.heap.size w W
  row : W.heap[w.heap.size]? = some (.cells #[.float .f64 key, .bool dead, u, .int .i64 (x : Nat), .int .i64 (y : Nat), .int .i64 (z : Nat)] 30 (0, 0))
  own : W.ownsRow (w.heap.size + 1) 25 1 u l.length (l.map (Value.float .f64))

theorem InR.lt {w W : World} {key x y z : Nat} {dead : Bool} {u : Value} {l : List Nat} (h : InR w key dead x y z u l W) : w.heap.size < W.heap.size := (Array.getElem?_eq_some_iff.1 h.row).1
theorem InR.same {w W W' : World} {key x y z : Nat} {dead : Bool} {u : Value} {l : List Nat} (h : InR w key dead x y z u l W) (hb : Below W.heap.size W W') : InR w key dead x y z u l W' :=
  ⟨h.below.trans (hb.mono h.below.size), (hb.block _ h.lt).trans h.row, h.own.kept (below_grown hb none) (by cases u.ownBlock <;> simp)⟩
theorem row_set {W : World} {j : Nat} {a0 a1 a2 a3 a4 a5 v : Value} {t : TypeId} (h : W.heap[j]? = some (.cells #[a0, a1, a2, a3, a4, a5] t (0, 0))) : (W.setCell ⟨j, 2, none⟩ v).heap[j]? = some (.cells #[a0, a1, v, a3, a4, a5] t (0, 0)) := by
  rw [heap_setCell_same _ _ _ _ _ _ h]; rfl
theorem InR.done {w W w1 : World} {key x y z : Nat} {dead : Bool} {u u' : Value} {l l' : List Nat} (h : InR w key dead x y z u l W) (hown : w1.ownsRow (w.heap.size + 1) 25 1 u' l'.length (l'.map (Value.float .f64))) (hg : W.grownBy w1 u.ownBlock) :
    InR w key dead x y z u' l' (w1.setCell ⟨w.heap.size, 2, none⟩ u') := by
  have hnb : ∀ b, u.ownBlock = some b → w.heap.size + 1 ≤ b := fun b hb => (h.own.lt b hb).1
  have hl := h.lt
  refine ⟨(h.below.grown hg (by omega) fun k hk => by have := hnb k hk; omega).setCell (p := ⟨w.heap.size, 2, none⟩) (Nat.le_refl _) _, ?_, ?_⟩
  · exact row_set ((hg.block _ hl (fun e => by have := hnb _ e.symm; omega)).trans h.row)
  · refine hown.kept (grown_one w1 (T := w.heap.size) (p := ⟨w.heap.size, 2, none⟩) u' rfl) ?_
    cases hb : u'.ownBlock with
    | none => exact .inl rfl
    | some g => refine .inr fun e => ?_; injection e with e; have := (hown.lt g hb).1; omega

theorem InR.start (w : World) (key : Nat) (dead : Bool) (x y z : Nat) : InR w key dead x y z (.slice none 0 0) [] (w.drew.alloc (.cells #[.float .f64 key, .bool dead, .slice none 0 0, .int .i64 (x : Nat), .int .i64 (y : Nat), .int .i64 (z : Nat)] 30)) :=
  ⟨((Below.refl _ _).drew).alloc (by simp) _, heap_alloc_new w.drew _, World.ownsRow_nil _ _ _ _⟩

/-- The loop's append. -/
theorem add_col {ops : Array Oper} {rest : List Oper} {o : Oper} {a : Act} {Q : Exit → Act → World → Prop} (hgd : o.guard = none) (s e : Operand)
    (ho : o.op = .call { callee := .builtin .append, args := #[s, e], argTypes := #[26, 26] })
    {w W : World} {key x y z : Nat} {dead : Bool} {u : Value} {l : List Nat} (h : InR w key dead x y z u l W) (c : Nat) (hs : a.eval s = u) (he : a.eval e = .slice (some ⟨W.heap.size, 0, none⟩) 1 1) {q : Nat} (hq : l.length = q) (hm : q ≤ 1000)
    (hK : ∀ g cap w', InR w key dead x y z (.slice (some ⟨g, 0, none⟩) (q + 1) cap) (l ++ [c]) (w'.setCell ⟨w.heap.size, 2, none⟩ (.slice (some ⟨g, 0, none⟩) (q + 1) cap)) → w'.cell? ⟨w.heap.size, 2, none⟩ = some u → w'.frozen? ⟨w.heap.size, 2, none⟩ = false →
      wpList Tryz.prog ops Q rest (a.put o.dst (.slice (some ⟨g, 0, none⟩) (q + 1) cap)) w') : wpList Tryz.prog ops Q (o :: rest) a (W.alloc (.cells #[.float .f64 c] 25)) := by
  subst hq
  obtain ⟨i0, hi0, hz0, hz1, hz2⟩ := info_parts info25
  have h' := h.same ((Below.refl _ _).alloc (Nat.le_refl _) (.cells #[.float .f64 c] 25))
  have hl := h'.lt
  refine wpList_append_lies (W.alloc (.cells #[.float .f64 c] 25)) hgd s e 26 ho (w.heap.size + 1) 25 i0 (.float .f64 0) 1 8 Tryz.underlying26 hi0 hz0 hz1 hz2 rfl (by decide) u l.length (l.map (Value.float .f64)) hs h'.own ⟨W.heap.size, 0, none⟩ 1 1
    [.float .f64 c] he rfl (World.news_of_block (heap_alloc_new W _)) (by intro z hz; simp only [List.mem_cons, List.not_mem_nil, or_false] at hz; rcases hz with rfl; rfl) (by omega) (by unfold maxLen; omega) (by omega) (by omega) _ rfl ?_
  intro g cap w' hown hgrow hat hlt
  have e1 : (l ++ [c]).length = l.length + 1 := by simp
  have e2 : (l ++ [c]).map (Value.float .f64) = l.map (Value.float .f64) ++ [.float .f64 c] := by simp
  have hd := h'.done (u' := .slice (some ⟨g, 0, none⟩) (l.length + 1) cap) (l' := l ++ [c]) (by rw [e1, e2]; exact hown) hgrow
  have hnb : ∀ b, u.ownBlock = some b → w.heap.size + 1 ≤ b := fun b hb => (h.own.lt b hb).1
  refine hK g cap w' hd ?_ ?_
  · rw [hgrow.cell_far ⟨w.heap.size, 2, none⟩ hl (fun e => by have := hnb w.heap.size e.symm; omega), cell_of_row _ _ 2 _ _ _ h'.row]; rfl
  · rw [hgrow.frozen_far ⟨w.heap.size, 2, none⟩ hl (fun e => by have := hnb w.heap.size e.symm; omega)]; exact frozen_of_row _ _ 2 _ _ h'.row

theorem FN.on {w w' w'' : World} {A : Option Addr} {l : List Nat} (h : FN w w' A l) (hb : Below w'.heap.size w' w'') : FN w w'' A l :=
  ⟨h.1, fun hl => by
    obtain ⟨b, off, e, h1, h2, hc⟩ := h.2 hl
    exact ⟨b, off, e, h1, Nat.lt_of_lt_of_le h2 hb.size, fun j x hx => (hb.cell (p := ⟨b, off + j, none⟩) h2).trans (hc j x hx)⟩⟩
theorem InR.cols {w W : World} {key x y z : Nat} {dead : Bool} {u : Value} {l : List Nat} (h : InR w key dead x y z u l W) (hl : ∀ x ∈ l, x < 18446744073709551616) : ∃ A c, u = .slice A l.length c ∧ FN w W A l ∧ l.length ≤ c ∧ (A = none → c = 0) := by
  have h1 : W.ownsRow (w.alloc zbox).heap.size 25 1 u l.length (l.map (Value.float .f64)) := by
    have e : (w.alloc zbox).heap.size = w.heap.size + 1 := by simp
    rw [e]; exact h.own
  obtain ⟨A, c, e, h2, h3, h4⟩ := own1_form hl h1
  exact ⟨A, c, e, h2.early (by simp), h3, h4⟩
theorem FN.six {w W : World} {A : Option Addr} {l : List Nat} {H : Nat} (h : FN w W A l) (hH : H < w.heap.size) (a0 a1 a2 a3 a4 a5 : Value) :
    FN w ((((((W.setCell ⟨H, 0, none⟩ a0).setCell ⟨H, 1, none⟩ a1).setCell ⟨H, 2, none⟩ a2).setCell ⟨H, 3, none⟩ a3).setCell ⟨H, 4, none⟩ a4).setCell ⟨H, 5, none⟩ a5) A l :=
  (((((h.set (p := ⟨H, 0, none⟩) hH _).set (p := ⟨H, 1, none⟩) hH _).set (p := ⟨H, 2, none⟩) hH _).set (p := ⟨H, 3, none⟩) hH _).set (p := ⟨H, 4, none⟩) hH _).set (p := ⟨H, 5, none⟩) hH _
end Go.Proofs.YtdbnlngkmfmnnaaGreatDoor

/- row.Decode: the whole. -/
namespace Go.Proofs.YtdbnlngkmfmnnaaGreatDoor
open Go.RowKit

set_option maxHeartbeats 4000000 in
set_option maxRecDepth 100000 in
theorem rowdec_ok (b off c : Nat) (L : List Nat) (w : World) (hB : BC w w.heap.size (some ⟨b, off, none⟩) L) (hn : L.length ≤ 1000) (hc : L.length ≤ c) (h21 : 21 ≤ c) (hc2 : c ≤ 9223372036854775807) (i0 i1 i2 i3 i4 i5 : It) (ho : takeAll L headK 0 = some ([i0, i1, i2, i3, i4, i5], 20)) (h20 : 20 ≤ L.length) (hx0 : i0.n ≤ 1) (hx5 : i5.n ≤ 4)
    (cl : List It) (m : Nat) (ho2 : takeAll (L.drop 20) (List.replicate i5.n 4) 0 = some (cl, m)) (hxs : ∀ i ∈ cl, i.x < 18446744073709551616) :
    Calls Tryz.prog 92 #[.slice (some ⟨b, off, none⟩) L.length c] w (RowOut w (if 20 + m = L.length ∧ okRow (rowOf i0 i1 i2 i3 i4 cl) = true then some (rowOf i0 i1 i2 i3 i4 cl) else none)) := by
  obtain ⟨n, hln⟩ : ∃ n, L.length = n := ⟨_, rfl⟩
  obtain ⟨k, hk⟩ : ∃ k, i5.n = k := ⟨_, rfl⟩
  have hcl : cl.length = k := by rw [takeAll_len ho2, List.length_replicate, hk]
  have hL := hB.1
  have hm : m ≤ 1000 := by
    have := (takeAll_end (L := L.drop 20) (fun x hx => hL x (List.mem_of_mem_drop hx)) (Nat.zero_le _) ho2).2.1
    rw [List.length_drop] at this
    omega
  rw [hln] at hn hc h20 ⊢
  rw [hk] at hx5
  obtain ⟨O, hO⟩ : ∃ O, (if 20 + m = n ∧ okRow (rowOf i0 i1 i2 i3 i4 cl) = true then some (rowOf i0 i1 i2 i3 i4 cl) else none) = O := ⟨_, rfl⟩
  rw [hO]
  have HO := Lib.hid hO
  clear hO
  have C1 := Lib.hid (head_take hB hln hn hc hc2 ho)
  have C2 : Hid (∀ {W : World} {g : Nat} (hd : Hd w W g i0 i1 i2 i3 i4 i5) (A : Option Addr) (ck : Nat) (W1 : World) (hb : Below W.heap.size W W1) (hK : IC W1 W1.heap.size A (List.replicate k 4)), Calls Tryz.prog 117 #[.slice (some ⟨b, off + 20, none⟩) (n - 20) (c - 20), .slice A k ck] W1 fun e w' => ∃ A3 c3, e = .returned (.tuple #[.slice A3 k c3, .int .i64 (m : Nat), .int .i64 0]) ∧ Hd w w' g i0 i1 i2 i3 i4 i5 ∧ IX w' A3 cl) := fun hd A ck W1 hb hK =>
    (take_c hb (((hB.drop 20).below hd.below).more hd.below.size) hK (by simp [List.mem_replicate]) (by rw [List.length_drop, hln]) (List.length_replicate) (by omega) (by omega) (by omega) (by omega)).mono fun e w' ⟨h1, h2, h3⟩ => by
      rw [hk] at ho2
      rw [ho2] at h3
      obtain ⟨v, he, hown⟩ := h3
      obtain ⟨A3, c3, rfl, hix⟩ := IX.of_own hown
      rw [hcl] at he
      exact ⟨A3, c3, he, hd.on h1, hix⟩
  have N := Lib.hid hcl
  have HXS := Lib.hid hxs
  clear hB ho hln ho2 hcl hxs hL
  unfold zbox at C1
  have hsf := run_store_f64
  have h0' : ¬ (1 : Int) < (i0.n : Int) := by omega
  have h5' : ¬ (4 : Int) < (k : Int) := by omega
  have hne : ¬ c = 20 := by omega
  have n20 : (20 : Int) ≤ (n : Int) := by omega
  have nc : (n : Int) ≤ (c : Int) := by omega
  obtain ⟨dead, hdead⟩ : ∃ dead, decide (i0.n = 1) = dead := ⟨_, rfl⟩
  have hdead' : decide ((i0.n : Int) = 1) = dead := by rw [← hdead]; exact decide_eq_decide.2 (by omega)
  go_enter Tryz.func92, Tryz.ntmps92
  go_wp2_with (first
    | (go_at_call 103; (with_reducible refine (head_any _).mono ?_); rintro e w1 ⟨A, ck, rfl, hic, hb1⟩; have HIC := Lib.hid hic; have HB1 := Lib.hid hb1; clear hic hb1)
    | (go_at_call 117; (with_reducible refine (C1.out _ _ _ HB1.out HIC.out).mono ?_); rintro e w2 ⟨g, cap, rfl, hd⟩; obtain ⟨⟨g0, g1, g2, g3, g4, g5⟩, ⟨q0, q1, q2, q3, q4, q5⟩⟩ := six hd.box; have c0 := hd.c0; have c5 := hd.c5; rw [hk] at c5; have c5a := cell_on c5 (.cells #[.int .i64 4] 3); have HD := Lib.hid hd; clear hd))
  go_region_held3 (fun w' => w'.cell? ⟨g, 21, none⟩ = some (.int .i64 (k : Nat)))
    (first | go_keep | exact hk ▸ HD3.out.c5)
    (first
    | (go_at_call 118; (with_reducible refine (rep_drew _ _ hx5).mono ?_); rintro e w3 ⟨A2, ck2, rfl, hic2, hb3⟩; have HIC2 := Lib.hid hic2; have HB3 := Lib.hid hb3; have HD3 := Lib.hid (HD.out.on hb3); clear hic2 hb3)
    | (go_at_call 117; (with_reducible refine (C2.out HD.out _ _ _ HB3.out HIC2.out).mono ?_); rintro e w4 ⟨A3, c3, rfl, hd, hix⟩; clear HD3; have d0 := hd.c0; have d1 := hd.c1; have d2 := hd.c2; have d3 := hd.c3; have d4 := hd.c4; have HD3 := Lib.hid hd; have HIX := Lib.hid hix; clear hd hix))
  go_wp2
  go_region_held3 (fun w' => w'.cell? ⟨g, 1, none⟩ = some (.int .i64 (i0.n : Nat)) ∧ w'.cell? ⟨g, 6, none⟩ = some (.float .f64 i1.x) ∧ w'.cell? ⟨g, 9, none⟩ = some (.int .i64 (i2.n : Nat)) ∧ w'.cell? ⟨g, 13, none⟩ = some (.int .i64 (i3.n : Nat)) ∧ w'.cell? ⟨g, 17, none⟩ = some (.int .i64 (i4.n : Nat))) (first | go_keep | exact ⟨d0, d1, d2, d3, d4⟩) (fail)
  go_wp2
  go_loopw [75] (fun i wr => ∃ (j : Nat) (u : Value), j ≤ k ∧ i = .int .i64 j ∧ InR w4 i1.x dead i2.n i3.n i4.n u ((cl.take j).map (·.x)) wr) (fun i _ => k - (intOf i).toNat)
  case atStart =>
    have h := InR.start w4 i1.x dead i2.n i3.n i4.n
    rw [← hdead'] at h
    exact ⟨0, _, Nat.zero_le _, rfl, by rw [← hdead']; exact h⟩
  case round =>
    obtain ⟨j, u, hj, rfl, hin⟩ := hrel
    by_cases hlt : j < k
    · obtain ⟨it, hit⟩ := get_at' N hlt
      obtain ⟨g3, e3, hg3, s0, s1, s2, s3⟩ := (HIX.out.on hin.below) j it hit
      subst e3
      have r2 := cell_of_row _ _ 2 _ _ _ hin.row
      simp only [List.getElem?_toArray, List.getElem?_cons_succ, List.getElem?_cons_zero] at r2
      have r2a := cell_on r2 (.cells #[.int .i64 (it.k : Nat), .int .i64 (it.n : Nat), .float .f64 it.x, .string ⟨#[]⟩] 123)
      have HIN := Lib.hid (hin.same ((Below.refl _ _).alloc (Nat.le_refl _) (.cells #[.int .i64 (it.k : Nat), .int .i64 (it.n : Nat), .float .f64 it.x, .string ⟨#[]⟩] 123)))
      have HLN := Lib.hid (show ((cl.take j).map (·.x)).length = j by rw [List.length_map, List.length_take, N.out]; omega)
      have HT := Lib.hid (show (cl.take (j + 1)).map (·.x) = (cl.take j).map (·.x) ++ [it.x] by rw [take_at' hit, List.map_append]; rfl)
      obtain ⟨l, hl⟩ : ∃ l, (cl.take j).map (·.x) = l := ⟨_, rfl⟩
      rw [hl] at HLN HT HIN
      clear hin hit hl
      go_wp2_with (at_builtin; refine add_col rfl (.tmp 80) (.tmp 83) rfl HIN.out it.x rfl (by simp [Act.eval, Act.put]) HLN.out (by omega) ?_; rintro g4 cap4 w5 hd hc2 hf2; have HD5 := Lib.hid hd; clear hd)
      exact ⟨⟨j + 1, _, by omega, by go_num, by rw [HT.out]; exact HD5.out⟩, by simp [intOf]; omega⟩
    · have hjk : j = k := by omega
      subst hjk
      have hin2 := hin
      rw [List.take_of_length_le (by rw [N.out]; omega)] at hin2
      obtain ⟨Ac, cc, rfl, hfn, hcc, hAc⟩ := hin2.cols (fun x hx => by obtain ⟨i, hi, rfl⟩ := List.mem_map.1 hx; exact HXS.out i hi)
      have hlen : (cl.map (·.x)).length = j := by rw [List.length_map, N.out]
      have rc : Calls Tryz.prog 102 #[.agg ((rowOf i0 i1 i2 i3 i4 cl).cells Ac cc)] wr fun e w' => e = .returned (.int .i64 (if okRow (rowOf i0 i1 i2 i3 i4 cl) then 0 else 1)) ∧ Below wr.heap.size wr w' :=
        rcheck_any _ Ac cc wr hfn.to_FC (by show (cl.map (·.x)).length ≤ maxLen; rw [hlen]; unfold maxLen; omega)
      rw [hlen] at hin2 hcc
      unfold RowD.cells at rc
      simp only [rowOf, hlen, hdead] at rc
      have hd6 := HD3.out.on (hin2.below)
      obtain ⟨⟨g0, g1, g2, g3, g4, g5⟩, ⟨q0, q1, q2, q3, q4, q5⟩⟩ := six hd6.box
      obtain ⟨⟨p0, p1, p2, p3, p4, p5⟩, _⟩ := six hin2.row
      by_cases hm20 : 20 + m = n
      · have hmi : (20 : Int) + (m : Int) = (n : Int) := by omega
        cases hok : okRow (rowOf i0 i1 i2 i3 i4 cl) with
        | false =>
          have hO := HO.out
          rw [if_neg (by rw [hok]; simp)] at hO
          simp only [rowOf, hdead] at hok
          rw [hok] at rc
          have RC := Lib.hid (rc.mono fun e w' h => (⟨h.1, hd6.on h.2⟩ : _ ∧ Hd w w' g i0 i1 i2 i3 i4 i5))
          subst hO
          clear rc hin hin2 hfn hok hd6
          go_wp2_with (go_at_call 102; (with_reducible refine RC.out.mono ?_); rintro e w6 ⟨rfl, hd⟩; obtain ⟨⟨g0, g1, g2, g3, g4, g5⟩, ⟨q0, q1, q2, q3, q4, q5⟩⟩ := six hd.box; have HD6 := Lib.hid hd; clear hd)
          refine bodyPost_ret (v := .tuple #[zeroRow, .int .i64 4]) (by simp [results, Tryz.results92, go_sem, zeroRow, g0, g1, g2, g3, g4, g5]) rfl ?_
          exact ⟨below_six HD6.out.below (Nat.le_refl _) _ (Nat.le_refl _) _ _ _ _ _ _, rfl⟩
        | true =>
          have hO := HO.out
          rw [if_pos ⟨hm20, hok⟩] at hO
          simp only [rowOf, hdead] at hok hO
          rw [hok] at rc
          have RC := Lib.hid (rc.mono fun e w' h => (⟨h.1, hd6.on h.2, hin2.same h.2, hfn.on h.2⟩ : _ ∧ Hd w w' g i0 i1 i2 i3 i4 i5 ∧ InR w4 i1.x dead i2.n i3.n i4.n (.slice Ac j cc) (cl.map (·.x)) w' ∧ FN w4 w' Ac (cl.map (·.x))))
          have HW := Lib.hid (show w.heap.size < w4.heap.size from Nat.lt_trans HD3.out.gt HD3.out.lt)
          have HLEN := Lib.hid hlen
          have HCC := Lib.hid hcc
          have HAC := Lib.hid hAc
          subst hO
          clear rc hin hin2 hfn hok hd6 hlen hcc hAc
          go_wp2_with (go_at_call 102; (with_reducible refine RC.out.mono ?_); rintro e w6 ⟨rfl, hd, hin, hfn⟩; obtain ⟨⟨g0, g1, g2, g3, g4, g5⟩, ⟨q0, q1, q2, q3, q4, q5⟩⟩ := six hd.box; obtain ⟨⟨p0, p1, p2, p3, p4, p5⟩, _⟩ := six hin.row; have HD6 := Lib.hid hd; have HFN := Lib.hid hfn; clear hd hin hfn)
          refine bodyPost_ret (v := .tuple #[.agg #[.float .f64 i1.x, .bool dead, .slice Ac j cc, .int .i64 (i2.n : Nat), .int .i64 (i3.n : Nat), .int .i64 (i4.n : Nat)], .int .i64 0]) (by simp [results, Tryz.results92, go_sem, g0, g1, g2, g3, g4, g5]) rfl ?_
          refine ⟨below_six HD6.out.below (Nat.le_refl _) _ (Nat.le_refl _) _ _ _ _ _ _, Ac, cc, ?_, ((HFN.out.six HW.out _ _ _ _ _ _).early (Nat.le_of_lt HW.out)), by show (cl.map (·.x)).length ≤ cc; rw [HLEN.out]; exact HCC.out, HAC.out⟩
          unfold RowD.cells
          simp only [HLEN.out]
      · have hmi : ¬ (20 : Int) + (m : Int) = (n : Int) := by omega
        have hO := HO.out
        rw [if_neg (fun h => hm20 h.1)] at hO
        subst hO
        have HD6 := Lib.hid hd6
        clear rc hin hin2 hfn hd6
        go_wp2
        refine bodyPost_ret (v := .tuple #[zeroRow, .int .i64 4]) (by simp [results, Tryz.results92, go_sem, zeroRow, g0, g1, g2, g3, g4, g5]) rfl ?_
        exact ⟨below_six HD6.out.below (Nat.le_refl _) _ (Nat.le_refl _) _ _ _ _ _ _, rfl⟩

theorem rowdec_any (b off c : Nat) (L : List Nat) (w : World) (hB : BC w w.heap.size (some ⟨b, off, none⟩) L) (hn : L.length ≤ 1000) (hc : L.length ≤ c) (h21 : 21 ≤ c) (hc2 : c ≤ 9223372036854775807) :
    Calls Tryz.prog 92 #[.slice (some ⟨b, off, none⟩) L.length c] w (RowOut w (rowDec L)) := by
  unfold rowDec
  cases ho : takeAll L headK 0 with
  | none => exact (rowdec_none b off c L w hB hn hc hc2 ho).mono fun e w' h => ⟨h.2, h.1⟩
  | some r =>
    obtain ⟨l, a⟩ := r
    obtain ⟨rfl, h20, hx, i0, i1, i2, i3, i4, i5, rfl⟩ := headK_end hB.1 ho
    show Calls Tryz.prog 92 _ w (RowOut w (rowDec2 L i0 i1 i2 i3 i4 i5 20))
    unfold rowDec2
    by_cases hbig : i0.n ≤ 1 ∧ i5.n ≤ 4
    · rw [if_pos hbig]
      cases ho2 : takeAll (L.drop 20) (List.replicate i5.n 4) 0 with
      | none => exact (rowdec_cut b off c L w hB hn hc h21 hc2 i0 i1 i2 i3 i4 i5 ho h20 hbig.1 hbig.2 ho2).mono fun e w' h => ⟨h.2, h.1⟩
      | some r =>
        obtain ⟨cl, m⟩ := r
        exact rowdec_ok b off c L w hB hn hc h21 hc2 i0 i1 i2 i3 i4 i5 ho h20 hbig.1 hbig.2 cl m ho2 (takeAll_end (fun x hx => hB.1 x (List.mem_of_mem_drop hx)) (Nat.zero_le _) ho2).2.2
    · rw [if_neg hbig]
      exact (rowdec_big b off c L w hB hn hc hc2 i0 i1 i2 i3 i4 i5 20 ho hbig).mono fun e w' h => ⟨h.2, h.1⟩
end Go.Proofs.YtdbnlngkmfmnnaaGreatDoor

/- bytes.trimRightByte of noughts. -/
namespace Go.Proofs.YtdbnlngkmfmnnaaGreatDoor
open Go.RowKit

set_option maxHeartbeats 2000000 in
theorem trimRight_any (b off c : Nat) (L : List Nat) (B : Nat) (w : World) (h : BC w B (some ⟨b, off, none⟩) L) (hn : L.length ≤ 1000) (hc : L.length ≤ c) (hc2 : c ≤ 9223372036854775807) :
    Calls Tryz.prog 120 #[.slice (some ⟨b, off, none⟩) L.length c, .int .u8 0] w fun e w' => ∃ m, m ≤ L.length ∧ e = .returned (.slice (some ⟨b, off, none⟩) m c) ∧ (∀ x ∈ L.drop m, x = 0) ∧ (0 < m → ∃ x, L[m - 1]? = some x ∧ x ≠ 0) ∧ w = w' := by
  obtain ⟨n, hln⟩ : ∃ n, L.length = n := ⟨_, rfl⟩
  rw [hln] at hn hc ⊢
  have H := Lib.hid h
  have N := Lib.hid hln
  clear h hln
  go_enter Tryz.func120, Tryz.ntmps120
  go_wp2
  go_loopw [0] (fun i wr => ∃ m : Nat, m ≤ n ∧ i = .slice (some ⟨b, off, none⟩) m c ∧ (∀ x ∈ L.drop m, x = 0) ∧ wr = w) (fun i _ => match i with | .slice _ m _ => m | _ => 0)
  case atStart => exact ⟨n, Nat.le_refl _, rfl, by rw [List.drop_of_length_le (by have := N.out; omega)]; simp, rfl⟩
  case round =>
    obtain ⟨m, hm, rfl, ht, rfl⟩ := hrel
    have HT := Lib.hid ht
    clear ht
    rcases Nat.eq_zero_or_pos m with rfl | hpos
    · go_wp2
      go_ret
      exact ⟨0, Nat.zero_le _, rfl, HT.out, fun h => absurd h (Nat.lt_irrefl _), rfl⟩
    · obtain ⟨x, hx⟩ : ∃ x, L[m - 1]? = some x := ⟨_, List.getElem?_eq_getElem (by have := N.out; omega)⟩
      obtain ⟨b', off', e, _, hcell⟩ := H.out.2 (by have := N.out; omega)
      injection e with e
      injection e with e1 e2
      subst e1 e2
      have hc0 := hcell _ _ hx
      have HX := Lib.hid hx
      have e1 : ((m : Int) - 1) = ((m - 1 : Nat) : Int) := by omega
      have g1 : ¬ (m : Int) - 1 < 0 := by omega
      have g2 : (m : Int) - 1 < (m : Int) := by omega
      have e3 : ((m : Int) - 1).toNat = m - 1 := by omega
      have hp : (0 : Int) < (m : Int) := by omega
      clear hcell hx
      by_cases hz : x = 0
      · subst hz
        go_wp2
        refine ⟨⟨m - 1, by omega, rfl, ?_, trivial⟩, by show m - 1 < m; omega⟩
        intro y hy
        have e : L.drop (m - 1) = 0 :: L.drop m := by
          obtain ⟨h1, h2⟩ := List.getElem?_eq_some_iff.1 HX.out
          have := List.drop_eq_getElem_cons h1
          rw [h2, show m - 1 + 1 = m by omega] at this
          exact this
        rw [e] at hy
        rcases List.mem_cons.1 hy with rfl | hy
        · rfl
        · exact HT.out y hy
      · have hz2 : ¬ (x : Int) = 0 := by omega
        go_wp2
        go_ret
        exact ⟨m, hm, rfl, HT.out, fun _ => ⟨x, HX.out, hz⟩, rfl⟩
end Go.Proofs.YtdbnlngkmfmnnaaGreatDoor

/- bytes.trimLeftByte of noughts, where the last byte is none. -/
namespace Go.Proofs.YtdbnlngkmfmnnaaGreatDoor
open Go.RowKit

theorem trimLeft_nil' (b off c : Nat) (w : World) : Calls Tryz.prog 119 #[.slice (some ⟨b, off, none⟩) 0 c, .int .u8 0] w fun e w' => e = .returned (.slice none 0 0) ∧ w = w' := by
  go_enter Tryz.func119, Tryz.ntmps119
  go_wp2
  go_loopw [0] (fun i wr => i = .slice (some ⟨b, off, none⟩) 0 c ∧ wr = w) (fun _ _ => 0)
  case atStart => exact ⟨rfl, rfl⟩
  case round =>
    obtain ⟨rfl, rfl⟩ := hrel
    go_wp2
    go_ret
    exact ⟨rfl, rfl⟩

set_option maxHeartbeats 2000000 in
theorem trimLeft_some (b off c z : Nat) (L : List Nat) (B : Nat) (w : World) (h : BC w B (some ⟨b, off, none⟩) L) (hn : L.length ≤ 1000) (hc : L.length ≤ c) (hl : L[L.length - 1]? = some z) (hz : z ≠ 0) :
    Calls Tryz.prog 119 #[.slice (some ⟨b, off, none⟩) L.length c, .int .u8 0] w fun e w' => ∃ A m c', e = .returned (.slice A m c') ∧ 0 < m ∧ w = w' := by
  obtain ⟨n, hln⟩ : ∃ n, L.length = n := ⟨_, rfl⟩
  rw [hln] at hn hc hl ⊢
  have hn0 : 0 < n := by have := (List.getElem?_eq_some_iff.1 hl).1; omega
  have H := Lib.hid h
  have N := Lib.hid hln
  have HL := Lib.hid hl
  clear h hln hl
  go_enter Tryz.func119, Tryz.ntmps119
  go_wp2
  go_loopw [0] (fun i wr => ∃ j : Nat, j < n ∧ i = .slice (some ⟨b, off + j, none⟩) (n - j) (c - j) ∧ wr = w) (fun i _ => match i with | .slice _ m _ => m | _ => 0)
  case atStart => exact ⟨0, hn0, rfl, rfl⟩
  case round =>
    obtain ⟨j, hj, rfl, rfl⟩ := hrel
    obtain ⟨x, hx⟩ : ∃ x, L[j]? = some x := ⟨_, List.getElem?_eq_getElem (by have := N.out; omega)⟩
    obtain ⟨b', off', e, _, hcell⟩ := H.out.2 (by have := N.out; omega)
    injection e with e
    injection e with e1 e2
    subst e1 e2
    have hc0 := hcell _ _ hx
    have hp : (0 : Int) < ((n - j : Nat) : Int) := by omega
    have hp2 : 0 < n - j := by omega
    have hlt : j < n := hj
    have hjn : ¬ n ≤ j := by omega
    have HX := Lib.hid hx
    clear hcell hx
    by_cases hx0 : x = 0
    · subst hx0
      have hj2 : j + 1 < n := by
        rcases Nat.lt_or_ge (j + 1) n with h | h
        · exact h
        · have e : n - 1 = j := by omega
          have := HL.out
          rw [e, HX.out] at this
          injection this with this
          exact absurd this.symm hz
      go_wp2
      exact ⟨⟨j + 1, hj2, by rw [Nat.add_assoc, Nat.sub_sub, Nat.sub_sub], trivial⟩, by show n - j - 1 < n - j; omega⟩
    · have hz2 : ¬ (x : Int) = 0 := by omega
      go_wp2
      go_ret
      exact ⟨_, _, ⟨_, rfl⟩, hp2, rfl⟩
end Go.Proofs.YtdbnlngkmfmnnaaGreatDoor

/- bytes.trimLeftByte of noughts, where the last byte is none. -/
namespace Go.Proofs.YtdbnlngkmfmnnaaGreatDoor
open Go.RowKit

theorem trimLeft_nil (b off c : Nat) (w : World) : Calls Tryz.prog 119 #[.slice (some ⟨b, off, none⟩) 0 c, .int .u8 0] w fun e w' => e = .returned (.slice none 0 0) ∧ w = w' := by
  go_enter Tryz.func119, Tryz.ntmps119
  go_wp2
  go_loopw [0] (fun i wr => i = .slice (some ⟨b, off, none⟩) 0 c ∧ wr = w) (fun _ _ => 0)
  case atStart => exact ⟨rfl, rfl⟩
  case round =>
    obtain ⟨rfl, rfl⟩ := hrel
    go_wp2
    go_ret
    exact ⟨rfl, rfl⟩
end Go.Proofs.YtdbnlngkmfmnnaaGreatDoor

/- bytes.Trim of noughts. -/
namespace Go.Proofs.YtdbnlngkmfmnnaaGreatDoor
open Go.RowKit

theorem BC.take {w : World} {B : Nat} {A : Option Addr} {l : List Nat} (h : BC w B A l) (m : Nat) : BC w B A (l.take m) :=
  ⟨fun x hx => h.1 x (List.mem_of_mem_take hx), fun hl => by
    obtain ⟨b, off, e, hB, hc⟩ := h.2 (by rw [List.length_take] at hl; omega)
    refine ⟨b, off, e, hB, fun j x hx => hc j x ?_⟩
    rw [List.getElem?_take] at hx
    split at hx
    · exact hx
    · cases hx⟩

set_option maxRecDepth 1000000 in
set_option maxHeartbeats 2000000 in
theorem trim_any (b off c : Nat) (L : List Nat) (B : Nat) (w : World) (h : BC w B (some ⟨b, off, none⟩) L) (hn : L.length ≤ 1000) (hc : L.length ≤ c) (hc2 : c ≤ 9223372036854775807) (hp : 0 < L.length) :
    Calls Tryz.prog 93 #[.slice (some ⟨b, off, none⟩) L.length c, .string ⟨#[0]⟩] w fun e w' => ∃ A m c', e = .returned (.slice A m c') ∧ (m = 0 ↔ ∀ x ∈ L, x = 0) ∧ Below w.heap.size w w' := by
  have cr := fun W => trimRight_any b off c L B W
  obtain ⟨n, hln⟩ : ∃ n, L.length = n := ⟨_, rfl⟩
  rw [hln] at hn hc hp cr ⊢
  have H := Lib.hid h
  have N := Lib.hid hln
  have CR := Lib.hid (cr w.drew (h.below (Below.refl _ _).drew) hn hc hc2)
  clear cr h hln
  by_cases hall : ∀ x ∈ L, x = 0
  · have C0 : Hid (Calls Tryz.prog 120 #[.slice (some ⟨b, off, none⟩) n c, .int .u8 0] w.drew fun e w' => e = .returned (.slice (some ⟨b, off, none⟩) 0 c) ∧ w.drew = w') := CR.out.mono fun e w' ⟨m, hm, he, h1, h2, hw⟩ => by
      rcases Nat.eq_zero_or_pos m with rfl | hpos
      · exact ⟨he, hw⟩
      · obtain ⟨x, hx, hx0⟩ := h2 hpos
        exact absurd (hall x (List.mem_of_getElem? hx)) hx0
    have HALL := Lib.hid hall
    clear hall
    go_enter Tryz.func93, Tryz.ntmps93
    go_wp2
    go_region_with (first
      | (go_at_call 120; refine C0.out.mono ?_; rintro e w1 ⟨rfl, rfl⟩)
      | (go_at_call 119; refine (trimLeft_nil b off c _).mono ?_; rintro e w2 ⟨rfl, rfl⟩))
    all_goals
      go_wp2
      go_ret
      exact ⟨none, 0, 0, rfl, ⟨fun _ => HALL.out, fun _ => rfl⟩, (Below.refl _ _).drew⟩
  · have C0 : Hid (Calls Tryz.prog 120 #[.slice (some ⟨b, off, none⟩) n c, .int .u8 0] w.drew fun e w' => ∃ m, e = .returned (.slice (some ⟨b, off, none⟩) m c) ∧ Hid (m ≤ n ∧ ∃ x, L[m - 1]? = some x ∧ x ≠ 0 ∧ 0 < m) ∧ w.drew = w') := CR.out.mono fun e w' ⟨m, hm, he, h1, h2, hw⟩ => by
      rcases Nat.eq_zero_or_pos m with rfl | hpos
      · exact absurd (by simpa using h1) hall
      · obtain ⟨x, hx, hx0⟩ := h2 hpos
        exact ⟨m, he, ⟨hm, x, hx, hx0, hpos⟩, hw⟩
    have C1 : Hid (∀ m, Hid (m ≤ n ∧ ∃ x, L[m - 1]? = some x ∧ x ≠ 0 ∧ 0 < m) → Calls Tryz.prog 119 #[.slice (some ⟨b, off, none⟩) m c, .int .u8 0] w.drew fun e w' => ∃ A m c', e = .returned (.slice A m c') ∧ 0 < m ∧ w.drew = w') := fun m hq => by
      obtain ⟨hm, x, hx, hx0, hpos⟩ := hq.out
      have hlen : (L.take m).length = m := by rw [List.length_take]; have := N.out; omega
      have hg : (L.take m)[(L.take m).length - 1]? = some x := by rw [hlen, List.getElem?_take, if_pos (by omega)]; exact hx
      have ct := trimLeft_some b off c x (L.take m) B w.drew ((H.out.below (Below.refl _ _).drew).take m) (by omega) (by omega) hg hx0
      rw [hlen] at ct
      exact ct
    have HALL := Lib.hid hall
    clear hall
    go_enter Tryz.func93, Tryz.ntmps93
    go_wp2
    go_region_with (first
      | (go_at_call 120; refine C0.out.mono ?_; rintro e w1 ⟨m, rfl, hq, rfl⟩)
      | (go_at_call 119; refine (C1.out _ hq).mono ?_; rintro e w2 ⟨A, m2, c2, rfl, hm2, rfl⟩))
    all_goals
      go_wp2
      go_ret
      exact ⟨A, m2, c2, rfl, ⟨fun h => absurd h (by omega), fun h => absurd h HALL.out⟩, (Below.refl _ _).drew⟩
end Go.Proofs.YtdbnlngkmfmnnaaGreatDoor
