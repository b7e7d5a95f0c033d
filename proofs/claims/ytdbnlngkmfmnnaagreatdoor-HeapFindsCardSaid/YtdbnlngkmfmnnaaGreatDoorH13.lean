/- humusref15.Bytes: a row's bytes, filled up to 52. -/
import Derived.Test.YtdbnlngkmfmnnaaGreatDoorH12
namespace Go.Proofs.YtdbnlngkmfmnnaaGreatDoor
open Go.RowKit

theorem rowI_len (key : Nat) (dead : Nat) (l : List Nat) (x y z : Nat) : (bytesOf (rowI key dead l x y z)).length = 20 + 8 * l.length := by
  have h1 : ∀ (k n u : Nat), k ≠ 4 → (itB ⟨k, n, u⟩).length = wid k := fun k n u hk => by unfold itB; rw [if_neg hk, be_len]
  have h2 : ∀ (n u : Nat), (itB ⟨4, n, u⟩).length = 8 := fun n u => by unfold itB; rw [if_pos rfl, be_len]
  have h3 : ∀ l : List Nat, ((l.map fun v => (⟨4, 0, v⟩ : It)).flatMap itB).length = 8 * l.length := fun l => by
    induction l with
    | nil => rfl
    | cons v l ih => rw [List.map_cons, List.flatMap_cons, List.length_append, h2, ih, List.length_cons]; omega
  unfold bytesOf rowI headI
  rw [List.flatMap_append, List.length_append, h3]
  simp only [List.flatMap_cons, List.flatMap_nil, List.length_append, List.length_nil]
  rw [h1 1 _ _ (by decide), h2, h1 3 _ _ (by decide), h1 2 _ _ (by decide), h1 3 _ _ (by decide), h1 1 _ _ (by decide)]
  have : wid 1 = 1 ∧ wid 2 = 2 ∧ wid 3 = 4 := by decide
  omega

def padB (X : List Nat) : List Nat := X ++ List.replicate (52 - X.length) 0

theorem zero_BC (W : World) : BC (W.alloc (.cells #[.int .u8 0] 5)) (W.alloc (.cells #[.int .u8 0] 5)).heap.size (some ⟨W.heap.size, 0, none⟩) [0] :=
  ⟨by simp, fun _ => ⟨W.heap.size, 0, rfl, by simp, fun j x hx => by
    cases j with
    | zero => injection hx with hx; subst hx; exact (cell_of_row _ _ 0 _ _ _ (heap_alloc_new W _)).trans rfl
    | succ j => simp at hx⟩⟩

set_option maxHeartbeats 4000000 in
set_option maxRecDepth 100000 in
theorem rbytes52_any (key : Nat) (dead : Bool) (l : List Nat) (x y z : Nat) (A : Option Addr) (c : Nat) (w : World) (h : FC w w.heap.size A l) (hl : l.length ≤ 4) (hk : key < 18446744073709551616) (hx : x ≤ 2147483647) (hy : y < 65536) (hz : z ≤ 2147483647) :
    Calls Tryz.prog 63 #[.agg #[.float .f64 key, .bool dead, .slice A l.length c, .int .i64 (x : Nat), .int .i64 (y : Nat), .int .i64 (z : Nat)]] w fun e w' => ∃ v, e = .returned v ∧ OB w' w.heap.size v (padB (bytesOf (rowI key (if dead then 1 else 0) l x y z))) ∧ Below w.heap.size w w' := by
  have CB := Lib.hid (fun (W : World) (hb : Below w.heap.size w W) => rbytes_any key dead l x y z A c W ((h.below hb).more hb.size) hl hk hx hy hz)
  obtain ⟨n, hn⟩ : ∃ n, l.length = n := ⟨_, rfl⟩
  have HXL := rowI_len key (if dead then 1 else 0) l x y z
  rw [hn] at CB HXL hl ⊢
  obtain ⟨X, hX⟩ : ∃ X, bytesOf (rowI key (if dead then 1 else 0) l x y z) = X := ⟨_, rfl⟩
  rw [hX] at CB HXL ⊢
  obtain ⟨s, hs⟩ : ∃ s, X.length = s := ⟨_, rfl⟩
  have hs52 : s ≤ 52 := by omega
  have HS := Lib.hid hs
  clear h hl hk hx hy hz hn hX HXL hs
  unfold padB
  rw [HS.out]
  have CB2 : Hid (∀ W, Below w.heap.size w W → Calls Tryz.prog 100 #[.agg #[.float .f64 key, .bool dead, .slice A n c, .int .i64 (x : Nat), .int .i64 (y : Nat), .int .i64 (z : Nat)]] W fun e w' => ∃ A2 c2, e = .returned (.slice A2 s c2) ∧ OB w' w.heap.size (.slice A2 s c2) X ∧ Below w.heap.size w w') := fun W hb =>
    (CB.out W hb).mono fun e w' ⟨v, e1, h1, h2⟩ => by
      obtain ⟨A2, c2, e2, _⟩ := h1.reads
      rw [HS.out] at e2
      exact ⟨A2, c2, by rw [e1, e2], by rw [← e2]; exact ⟨ownsRow_more h1.1 hb.size, h1.2⟩, hb.trans (h2.mono hb.size)⟩
  have HB0 := Lib.hid ((Below.refl w.heap.size w).alloc (Nat.le_refl _) (.cells #[.float .f64 key, .bool dead, .slice A n c, .int .i64 (x : Nat), .int .i64 (y : Nat), .int .i64 (z : Nat)] 30))
  go_enter Tryz.func63, Tryz.ntmps63
  go_wp2_with (go_at_call 100; (with_reducible refine (CB2.out _ HB0.out).mono ?_); rintro e w1 ⟨A2, c2, rfl, hob, hb⟩; have HOB := Lib.hid hob; have HB := Lib.hid hb; clear hob hb)
  go_loopw [3] (fun v wr => ∃ (j t : Nat) (Av : Option Addr) (cv : Nat), t = s + j ∧ t ≤ 52 ∧ v = .slice Av t cv ∧ OB wr w.heap.size v (X ++ List.replicate j 0) ∧ Below w.heap.size w wr) (fun v _ => match v with | .slice _ t _ => 52 - t | _ => 0)
  case atStart => exact ⟨0, s, A2, c2, rfl, hs52, rfl, by simpa using HOB.out, HB.out⟩
  case round =>
    obtain ⟨j, t, Av, cv, ht, ht52, rfl, hob, hb⟩ := hrel
    have HT := Lib.hid ht
    have HO := Lib.hid hob
    have HBR := Lib.hid hb
    clear ht hob hb
    by_cases hlt : t < 52
    · have HLT := Lib.hid hlt
      have HA := Lib.hid ((Below.refl wr.heap.size wr).alloc (Nat.le_refl _) (.cells #[.int .u8 0] 5))
      have HLN := Lib.hid (show (X ++ List.replicate j 0).length = t by rw [List.length_append, List.length_replicate, HS.out]; exact HT.out.symm)
      go_wp2_with (at_builtin; go_loud (refine add_bytes (c := 1) (v := .slice Av t cv) rfl (.tmp 9) (.tmp 10) rfl (HO.out.same HA.out) (Nat.le_trans HBR.out.size HA.out.size) (zero_BC wr) HLN.out rfl (by decide) (by have := HLT.out; simp; omega) (by simp [Act.eval, Act.put]) (by simp [Act.eval, Act.put]) ?_); rintro g3 cap w3 ho3 hg3; have HO3 := Lib.hid ho3; have HG3 := Lib.hid hg3; clear ho3 hg3)
      refine ⟨⟨j + 1, t + 1, _, _, by have := HT.out; omega, by have := HLT.out; omega, rfl, ?_, ?_⟩, by have := HLT.out; simp; omega⟩
      · have := HO3.out
        rw [List.append_assoc, ← List.replicate_succ'] at this
        exact this
      · exact (HBR.out.trans (HA.out.mono HBR.out.size)).grown HG3.out (Nat.le_trans HBR.out.size HA.out.size) fun k hk => (HO.out.1.lt k hk).1
    · have htt : t = 52 := by omega
      subst htt
      have hj : 52 - s = j := by have := HT.out; omega
      have HJ := Lib.hid hj
      clear hj
      go_wp2
      go_ret
      exact ⟨_, rfl, by rw [HJ.out]; exact HO.out, HBR.out⟩
end Go.Proofs.YtdbnlngkmfmnnaaGreatDoor

/- humusref15.Decode: the cases without a row. -/
namespace Go.Proofs.YtdbnlngkmfmnnaaGreatDoor
open Go.RowKit

/-- The document's slot of bytes. -/
def doc15 (L : List Nat) : Option RowD := if L.length = 52 ∧ L.getD 19 0 ≤ 4 then (docDec (L.take (20 + 8 * L.getD 19 0))).bind fun d => if padB (rowBytes d) = L then some d else none else none

set_option maxHeartbeats 2000000 in
theorem dec15_short (A : Option Addr) (c : Nat) (L : List Nat) (w : World) (hm : L.length ≤ maxLen) (h : L.length ≠ 52) : Calls Tryz.prog 86 #[.slice A L.length c] w (DOut w none) := by
  obtain ⟨n, hn⟩ : ∃ n, L.length = n := ⟨_, rfl⟩
  rw [hn] at h hm ⊢
  unfold maxLen at hm
  have h52' : ¬ (n : Int) = 52 := by omega
  have hsf := run_store_f64
  unfold DOut
  go_enter Tryz.func86, Tryz.ntmps86
  go_wp2
  obtain ⟨⟨g0, g1, g2, g3, g4, g5⟩, ⟨q0, q1, q2, q3, q4, q5⟩⟩ := six (heap_alloc_new w zbox)
  unfold zbox at g0 g1 g2 g3 g4 g5
  refine bodyPost_ret (v := .tuple #[zeroRow, .bool false]) (by simp [results, Tryz.results86, go_sem, zeroRow, g0, g1, g2, g3, g4, g5]) rfl ?_
  exact ⟨(Below.refl _ _).alloc (Nat.le_refl _) _, rfl⟩

set_option maxHeartbeats 2000000 in
theorem dec15_wide (b off c : Nat) (L : List Nat) (w : World) (hB : BC w w.heap.size (some ⟨b, off, none⟩) L) (h : L.length = 52) (m : Nat) (h19 : L[19]? = some m) (h4 : 4 < m) : Calls Tryz.prog 86 #[.slice (some ⟨b, off, none⟩) L.length c] w (DOut w none) := by
  obtain ⟨b', off', e, hb, hc⟩ := hB.2 (by omega)
  injection e with e; injection e with e1 e2; subst e1 e2
  have c19 := cell_on (hc 19 m h19) (.cells #[.float .f64 0, .bool false, .slice none 0 0, .int .i64 0, .int .i64 0, .int .i64 0] 30)
  have hm256 := hB.1 m (List.mem_of_getElem? h19)
  rw [h]
  have f2 : decide ((4 : Int) < (m : Int)) = true := by simp; omega
  have hsf := run_store_f64
  clear hB hc h19 h
  unfold DOut
  go_enter Tryz.func86, Tryz.ntmps86
  go_wp2
  obtain ⟨⟨g0, g1, g2, g3, g4, g5⟩, ⟨q0, q1, q2, q3, q4, q5⟩⟩ := six (heap_alloc_new w zbox)
  unfold zbox at g0 g1 g2 g3 g4 g5
  refine bodyPost_ret (v := .tuple #[zeroRow, .bool false]) (by simp [results, Tryz.results86, go_sem, zeroRow, g0, g1, g2, g3, g4, g5]) rfl ?_
  exact ⟨(Below.refl _ _).alloc (Nat.le_refl _) _, rfl⟩

set_option maxHeartbeats 4000000 in
set_option maxRecDepth 100000 in
theorem dec15_none (b off c : Nat) (L : List Nat) (w : World) (hB : BC w w.heap.size (some ⟨b, off, none⟩) L) (h : L.length = 52) (hc : 52 ≤ c) (hc2 : c ≤ 9223372036854775807) (m : Nat) (h19 : L[19]? = some m) (h4 : m ≤ 4) (ho : docDec (L.take (20 + 8 * m)) = none) : Calls Tryz.prog 86 #[.slice (some ⟨b, off, none⟩) L.length c] w (DOut w none) := by
  obtain ⟨b', off', e, hb, hcl⟩ := hB.2 (by omega)
  injection e with e; injection e with e1 e2; subst e1 e2
  have c19 := cell_on (hcl 19 m h19) (.cells #[.float .f64 0, .bool false, .slice none 0 0, .int .i64 0, .int .i64 0, .int .i64 0] 30)
  have CT : Hid (∀ W, Below w.heap.size w W → Calls Tryz.prog 105 #[.slice (some ⟨b, off, none⟩) (20 + 8 * m) c] W fun e w' => e = .returned (.tuple #[zeroRow, .bool false]) ∧ Below W.heap.size W w') := fun W hW => by
    have hl : (L.take (20 + 8 * m)).length = 20 + 8 * m := by rw [List.length_take]; omega
    have hBt : BC W W.heap.size (some ⟨b, off, none⟩) (L.take (20 + 8 * m)) := by
      have hBW := (hB.below hW).more hW.size
      obtain ⟨b2, off2, e2, hb2, hcl2⟩ := hBW.2 (by omega)
      refine ⟨fun x hx => hBW.1 x (List.mem_of_mem_take hx), fun _ => ⟨b2, off2, e2, hb2, fun j x hx => hcl2 j x ?_⟩⟩
      rw [List.getElem?_take] at hx
      split at hx
      · exact hx
      · cases hx
    have := rdecode_any _ c (L.take (20 + 8 * m)) W hBt (by omega) (by omega) hc2
    rw [hl, ho] at this
    exact this.mono fun e w' ⟨h1, h2⟩ => ⟨h2, h1⟩
  rw [h]
  have HB0 := Lib.hid ((Below.refl w.heap.size w).alloc (Nat.le_refl _) (.cells #[.float .f64 0, .bool false, .slice none 0 0, .int .i64 0, .int .i64 0, .int .i64 0] 30))
  have HZ := Lib.hid (heap_alloc_new w (.cells #[.float .f64 0, .bool false, .slice none 0 0, .int .i64 0, .int .i64 0, .int .i64 0] 30))
  have f2 : decide ((4 : Int) < (m : Int)) = false := by simp; omega
  have hsf := run_store_f64
  clear hB hcl h19 h ho
  unfold DOut
  have k1 : 20 ≤ c := by omega
  have k2 : 28 ≤ c := by omega
  have k3 : 36 ≤ c := by omega
  have k4 : 44 ≤ c := by omega
  have hcases : m = 0 ∨ m = 1 ∨ m = 2 ∨ m = 3 ∨ m = 4 := by omega
  rcases hcases with rfl | rfl | rfl | rfl | rfl
  all_goals
    unfold zeroRow at CT
    go_enter Tryz.func86, Tryz.ntmps86
    go_wp2_with (go_at_call 105; (with_reducible refine (CT.out _ HB0.out).mono ?_); rintro e w1 ⟨rfl, hb1⟩; have HB1 := Lib.hid hb1; clear hb1)
    refine wp_region_any (by kernel_rfl) ?_
    change wpAny _ _ _ _ _ _ _ (World.drew _)
    refine wpAny_take (i := 0) (v := .bool false) rfl (by kernel_rfl) (by kernel_rfl) (by kernel_rfl) (fun _ _ _ h => h) (.inl ⟨by kernel_rfl, fun W => by go_simp⟩) ?_
    simp only [Act.put, List.setIfInBounds_toArray, List.set_cons_zero, List.set_cons_succ]
    refine wpAny_take (i := 1) (v := .bool true) rfl (by kernel_rfl) (by kernel_rfl) (by kernel_rfl) (fun _ _ _ h => h) (.inl ⟨by kernel_rfl, fun W => by go_simp⟩) ?_
    simp only [Act.put, List.setIfInBounds_toArray, List.set_cons_zero, List.set_cons_succ]
    refine wpAny_take (i := 2) (v := .bool true) rfl (by kernel_rfl) (by kernel_rfl) (by kernel_rfl) (fun _ _ _ h => h) (.inl ⟨by kernel_rfl, fun W => by go_simp⟩) ?_
    simp only [Act.put, List.setIfInBounds_toArray, List.set_cons_zero, List.set_cons_succ]
    refine wpAny_take (i := 3) (v := undef) rfl (by kernel_rfl) (by kernel_rfl) (by kernel_rfl) (fun _ _ _ h => h) (.inr ⟨by kernel_rfl, rfl⟩) ?_
    simp only [Act.put, List.setIfInBounds_toArray, List.set_cons_zero, List.set_cons_succ]
    refine wpAny_take (i := 6) (v := undef) rfl (by kernel_rfl) (by kernel_rfl) (by kernel_rfl) (fun _ _ _ h => h) (.inr ⟨by kernel_rfl, rfl⟩) ?_
    simp only [Act.put, List.setIfInBounds_toArray, List.set_cons_zero, List.set_cons_succ]
    refine wpAny_take (i := 4) (v := undef) rfl (by kernel_rfl) (by kernel_rfl) (by kernel_rfl) (fun _ _ _ h => h) (.inr ⟨by kernel_rfl, rfl⟩) ?_
    simp only [Act.put, List.setIfInBounds_toArray, List.set_cons_zero, List.set_cons_succ]
    refine wpAny_take (i := 7) (v := undef) rfl (by kernel_rfl) (by kernel_rfl) (by kernel_rfl) (fun _ _ _ h => h) (.inr ⟨by kernel_rfl, rfl⟩) ?_
    simp only [Act.put, List.setIfInBounds_toArray, List.set_cons_zero, List.set_cons_succ]
    refine wpAny_take (i := 5) (v := undef) rfl (by kernel_rfl) (by kernel_rfl) (by kernel_rfl) (fun _ _ _ h => h) (.inr ⟨by kernel_rfl, rfl⟩) ?_
    simp only [Act.put, List.setIfInBounds_toArray, List.set_cons_zero, List.set_cons_succ]
    refine wpAny_take (i := 8) (v := undef) rfl (by kernel_rfl) (by kernel_rfl) (by kernel_rfl) (fun _ _ _ h => h) (.inr ⟨by kernel_rfl, rfl⟩) ?_
    simp only [Act.put, List.setIfInBounds_toArray, List.set_cons_zero, List.set_cons_succ]
    refine wpAny_take (i := 9) (v := .bool true) rfl (by kernel_rfl) (by kernel_rfl) (by kernel_rfl) (fun _ _ _ h => h) (.inl ⟨by kernel_rfl, fun W => by go_simp⟩) ?_
    refine wpAny_done (by kernel_rfl) ?_ _
    have hwl : w.heap.size < (w.alloc (.cells #[.float .f64 0, .bool false, .slice none 0 0, .int .i64 0, .int .i64 0, .int .i64 0] 30)).heap.size := by simp
    have hb2 := (Below.refl w1.heap.size w1).alloc (Nat.le_refl _) (.cells #[.float .f64 0, .bool false, .slice none 0 0, .int .i64 0, .int .i64 0, .int .i64 0] 30)
    obtain ⟨⟨g0, g1, g2, g3, g4, g5⟩, ⟨q0, q1, q2, q3, q4, q5⟩⟩ := six ((hb2.block w.heap.size (Nat.lt_of_lt_of_le hwl HB1.out.size)).trans ((HB1.out.block w.heap.size hwl).trans HZ.out))
    have HB2 := Lib.hid (HB0.out.trans ((HB1.out.trans (hb2.mono HB1.out.size)).mono HB0.out.size))
    clear hb2
    simp [Act.put]
    go_wp2
    refine bodyPost_ret (v := .tuple #[zeroRow, .bool false]) (by simp [results, Tryz.results86, go_sem, zeroRow, g0, g1, g2, g3, g4, g5]) rfl ?_
    exact ⟨(below_six HB2.out (Nat.le_refl _) _ (Nat.le_refl _) _ _ _ _ _ _).drew, rfl⟩
end Go.Proofs.YtdbnlngkmfmnnaaGreatDoor

/- humusref15.Decode: a row. -/
namespace Go.Proofs.YtdbnlngkmfmnnaaGreatDoor
open Go.RowKit

set_option maxHeartbeats 4000000 in
set_option maxRecDepth 100000 in
theorem dec15_some (b off c : Nat) (L : List Nat) (w : World) (hB : BC w w.heap.size (some ⟨b, off, none⟩) L) (h : L.length = 52) (hc : 52 ≤ c) (hc2 : c ≤ 9223372036854775807) (m : Nat) (h19 : L[19]? = some m) (h4 : m ≤ 4) (key : Nat) (dead : Bool) (cols : List Nat) (x y z : Nat) (ho : docDec (L.take (20 + 8 * m)) = some ⟨key, dead, cols, x, y, z⟩) (hcl4 : cols.length ≤ 4) (hk : key < 18446744073709551616) (hx : x ≤ 2147483647) (hy : y < 65536) (hz : z ≤ 2147483647) :
    Calls Tryz.prog 86 #[.slice (some ⟨b, off, none⟩) L.length c] w (DOut w (if padB (rowBytes ⟨key, dead, cols, x, y, z⟩) = L then some ⟨key, dead, cols, x, y, z⟩ else none)) := by
  obtain ⟨b', off', e, hb, hcl⟩ := hB.2 (by omega)
  injection e with e; injection e with e1 e2; subst e1 e2
  have c19 := cell_on (hcl 19 m h19) (.cells #[.float .f64 0, .bool false, .slice none 0 0, .int .i64 0, .int .i64 0, .int .i64 0] 30)
  obtain ⟨n, hn⟩ : ∃ n, cols.length = n := ⟨_, rfl⟩
  have CT : Hid (∀ W, Below w.heap.size w W → Calls Tryz.prog 105 #[.slice (some ⟨b, off, none⟩) (20 + 8 * m) c] W fun e w' => ∃ A2 c2, e = .returned (.tuple #[.agg #[.float .f64 key, .bool dead, .slice A2 n c2, .int .i64 (x : Nat), .int .i64 (y : Nat), .int .i64 (z : Nat)], .bool true]) ∧ Below W.heap.size W w' ∧ FN W w' A2 cols ∧ n ≤ c2 ∧ (A2 = none → c2 = 0)) := fun W hW => by
    have hl : (L.take (20 + 8 * m)).length = 20 + 8 * m := by rw [List.length_take]; omega
    have hBt : BC W W.heap.size (some ⟨b, off, none⟩) (L.take (20 + 8 * m)) := by
      have hBW := (hB.below hW).more hW.size
      obtain ⟨b2, off2, e2, hb2, hcl2⟩ := hBW.2 (by omega)
      refine ⟨fun x hx => hBW.1 x (List.mem_of_mem_take hx), fun _ => ⟨b2, off2, e2, hb2, fun j x hx => hcl2 j x ?_⟩⟩
      rw [List.getElem?_take] at hx
      split at hx
      · exact hx
      · cases hx
    have := rdecode_any _ c (L.take (20 + 8 * m)) W hBt (by omega) (by omega) hc2
    rw [hl, ho] at this
    exact this.mono fun e w' ⟨h1, A, c2, h2, h3, h4, h5⟩ => by
      unfold RowD.cells at h2
      simp only [hn] at h2 h4
      exact ⟨A, c2, h2, h1, h3, h4, h5⟩
  obtain ⟨O, hO⟩ : ∃ O, (if padB (rowBytes ⟨key, dead, cols, x, y, z⟩) = L then some (⟨key, dead, cols, x, y, z⟩ : RowD) else none) = O := ⟨_, rfl⟩
  rw [hO, h]
  have HO := Lib.hid hO
  have HB := Lib.hid hB
  have HLN := Lib.hid h
  have HN := Lib.hid hn
  have HB0 := Lib.hid ((Below.refl w.heap.size w).alloc (Nat.le_refl _) (.cells #[.float .f64 0, .bool false, .slice none 0 0, .int .i64 0, .int .i64 0, .int .i64 0] 30))
  have HZ := Lib.hid (heap_alloc_new w (.cells #[.float .f64 0, .bool false, .slice none 0 0, .int .i64 0, .int .i64 0, .int .i64 0] 30))
  have f2 : decide ((4 : Int) < (m : Int)) = false := by simp; omega
  have hsf := run_store_f64
  have RB5 := Lib.hid (fun (W : World) (A : Option Addr) (c2 : Nat) (hf : FC W W.heap.size A cols) => rbytes52_any key dead cols x y z A c2 W hf hcl4 hk hx hy hz)
  have hXe : padB (bytesOf (rowI key (if dead = true then 1 else 0) cols x y z)) = padB (rowBytes ⟨key, dead, cols, x, y, z⟩) := by unfold rowBytes; simp only [Int.toNat_natCast]
  rw [hXe, hn] at RB5
  have HXL : Hid (∀ v ∈ padB (rowBytes ⟨key, dead, cols, x, y, z⟩), v < 256) := fun v hv => by
    unfold padB at hv
    rcases List.mem_append.1 hv with hv | hv
    · exact rowBytes_lt _ v hv
    · rw [List.mem_replicate] at hv; omega
  have HXP : Hid (0 < (padB (rowBytes ⟨key, dead, cols, x, y, z⟩)).length) := by unfold padB; rw [List.length_append]; have := rowBytes_pos ⟨key, dead, cols, x, y, z⟩; exact Nat.lt_of_lt_of_le this (Nat.le_add_right _ _)
  have HBL := Lib.hid hB.1
  clear hXe
  clear hB hcl h19 h ho hO
  unfold DOut
  have k1 : 20 ≤ c := by omega
  have k2 : 28 ≤ c := by omega
  have k3 : 36 ≤ c := by omega
  have k4 : 44 ≤ c := by omega
  have hcases : m = 0 ∨ m = 1 ∨ m = 2 ∨ m = 3 ∨ m = 4 := by omega
  rcases hcases with rfl | rfl | rfl | rfl | rfl
  all_goals
    go_enter Tryz.func86, Tryz.ntmps86
    go_wp2_with (go_at_call 105; (with_reducible refine (CT.out _ HB0.out).mono ?_); rintro e w1 ⟨A2, c2, rfl, hb1, hfn, hnc, hA⟩; have HB1 := Lib.hid hb1; have HFN := Lib.hid hfn; have HNC := Lib.hid hnc; have HA := Lib.hid hA; clear hb1 hfn hnc hA)
    obtain ⟨X, hX⟩ : ∃ X, padB (rowBytes ⟨key, dead, cols, x, y, z⟩) = X := ⟨_, rfl⟩
    rw [hX] at RB5 HXL HXP HO
    obtain ⟨W1, hW1⟩ : ∃ W1, w1.alloc (.cells #[.float .f64 key, .bool dead, .slice A2 n c2, .int .i64 (x : Nat), .int .i64 (y : Nat), .int .i64 (z : Nat)] 30) = W1 := ⟨_, rfl⟩
    have hb1 : Below w1.heap.size w1 W1 := by rw [← hW1]; exact (Below.refl _ _).alloc (Nat.le_refl _) _
    have hrow : W1.heap[w1.heap.size]? = some (.cells #[.float .f64 key, .bool dead, .slice A2 n c2, .int .i64 (x : Nat), .int .i64 (y : Nat), .int .i64 (z : Nat)] 30 (0, 0)) := by rw [← hW1]; exact heap_alloc_new w1 _
    have HBw := Lib.hid (HB0.out.trans ((HB1.out.trans (hb1.mono HB1.out.size)).mono HB0.out.size))
    have HROW := Lib.hid hrow
    have HFC := Lib.hid (fun (W : World) (hb : Below W1.heap.size W1 W) => ((HFN.out.to_FC.below (hb1.trans (hb.mono hb1.size))).more (Nat.le_trans hb1.size hb.size)))
    have BL := Lib.hid (fun (W : World) (hb : Below W1.heap.size W1 W) => (HB.out.below (HBw.out.trans (hb.mono HBw.out.size))).more (Nat.le_trans HBw.out.size hb.size))
    have RW := Lib.hid (fun (W : World) (hb : Below W1.heap.size W1 W) => (hb.block w1.heap.size (Array.getElem?_eq_some_iff.1 hrow).1).trans hrow)
    have hWB : Below W1.heap.size W1 W1.drew := (Below.refl _ _).drew
    have sS := heldR (c := c) (RW.out _ hWB) (BL.out _ hWB) HLN.out (by decide)
    rw [hW1]
    have hwl : w.heap.size < (w.alloc (.cells #[.float .f64 0, .bool false, .slice none 0 0, .int .i64 0, .int .i64 0, .int .i64 0] 30)).heap.size := by simp
    have HWL := Lib.hid hwl
    have HLT1 := Lib.hid (Nat.lt_of_lt_of_le hwl HB1.out.size)
    have HBOX := Lib.hid ((hb1.block w.heap.size HLT1.out).trans ((HB1.out.block w.heap.size hwl).trans HZ.out))
    have HLT2 := Lib.hid (Nat.lt_of_lt_of_le HLT1.out hb1.size)
    have HFN1 := Lib.hid (fun (W : World) (hb : Below W1.heap.size W1 W) => HFN.out.on (hb1.trans (hb.mono hb1.size)))
    clear hb1 hrow hX hwl
    by_cases hXL : X = L
    · have hO := HO.out
      rw [if_pos hXL] at hO
      have hcmp : (strB X) = (strB L) := by rw [hXL]
      clear hXL
      subst hO
      refine wp_region_held_drew (S := (fun w' => w'.cell? ⟨w1.heap.size, 0, none⟩ = some (.float .f64 key) ∧ w'.cell? ⟨w1.heap.size, 1, none⟩ = some (.bool dead) ∧ w'.cell? ⟨w1.heap.size, 2, none⟩ = some (.slice A2 n c2) ∧ w'.cell? ⟨w1.heap.size, 3, none⟩ = some (.int .i64 (x : Nat)) ∧ w'.cell? ⟨w1.heap.size, 4, none⟩ = some (.int .i64 (y : Nat)) ∧ w'.cell? ⟨w1.heap.size, 5, none⟩ = some (.int .i64 (z : Nat)) ∧ (convert 53 9 (.slice (some ⟨b, off, none⟩) 52 c)).run Tryz.prog w' = .ok (.string (strB L)) w')) (by kernel_rfl) ?_ (fun hHeld => ?_)
      · exact sS
      refine wpAnyH_take (i := 0) (v := ?_) rfl (by kernel_rfl) (by kernel_rfl) (by kernel_rfl) (fun _ _ _ h => h) (Or.inl ⟨by rfl, ?_⟩) (by assumption) ?_
      rotate_left
      · (intro w hSw; (try dsimp only at hSw); go_simp; try with_reducible rfl)
      try simp only [puts]
      refine wpAnyH_take (i := 1) (v := ?_) rfl (by kernel_rfl) (by kernel_rfl) (by kernel_rfl) (fun _ _ _ h => h) (Or.inl ⟨by rfl, ?_⟩) (by assumption) ?_
      rotate_left
      · (intro w hSw; (try dsimp only at hSw); go_simp; try with_reducible rfl)
      try simp only [puts]
      refine wpAnyH_take (i := 2) (v := ?_) rfl (by kernel_rfl) (by kernel_rfl) (by kernel_rfl) (fun _ _ _ h => h) (Or.inl ⟨by rfl, ?_⟩) (by assumption) ?_
      rotate_left
      · (intro w hSw; (try dsimp only at hSw); go_simp; try with_reducible rfl)
      try simp only [puts]
      refine wpAnyH_take (i := 3) (v := ?_) rfl (by kernel_rfl) (by kernel_rfl) (by kernel_rfl) (fun _ _ _ h => h) (Or.inl ⟨by rfl, ?_⟩) (by assumption) ?_
      rotate_left
      · (intro w hSw; (try dsimp only at hSw); go_simp; try with_reducible rfl)
      try simp only [puts]
      refine wpAnyH_take (i := 6) (v := ?_) rfl (by kernel_rfl) (by kernel_rfl) (by kernel_rfl) (fun _ _ _ h => h) (Or.inl ⟨by rfl, ?_⟩) (by assumption) ?_
      rotate_left
      · (intro w hSw; (try dsimp only at hSw); go_simp; try with_reducible rfl)
      try simp only [puts]
      refine wpAnyH_take (i := 7) (v := ?_) rfl (by kernel_rfl) (by kernel_rfl) (by kernel_rfl) (fun _ _ _ h => h) (Or.inl ⟨by rfl, ?_⟩) (by assumption) ?_
      rotate_left
      · (intro w hSw; (try dsimp only at hSw); go_simp; try with_reducible rfl)
      try simp only [puts]
      refine wpAnyH_ready (rs := [4]) (by kernel_rfl) (by simp) ?_
      refine AllReadyH.cons rfl (fun K hK => ?_) AllReadyH.nil
      go_simp
      ((with_reducible refine (RB5.out _ _ _ (HFC.out _ hWB)).mono ?_); rintro e w6 ⟨v6, rfl, hob, hb6⟩; have hb6' := hWB.trans hb6; clear sS; have sS := heldR (c := c) (RW.out _ hb6') (BL.out _ hb6') HLN.out (by decide); obtain ⟨A5, c5, rfl, hbc, _⟩ := hob.reads; have v6 := conv_bytes (c := c5) hbc rfl HXP.out; have HB6 := Lib.hid hb6'; clear hb6 hb6' hbc hob)
      refine hK.out _ _ ?_ (fun hHeld => ?_)
      · exact sS
      clear hK
      try simp only [puts]
      refine wpAnyH_ready (rs := [5]) (by kernel_rfl) (by simp) ?_
      refine AllReadyH.cons rfl (fun K hK => ?_) AllReadyH.nil
      go_simp
      refine hK.out _ _ ?_ (fun hHeld => ?_)
      · exact sS
      clear hK
      try simp only [puts]
      refine wpAnyH_take (i := 8) (v := ?_) rfl (by kernel_rfl) (by kernel_rfl) (by kernel_rfl) (fun _ _ _ h => h) (Or.inl ⟨by rfl, ?_⟩) (by assumption) ?_
      rotate_left
      · (intro w hSw; (try dsimp only at hSw); go_simp; try with_reducible rfl)
      try simp only [puts]
      refine wpAnyH_take (i := 9) (v := ?_) rfl (by kernel_rfl) (by kernel_rfl) (by kernel_rfl) (fun _ _ _ h => h) (Or.inl ⟨by rfl, ?_⟩) (by assumption) ?_
      rotate_left
      · (intro w hSw; (try dsimp only at hSw); go_simp; try with_reducible rfl)
      try simp only [puts]
      refine wpAnyH_done (by kernel_rfl) ?_ _
      obtain ⟨⟨g0, g1, g2, g3, g4, g5⟩, ⟨q0, q1, q2, q3, q4, q5⟩⟩ := six ((HB6.out.block w.heap.size HLT2.out).trans HBOX.out)
      obtain ⟨⟨p0, p1, p2, p3, p4, p5⟩, _⟩ := six (RW.out _ HB6.out)
      go_wp2
      refine bodyPost_ret (v := .tuple #[.agg #[.float .f64 key, .bool dead, .slice A2 n c2, .int .i64 (x : Nat), .int .i64 (y : Nat), .int .i64 (z : Nat)], .bool true]) (by simp [results, Tryz.results86, go_sem, g0, g1, g2, g3, g4, g5]) rfl ?_
      refine ⟨below_six (HBw.out.trans (HB6.out.mono HBw.out.size)) (Nat.le_refl _) _ (Nat.le_refl _) _ _ _ _ _ _, A2, c2, ?_, ((HFN1.out _ HB6.out).six HWL.out _ _ _ _ _ _).early (Nat.le_of_lt HWL.out), ?_, HA.out⟩
      · unfold RowD.cells; simp only [HN.out]
      · first
          | exact HNC.out
          | (show cols.length ≤ c2; rw [HN.out]; exact HNC.out)
    · have hO := HO.out
      rw [if_neg hXL] at hO
      have hcmp : ((strB X).toList == (strB L).toList) = false := strB_bne HXL.out HBL.out hXL
      clear hXL
      subst hO
      refine wp_region_held_drew (S := (fun w' => w'.cell? ⟨w1.heap.size, 0, none⟩ = some (.float .f64 key) ∧ w'.cell? ⟨w1.heap.size, 1, none⟩ = some (.bool dead) ∧ w'.cell? ⟨w1.heap.size, 2, none⟩ = some (.slice A2 n c2) ∧ w'.cell? ⟨w1.heap.size, 3, none⟩ = some (.int .i64 (x : Nat)) ∧ w'.cell? ⟨w1.heap.size, 4, none⟩ = some (.int .i64 (y : Nat)) ∧ w'.cell? ⟨w1.heap.size, 5, none⟩ = some (.int .i64 (z : Nat)) ∧ (convert 53 9 (.slice (some ⟨b, off, none⟩) 52 c)).run Tryz.prog w' = .ok (.string (strB L)) w')) (by kernel_rfl) ?_ (fun hHeld => ?_)
      · exact sS
      refine wpAnyH_take (i := 0) (v := ?_) rfl (by kernel_rfl) (by kernel_rfl) (by kernel_rfl) (fun _ _ _ h => h) (Or.inl ⟨by rfl, ?_⟩) (by assumption) ?_
      rotate_left
      · (intro w hSw; (try dsimp only at hSw); go_simp; try with_reducible rfl)
      try simp only [puts]
      refine wpAnyH_take (i := 1) (v := ?_) rfl (by kernel_rfl) (by kernel_rfl) (by kernel_rfl) (fun _ _ _ h => h) (Or.inl ⟨by rfl, ?_⟩) (by assumption) ?_
      rotate_left
      · (intro w hSw; (try dsimp only at hSw); go_simp; try with_reducible rfl)
      try simp only [puts]
      refine wpAnyH_take (i := 2) (v := ?_) rfl (by kernel_rfl) (by kernel_rfl) (by kernel_rfl) (fun _ _ _ h => h) (Or.inl ⟨by rfl, ?_⟩) (by assumption) ?_
      rotate_left
      · (intro w hSw; (try dsimp only at hSw); go_simp; try with_reducible rfl)
      try simp only [puts]
      refine wpAnyH_take (i := 3) (v := ?_) rfl (by kernel_rfl) (by kernel_rfl) (by kernel_rfl) (fun _ _ _ h => h) (Or.inl ⟨by rfl, ?_⟩) (by assumption) ?_
      rotate_left
      · (intro w hSw; (try dsimp only at hSw); go_simp; try with_reducible rfl)
      try simp only [puts]
      refine wpAnyH_take (i := 6) (v := ?_) rfl (by kernel_rfl) (by kernel_rfl) (by kernel_rfl) (fun _ _ _ h => h) (Or.inl ⟨by rfl, ?_⟩) (by assumption) ?_
      rotate_left
      · (intro w hSw; (try dsimp only at hSw); go_simp; try with_reducible rfl)
      try simp only [puts]
      refine wpAnyH_take (i := 7) (v := ?_) rfl (by kernel_rfl) (by kernel_rfl) (by kernel_rfl) (fun _ _ _ h => h) (Or.inl ⟨by rfl, ?_⟩) (by assumption) ?_
      rotate_left
      · (intro w hSw; (try dsimp only at hSw); go_simp; try with_reducible rfl)
      try simp only [puts]
      refine wpAnyH_ready (rs := [4]) (by kernel_rfl) (by simp) ?_
      refine AllReadyH.cons rfl (fun K hK => ?_) AllReadyH.nil
      go_simp
      ((with_reducible refine (RB5.out _ _ _ (HFC.out _ hWB)).mono ?_); rintro e w6 ⟨v6, rfl, hob, hb6⟩; have hb6' := hWB.trans hb6; clear sS; have sS := heldR (c := c) (RW.out _ hb6') (BL.out _ hb6') HLN.out (by decide); obtain ⟨A5, c5, rfl, hbc, _⟩ := hob.reads; have v6 := conv_bytes (c := c5) hbc rfl HXP.out; have HB6 := Lib.hid hb6'; clear hb6 hb6' hbc hob)
      refine hK.out _ _ ?_ (fun hHeld => ?_)
      · exact sS
      clear hK
      try simp only [puts]
      refine wpAnyH_ready (rs := [5]) (by kernel_rfl) (by simp) ?_
      refine AllReadyH.cons rfl (fun K hK => ?_) AllReadyH.nil
      go_simp
      refine hK.out _ _ ?_ (fun hHeld => ?_)
      · exact sS
      clear hK
      try simp only [puts]
      refine wpAnyH_take (i := 8) (v := ?_) rfl (by kernel_rfl) (by kernel_rfl) (by kernel_rfl) (fun _ _ _ h => h) (Or.inl ⟨by rfl, ?_⟩) (by assumption) ?_
      rotate_left
      · (intro w hSw; (try dsimp only at hSw); go_simp; try with_reducible rfl)
      try simp only [puts]
      refine wpAnyH_take (i := 9) (v := ?_) rfl (by kernel_rfl) (by kernel_rfl) (by kernel_rfl) (fun _ _ _ h => h) (Or.inl ⟨by rfl, ?_⟩) (by assumption) ?_
      rotate_left
      · (intro w hSw; (try dsimp only at hSw); go_simp; try with_reducible rfl)
      try simp only [puts]
      refine wpAnyH_done (by kernel_rfl) ?_ _
      obtain ⟨⟨g0, g1, g2, g3, g4, g5⟩, ⟨q0, q1, q2, q3, q4, q5⟩⟩ := six ((HB6.out.block w.heap.size HLT2.out).trans HBOX.out)
      obtain ⟨⟨p0, p1, p2, p3, p4, p5⟩, _⟩ := six (RW.out _ HB6.out)
      go_wp2
      refine bodyPost_ret (v := .tuple #[zeroRow, .bool false]) (by simp [results, Tryz.results86, go_sem, zeroRow, g0, g1, g2, g3, g4, g5]) rfl ?_
      exact ⟨below_six (HBw.out.trans (HB6.out.mono HBw.out.size)) (Nat.le_refl _) _ (Nat.le_refl _) _ _ _ _ _ _, rfl⟩
end Go.Proofs.YtdbnlngkmfmnnaaGreatDoor
