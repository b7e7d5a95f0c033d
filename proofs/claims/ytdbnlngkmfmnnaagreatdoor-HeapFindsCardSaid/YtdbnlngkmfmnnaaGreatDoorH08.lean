/- The document's Take: the walk. -/
import Derived.Test.YtdbnlngkmfmnnaaGreatDoorH07
import Derived.Deep.RegionWith
import Derived.Deep.RegionHeld3
import Derived.Lib.SlBytesRow
namespace Go.Proofs.YtdbnlngkmfmnnaaGreatDoor
open Go.RowKit

theorem four_cells {W : World} {B : Nat} {a0 a1 a2 a3 : Value} {t : TypeId} (h : W.heap[B]? = some (.cells #[a0, a1, a2, a3] t (0, 0))) : W.cell? ⟨B, 0, none⟩ = some a0 ∧ W.cell? ⟨B, 1, none⟩ = some a1 ∧ W.cell? ⟨B, 2, none⟩ = some a2 ∧ W.cell? ⟨B, 3, none⟩ = some a3 := by
  refine ⟨?_, ?_, ?_, ?_⟩
  all_goals
    rw [cell_of_row W B _ _ _ _ h]; rfl

theorem strB_bne {a b : List Nat} (ha : ∀ x ∈ a, x < 256) (hb : ∀ x ∈ b, x < 256) (h : a ≠ b) : ((strB a).toList == (strB b).toList) = false := by
  cases he : ((strB a).toList == (strB b).toList) with
  | false => rfl
  | true =>
    have h1 := eq_of_beq he
    rw [ByteArray.toList_eq, ByteArray.toList_eq] at h1
    refine absurd (strB_inj ha hb ?_) h
    unfold strB at h1 ⊢
    simpa using h1

theorem add_flt {ops : Array Oper} {rest : List Oper} {o : Oper} {a : Act} {Q : Exit → Act → World → Prop} (hgd : o.guard = none) (s e : Operand)
    (ho : o.op = .call { callee := .builtin .append, args := #[s, e], argTypes := #[124, 124] })
    {w W : World} {v : Value} {I : List It} {q : Nat} (h : RT w v I W) (x : Nat) (hs : a.eval s = v) (he : a.eval e = .slice (some ⟨W.heap.size, 0, none⟩) 1 1) (hq : I.length = q) (hm : q ≤ 1000)
    (hK : ∀ g cap w', RT w (.slice (some ⟨g, 0, none⟩) (q + 1) cap) (I ++ [⟨4, 0, x⟩]) w' → wpList Tryz.prog ops Q rest (a.put o.dst (.slice (some ⟨g, 0, none⟩) (q + 1) cap)) w') :
    wpList Tryz.prog ops Q (o :: rest) a (W.alloc (.cells #[.int .i64 4, .int .i64 0, .float .f64 x, .string ⟨#[]⟩] 123)) := add_item hgd s e ho h ⟨4, 0, x⟩ hs he hq hm hK

theorem heldS {W : World} {T z B b off c : Nat} {X : List Nat} {t : TypeId} {v0 v1 v2 v3 : Value} (h : W.heap[T]? = some (.cells #[v0, v1, v2, v3] t (0, 0))) (hb : BC W B (some ⟨b, off, none⟩) X) (hl : X.length = z) (hz : 0 < z) :
    W.cell? ⟨T, 0, none⟩ = some v0 ∧ W.cell? ⟨T, 1, none⟩ = some v1 ∧ W.cell? ⟨T, 2, none⟩ = some v2 ∧ W.cell? ⟨T, 3, none⟩ = some v3 ∧ (convert 53 9 (.slice (some ⟨b, off, none⟩) z c)).run Tryz.prog W = .ok (.string (strB X)) W := by
  obtain ⟨h0, h1, h2, h3⟩ := four_cells h
  exact ⟨h0, h1, h2, h3, conv_bytes hb hl hz⟩

set_option maxHeartbeats 8000000 in
set_option maxRecDepth 100000 in
theorem rtake_any (b off c ck : Nat) (Ak : Option Addr) (L K : List Nat) (w : World) (hB : BC w w.heap.size (some ⟨b, off, none⟩) L) (hK : IC w w.heap.size Ak K) (hk : ∀ k ∈ K, 1 ≤ k ∧ k ≤ 4) (hn : L.length ≤ 1000) (mk : K.length ≤ 1000) (hc : L.length ≤ c) (hc2 : c ≤ 9223372036854775807) :
    Calls Tryz.prog 133 #[.slice (some ⟨b, off, none⟩) L.length c, .slice Ak K.length ck] w (RTaken w (takeAll L K 0)) := by
  obtain ⟨n, hnl⟩ : ∃ n, L.length = n := ⟨_, rfl⟩
  obtain ⟨m, hml⟩ : ∃ m, K.length = m := ⟨_, rfl⟩
  rw [hnl] at hn hc ⊢
  rw [hml] at mk ⊢
  have HB := Lib.hid hB
  have HK := Lib.hid hK
  have NL := Lib.hid hnl
  have NK := Lib.hid hml
  have KK := Lib.hid hk
  clear hB hK hnl hml hk
  have hsf := run_store_f64
  have hss := run_store_str
  go_enter Tryz.func133, Tryz.ntmps133
  go_wp2
  go_loopw [7] (fun i wr => ∃ j : Nat, j ≤ m ∧ i = .int .i64 j ∧ wr = w) (fun i _ => m - (intOf i).toNat)
  case atStart => exact ⟨0, Nat.zero_le _, rfl, rfl⟩
  case round =>
    obtain ⟨j, hj, rfl, rfl⟩ := hrel
    by_cases hlt : j < m
    · obtain ⟨k, hk⟩ : ∃ k, K[j]? = some k := ⟨_, List.getElem?_eq_getElem (by rw [NK.out]; exact hlt)⟩
      obtain ⟨bk, offk, e, _, hcell⟩ := HK.out (by have := NK.out; omega)
      subst e
      have hc0 := hcell _ _ hk
      have hk1 := KK.out k (List.mem_of_getElem? hk)
      have hk2 : ¬ (k : Int) < 1 := by omega
      have hk3 : ¬ (5 : Int) < (k : Int) := by omega
      clear hcell hk hk1
      go_wp2
      exact ⟨⟨j + 1, by omega, by go_num, trivial⟩, by simp [intOf]; omega⟩
    · have hjm : j = m := by omega
      subst hjm
      rename World => w
      go_wp2
      go_loopw [11, 10, 9] (fun i t v wr => ∃ (q a : Nat) (Av : Option Addr) (cv : Nat) (I : List It), q ≤ j ∧ i = .int .i64 q ∧ a ≤ n ∧ t = .int .i64 a ∧ v = .slice Av q cv ∧ I.length = q ∧ RT w v I wr ∧ takeAll L K 0 = (takeAll L (K.drop q) a).map (fun r => (I ++ r.1, r.2))) (fun i _ _ _ => j - (intOf i).toNat)
      case atStart => exact ⟨0, 0, _, 0, [], Nat.zero_le _, rfl, Nat.zero_le _, rfl, rfl, rfl, RT.start w, by rw [List.drop_zero]; cases takeAll L K 0 <;> simp⟩
      case round =>
        obtain ⟨q, a, Av, cv, I, hq, rfl, ha, rfl, rfl, hI, hrt, hta⟩ := hrel
        have HRT := Lib.hid hrt
        have HTA := Lib.hid hta
        have HI := Lib.hid hI
        clear hrt hta hI
        by_cases hlt2 : q < j
        · obtain ⟨k, hk⟩ : ∃ k, K[q]? = some k := ⟨_, List.getElem?_eq_getElem (by rw [NK.out]; exact hlt2)⟩
          obtain ⟨bk, offk, e, _, hcell⟩ := (HK.out.below HRT.out.below) (by have := NK.out; omega)
          subst e
          have hc0 := hcell _ _ hk
          have hk1 := KK.out k (List.mem_of_getElem? hk)
          have hw := HRT.out.width hk1.1 hk1.2
          have hwl := wd_le hk1.1 hk1.2
          obtain ⟨d, hd⟩ : ∃ d, wd k = d := ⟨_, rfl⟩
          rw [hd] at hw hwl
          have HKQ := Lib.hid hk
          have HD := Lib.hid hd
          have HK1 := Lib.hid hk1
          have k6 : (k : Int) < 6 := by omega
          clear hcell hk hd hk1
          by_cases hs : a + d ≤ n
          · have hs' : ¬ (n : Int) - (a : Int) < (d : Int) := by omega
            go_wp2
            go_loopw [14, 13] (fun i u wz => ∃ z : Nat, z ≤ d ∧ i = .int .i64 z ∧ u = .int .u64 (beN ((L.drop a).take z) : Nat) ∧ wz = wr) (fun i _ _ => d - (intOf i).toNat)
            case atStart => exact ⟨0, Nat.zero_le _, rfl, rfl, rfl⟩
            case round =>
              obtain ⟨z, hz, rfl, rfl, rfl⟩ := hrel
              by_cases hlt3 : z < d
              · obtain ⟨x, hx⟩ : ∃ x, L[a + z]? = some x := ⟨_, List.getElem?_eq_getElem (by rw [NL.out]; omega)⟩
                have hbc := HB.out.below HRT.out.below
                obtain ⟨b', off', e, _, hcl⟩ := hbc.2 (by rw [NL.out]; omega)
                injection e with e
                injection e with e1 e2
                subst e1 e2
                have hcx := hcl _ _ hx
                have hx8 : x < 256 := hbc.1 x (List.mem_of_getElem? hx)
                have ht : (L.drop a).take (z + 1) = (L.drop a).take z ++ [x] := by
                  rw [List.take_add_one, List.getElem?_drop, hx]; rfl
                have HN : Hid (beN ((L.drop a).take (z + 1)) = beN ((L.drop a).take z) * 256 + x) := by rw [ht, beN_snoc]; exact rfl
                have hlen : ((L.drop a).take z).length = z := by rw [List.length_take, List.length_drop, NL.out]; omega
                have hu := beN_lt ((L.drop a).take z) fun y hy => hbc.1 y (List.mem_of_mem_drop (List.mem_of_mem_take hy))
                rw [hlen] at hu
                have hu2 : beN ((L.drop a).take z) < 72057594037927936 := Nat.lt_of_lt_of_le hu (by
                  have : 256 ^ z ≤ 256 ^ 7 := Nat.pow_le_pow_right (by omega) (by omega)
                  exact Nat.le_trans this (by decide))
                obtain ⟨u, hu3⟩ : ∃ u, beN ((L.drop a).take z) = u := ⟨_, rfl⟩
                rw [hu3] at HN hu2 ⊢
                have hidx : ((a : Int) + (z : Int)).toNat = a + z := by omega
                clear hu hu3 hlen ht hx hcl hbc
                go_wp2
                exact ⟨⟨z + 1, by omega, by go_num, by rw [HN.out]; go_num, trivial⟩, by simp [intOf]; omega⟩
              · have hzd : z = d := by omega
                subst hzd
                obtain ⟨X, hX⟩ : ∃ X, (L.drop a).take z = X := ⟨_, rfl⟩
                have hXl : X.length = z := by rw [← hX, List.length_take, List.length_drop, NL.out]; omega
                have hX8 : ∀ x ∈ X, x < 256 := fun x hx => HB.out.1 x (List.mem_of_mem_drop (List.mem_of_mem_take (by rw [hX]; exact hx)))
                have hXB : BC w w.heap.size (some ⟨b, off + a, none⟩) X := by rw [← hX]; exact (HB.out.drop a).take z
                have hbe : be z (beN X) = X := be_beN z X hXl hX8
                have hul : beN X < 256 ^ z := by rw [← hXl]; exact beN_lt X hX8
                have hT1 := HTA.out
                obtain ⟨u, hu⟩ : ∃ u, beN X = u := ⟨_, rfl⟩
                rw [hX, hu]
                rw [hu] at hbe hul
                have HXL := Lib.hid hXl
                have HX8 := Lib.hid hX8
                have HXB := Lib.hid hXB
                have HBE := Lib.hid hbe
                have HX := Lib.hid hX
                have HU := Lib.hid hu
                have hne : ¬ c = a := by omega
                obtain ⟨y, hy⟩ : ∃ y, a + z = y := ⟨_, rfl⟩
                have s1 : (a : Int) ≤ (y : Int) := by omega
                have s2 : (y : Int) ≤ (c : Int) := by omega
                have s3 : IntKind.i64.wrap ((a : Int) + (z : Int)) = (y : Int) := by rw [IntKind.wrap_i64]; omega
                have s4 : y - a = z := by omega
                have s6 : IntKind.i64.wrap (y : Int) = (y : Int) := by rw [IntKind.wrap_i64]; omega
                have s5 : ((a : Int) + (z : Int)) = (y : Int) := by omega
                have HY := Lib.hid hy
                have hsl : ∀ W, (Instr.slice 53 (.slice (some ⟨b, off, none⟩) n c) (some (.int .i64 (a : Int))) (some (.int .i64 (y : Int))) none).run Tryz.prog W = .ok (.slice (some ⟨b, off + a, none⟩) z (c - a)) W := fun W => by
                  have h := Lib.run_slice_window (P := Tryz.prog) W 53 5 Tryz.underlying53 Tryz.sizeOf5 b off n c a y (by omega) (by omega)
                  rw [s4] at h
                  exact h
                have hc0a := cell_on hc0 (.cells #[.int .i64 (k : Nat), .int .i64 0, .float .f64 0, .string ⟨#[]⟩] 123)
                have hz0 : 0 < z := hwl.1
                have HZ0 := Lib.hid hz0
                clear hXl hX8 hXB hbe hX hu hT1
                by_cases hk4 : k = 4
                · subst hk4
                  have hz8 : z = 8 := by rw [← HD.out]; rfl
                  subst hz8
                  have hc4 : wr.cell? ⟨bk, offk + q, none⟩ = some (.int .i64 4) := hc0
                  have hc4a := cell_on hc4 (.cells #[.int .i64 4, .int .i64 0, .float .f64 0, .string ⟨#[]⟩] 123)
                  have s3' : IntKind.i64.wrap ((a : Int) + 8) = (y : Int) := s3
                  have s5' : (a : Int) + 8 = (y : Int) := s5
                  clear hc0 hc0a s3 s5
                  have hu64 : u < 18446744073709551616 := Nat.lt_of_lt_of_le hul (by decide)
                  have h44 := run_frombits u
                  have CM := Lib.hid (fun W => ritem_flt u W)
                  have HO : Hid (takeOne L 4 a = if valN u = u then some (⟨4, 0, u⟩, a + 8) else none) := by
                    rw [takeOne_flt (by rw [NL.out]; exact hs), HX.out, HU.out, numValN_eq u hu64]; exact rfl
                  have O1 := Lib.hid (fun W => one_flt u hu64 W)
                  by_cases hval : valN u = u
                  · have CO : Hid (∀ W, Calls Tryz.prog 148 #[.agg #[.int .i64 4, .int .i64 0, .float .f64 u, .string ⟨#[]⟩]] W fun e w' => ∃ g c4, e = .returned (.slice (some ⟨g, 0, none⟩) 8 c4) ∧ BC w' w'.heap.size (some ⟨g, 0, none⟩) X ∧ Below W.heap.size W w') := fun W => by
                      refine (O1.out W).mono fun e w' hh => ?_
                      obtain ⟨g, c4, h1, h2, _, _, h3⟩ := hh
                      rw [hval, HBE.out] at h1 h2
                      rw [HXL.out] at h1
                      exact ⟨g, c4, h1, h2, h3⟩
                    have HS := Lib.hid (takeAll_some HKQ.out HTA.out (by rw [HO.out, if_pos hval]))
                    clear hval O1
                    go_wp2
                    have hkb := heap_alloc_new wr (.cells #[.int .i64 4, .int .i64 0, .float .f64 u, .string ⟨#[]⟩] 123)
                    have HKB := Lib.hid hkb
                    have HLT := Lib.hid (Array.getElem?_eq_some_iff.1 hkb).1
                    have HBA := Lib.hid ((Below.refl wr.heap.size wr).alloc (Nat.le_refl _) (.cells #[.int .i64 4, .int .i64 0, .float .f64 u, .string ⟨#[]⟩] 123))
                    clear hkb
                    have sS := heldS (W := (wr.alloc (.cells #[.int .i64 4, .int .i64 0, .float .f64 u, .string ⟨#[]⟩] 123)).drew) (c := c - a) HKB.out (HXB.out.below (HRT.out.same HBA.out.drew).below) HXL.out HZ0.out
                    refine wp_region_held_drew (S := (fun w' => w'.cell? ⟨wr.heap.size, 0, none⟩ = some (.int .i64 4) ∧ w'.cell? ⟨wr.heap.size, 1, none⟩ = some (.int .i64 0) ∧ w'.cell? ⟨wr.heap.size, 2, none⟩ = some (.float .f64 u) ∧ w'.cell? ⟨wr.heap.size, 3, none⟩ = some (.string ⟨#[]⟩) ∧ (convert 53 9 (.slice (some ⟨b, off + a, none⟩) 8 (c - a))).run Tryz.prog w' = .ok (.string (strB X)) w')) (by kernel_rfl) ?_ (fun hHeld => ?_)
                    · exact sS
                    refine wpAnyH_take (i := 0) (v := ?vv1) rfl (by kernel_rfl) (by kernel_rfl) (by kernel_rfl) (fun _ _ _ h => h) (Or.inl ⟨by rfl, ?hy1⟩) (by assumption) ?rest1
                    case hy1 => (intro w hSw; (try dsimp only at hSw); go_simp; try with_reducible rfl)
                    try simp only [puts]
                    refine wpAnyH_ready (rs := [1]) (by kernel_rfl) (by simp) ?_
                    refine AllReadyH.cons rfl (fun K hK => ?_) AllReadyH.nil
                    go_simp
                    ((with_reducible refine (CM.out _).mono ?_); rintro e w3 ⟨rfl, hb3⟩; have k3 := (hb3.block wr.heap.size HLT.out).trans HKB.out; clear sS; have hr3 := (HRT.out.same (HBA.out.drew.trans (hb3.mono HBA.out.drew.size))); have sS := heldS (c := c - a) k3 (HXB.out.below hr3.below) HXL.out HZ0.out; have HR3 := Lib.hid hr3; have HK3 := Lib.hid k3; clear hb3 k3 hr3)
                    refine hK.out _ _ ?_ (fun hHeld => ?_)
                    · exact sS
                    clear hK
                    try simp only [puts]
                    refine wpAnyH_take (i := 2) (v := ?vv2) rfl (by kernel_rfl) (by kernel_rfl) (by kernel_rfl) (fun _ _ _ h => h) (Or.inl ⟨by rfl, ?hy2⟩) (by assumption) ?rest2
                    case hy2 => (intro w hSw; (try dsimp only at hSw); go_simp; try with_reducible rfl)
                    try simp only [puts]
                    refine wpAnyH_take (i := 3) (v := ?vv3) rfl (by kernel_rfl) (by kernel_rfl) (by kernel_rfl) (fun _ _ _ h => h) (Or.inl ⟨by rfl, ?hy3⟩) (by assumption) ?rest3
                    case hy3 => (intro w hSw; (try dsimp only at hSw); go_simp; try with_reducible rfl)
                    try simp only [puts]
                    refine wpAnyH_take (i := 4) (v := ?vv4) rfl (by kernel_rfl) (by kernel_rfl) (by kernel_rfl) (fun _ _ _ h => h) (Or.inl ⟨by rfl, ?hy4⟩) (by assumption) ?rest4
                    case hy4 => (intro w hSw; (try dsimp only at hSw); go_simp; try with_reducible rfl)
                    try simp only [puts]
                    refine wpAnyH_take (i := 7) (v := ?vv5) rfl (by kernel_rfl) (by kernel_rfl) (by kernel_rfl) (fun _ _ _ h => h) (Or.inl ⟨by rfl, ?hy5⟩) (by assumption) ?rest5
                    case hy5 => (intro w hSw; (try dsimp only at hSw); go_simp; try with_reducible rfl)
                    try simp only [puts]
                    refine wpAnyH_take (i := 8) (v := ?vv6) rfl (by kernel_rfl) (by kernel_rfl) (by kernel_rfl) (fun _ _ _ h => h) (Or.inl ⟨by rfl, ?hy6⟩) (by assumption) ?rest6
                    case hy6 => (intro w hSw; (try dsimp only at hSw); go_simp; try with_reducible rfl)
                    try simp only [puts]
                    refine wpAnyH_take (i := 9) (v := ?vv7) rfl (by kernel_rfl) (by kernel_rfl) (by kernel_rfl) (fun _ _ _ h => h) (Or.inl ⟨by rfl, ?hy7⟩) (by assumption) ?rest7
                    case hy7 => (intro w hSw; (try dsimp only at hSw); go_simp; try with_reducible rfl)
                    try simp only [puts]
                    refine wpAnyH_take (i := 10) (v := ?vv8) rfl (by kernel_rfl) (by kernel_rfl) (by kernel_rfl) (fun _ _ _ h => h) (Or.inl ⟨by rfl, ?hy8⟩) (by assumption) ?rest8
                    case hy8 => (intro w hSw; (try dsimp only at hSw); go_simp; try with_reducible rfl)
                    try simp only [puts]
                    refine wpAnyH_take (i := 11) (v := ?vv9) rfl (by kernel_rfl) (by kernel_rfl) (by kernel_rfl) (fun _ _ _ h => h) (Or.inl ⟨by rfl, ?hy9⟩) (by assumption) ?rest9
                    case hy9 => (intro w hSw; (try dsimp only at hSw); go_simp; try with_reducible rfl)
                    try simp only [puts]
                    refine wpAnyH_take (i := 12) (v := ?vv10) rfl (by kernel_rfl) (by kernel_rfl) (by kernel_rfl) (fun _ _ _ h => h) (Or.inl ⟨by rfl, ?hy10⟩) (by assumption) ?rest10
                    case hy10 => (intro w hSw; (try dsimp only at hSw); go_simp; try with_reducible rfl)
                    try simp only [puts]
                    refine wpAnyH_take (i := 13) (v := ?vv11) rfl (by kernel_rfl) (by kernel_rfl) (by kernel_rfl) (fun _ _ _ h => h) (Or.inl ⟨by rfl, ?hy11⟩) (by assumption) ?rest11
                    case hy11 => (intro w hSw; (try dsimp only at hSw); go_simp; try with_reducible rfl)
                    try simp only [puts]
                    refine wpAnyH_ready (rs := [5]) (by kernel_rfl) (by simp) ?_
                    refine AllReadyH.cons rfl (fun K hK => ?_) AllReadyH.nil
                    go_simp
                    ((with_reducible refine (CO.out _).mono ?_); rintro e w4 ⟨g4, c4, rfl, hbc4, hb4⟩; have hr4 := (HR3.out.same hb4); have k4 := (hb4.block wr.heap.size (Array.getElem?_eq_some_iff.1 HK3.out).1).trans HK3.out; clear sS; have sS := heldS (c := c - a) k4 (HXB.out.below hr4.below) HXL.out HZ0.out; have v5 := conv_bytes (c := c4) hbc4 HXL.out HZ0.out; have HR4 := Lib.hid hr4; clear hb4 k4 hr4 hbc4)
                    refine hK.out _ _ ?_ (fun hHeld => ?_)
                    · exact sS
                    clear hK
                    try simp only [puts]
                    refine wpAnyH_ready (rs := [6]) (by kernel_rfl) (by simp) ?_
                    refine AllReadyH.cons rfl (fun K hK => ?_) AllReadyH.nil
                    go_simp
                    refine hK.out _ _ ?_ (fun hHeld => ?_)
                    · exact sS
                    clear hK
                    try simp only [puts]
                    refine wpAnyH_take (i := 14) (v := ?vv12) rfl (by kernel_rfl) (by kernel_rfl) (by kernel_rfl) (fun _ _ _ h => h) (Or.inl ⟨by rfl, ?hy12⟩) (by assumption) ?rest12
                    case hy12 => (intro w hSw; (try dsimp only at hSw); go_simp; try with_reducible rfl)
                    try simp only [puts]
                    refine wpAnyH_take (i := 15) (v := ?vv13) rfl (by kernel_rfl) (by kernel_rfl) (by kernel_rfl) (fun _ _ _ h => h) (Or.inl ⟨by rfl, ?hy13⟩) (by assumption) ?rest13
                    case hy13 => (intro w hSw; (try dsimp only at hSw); go_simp; try with_reducible rfl)
                    try simp only [puts]
                    refine wpAnyH_done (by kernel_rfl) ?_ _
                    go_wp2_with (at_builtin; refine add_flt rfl (.tmp 127) (.tmp 129) rfl HR4.out u rfl (by simp [Act.eval, Act.put]) HI.out (by omega) ?_; rintro g5 cap5 w5 hr5; have HR5 := Lib.hid hr5; clear hr5)
                    refine ⟨⟨q + 1, y, some ⟨g5, 0, none⟩, cap5, I ++ [⟨4, 0, u⟩], by omega, by go_num, by omega, by first | rfl | go_num, rfl, by rw [List.length_append, HI.out]; rfl, HR5.out, ?_⟩, by simp [intOf]; omega⟩
                    have h := HS.out
                    rw [HY.out] at h
                    exact h
                  · have CO : Hid (∀ W, Calls Tryz.prog 148 #[.agg #[.int .i64 4, .int .i64 0, .float .f64 u, .string ⟨#[]⟩]] W fun e w' => ∃ g c4, e = .returned (.slice (some ⟨g, 0, none⟩) 8 c4) ∧ BC w' w'.heap.size (some ⟨g, 0, none⟩) (be 8 (valN u)) ∧ Below W.heap.size W w') := fun W => by
                      refine (O1.out W).mono fun e w' hh => ?_
                      obtain ⟨g, c4, h1, h2, _, _, h3⟩ := hh
                      rw [be_len] at h1
                      exact ⟨g, c4, h1, h2, h3⟩
                    have hvl : valN u < 256 ^ 8 := by
                      have : valN u < 18446744073709551616 := by
                        unfold valN
                        cases nanB u <;> simp only [cond_true, cond_false] <;> omega
                      exact this
                    have hnq : ((strB (be 8 (valN u))).toList == (strB X).toList) = false := strB_bne (be_lt 8 (valN u)) HX8.out fun e => hval (by have h := beN_be 8 (valN u) hvl; rw [e, HU.out] at h; exact h.symm)
                    have HN := Lib.hid (takeAll_none HKQ.out HTA.out (by rw [HO.out, if_neg hval]))
                    have HBL := Lib.hid (be_len 8 (valN u))
                    obtain ⟨X2, hX2⟩ : ∃ X2, be 8 (valN u) = X2 := ⟨_, rfl⟩
                    rw [hX2] at CO hnq HBL
                    clear hval O1 hvl hX2
                    go_wp2
                    have hkb := heap_alloc_new wr (.cells #[.int .i64 4, .int .i64 0, .float .f64 u, .string ⟨#[]⟩] 123)
                    have HKB := Lib.hid hkb
                    have HLT := Lib.hid (Array.getElem?_eq_some_iff.1 hkb).1
                    have HBA := Lib.hid ((Below.refl wr.heap.size wr).alloc (Nat.le_refl _) (.cells #[.int .i64 4, .int .i64 0, .float .f64 u, .string ⟨#[]⟩] 123))
                    clear hkb
                    have sS := heldS (W := (wr.alloc (.cells #[.int .i64 4, .int .i64 0, .float .f64 u, .string ⟨#[]⟩] 123)).drew) (c := c - a) HKB.out (HXB.out.below (HRT.out.same HBA.out.drew).below) HXL.out HZ0.out
                    refine wp_region_held_drew (S := (fun w' => w'.cell? ⟨wr.heap.size, 0, none⟩ = some (.int .i64 4) ∧ w'.cell? ⟨wr.heap.size, 1, none⟩ = some (.int .i64 0) ∧ w'.cell? ⟨wr.heap.size, 2, none⟩ = some (.float .f64 u) ∧ w'.cell? ⟨wr.heap.size, 3, none⟩ = some (.string ⟨#[]⟩) ∧ (convert 53 9 (.slice (some ⟨b, off + a, none⟩) 8 (c - a))).run Tryz.prog w' = .ok (.string (strB X)) w')) (by kernel_rfl) ?_ (fun hHeld => ?_)
                    · exact sS
                    refine wpAnyH_take (i := 0) (v := ?vv14) rfl (by kernel_rfl) (by kernel_rfl) (by kernel_rfl) (fun _ _ _ h => h) (Or.inl ⟨by rfl, ?hy14⟩) (by assumption) ?rest14
                    case hy14 => (intro w hSw; (try dsimp only at hSw); go_simp; try with_reducible rfl)
                    try simp only [puts]
                    refine wpAnyH_ready (rs := [1]) (by kernel_rfl) (by simp) ?_
                    refine AllReadyH.cons rfl (fun K hK => ?_) AllReadyH.nil
                    go_simp
                    ((with_reducible refine (CM.out _).mono ?_); rintro e w3 ⟨rfl, hb3⟩; have k3 := (hb3.block wr.heap.size HLT.out).trans HKB.out; clear sS; have hr3 := (HRT.out.same (HBA.out.drew.trans (hb3.mono HBA.out.drew.size))); have sS := heldS (c := c - a) k3 (HXB.out.below hr3.below) HXL.out HZ0.out; have HR3 := Lib.hid hr3; have HK3 := Lib.hid k3; clear hb3 k3 hr3)
                    refine hK.out _ _ ?_ (fun hHeld => ?_)
                    · exact sS
                    clear hK
                    try simp only [puts]
                    refine wpAnyH_take (i := 2) (v := ?vv15) rfl (by kernel_rfl) (by kernel_rfl) (by kernel_rfl) (fun _ _ _ h => h) (Or.inl ⟨by rfl, ?hy15⟩) (by assumption) ?rest15
                    case hy15 => (intro w hSw; (try dsimp only at hSw); go_simp; try with_reducible rfl)
                    try simp only [puts]
                    refine wpAnyH_take (i := 3) (v := ?vv16) rfl (by kernel_rfl) (by kernel_rfl) (by kernel_rfl) (fun _ _ _ h => h) (Or.inl ⟨by rfl, ?hy16⟩) (by assumption) ?rest16
                    case hy16 => (intro w hSw; (try dsimp only at hSw); go_simp; try with_reducible rfl)
                    try simp only [puts]
                    refine wpAnyH_take (i := 4) (v := ?vv17) rfl (by kernel_rfl) (by kernel_rfl) (by kernel_rfl) (fun _ _ _ h => h) (Or.inl ⟨by rfl, ?hy17⟩) (by assumption) ?rest17
                    case hy17 => (intro w hSw; (try dsimp only at hSw); go_simp; try with_reducible rfl)
                    try simp only [puts]
                    refine wpAnyH_take (i := 7) (v := ?vv18) rfl (by kernel_rfl) (by kernel_rfl) (by kernel_rfl) (fun _ _ _ h => h) (Or.inl ⟨by rfl, ?hy18⟩) (by assumption) ?rest18
                    case hy18 => (intro w hSw; (try dsimp only at hSw); go_simp; try with_reducible rfl)
                    try simp only [puts]
                    refine wpAnyH_take (i := 8) (v := ?vv19) rfl (by kernel_rfl) (by kernel_rfl) (by kernel_rfl) (fun _ _ _ h => h) (Or.inl ⟨by rfl, ?hy19⟩) (by assumption) ?rest19
                    case hy19 => (intro w hSw; (try dsimp only at hSw); go_simp; try with_reducible rfl)
                    try simp only [puts]
                    refine wpAnyH_take (i := 9) (v := ?vv20) rfl (by kernel_rfl) (by kernel_rfl) (by kernel_rfl) (fun _ _ _ h => h) (Or.inl ⟨by rfl, ?hy20⟩) (by assumption) ?rest20
                    case hy20 => (intro w hSw; (try dsimp only at hSw); go_simp; try with_reducible rfl)
                    try simp only [puts]
                    refine wpAnyH_take (i := 10) (v := ?vv21) rfl (by kernel_rfl) (by kernel_rfl) (by kernel_rfl) (fun _ _ _ h => h) (Or.inl ⟨by rfl, ?hy21⟩) (by assumption) ?rest21
                    case hy21 => (intro w hSw; (try dsimp only at hSw); go_simp; try with_reducible rfl)
                    try simp only [puts]
                    refine wpAnyH_take (i := 11) (v := ?vv22) rfl (by kernel_rfl) (by kernel_rfl) (by kernel_rfl) (fun _ _ _ h => h) (Or.inl ⟨by rfl, ?hy22⟩) (by assumption) ?rest22
                    case hy22 => (intro w hSw; (try dsimp only at hSw); go_simp; try with_reducible rfl)
                    try simp only [puts]
                    refine wpAnyH_take (i := 12) (v := ?vv23) rfl (by kernel_rfl) (by kernel_rfl) (by kernel_rfl) (fun _ _ _ h => h) (Or.inl ⟨by rfl, ?hy23⟩) (by assumption) ?rest23
                    case hy23 => (intro w hSw; (try dsimp only at hSw); go_simp; try with_reducible rfl)
                    try simp only [puts]
                    refine wpAnyH_take (i := 13) (v := ?vv24) rfl (by kernel_rfl) (by kernel_rfl) (by kernel_rfl) (fun _ _ _ h => h) (Or.inl ⟨by rfl, ?hy24⟩) (by assumption) ?rest24
                    case hy24 => (intro w hSw; (try dsimp only at hSw); go_simp; try with_reducible rfl)
                    try simp only [puts]
                    refine wpAnyH_ready (rs := [5]) (by kernel_rfl) (by simp) ?_
                    refine AllReadyH.cons rfl (fun K hK => ?_) AllReadyH.nil
                    go_simp
                    ((with_reducible refine (CO.out _).mono ?_); rintro e w4 ⟨g4, c4, rfl, hbc4, hb4⟩; have hr4 := (HR3.out.same hb4); have k4 := (hb4.block wr.heap.size (Array.getElem?_eq_some_iff.1 HK3.out).1).trans HK3.out; clear sS; have sS := heldS (c := c - a) k4 (HXB.out.below hr4.below) HXL.out HZ0.out; have v5 := conv_bytes (c := c4) hbc4 HBL.out HZ0.out; have HR4 := Lib.hid hr4; clear hb4 k4 hr4 hbc4)
                    refine hK.out _ _ ?_ (fun hHeld => ?_)
                    · exact sS
                    clear hK
                    try simp only [puts]
                    refine wpAnyH_ready (rs := [6]) (by kernel_rfl) (by simp) ?_
                    refine AllReadyH.cons rfl (fun K hK => ?_) AllReadyH.nil
                    go_simp
                    refine hK.out _ _ ?_ (fun hHeld => ?_)
                    · exact sS
                    clear hK
                    try simp only [puts]
                    refine wpAnyH_take (i := 14) (v := ?vv25) rfl (by kernel_rfl) (by kernel_rfl) (by kernel_rfl) (fun _ _ _ h => h) (Or.inl ⟨by rfl, ?hy25⟩) (by assumption) ?rest25
                    case hy25 => (intro w hSw; (try dsimp only at hSw); go_simp; try with_reducible rfl)
                    try simp only [puts]
                    refine wpAnyH_take (i := 15) (v := ?vv26) rfl (by kernel_rfl) (by kernel_rfl) (by kernel_rfl) (fun _ _ _ h => h) (Or.inl ⟨by rfl, ?hy26⟩) (by assumption) ?rest26
                    case hy26 => (intro w hSw; (try dsimp only at hSw); go_simp; try with_reducible rfl)
                    try simp only [puts]
                    refine wpAnyH_done (by kernel_rfl) ?_ _
                    go_wp2
                    go_ret3
                    unfold RTaken
                    rw [HN.out]
                    exact ⟨HR4.out.below, rfl⟩
                · have hk4' : ¬ (k : Int) = 4 := by omega
                  have hk5' : ¬ (k : Int) = 5 := by have := HK1.out; omega
                  have hwk : wid k = z := by have := HD.out; unfold wd at this; rwa [if_neg hk4] at this
                  have hu32 : u < 4294967296 := by
                    have hz4 : z ≤ 4 := by
                      have h1 := HK1.out
                      have : k = 1 ∨ k = 2 ∨ k = 3 := by omega
                      rcases this with rfl | rfl | rfl <;> (rw [← hwk]; decide)
                    have : 256 ^ z ≤ 256 ^ 4 := Nat.pow_le_pow_right (by omega) hz4
                    exact Nat.lt_of_lt_of_le hul this
                  have CM := Lib.hid (fun W => ritem_num k u HK1.out.1 (by have := HK1.out; omega) W)
                  have CO : Hid (∀ W, Calls Tryz.prog 148 #[.agg #[.int .i64 (k : Nat), .int .i64 (u : Nat), .float .f64 0, .string ⟨#[]⟩]] W fun e w' => ∃ g c4, e = .returned (.slice (some ⟨g, 0, none⟩) z c4) ∧ BC w' w'.heap.size (some ⟨g, 0, none⟩) X ∧ Below W.heap.size W w') := fun W => by
                    refine (one_num k u HK1.out.1 (by have := HK1.out; omega) hu32 W).mono fun e w' hh => ?_
                    obtain ⟨g, c4, h1, h2, _, _, h3⟩ := hh
                    rw [hwk, HBE.out] at h1 h2
                    rw [HXL.out] at h1
                    exact ⟨g, c4, h1, h2, h3⟩
                  have HO : Hid (takeOne L k a = if fitsN k u = true then some (⟨k, u, 0⟩, a + z) else none) := by
                    rw [takeOne_num hk4 (by rw [HD.out, NL.out]; exact hs), HD.out, HX.out, HU.out]; exact rfl
                  clear hwk hul
                  cases hf : fitsN k u with
                  | false =>
                    rw [hf] at CM HO
                    have HN := Lib.hid (takeAll_none HKQ.out HTA.out (by rw [HO.out]; rfl))
                    clear hf
                    go_wp2
                    have hkb := heap_alloc_new wr (.cells #[.int .i64 (k : Nat), .int .i64 (u : Nat), .float .f64 0, .string ⟨#[]⟩] 123)
                    have HBA := Lib.hid (((Below.refl wr.heap.size wr).alloc (Nat.le_refl _) (.cells #[.int .i64 (k : Nat), .int .i64 (u : Nat), .float .f64 0, .string ⟨#[]⟩] 123)).drew)
                    obtain ⟨t0, t1, t2, t3⟩ := four_cells (W := (wr.alloc (.cells #[.int .i64 (k : Nat), .int .i64 (u : Nat), .float .f64 0, .string ⟨#[]⟩] 123)).drew) hkb
                    clear hkb
                    refine wp_region_any (by kernel_rfl) ?_
                    change wpAny _ _ _ _ _ _ _ (World.drew _)
                    refine wpAny_ready (rs := [0]) (by kernel_rfl) (by decide) ?_
                    refine AllReady.cons rfl (fun K0 h0 => ?_) AllReady.nil
                    refine want_step rfl ?_
                    go_wp2
                    refine wpAny_ready (rs := [1]) (by kernel_rfl) (by decide) ?_
                    refine AllReady.cons rfl (fun K1 h1 => ?_) AllReady.nil
                    refine want_step rfl ?_
                    go_wp2_with (go_at_call 147; (with_reducible refine (CM.out _).mono ?_); rintro e w3 ⟨rfl, hb3⟩; have HB3 := Lib.hid hb3; clear hb3)
                    refine wpAny_ready (rs := [2]) (by kernel_rfl) (by decide) ?_
                    refine AllReady.cons rfl (fun K2 h2 => ?_) AllReady.nil
                    refine want_step rfl ?_
                    go_wp2
                    refine wpAny_ready (rs := [3]) (by kernel_rfl) (by decide) ?_
                    refine AllReady.cons rfl (fun K3 h3 => ?_) AllReady.nil
                    refine want_step rfl ?_
                    go_wp2
                    refine wpAny_take (i := 4) (v := undef) rfl (by kernel_rfl) (by kernel_rfl) (by kernel_rfl) (fun _ _ _ h => h) (.inr ⟨by kernel_rfl, rfl⟩) ?_
                    simp only [Act.put, List.setIfInBounds_toArray, List.set_cons_zero, List.set_cons_succ]
                    refine wpAny_take (i := 7) (v := undef) rfl (by kernel_rfl) (by kernel_rfl) (by kernel_rfl) (fun _ _ _ h => h) (.inr ⟨by kernel_rfl, rfl⟩) ?_
                    simp only [Act.put, List.setIfInBounds_toArray, List.set_cons_zero, List.set_cons_succ]
                    refine wpAny_take (i := 8) (v := undef) rfl (by kernel_rfl) (by kernel_rfl) (by kernel_rfl) (fun _ _ _ h => h) (.inr ⟨by kernel_rfl, rfl⟩) ?_
                    simp only [Act.put, List.setIfInBounds_toArray, List.set_cons_zero, List.set_cons_succ]
                    refine wpAny_take (i := 9) (v := undef) rfl (by kernel_rfl) (by kernel_rfl) (by kernel_rfl) (fun _ _ _ h => h) (.inr ⟨by kernel_rfl, rfl⟩) ?_
                    simp only [Act.put, List.setIfInBounds_toArray, List.set_cons_zero, List.set_cons_succ]
                    refine wpAny_take (i := 10) (v := undef) rfl (by kernel_rfl) (by kernel_rfl) (by kernel_rfl) (fun _ _ _ h => h) (.inr ⟨by kernel_rfl, rfl⟩) ?_
                    simp only [Act.put, List.setIfInBounds_toArray, List.set_cons_zero, List.set_cons_succ]
                    refine wpAny_take (i := 5) (v := undef) rfl (by kernel_rfl) (by kernel_rfl) (by kernel_rfl) (fun _ _ _ h => h) (.inr ⟨by kernel_rfl, rfl⟩) ?_
                    simp only [Act.put, List.setIfInBounds_toArray, List.set_cons_zero, List.set_cons_succ]
                    refine wpAny_take (i := 6) (v := undef) rfl (by kernel_rfl) (by kernel_rfl) (by kernel_rfl) (fun _ _ _ h => h) (.inr ⟨by kernel_rfl, rfl⟩) ?_
                    simp only [Act.put, List.setIfInBounds_toArray, List.set_cons_zero, List.set_cons_succ]
                    refine wpAny_take (i := 11) (v := undef) rfl (by kernel_rfl) (by kernel_rfl) (by kernel_rfl) (fun _ _ _ h => h) (.inr ⟨by kernel_rfl, rfl⟩) ?_
                    simp only [Act.put, List.setIfInBounds_toArray, List.set_cons_zero, List.set_cons_succ]
                    refine wpAny_take (i := 12) (v := undef) rfl (by kernel_rfl) (by kernel_rfl) (by kernel_rfl) (fun _ _ _ h => h) (.inr ⟨by kernel_rfl, rfl⟩) ?_
                    simp only [Act.put, List.setIfInBounds_toArray, List.set_cons_zero, List.set_cons_succ]
                    refine wpAny_take (i := 13) (v := undef) rfl (by kernel_rfl) (by kernel_rfl) (by kernel_rfl) (fun _ _ _ h => h) (.inr ⟨by kernel_rfl, rfl⟩) ?_
                    simp only [Act.put, List.setIfInBounds_toArray, List.set_cons_zero, List.set_cons_succ]
                    refine wpAny_take (i := 14) (v := undef) rfl (by kernel_rfl) (by kernel_rfl) (by kernel_rfl) (fun _ _ _ h => h) (.inr ⟨by kernel_rfl, rfl⟩) ?_
                    simp only [Act.put, List.setIfInBounds_toArray, List.set_cons_zero, List.set_cons_succ]
                    refine wpAny_take (i := 15) (v := .bool true) rfl (by kernel_rfl) (by kernel_rfl) (by kernel_rfl) (fun _ _ _ h => h) (.inl ⟨by kernel_rfl, fun W => by go_simp⟩) ?_
                    refine wpAny_done (by kernel_rfl) ?_ _
                    simp [Act.put]
                    go_wp2
                    go_ret3
                    unfold RTaken
                    rw [HN.out]
                    exact ⟨HRT.out.below.trans ((HBA.out.trans (HB3.out.mono HBA.out.size)).mono HRT.out.below.size), rfl⟩
                  | true =>
                    rw [hf] at CM HO
                    have HS := Lib.hid (takeAll_some HKQ.out HTA.out (by rw [HO.out]; rfl))
                    clear hf
                    go_wp2
                    have hkb := heap_alloc_new wr (.cells #[.int .i64 (k : Nat), .int .i64 (u : Nat), .float .f64 0, .string ⟨#[]⟩] 123)
                    have HKB := Lib.hid hkb
                    have HLT := Lib.hid (Array.getElem?_eq_some_iff.1 hkb).1
                    have HBA := Lib.hid ((Below.refl wr.heap.size wr).alloc (Nat.le_refl _) (.cells #[.int .i64 (k : Nat), .int .i64 (u : Nat), .float .f64 0, .string ⟨#[]⟩] 123))
                    clear hkb
                    have sS := heldS (W := (wr.alloc (.cells #[.int .i64 (k : Nat), .int .i64 (u : Nat), .float .f64 0, .string ⟨#[]⟩] 123)).drew) (c := c - a) HKB.out (HXB.out.below (HRT.out.same HBA.out.drew).below) HXL.out HZ0.out
                    refine wp_region_held_drew (S := (fun w' => w'.cell? ⟨wr.heap.size, 0, none⟩ = some (.int .i64 (k : Nat)) ∧ w'.cell? ⟨wr.heap.size, 1, none⟩ = some (.int .i64 (u : Nat)) ∧ w'.cell? ⟨wr.heap.size, 2, none⟩ = some (.float .f64 0) ∧ w'.cell? ⟨wr.heap.size, 3, none⟩ = some (.string ⟨#[]⟩) ∧ (convert 53 9 (.slice (some ⟨b, off + a, none⟩) z (c - a))).run Tryz.prog w' = .ok (.string (strB X)) w')) (by kernel_rfl) ?_ (fun hHeld => ?_)
                    · exact sS
                    refine wpAnyH_take (i := 0) (v := ?vv27) rfl (by kernel_rfl) (by kernel_rfl) (by kernel_rfl) (fun _ _ _ h => h) (Or.inl ⟨by rfl, ?hy27⟩) (by assumption) ?rest27
                    case hy27 => (intro w hSw; (try dsimp only at hSw); go_simp; try with_reducible rfl)
                    try simp only [puts]
                    refine wpAnyH_ready (rs := [1]) (by kernel_rfl) (by simp) ?_
                    refine AllReadyH.cons rfl (fun K hK => ?_) AllReadyH.nil
                    go_simp
                    ((with_reducible refine (CM.out _).mono ?_); rintro e w3 ⟨rfl, hb3⟩; have k3 := (hb3.block wr.heap.size HLT.out).trans HKB.out; clear sS; have hr3 := (HRT.out.same (HBA.out.drew.trans (hb3.mono HBA.out.drew.size))); have sS := heldS (c := c - a) k3 (HXB.out.below hr3.below) HXL.out HZ0.out; have HR3 := Lib.hid hr3; have HK3 := Lib.hid k3; clear hb3 k3 hr3)
                    refine hK.out _ _ ?_ (fun hHeld => ?_)
                    · exact sS
                    clear hK
                    try simp only [puts]
                    refine wpAnyH_take (i := 2) (v := ?vv28) rfl (by kernel_rfl) (by kernel_rfl) (by kernel_rfl) (fun _ _ _ h => h) (Or.inl ⟨by rfl, ?hy28⟩) (by assumption) ?rest28
                    case hy28 => (intro w hSw; (try dsimp only at hSw); go_simp; try with_reducible rfl)
                    try simp only [puts]
                    refine wpAnyH_take (i := 3) (v := ?vv29) rfl (by kernel_rfl) (by kernel_rfl) (by kernel_rfl) (fun _ _ _ h => h) (Or.inl ⟨by rfl, ?hy29⟩) (by assumption) ?rest29
                    case hy29 => (intro w hSw; (try dsimp only at hSw); go_simp; try with_reducible rfl)
                    try simp only [puts]
                    refine wpAnyH_take (i := 4) (v := ?vv30) rfl (by kernel_rfl) (by kernel_rfl) (by kernel_rfl) (fun _ _ _ h => h) (Or.inl ⟨by rfl, ?hy30⟩) (by assumption) ?rest30
                    case hy30 => (intro w hSw; (try dsimp only at hSw); go_simp; try with_reducible rfl)
                    try simp only [puts]
                    refine wpAnyH_take (i := 7) (v := ?vv31) rfl (by kernel_rfl) (by kernel_rfl) (by kernel_rfl) (fun _ _ _ h => h) (Or.inl ⟨by rfl, ?hy31⟩) (by assumption) ?rest31
                    case hy31 => (intro w hSw; (try dsimp only at hSw); go_simp; try with_reducible rfl)
                    try simp only [puts]
                    refine wpAnyH_take (i := 8) (v := ?vv32) rfl (by kernel_rfl) (by kernel_rfl) (by kernel_rfl) (fun _ _ _ h => h) (Or.inl ⟨by rfl, ?hy32⟩) (by assumption) ?rest32
                    case hy32 => (intro w hSw; (try dsimp only at hSw); go_simp; try with_reducible rfl)
                    try simp only [puts]
                    refine wpAnyH_take (i := 9) (v := ?vv33) rfl (by kernel_rfl) (by kernel_rfl) (by kernel_rfl) (fun _ _ _ h => h) (Or.inl ⟨by rfl, ?hy33⟩) (by assumption) ?rest33
                    case hy33 => (intro w hSw; (try dsimp only at hSw); go_simp; try with_reducible rfl)
                    try simp only [puts]
                    refine wpAnyH_take (i := 10) (v := ?vv34) rfl (by kernel_rfl) (by kernel_rfl) (by kernel_rfl) (fun _ _ _ h => h) (Or.inl ⟨by rfl, ?hy34⟩) (by assumption) ?rest34
                    case hy34 => (intro w hSw; (try dsimp only at hSw); go_simp; try with_reducible rfl)
                    try simp only [puts]
                    refine wpAnyH_take (i := 11) (v := ?vv35) rfl (by kernel_rfl) (by kernel_rfl) (by kernel_rfl) (fun _ _ _ h => h) (Or.inl ⟨by rfl, ?hy35⟩) (by assumption) ?rest35
                    case hy35 => (intro w hSw; (try dsimp only at hSw); go_simp; try with_reducible rfl)
                    try simp only [puts]
                    refine wpAnyH_take (i := 12) (v := ?vv36) rfl (by kernel_rfl) (by kernel_rfl) (by kernel_rfl) (fun _ _ _ h => h) (Or.inl ⟨by rfl, ?hy36⟩) (by assumption) ?rest36
                    case hy36 => (intro w hSw; (try dsimp only at hSw); go_simp; try with_reducible rfl)
                    try simp only [puts]
                    refine wpAnyH_take (i := 13) (v := ?vv37) rfl (by kernel_rfl) (by kernel_rfl) (by kernel_rfl) (fun _ _ _ h => h) (Or.inl ⟨by rfl, ?hy37⟩) (by assumption) ?rest37
                    case hy37 => (intro w hSw; (try dsimp only at hSw); go_simp; try with_reducible rfl)
                    try simp only [puts]
                    refine wpAnyH_ready (rs := [5]) (by kernel_rfl) (by simp) ?_
                    refine AllReadyH.cons rfl (fun K hK => ?_) AllReadyH.nil
                    go_simp
                    ((with_reducible refine (CO.out _).mono ?_); rintro e w4 ⟨g4, c4, rfl, hbc4, hb4⟩; have hr4 := (HR3.out.same hb4); have k4 := (hb4.block wr.heap.size (Array.getElem?_eq_some_iff.1 HK3.out).1).trans HK3.out; clear sS; have sS := heldS (c := c - a) k4 (HXB.out.below hr4.below) HXL.out HZ0.out; have v5 := conv_bytes (c := c4) hbc4 HXL.out HZ0.out; have HR4 := Lib.hid hr4; clear hb4 k4 hr4 hbc4)
                    refine hK.out _ _ ?_ (fun hHeld => ?_)
                    · exact sS
                    clear hK
                    try simp only [puts]
                    refine wpAnyH_ready (rs := [6]) (by kernel_rfl) (by simp) ?_
                    refine AllReadyH.cons rfl (fun K hK => ?_) AllReadyH.nil
                    go_simp
                    refine hK.out _ _ ?_ (fun hHeld => ?_)
                    · exact sS
                    clear hK
                    try simp only [puts]
                    refine wpAnyH_take (i := 14) (v := ?vv38) rfl (by kernel_rfl) (by kernel_rfl) (by kernel_rfl) (fun _ _ _ h => h) (Or.inl ⟨by rfl, ?hy38⟩) (by assumption) ?rest38
                    case hy38 => (intro w hSw; (try dsimp only at hSw); go_simp; try with_reducible rfl)
                    try simp only [puts]
                    refine wpAnyH_take (i := 15) (v := ?vv39) rfl (by kernel_rfl) (by kernel_rfl) (by kernel_rfl) (fun _ _ _ h => h) (Or.inl ⟨by rfl, ?hy39⟩) (by assumption) ?rest39
                    case hy39 => (intro w hSw; (try dsimp only at hSw); go_simp; try with_reducible rfl)
                    try simp only [puts]
                    refine wpAnyH_done (by kernel_rfl) ?_ _
                    go_wp2_with (at_builtin; refine add_item rfl (.tmp 127) (.tmp 129) rfl HR4.out ⟨k, u, 0⟩ rfl (by simp [Act.eval, Act.put]) HI.out (by omega) ?_; rintro g5 cap5 w5 hr5; have HR5 := Lib.hid hr5; clear hr5)
                    refine ⟨⟨q + 1, y, some ⟨g5, 0, none⟩, cap5, I ++ [⟨k, u, 0⟩], by omega, by go_num, by omega, by first | rfl | go_num, rfl, by rw [List.length_append, HI.out]; rfl, HR5.out, ?_⟩, by simp [intOf]; omega⟩
                    have h := HS.out
                    rw [HY.out] at h
                    exact h
          · have hs' : (n : Int) - (a : Int) < (d : Int) := by omega
            have HN := Lib.hid (takeAll_none HKQ.out HTA.out (takeOne_short (by rw [HD.out, NL.out]; exact hs)))
            go_wp2
            go_ret3
            unfold RTaken
            rw [HN.out]
            exact ⟨HRT.out.below, rfl⟩
        · have hqj : q = j := by omega
          subst hqj
          have hE : takeAll L K 0 = some (I, a) := by
            have h := HTA.out
            rw [List.drop_of_length_le (by rw [NK.out]; omega)] at h
            simpa [takeAll] using h
          have HE := Lib.hid hE
          clear hE
          go_wp2
          go_ret3
          unfold RTaken
          rw [HE.out]
          have ho := HRT.out.own
          obtain ⟨A3, c3, e3, hix⟩ := IX.of_own ho
          injection e3 with e4 e5 e6
          subst e4 e6
          exact ⟨HRT.out.below, Av, cv, by rw [HI.out]; exact rfl, hix⟩
end Go.Proofs.YtdbnlngkmfmnnaaGreatDoor
