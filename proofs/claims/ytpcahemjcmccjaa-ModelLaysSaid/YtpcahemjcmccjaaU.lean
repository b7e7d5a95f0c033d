/- The document's Lay: the walk. -/
import Derived.Test.YtpcahemjcmccjaaT
import Derived.Deep.RegionHeld3
namespace Go.Proofs.Ytpcahemjcmccjaa
open Go.RowKit

theorem drop_at {α : Type} {l : List α} {k : Nat} {d : α} (h : l[k]? = some d) : l.drop k = d :: l.drop (k + 1) := by
  obtain ⟨hk, rfl⟩ := List.getElem?_eq_some_iff.1 h
  exact List.drop_eq_getElem_cons hk

set_option maxHeartbeats 4000000 in
set_option maxRecDepth 1000000 in
theorem refLay_any (As Aw : Option Addr) (cs cw : Nat) (ls lw : List RowD) (w : World) (hs : RC w w.heap.size As ls) (hw : RC w w.heap.size Aw lw) (hAs : As = none → cs = 0) (ms : ls.length ≤ 300) (mw : lw.length ≤ 300) (fs : Fit ls) (fw : Fit lw) (rs : Rising ls) :
    Calls Try.prog 8 #[.slice As ls.length cs, .slice Aw lw.length cw] w (fun e w' => ∃ A c, e = .returned (.slice A (layP ls lw).length c) ∧ RC w' w'.heap.size A (layP ls lw) ∧ (A = none → c = 0) ∧ Below w.heap.size w w') := by
  obtain ⟨nw, hnw⟩ : ∃ nw, lw.length = nw := ⟨_, rfl⟩
  obtain ⟨ns, hns⟩ : ∃ ns, ls.length = ns := ⟨_, rfl⟩
  rw [hnw] at mw ⊢
  rw [hns] at ms ⊢
  have HSS := Lib.hid hs
  have HW := Lib.hid hw
  have NW := Lib.hid hnw
  have NS := Lib.hid hns
  have FS := Lib.hid fs
  have FW := Lib.hid fw
  have RS := Lib.hid rs
  have HA := Lib.hid hAs
  clear hs hw hAs hnw hns fs fw rs
  have hsf := run_store_f64
  go_enter Try.func8, Try.ntmps8
  go_wp2
  go_loopw [5, 0] (fun i v wr => OutRel ls lw w nw i v wr) (fun i _ _ => nw - (intOf i).toNat)
  case atStart => exact ⟨0, As, cs, Nat.zero_le _, rfl, by rw [show layP ls (lw.take 0) = ls from rfl, NS.out], HSS.out, HA.out, Below.refl _ _⟩
  case round =>
    rename World => wo
    obtain ⟨k, A, c, hk, rfl, rfl, hrc, hA, hb⟩ := hrel
    have HRC := Lib.hid hrc
    have HA2 := Lib.hid hA
    have HBr := Lib.hid hb
    clear hrc hA hb
    by_cases hlt : k < nw
    · obtain ⟨r, hr⟩ := get_at NW hlt
      have HS : Hid (layP ls (lw.take (k + 1)) = layStep (layP ls (lw.take k)) r) := by
        rw [take_at hr]
        show (lw.take k ++ [r]).foldl layStep ls = _
        rw [List.foldl_append]
        exact rfl
      have FL : Hid (Fit (layP ls (lw.take k))) := layP_all (fun d h => h.bare) _ _ FS.out (fun x hx => FW.out x (List.mem_of_mem_take hx))
      have RL : Hid (Rising (layP ls (lw.take k))) := (layP_rising _ RS.out).1
      have ML : (layP ls (lw.take k)).length ≤ 600 := by
        have h1 := layP_length (lw.take k) ls
        have h2 := NS.out
        rw [List.length_take] at h1
        omega
      obtain ⟨b1, o1, A2, c2, e1, q1, q2, q3, q4, q5, q6, r0, r1, r2, r3, r4, r5⟩ := (HW.out.below HBr.out).at_ hr
      subst e1
      have hOk := FW.out r (List.mem_of_getElem? hr)
      have FC2 := Lib.hid (q2.more HBr.out.size)
      have Q3 := Lib.hid q3
      have Q4 := Lib.hid q4
      have HK := Lib.hid hOk
      have HBS := Lib.hid HBr.out.size
      obtain ⟨L, hL⟩ : ∃ L, L = layP ls (lw.take k) := ⟨_, rfl⟩
      rw [← hL] at HRC HS FL RL ML ⊢
      obtain ⟨n, hn⟩ : ∃ n, L.length = n := ⟨_, rfl⟩
      have NL := Lib.hid hn
      rw [hn] at ML ⊢
      clear hL hn q1 q2 q3 q4 q5 q6 hr hOk
      obtain ⟨key, dead, cols, x, y, z⟩ := r
      simp only at r0 r1 r2 r3 r4 r5
      have CB : Hid (∀ W, Below wo.heap.size wo W → W.cell? ⟨b1, o1 + k * 6, none⟩ = some (.float .f64 key)) := fun W hW => (hW.cell (p := ⟨b1, o1 + k * 6, none⟩) (World.block_lt_of_cell? _ _ r0)).trans r0
      replace r0 := cell_alloc r0 (.cells #[] 33)
      replace r1 := cell_alloc r1 (.cells #[] 33)
      replace r2 := cell_alloc r2 (.cells #[] 33)
      clear r3 r4 r5
      have n0 := World.new_ne _ _ r0
      have n2 := World.new_ne _ _ r2
      simp only [World.size_alloc] at n0 n2
      go_wp2
      go_region_held3 (fun w' => w'.cell? ⟨b1, o1 + k * 6, none⟩ = some (.float .f64 key) ∧ w'.cell? ⟨b1, o1 + k * 6 + 2, none⟩ = some (.slice A2 cols.length c2)) (go_keep) (fail)
      rename _ ∧ _ => hh
      clear hh
      go_wp2
      go_loopw [9, 6, 7] (fun i v p w2 => InRel wo #[.float .f64 key, .bool false, .slice A2 cols.length c2, .int .i64 0, .int .i64 0, .int .i64 0] ⟨key, dead, cols, x, y, z⟩ L n i v p w2) (fun i _ _ _ => n - (intOf i).toNat)
      case atStart => exact ⟨0, dead, [], _, 0, 0, Nat.zero_le _, rfl, rfl, rfl, by omega, rfl, in_start wo _⟩
      case round =>
        obtain ⟨j, b, O, A', m, c', hj, rfl, rfl, rfl, hm, hgo, hin⟩ := hrel
        have x0 := cell_of_row wr (wo.heap.size + 1) 0 _ _ _ hin.box
        have x1 := cell_of_row wr (wo.heap.size + 1) 1 _ _ _ hin.box
        have x2 := cell_of_row wr (wo.heap.size + 1) 2 _ _ _ hin.box
        have x3 := cell_of_row wr (wo.heap.size + 1) 3 _ _ _ hin.box
        have x4 := cell_of_row wr (wo.heap.size + 1) 4 _ _ _ hin.box
        have x5 := cell_of_row wr (wo.heap.size + 1) 5 _ _ _ hin.box
        simp only [List.getElem?_toArray, List.getElem?_cons_succ, List.getElem?_cons_zero] at x0 x1 x2 x3 x4 x5
        have xk := CB.out _ hin.below
        have HIN := Lib.hid hin
        have HGO := Lib.hid hgo
        clear hin hgo r0 r1 r2 n0 n2
        by_cases hjl : j < n
        · obtain ⟨e, he⟩ := get_at NL hjl
          have HD := Lib.hid (drop_at he)
          obtain ⟨b2, o2, A3, c3, e2, q1, q2, q3, q4, q5, q6, s0, s1, s2, s3, s4, s5⟩ := HRC.out.at_ he
          subst e2
          obtain ⟨key2, dead2, cols2, x', y', z'⟩ := e
          simp only at s0 s1 s2 s3 s4 s5 q2 q3 q5
          have CE : Hid (∀ W, Below wo.heap.size wo W → W.cell? ⟨b2, o2 + j * 6, none⟩ = some (.float .f64 key2) ∧ W.cell? ⟨b2, o2 + j * 6 + 1, none⟩ = some (.bool dead2) ∧ W.cell? ⟨b2, o2 + j * 6 + 2, none⟩ = some (.slice A3 cols2.length c3) ∧ W.cell? ⟨b2, o2 + j * 6 + 3, none⟩ = some (.int .i64 x') ∧ W.cell? ⟨b2, o2 + j * 6 + 4, none⟩ = some (.int .i64 y') ∧ W.cell? ⟨b2, o2 + j * 6 + 5, none⟩ = some (.int .i64 z')) := fun W hW =>
            ⟨(hW.cell (p := ⟨b2, o2 + j * 6, none⟩) q1).trans s0, (hW.cell (p := ⟨b2, o2 + j * 6 + 1, none⟩) q1).trans s1, (hW.cell (p := ⟨b2, o2 + j * 6 + 2, none⟩) q1).trans s2, (hW.cell (p := ⟨b2, o2 + j * 6 + 3, none⟩) q1).trans s3, (hW.cell (p := ⟨b2, o2 + j * 6 + 4, none⟩) q1).trans s4, (hW.cell (p := ⟨b2, o2 + j * 6 + 5, none⟩) q1).trans s5⟩
          have FE := Lib.hid q2
          have E3 := Lib.hid q3
          have E4 := Lib.hid q4
          have cl : ∀ w, Calls Try.prog 19 #[.float .f64 key, .float .f64 key2] w fun e w' => e = .returned (.bool (lessN key key2)) ∧ w = w' := less_any key key2 HK.out.1 q5
          have ca : ∀ w, Calls Try.prog 20 #[.float .f64 key2, .float .f64 key] w fun e w' => e = .returned (.bool (decide (keyN key2 = keyN key))) ∧ w = w' := alike_any key2 key q5 HK.out.1
          clear s0 s1 s2 s3 s4 s5 q1 q2 q3 q4 q5 q6 he
          obtain ⟨s0, s1, s2, s3, s4, s5⟩ := CE.out _ HIN.out.below
          obtain ⟨lb, hlb⟩ : ∃ lb, lessN key key2 = lb := ⟨_, rfl⟩
          obtain ⟨ab, hab⟩ : ∃ ab, decide (keyN key2 = keyN key) = ab := ⟨_, rfl⟩
          rw [hlb] at cl
          rw [hab] at ca
          have HLB := Lib.hid hlb
          have HAB := Lib.hid hab
          clear hlb hab
          cases b with
          | true =>
            cases ab with
            | true =>
              go_wp2
              go_quiet ((go_at_call 19; exact quiet_w (cl _)))
              go_wp2
              go_quiet ((go_at_call 20; exact quiet_w2 (ca _)))
              go_wp2
              exact in_round hjl (by omega) HGO.out HD.out HAB.out rfl rfl (HIN.out.drewN _)
            | false =>
              go_wp2
              go_quiet ((go_at_call 19; exact quiet_w (cl _)))
              go_wp2
              go_quiet ((go_at_call 20; exact quiet_w2 (ca _)))
              go_wp2_with (at_builtin; (refine wpList_put_row rfl (.tmp 69) (.tmp 74) rfl (HIN.out.drewN _) rfl rfl key2 dead2 cols2 A3 c3 x' y' z' FE.out E3.out E4.out (by omega) ?_); intro g2 cap2 w4 hin; have HIN3 := Lib.hid hin; clear hin)
              exact in_round hjl (by omega) HGO.out HD.out HAB.out rfl rfl HIN3.out
          | false =>
            cases lb with
            | true =>
              cases ab with
              | true =>
                go_wp2
                go_quiet ((go_at_call 19; exact quiet_w (cl _)))
                go_wp2_with (at_builtin; (refine wpList_put_row rfl (.tmp 54) (.tmp 56) rfl (HIN.out.drewN _) rfl rfl key false cols A2 c2 0 0 0 FC2.out Q3.out Q4.out (by omega) ?_); intro g cap w3 hin; have yk := CB.out _ hin.below; obtain ⟨t0, t1, t2, t3, t4, t5⟩ := CE.out _ hin.below; have HIN2 := Lib.hid hin; clear hin)
                go_quiet ((go_at_call 20; exact quiet_w (ca _)))
                go_wp2
                exact in_round hjl (by omega) HGO.out HD.out HAB.out (by rw [HLB.out]; rfl) (by rw [HLB.out]; rfl) (HIN2.out.drewN _)
              | false =>
                go_wp2
                go_quiet ((go_at_call 19; exact quiet_w (cl _)))
                go_wp2_with (at_builtin; (refine wpList_put_row rfl (.tmp 54) (.tmp 56) rfl (HIN.out.drewN _) rfl rfl key false cols A2 c2 0 0 0 FC2.out Q3.out Q4.out (by omega) ?_); intro g cap w3 hin; have yk := CB.out _ hin.below; obtain ⟨t0, t1, t2, t3, t4, t5⟩ := CE.out _ hin.below; have HIN2 := Lib.hid hin; clear hin)
                go_quiet ((go_at_call 20; exact quiet_w (ca _)))
                go_wp2_with (at_builtin; (refine wpList_put_row rfl (.tmp 69) (.tmp 74) rfl (HIN2.out.drewN _) rfl rfl key2 dead2 cols2 A3 c3 x' y' z' FE.out E3.out E4.out (by omega) ?_); intro g2 cap2 w4 hin; have HIN3 := Lib.hid hin; clear hin)
                exact in_round hjl (by omega) HGO.out HD.out HAB.out (by rw [HLB.out]; rfl) (by rw [HLB.out]; rfl) HIN3.out
            | false =>
              cases ab with
              | true =>
                go_wp2
                go_quiet ((go_at_call 19; exact quiet_w (cl _)))
                go_wp2
                go_quiet ((go_at_call 20; exact quiet_w2 (ca _)))
                go_wp2
                exact in_round hjl (by omega) HGO.out HD.out HAB.out (by rw [HLB.out]; rfl) (by rw [HLB.out]; rfl) (HIN.out.drewN _)
              | false =>
                go_wp2
                go_quiet ((go_at_call 19; exact quiet_w (cl _)))
                go_wp2
                go_quiet ((go_at_call 20; exact quiet_w2 (ca _)))
                go_wp2_with (at_builtin; (refine wpList_put_row rfl (.tmp 69) (.tmp 74) rfl (HIN.out.drewN _) rfl rfl key2 dead2 cols2 A3 c3 x' y' z' FE.out E3.out E4.out (by omega) ?_); intro g2 cap2 w4 hin; have HIN3 := Lib.hid hin; clear hin)
                exact in_round hjl (by omega) HGO.out HD.out HAB.out (by rw [HLB.out]; rfl) (by rw [HLB.out]; rfl) HIN3.out
        · have HJ : Hid (n ≤ j) := Nat.not_lt.1 hjl
          have FT : Hid (Fit (layP ls (lw.take (k + 1)))) := layP_all (fun d h => h.bare) _ _ FS.out (fun x hx => FW.out x (List.mem_of_mem_take hx))
          have HR := Lib.hid (ref_done NL.out HJ.out HGO.out)
          clear hjl
          have hjl : ¬ j < n := Nat.not_lt.2 HJ.out
          cases b with
          | true =>
            go_wp2
            exact out_round hlt HS.out HR.out RL.out FL.out HK.out HIN.out HBr.out FT.out
          | false =>
            go_wp2_with (at_builtin; (refine wpList_put_row rfl (.tmp 78) (.tmp 80) rfl HIN.out rfl rfl key false cols A2 c2 0 0 0 FC2.out Q3.out Q4.out (by omega) ?_); intro g cap w3 hin; have HIN2 := Lib.hid hin; clear hin)
            exact out_round hlt HS.out HR.out RL.out FL.out HK.out HIN2.out HBr.out FT.out
    · have hkn : k = nw := by omega
      subst hkn
      go_wp2
      go_ret
      have e : lw.take k = lw := List.take_of_length_le (by have := NW.out; omega)
      have ho := HRC.out
      rw [e] at ho ⊢
      exact ⟨A, c, rfl, ho, HA2.out, HBr.out⟩
end Go.Proofs.Ytpcahemjcmccjaa
