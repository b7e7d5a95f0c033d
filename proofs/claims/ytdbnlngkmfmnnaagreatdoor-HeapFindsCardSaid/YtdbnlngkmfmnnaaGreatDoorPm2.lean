/- PM, part 2: a machine that evaluates a program's code in the kernel, and why what it answers is so of the model. -/
import Derived.Test.YtdbnlngkmfmnnaaGreatDoorPm1
import Derived.Lib.ConvBytes
import Derived.Laws.IdiomStrings
/- PM: append, whole; copy; clear. -/

namespace Go.Pm
noncomputable section

/-- Elements stored behind the len-th of a slice that has room for them in the model. -/
theorem append_room {T : Tbl} {P : Program} (hT : T.Ok P) {E : Env} (hR : Rel E) {sT xT ty e : TypeId} {i : TypeInfo} {r : BRef} {g off len cap : Nat} {b : Blk} {x : Value} {ys : List PV}
    (ht : T.und sT = some (.slice e)) (hi : T.info e = some i) (hent : E.bs.ent r = some (g, some b)) (he : b.esz = i.size) (hcap : off + cap ≤ E.cap r) (hpos : 0 < cap)
    {news : List Value} (hsrc : Src P i.size xT x ys.length news E.w) (hroom : len + ys.length ≤ cap) :
    ∃ (w' : World) (cs' cs : Array Value) (tyc : TypeId), (Builtin.append_ #[sT, xT] ty #[.slice (some ⟨(E.mu r).1, (E.mu r).2 + off * b.esz, none⟩) len cap, x]).run P E.w =
        .ok (.slice (some ⟨(E.mu r).1, (E.mu r).2 + off * b.esz, none⟩) (len + ys.length) cap) w' ∧
      WLike E.w w' ∧ (∀ q, q ≠ (E.mu r).1 → w'.heap[q]? = E.w.heap[q]?) ∧ w'.heap[(E.mu r).1]? = some (.cells cs' tyc (0, 0)) ∧ E.w.heap[(E.mu r).1]? = some (.cells cs tyc (0, 0)) ∧
      Stored cs cs' ((E.mu r).2 + off * b.esz + len * i.size) news ∧ (E.mu r).2 + E.cap r * b.esz ≤ cs.size := by
  obtain ⟨p1, p2, cs, tyc, p3, p4⟩ := hR.phys r g b hent (by omega)
  have hnl := hsrc.newsLen
  have hfit : off * b.esz + len * i.size + news.length ≤ E.cap r * b.esz := by
    rw [hnl, ← he, ← Nat.add_mul, ← Nat.add_mul]
    exact Nat.mul_le_mul_right _ (by omega)
  obtain ⟨cs', s1, s2, s3, s4⟩ := setCells_heap (E.mu r).1 (0, 0) tyc news ((E.mu r).2 + off * b.esz + len * i.size) E.w cs p3 (by omega)
  refine ⟨_, cs', cs, tyc, run_append_room_src (P := P) E.w sT xT ty e i (hT.und _ _ ht) (hT.info _ _ hi) (E.mu r).1 ((E.mu r).2 + off * b.esz) len cap x ys.length news hsrc hroom (fun j hj => ?_) (fun j hj => ?_), s3, s4, s1, p3, s2, p4⟩
  · simp only [World.cell?, p3]
    simp
    omega
  · simp [World.frozen?, p3]

theorem okG_over {r : BRef} {l ys : List PV} {a c : Nat} (h : okG r l = true) (k : okG r ys = true) : okG r (l.take a ++ ys ++ l.drop c) = true := by
  cases r with
  | loc _ _ => rfl
  | glob _ =>
    simp only [okG] at h k ⊢
    refine noLocL_mem.2 fun p hp => ?_
    simp only [List.mem_append] at hp
    rcases hp with (hp | hp) | hp
    · exact noLocL_mem.1 h p (List.mem_of_mem_take hp)
    · exact noLocL_mem.1 k p hp
    · exact noLocL_mem.1 h p (List.mem_of_mem_drop hp)

theorem take_drop_get {α : Type} {l : List α} {off len i : Nat} {p : α} (h : ((l.drop off).take len)[i]? = some p) : i < len ∧ l[off + i]? = some p := by
  rw [List.getElem?_take] at h
  split at h
  · rename_i hi
    rw [List.getElem?_drop] at h
    exact ⟨hi, h⟩
  · cases h

set_option maxRecDepth 20000 in
theorem popAppend_run {T : Tbl} {P : Program} (hT : T.Ok P) {E : Env} (hR : Rel E) {d : Nat} {sT xT ty : TypeId} {s x pv : PV} {us ux : Value} {bs' : Bs} (hs : VR E s us) (hx : VR E x ux)
    (h : popAppend T E.bs d sT xT s x = some (pv, bs')) :
    ∃ (E' : Env) (v : Value), (Builtin.append_ #[sT, xT] ty #[us, ux]).run P E.w = .ok v E'.w ∧ E'.bs = bs' ∧ VR E' pv v ∧ Ext E E' ∧ Rel E' := by
  unfold popAppend at h
  split at h
  · rename_i e dx ht hdx
    split at h
    · cases h
    · rename_i i hi
      split at h
      · cases h
      · rename_i z hz
        split at h
        · cases h
        · rename_i ys hys
          cases hb : (sliceOrString dx && !Nat.beq i.size 0 && Nat.beq (ofVal z).cells.length i.size && known (ofVal z) && ys.all (okEl i.size)) with
          | false => rw [hb] at h; cases h
          | true =>
            rw [hb] at h; simp only [cond_true] at h
            simp only [Bool.and_eq_true, Bool.not_eq_true'] at hb
            obtain ⟨⟨⟨⟨b1, b2⟩, b3⟩, b4⟩, b5⟩ := hb
            have hn0 : i.size ≠ 0 := by intro e; rw [e] at b2; cases b2
            have hn : 0 < i.size := Nat.pos_of_ne_zero hn0
            have hzc : (ofVal z).cells.length = i.size := Nat.eq_of_beq_eq_true b3
            have hzl : z.cells.size = i.size := by rw [← hzc]; simpa using VRl_length (cells_VR (VR_ofVal E z) (known_ne b4))
            obtain ⟨news, hsrc, hnr⟩ := src_Src hT hR hn hdx b1 hx hys b5
            cases hem : ys.isEmpty with
            | true =>
              rw [hem] at h; simp only [cond_true] at h
              have hy0 : ys = [] := by simpa using hem
              subst hy0
              have hn0 : news = [] := by
                have := hsrc.newsLen
                simp at this
                exact this
              subst hn0
              have key : ∀ base sLen sCap, us = .slice base sLen sCap → sLen ≤ sCap → (Builtin.append_ #[sT, xT] ty #[us, ux]).run P E.w = .ok us E.w := by
                intro base sLen sCap e1 hle
                subst e1
                exact run_append_nothing (P := P) E.w sT xT ty e i (hT.und _ _ ht) (hT.info _ _ hi) base sLen sCap hle ux hsrc
              split at h
              · cases h
                have hs' := hs
                simp only [VR] at hs'
                obtain ⟨A, cap, ws, e1, hle, _⟩ := hs'
                exact ⟨E, us, key _ _ _ e1 hle, rfl, hs, Ext.refl E, hR⟩
              · cases h
                have hs' := hs
                simp only [VR] at hs'
                obtain ⟨A, cap, e1, hle, _⟩ := hs'
                exact ⟨E, us, key _ _ _ e1 hle, rfl, hs, Ext.refl E, hR⟩
              · cases h
            | false =>
              rw [hem] at h; simp only [cond_false] at h
              have hy0 : 0 < ys.length := by
                cases ys with
                | nil => cases hem
                | cons _ _ => simp
              split at h
              · rename_i bb full xs
                cases hc : (full && xs.all (okEl i.size) && roomFor (xs.length + ys.length) i.bytes) with
                | false => rw [hc] at h; cases h
                | true =>
                  rw [hc] at h; cases h
                  simp only [Bool.and_eq_true] at hc
                  obtain ⟨⟨c1, c2⟩, c3⟩ := hc
                  have hs' := hs
                  simp only [VR] at hs'
                  obtain ⟨A, cap, ws, e1, hle, hfull, _⟩ := hs'
                  have hcap := hfull c1
                  obtain ⟨_, q2⟩ := src_run (P := P) (n := i.size) hR hn hs (xs := xs) (by rfl) (fun p hp => (okEl_spec (List.all_eq_true.1 c2 p hp)).1)
                  obtain ⟨olds, o1, o2, o3⟩ := q2 xs.length (Nat.le_refl _)
                  rw [List.take_length] at o3
                  exact append_grow hT hR (t := d) (k := 0) ht hi hz hn hzl e1 o1 o2 o3 hsrc hnr (by omega) c3 (.ofL i.size (xs ++ ys)) rfl (Blk.ofL_elems _ _)
              · rename_i r g off len
                split at h
                · cases h
                · rename_i b hbk
                  simp only [Blk.len_eq] at h
                  cases hc : (Nat.beq b.esz i.size && Nat.ble (off + len) b.elems.length && roomFor (len + ys.length) i.bytes) with
                  | false => rw [hc] at h; cases h
                  | true =>
                    rw [hc] at h; simp only [cond_true] at h
                    simp only [Bool.and_eq_true] at hc
                    obtain ⟨⟨c1, c2⟩, c3⟩ := hc
                    have he : b.esz = i.size := Nat.eq_of_beq_eq_true c1
                    have hol := Nat.le_of_ble_eq_true c2
                    have hent := Bs.getg_ent.1 hbk
                    have hs' := hs
                    simp only [VR] at hs'
                    obtain ⟨A, cap, e1, hlc, g', o, hr, hg, hu⟩ := hs'
                    obtain ⟨h1, h2, h3, h4⟩ := hu b hbk
                    cases hin : (Nat.ble (off + len + ys.length) b.elems.length && okG r ys) with
                    | true =>
                      rw [hin] at h; cases h
                      simp only [Bool.and_eq_true] at hin
                      have hin' := Nat.le_of_ble_eq_true hin.1
                      have hA := h4.1 (by omega)
                      subst hA
                      obtain ⟨w', cs', cs, tyc, r1, r2, r3, r4, r5, r6, r7⟩ := append_room (ty := ty) hT hR ht hi hent he h3 (by omega) hsrc (len := len) (cap := cap) (by omega)
                      rw [e1]
                      have hcp : 0 < E.cap r := by have := hR.len r g b hent; omega
                      have hnl := hsrc.newsLen
                      obtain ⟨E', q1, q2, q3, q4⟩ := upd_ext hR (w' := w') r2 (b' := b.over (off + len) ys) hent r3 hcp rfl
                        (by rw [Blk.over_elems]; simp; omega) r4 (by rw [r6.1]; exact r7) (by
                          rw [Blk.over_elems]
                          intro q p hp
                          by_cases hq1 : q < off + len
                          · rw [List.append_assoc, List.getElem?_append_left (by simp; omega), List.getElem?_take, if_pos hq1] at hp
                            obtain ⟨hpl, ho⟩ := hR.own r g b hent q p hp
                            refine ⟨hpl, fun j c hcj => ?_⟩
                            obtain ⟨cs0, ty0, y, hh, hy, hv⟩ := ho j c hcj
                            rw [r5] at hh; cases hh
                            have hjl := lt_len hcj
                            rw [hpl] at hjl
                            refine ⟨y, ?_, hv⟩
                            rw [r6.2, if_neg]
                            · exact hy
                            · have hlt : (q + 1) * b.esz ≤ (off + len) * b.esz := Nat.mul_le_mul_right _ hq1
                              rw [Nat.add_mul, Nat.add_mul] at hlt
                              rw [← he]
                              omega
                          · by_cases hq2 : q < off + len + ys.length
                            · rw [List.append_assoc, List.getElem?_append_right (by simp; omega), List.getElem?_append_left (by simp; omega)] at hp
                              have hmin : (b.elems.take (off + len)).length = off + len := by simp; omega
                              rw [hmin] at hp
                              obtain ⟨hpl, ho⟩ := hnr _ p hp
                              refine ⟨by rw [hpl, he], fun j c hcj => ?_⟩
                              obtain ⟨y, hy, hv⟩ := ho j c hcj
                              have hjl := lt_len hcj
                              rw [hpl] at hjl
                              refine ⟨y, ?_, hv⟩
                              have hq : q * i.size = (off + len) * i.size + (q - (off + len)) * i.size := by rw [← Nat.add_mul]; congr 1; omega
                              have hll := row_lt (n := i.size) (i := q - (off + len)) (m := ys.length) hjl (by omega)
                              rw [r6.2, if_pos (by rw [he, hq, Nat.add_mul, hnl]; omega)]
                              rw [List.getElem?_toArray] at hy
                              rw [← hy]
                              congr 1
                              rw [he, hq, Nat.add_mul]
                              omega
                            · rw [List.getElem?_append_right (by simp; omega), List.getElem?_drop] at hp
                              have hmin : (b.elems.take (off + len) ++ ys).length = off + len + ys.length := by simp; omega
                              rw [hmin, show off + len + ys.length + (q - (off + len + ys.length)) = q by omega] at hp
                              obtain ⟨hpl, ho⟩ := hR.own r g b hent q p hp
                              refine ⟨hpl, fun j c hcj => ?_⟩
                              obtain ⟨cs0, ty0, y, hh, hy, hv⟩ := ho j c hcj
                              rw [r5] at hh; cases hh
                              refine ⟨y, ?_, hv⟩
                              rw [r6.2, if_neg]
                              · exact hy
                              · have hlt : (off + len + ys.length) * b.esz ≤ q * b.esz := Nat.mul_le_mul_right _ (by omega)
                                rw [Nat.add_mul, Nat.add_mul] at hlt
                                rw [hnl, ← he]
                                omega) (by rw [Blk.over_elems]; exact okG_over (hR.gl r g b hent) hin.2)
                      refine ⟨E', _, by rw [q1]; exact r1, q2, ?_, q3, q4⟩
                      have hent' : E'.bs.ent r = some (g, some (b.over (off + len) ys)) := by rw [q2]; exact Bs.ent_upd hent _
                      obtain ⟨g2, o2, x1, x2, x3⟩ := q3.ent r g _ hent
                      rw [hent'] at x1
                      cases x1
                      obtain ⟨b0, y1, y2, y3, y4, y5⟩ := x3 rfl _ rfl
                      simp only [VR]
                      refine ⟨_, cap, rfl, by omega, g, _, hent', Nat.le_refl _, fun b' hb' => ?_⟩
                      rw [Bs.getg_ent, hent'] at hb'
                      cases hb'
                      rw [y4, y5]
                      rw [Blk.over_elems]
                      refine ⟨by simp; omega, by simp; omega, h3, fun _ => rfl, rfl⟩
                    | false =>
                      rw [hin] at h; cases h
                      obtain ⟨E1, k1, k2, k3, k4, k5, _, k6, k7⟩ := kill_ext hR hent
                      have hxl : ((b.elems.drop off).take len).length = len := by simp; omega
                      by_cases hroom : len + ys.length ≤ cap
                      · -- there is room
                        have hA := h4.1 (by omega)
                        subst hA
                        obtain ⟨w', cs', cs, tyc, r1, r2, r3, r4, r5, r6, r7⟩ := append_room (ty := ty) hT hR ht hi hent he h3 (by omega) hsrc (len := len) (cap := cap) (by omega)
                        rw [e1]
                        have hnl := hsrc.newsLen
                        obtain ⟨p1, p2, csO, tyO, pO, _⟩ := hR.phys r g b hent (by omega)
                        have hbt : off * i.size + cap * i.size ≤ E.cap r * i.size := by
                          rw [← Nat.add_mul]; exact Nat.mul_le_mul_right _ h3
                        obtain ⟨E2, m1, m2, m3, m4, m5, m6⟩ := mk_ext k7 (w' := w') (t := (keyOf r d).1) (k := (keyOf r d).2) (b := growB b off len ys) (blk := (E.mu r).1) (base := (E.mu r).2 + off * i.size) (C := cap)
                          (by rw [k1]; exact r2) (fun q _ hq => by rw [k1]; exact r3 q hq) (fun _ => by
                            rcases Nat.lt_or_ge (E.mu r).1 w'.heap.size with hh | hh
                            · exact hh
                            · rw [Array.getElem?_eq_none hh] at r4; cases r4)
                          (.inr ⟨by rw [k5]; exact p2, (fun r' g' b0 hr' hc' hm' => by
                            exfalso
                            rw [k2] at hr'
                            rw [k4] at hc'
                            rw [k3] at hm'
                            by_cases hrr : r' = r
                            · subst hrr
                              rw [Bs.ent_upd hent] at hr'
                              cases hr'
                            · rw [Bs.ent_upd_ne _ hrr] at hr'
                              exact hrr (hR.inj r' r g' g b0 b hr' hent hc' (by omega) hm')), csO, tyO, by rw [k1]; exact pO⟩)
                          (by rw [growB_elems]; simp; omega) (fun _ => by rw [growB_esz, he]; exact ⟨hn, r4, by rw [r6.1]; rw [he] at r7; show (E.mu r).2 + off * i.size + cap * i.size ≤ _; omega⟩)
                          (by rw [growB_elems, growB_esz, he]; exact show RowsAt E1 i.size ((E.mu r).2 + off * i.size) ((b.elems.drop off).take len ++ ys) cs' from RowsAt_ext k6 (by
                            intro q p hp
                            by_cases hq1 : q < len
                            · rw [List.getElem?_append_left (by omega)] at hp
                              obtain ⟨_, hp'⟩ := take_drop_get hp
                              obtain ⟨hpl, ho⟩ := hR.own r g b hent _ p hp'
                              refine ⟨by rw [hpl, he], fun j c hcj => ?_⟩
                              obtain ⟨cs0, ty0, y, hh, hy, hv⟩ := ho j c hcj
                              rw [r5] at hh; cases hh
                              have hjl := lt_len hcj
                              rw [hpl, he] at hjl
                              refine ⟨y, ?_, hv⟩
                              have hlt : (q + 1) * i.size ≤ len * i.size := Nat.mul_le_mul_right _ hq1
                              rw [Nat.add_mul] at hlt
                              rw [he, Nat.add_mul] at hy
                              rw [r6.2, if_neg (by rw [he]; omega), ← hy]
                              congr 1
                              omega
                            · rw [List.getElem?_append_right (by omega), hxl] at hp
                              obtain ⟨hpl, ho⟩ := hnr _ p hp
                              refine ⟨hpl, fun j c hcj => ?_⟩
                              obtain ⟨y, hy, hv⟩ := ho j c hcj
                              have hjl := lt_len hcj
                              rw [hpl] at hjl
                              refine ⟨y, ?_, hv⟩
                              have hq : q * i.size = len * i.size + (q - len) * i.size := by rw [← Nat.add_mul]; congr 1; omega
                              have hll := row_lt (n := i.size) (i := q - len) (m := ys.length) hjl (lt_len hp)
                              rw [r6.2, if_pos (by rw [he, hq, hnl]; omega)]
                              rw [List.getElem?_toArray] at hy
                              rw [← hy]
                              congr 1
                              rw [he, hq]
                              omega))
                        refine ⟨E2, _, by rw [m1]; exact r1, by rw [m2, k2], ?_, k6.trans m5, m6⟩
                        have := VR_sl_new (E := E1) m2 m3 m4 (len := len + ys.length) (by rw [growB_elems]; simp; omega) (by rw [growB_elems]; simp; omega)
                        rw [k2, ← he] at this
                        exact this
                      · -- a new row
                        obtain ⟨_, q2⟩ := src_run (P := P) (n := i.size) hR hn hs (xs := (b.elems.drop off).take len) (by
                            simp only [srcElems, hbk, Blk.len_eq, Blk.sub_eq]
                            have : (Nat.beq b.esz i.size && Nat.ble (off + len) b.elems.length) = true := by rw [c1, c2]; rfl
                            rw [this]; rfl) (fun p hp => by
                            obtain ⟨q, hq⟩ := List.mem_iff_getElem?.1 hp
                            rw [← he]
                            exact (hR.own r g b hent _ p (take_drop_get hq).2).1)
                        rw [hxl] at q2
                        obtain ⟨olds, o1, o2, o3⟩ := q2 len (Nat.le_refl _)
                        have htk : ((b.elems.drop off).take len).take len = (b.elems.drop off).take len := by rw [List.take_take, Nat.min_self]
                        rw [htk] at o3
                        obtain ⟨E2, v, g1, g2, g3, g4, g5⟩ := append_grow hT k7 (t := (keyOf r d).1) (k := (keyOf r d).2) (xs := (b.elems.drop off).take len) (ys := ys) (ty := ty) (cap := cap) (base := A) ht hi hz hn hzl
                          (s := us) (by rw [hxl]; exact e1) (by rw [hxl, k1]; exact o1) (by rw [hxl]; exact o2) (RowsAt_ext k6 o3) (by rw [k1]; exact hsrc) (RowsAt_ext k6 hnr) (by rw [hxl]; omega) (by rw [hxl]; exact c3) (growB b off len ys) (by rw [growB_esz, he]) (growB_elems _ _ _ _)
                        rw [k1] at g1
                        rw [k2] at g2 g3
                        rw [hxl] at g3
                        exact ⟨E2, v, g1, g2, g3, k6.trans g4, g5⟩
              · cases h
  · cases h

end

end Go.Pm

/- PM: append(b, make([]byte, n)...). -/

namespace Go.Pm
noncomputable section

def zeroStr (n : Nat) : ByteArray := ⟨(List.replicate n 0).toArray⟩

theorem zeroStr_size (n : Nat) : (zeroStr n).size = n := by simp [zeroStr, ByteArray.size]

theorem zeroStr_cells (n : Nat) : ((zeroStr n).extract 0 n).data.map (fun b => Value.int .u8 b.toNat) = Builtin.zeroCells #[.int .u8 0] n := by
  apply Array.ext'
  simp only [Builtin.zeroCells, Array.toList_map, ByteArray.data_extract, Array.toList_extract, zeroStr, List.extract, Nat.sub_zero, List.drop_zero]
  apply List.ext_getElem
  · simp
  · intro i h1 h2
    simp
    have : i % 1 = 0 := Nat.mod_one i
    first | rfl | simp [this]

theorem append_zeros {P : Program} (w : World) {sT xT ty e : TypeId} {i : TypeInfo} {z : Value} {ki : IntKind} (ht : P.underlying sT = some (.slice e)) (hx : P.underlying xT = some (.int ki)) (hi : P.info? e = some i) (h1 : i.size = 1) (hb : i.bytes = 1)
    (hz : i.zero = some z) (hzc : z.cells = #[.int .u8 0]) (n : Nat) (hn : n ≤ 281474976710656) (base : Option Addr) (sLen sCap : Nat)
    (hfit : sCap < sLen + n → Builtin.nextslicecap (sLen + n) sCap ≤ 281474976710656 ∧ sLen + n ≤ 9223372036854775807) (k : IntKind) :
    (Builtin.append_ #[sT, xT] ty #[.slice base sLen sCap, .int k n]).run P w = (Builtin.append_ #[sT, sT] ty #[.slice base sLen sCap, .string (zeroStr n)]).run P w := by
  have hw : IntKind.i64.wrap (n : Int) = n := by
    simp [IntKind.wrap, IntKind.signed, IntKind.bits]
    omega
  have hl : ¬ ((n : Int) < 0) := by omega
  have h48 : ¬ (281474976710656 < (n : Int)) := by omega
  have hzs : (zeroStr n).size = n := zeroStr_size n
  have hzc2 := zeroStr_cells n
  have hzc3 : ((zeroStr n).data.map fun b => Value.int .u8 b.toNat).extract 0 n = Builtin.zeroCells #[.int .u8 0] n := by
    rw [← hzc2, ByteArray.data_extract]; simp
  have hzc4 : ((zeroStr n).data.toList.map fun b => Value.int .u8 b.toNat).take n = (Builtin.zeroCells #[.int .u8 0] n).toList := by
    rw [← hzc3]; simp
  have hi2 : ∀ (m : Int) (w' : World), (asIntOf (.int k m)).run P w' = .ok (k, m) w' := fun m w' => by simp [asIntOf]
  by_cases hn0 : n = 0
  · subst hn0
    have hw0 : IntKind.i64.wrap 0 = 0 := hw
    by_cases hroom : sLen ≤ sCap
    · simp [Builtin.append_, run_underlying ht, run_underlying hx, sizeOf, typeInfo, zeroValue, hi, hz, hzc, h1, hb, asInt, hi2, hw0, hroom, Builtin.lenOf, hzs, Builtin.firstCells]
    · obtain ⟨f1, f2⟩ := hfit (by omega)
      have f1' : ¬ (281474976710656 < Builtin.nextslicecap (sLen) sCap) := by simp at f1; omega
      have f2' : ¬ (9223372036854775807 < ((sLen : Int))) := by omega
      simp [Builtin.append_, run_underlying ht, run_underlying hx, sizeOf, typeInfo, zeroValue, hi, hz, hzc, h1, hb, asInt, hi2, hw0, hroom, Builtin.lenOf, hzs, Builtin.firstCells, f1', f2']
  · have hn1 : ¬ ((n : Int) ≤ 0) := by omega
    by_cases hroom : sLen + n ≤ sCap
    · simp [Builtin.append_, run_underlying ht, run_underlying hx, sizeOf, typeInfo, zeroValue, hi, hz, hzc, h1, hb, asInt, hi2, hw, hl, h48, hroom, Builtin.lenOf, hzs, Builtin.firstCells, hn0, hzc4]
    · obtain ⟨f1, f2⟩ := hfit (by omega)
      have f1' : ¬ (281474976710656 < Builtin.nextslicecap (sLen + n) sCap) := by omega
      have f2' : ¬ (9223372036854775807 < ((sLen : Int) + (n : Int))) := by omega
      simp [Builtin.append_, run_underlying ht, run_underlying hx, sizeOf, typeInfo, zeroValue, hi, hz, hzc, h1, hb, asInt, hi2, hw, hl, h48, hroom, Builtin.lenOf, hzs, Builtin.firstCells, hn0, hzc3, f1', f2']

def byteZero (i : TypeInfo) : Bool :=
  Nat.beq i.size 1 && Nat.beq i.bytes 1 && (match i.zero with
    | some (.int .u8 n) => decide (n = 0)
    | _ => false)

def lenPV : PV → Option Nat
  | .vs _ _ xs => some xs.length
  | .sl _ _ _ len => some len
  | .ts _ _ _ len _ => some len
  | _ => none

def popAppendZ (T : Tbl) (bs : Bs) (d : Nat) (sT xT : TypeId) (s x : PV) : Option (PV × Bs) :=
  match T.und sT, T.und xT, x with
  | some (.slice e), some (.int _), .s (.int _ m) => match T.info e, lenPV s with
    | some i, some len => bif byteZero i && decide (0 ≤ m) && Nat.ble m.toNat 1099511627776 && roomFor (len + m.toNat) i.bytes then popAppend T bs d sT sT s (.s (.string (zeroStr m.toNat))) else none
    | _, _ => none
  | _, _, _ => popAppend T bs d sT xT s x

theorem lenPV_VR {E : Env} {s : PV} {us : Value} {len : Nat} (h : lenPV s = some len) (hs : VR E s us) : ∃ base cap, us = .slice base len cap := by
  unfold lenPV at h
  split at h
  · cases h
    simp only [VR] at hs
    obtain ⟨A, cap, ws, e1, hle, _⟩ := hs
    exact ⟨_, _, e1⟩
  · cases h
    simp only [VR] at hs
    obtain ⟨A, cap, e1, hle, _⟩ := hs
    exact ⟨_, _, e1⟩
  · cases h
    simp only [VR] at hs
    obtain ⟨A, e1, hle, _⟩ := hs
    exact ⟨_, _, e1⟩
  · cases h

theorem popAppendZ_run {T : Tbl} {P : Program} (hT : T.Ok P) {E : Env} (hR : Rel E) {d : Nat} {sT xT ty : TypeId} {s x pv : PV} {us ux : Value} {bs' : Bs} (hs : VR E s us) (hx : VR E x ux)
    (h : popAppendZ T E.bs d sT xT s x = some (pv, bs')) :
    ∃ (E' : Env) (v : Value), (Builtin.append_ #[sT, xT] ty #[us, ux]).run P E.w = .ok v E'.w ∧ E'.bs = bs' ∧ VR E' pv v ∧ Ext E E' ∧ Rel E' := by
  unfold popAppendZ at h
  split at h
  · rename_i e ki k m ht hxT
    split at h
    · rename_i i len hi hlen
      cases hc : (byteZero i && decide (0 ≤ m) && Nat.ble m.toNat 1099511627776 && roomFor (len + m.toNat) i.bytes) with
      | false => rw [hc] at h; cases h
      | true =>
        rw [hc] at h
        simp only [cond_true] at h
        simp only [Bool.and_eq_true, decide_eq_true_eq] at hc
        obtain ⟨⟨⟨c1, c2⟩, c3⟩, c4⟩ := hc
        have c3 := Nat.le_of_ble_eq_true c3
        obtain ⟨n, rfl⟩ := Int.eq_ofNat_of_zero_le c2
        simp only [Int.toNat_natCast] at h c3 c4
        obtain ⟨base, cap, rfl⟩ := lenPV_VR hlen hs
        simp only [VR] at hx
        obtain ⟨rfl, _⟩ := hx
        simp only [byteZero, Bool.and_eq_true] at c1
        obtain ⟨⟨d1, d2⟩, d3⟩ := c1
        have d1 := Nat.eq_of_beq_eq_true d1
        have d2 := Nat.eq_of_beq_eq_true d2
        split at d3
        · rename_i z0 hz
          simp only [decide_eq_true_eq] at d3
          subst d3
          have hfit : cap < len + n → Builtin.nextslicecap (len + n) cap ≤ 281474976710656 ∧ len + n ≤ 9223372036854775807 := by
            intro hg
            have hsz := Nat.le_of_ble_eq_true c4
            rw [d2] at hsz
            have hnc := nextslicecap_le hg
            unfold room47 at hsz
            omega
          rw [append_zeros (P := P) E.w (hT.und _ _ ht) (hT.und _ _ hxT) (hT.info _ _ hi) d1 d2 hz (by simp [Value.cells]) n (by omega) base len cap hfit k]
          exact popAppend_run hT hR hs (x := .s (.string (zeroStr n))) (by simp [VR, Value.oneCell']) h
        · cases d3
    · cases h
  · exact popAppend_run hT hR hs hx h

end

end Go.Pm

/- PM: copy, clear. -/

namespace Go.Pm
noncomputable section

/-- Elements of a block written over by others. -/
theorem over_run {P : Program} {E : Env} (hR : Rel E) {r : BRef} {g o m : Nat} {b : Blk} {ys : List PV} (hent : E.bs.ent r = some (g, some b)) (hm : ys.length = m) (h0 : 0 < m) (hle : o + m ≤ b.elems.length)
    {news : List Value} (hnl : news.length = m * b.esz) (hnr : RowsAt E b.esz 0 ys news.toArray) (hone : ∀ v ∈ news, v.oneCell' = true) (hog : okG r ys = true) :
    ∃ E' : Env, (storeCells ⟨(E.mu r).1, (E.mu r).2 + o * b.esz, none⟩ news).run P E.w = .ok () E'.w ∧
      E'.bs = E.bs.upd r g (some (b.over o ys)) ∧ Ext E E' ∧ Rel E' := by
  have hlen := hR.len r g b hent
  obtain ⟨p1, p2, cs, tyc, p3, p4⟩ := hR.phys r g b hent (by omega)
  have hfit : o * b.esz + m * b.esz ≤ E.cap r * b.esz := by
    rw [← Nat.add_mul]; exact Nat.mul_le_mul_right _ (by omega)
  obtain ⟨w', cs', r1, r4, r6, r2, r3⟩ := storeCells_run (P := P) (o := (E.mu r).2 + o * b.esz) p3 (vs := news) (by omega) hone
  have hov : (b.over o ys).elems = b.elems.take o ++ ys ++ b.elems.drop (o + m) := by rw [Blk.over_elems, hm]
  obtain ⟨E', q1, q2, q3, q4⟩ := upd_ext hR (w' := w') r2 (b' := b.over o ys) hent r3 (by omega) rfl
    (by rw [hov]; simp; omega) r4 (by rw [r6.1]; exact p4) (by
      rw [hov]
      intro q p hp
      by_cases hq1 : q < o
      · rw [List.append_assoc, List.getElem?_append_left (by simp; omega), List.getElem?_take, if_pos hq1] at hp
        obtain ⟨hpl, ho⟩ := hR.own r g b hent q p hp
        refine ⟨hpl, fun j c hcj => ?_⟩
        obtain ⟨cs0, ty0, y, hh, hy, hv⟩ := ho j c hcj
        rw [p3] at hh; cases hh
        have hjl := lt_len hcj
        rw [hpl] at hjl
        refine ⟨y, ?_, hv⟩
        rw [r6.2, if_neg]
        · exact hy
        · have hlt : (q + 1) * b.esz ≤ o * b.esz := Nat.mul_le_mul_right _ hq1
          rw [Nat.add_mul] at hlt
          omega
      · by_cases hq2 : q < o + m
        · rw [List.append_assoc, List.getElem?_append_right (by simp; omega), List.getElem?_append_left (by simp; omega)] at hp
          have hmin : (b.elems.take o).length = o := by simp; omega
          rw [hmin] at hp
          obtain ⟨hpl, ho⟩ := hnr _ p hp
          refine ⟨hpl, fun j c hcj => ?_⟩
          obtain ⟨y, hy, hv⟩ := ho j c hcj
          have hjl := lt_len hcj
          rw [hpl] at hjl
          refine ⟨y, ?_, hv⟩
          have hq : q * b.esz = o * b.esz + (q - o) * b.esz := by rw [← Nat.add_mul]; congr 1; omega
          have hll := row_lt (n := b.esz) (i := q - o) (m := m) hjl (by omega)
          rw [r6.2, if_pos (by rw [hq, hnl]; omega)]
          rw [List.getElem?_toArray] at hy
          rw [← hy]
          congr 1
          rw [hq]
          omega
        · rw [List.getElem?_append_right (by simp; omega), List.getElem?_drop] at hp
          have hmin : (b.elems.take o ++ ys).length = o + m := by simp; omega
          rw [hmin, show o + m + (q - (o + m)) = q by omega] at hp
          obtain ⟨hpl, ho⟩ := hR.own r g b hent q p hp
          refine ⟨hpl, fun j c hcj => ?_⟩
          obtain ⟨cs0, ty0, y, hh, hy, hv⟩ := ho j c hcj
          rw [p3] at hh; cases hh
          refine ⟨y, ?_, hv⟩
          rw [r6.2, if_neg]
          · exact hy
          · have hlt : (o + m) * b.esz ≤ q * b.esz := Nat.mul_le_mul_right _ (by omega)
            rw [Nat.add_mul] at hlt
            rw [hnl]
            omega) (by rw [hov]; exact okG_over (hR.gl r g b hent) hog)
  exact ⟨E', by rw [q1]; exact r1, q2, q3, q4⟩

def popCopy (T : Tbl) (bs : Bs) (dT : TypeId) (dst src : PV) : Option (PV × Bs) :=
  match T.und dT with
  | some (.slice e) => match T.size e with
    | none => none
    | some n => match srcElems bs n src with
      | none => none
      | some ys =>
        bif !Nat.beq n 0 && ys.all (okEl n) then
          match dst with
          | .vs _ _ xs => bif Nat.beq (min ys.length xs.length) 0 then some (.s (goInt 0), bs) else none
          | .sl r g off len =>
            bif Nat.beq (min ys.length len) 0 then some (.s (goInt 0), bs)
            else match bs.getg r g with
              | none => none
              | some b =>
                bif Nat.beq b.esz n && Nat.ble (off + len) b.len && okG r (ys.take (min ys.length len)) then
                  some (.s (goInt (min ys.length len : Nat)), bs.upd r g (some (b.over off (ys.take (min ys.length len)))))
                else none
          | _ => none
        else none
  | _ => none

set_option maxRecDepth 20000 in
theorem popCopy_run {T : Tbl} {P : Program} (hT : T.Ok P) {E : Env} (hR : Rel E) {dT sT ty : TypeId} {dst src pv : PV} {ud us : Value} {bs' : Bs} (hd : VR E dst ud) (hs : VR E src us)
    (h : popCopy T E.bs dT dst src = some (pv, bs')) :
    ∃ (E' : Env) (v : Value), (Builtin.copy_ #[dT, sT] ty #[ud, us]).run P E.w = .ok v E'.w ∧ E'.bs = bs' ∧ VR E' pv v ∧ Ext E E' ∧ Rel E' := by
  unfold popCopy at h
  split at h
  · rename_i e ht
    split at h
    · cases h
    · rename_i n hn
      split at h
      · cases h
      · rename_i ys hys
        cases hb : (!Nat.beq n 0 && ys.all (okEl n)) with
        | false => rw [hb] at h; cases h
        | true =>
          rw [hb] at h; simp only [cond_true] at h
          simp only [Bool.and_eq_true, Bool.not_eq_true'] at hb
          have hn0 : 0 < n := by
            rcases Nat.eq_zero_or_pos n with e | e
            · rw [e] at hb; cases hb.1
            · exact e
          obtain ⟨s1, s2⟩ := src_run (P := P) hR hn0 hs hys (fun p hp => (okEl_spec (List.all_eq_true.1 hb.2 p hp)).1)
          have hrun : ∀ A dl cap m (w' : World) (news : Array Value), ud = .slice A dl cap → min ys.length dl = m → (Builtin.firstCells n m us).run P E.w = .ok news E.w →
              ((match A with | some a => storeCells a news.toList | none => pure ()) : Sem Unit).run P E.w = .ok () w' →
              (Builtin.copy_ #[dT, sT] ty #[ud, us]).run P E.w = .ok (goInt m) w' := by
            intro A dl cap m w' news e1 e2 h1 h2
            subst e1
            have e2' : Nat.min ys.length dl = m := e2
            cases A with
            | none =>
              simp only [Sem.run_pure] at h2
              cases h2
              simp [Builtin.copy_, hT.run_und ht, hT.run_size hn, s1, e2', h1]
            | some a =>
              simp only at h2
              simp [Builtin.copy_, hT.run_und ht, hT.run_size hn, s1, e2', h1, h2]
          have hzero : ∀ A dl cap, ud = .slice A dl cap → min ys.length dl = 0 → (Builtin.copy_ #[dT, sT] ty #[ud, us]).run P E.w = .ok (goInt (0 : Nat)) E.w := by
            intro A dl cap e1 e2
            obtain ⟨u0, v1, v2, v3⟩ := s2 0 (Nat.zero_le _)
            have : u0 = #[] := by
              apply Array.size_eq_zero_iff.1
              simpa using v2
            subst this
            refine hrun A dl cap 0 E.w #[] e1 e2 (v1 _ fun _ => rfl) ?_
            cases A <;> simp [storeCells]
          split at h
          · rename_i bb full xs
            cases hc : Nat.beq (min ys.length xs.length) 0 with
            | false => rw [hc] at h; cases h
            | true =>
              rw [hc] at h; cases h
              have hd' := hd
              simp only [VR] at hd'
              obtain ⟨A, cap, ws, e1, _⟩ := hd'
              exact ⟨E, _, hzero A _ cap e1 (Nat.eq_of_beq_eq_true hc), rfl, VR_goInt _, Ext.refl E, hR⟩
          · rename_i r g off len
            have hd' := hd
            simp only [VR] at hd'
            obtain ⟨A, cap, e1, hlc, g', o, hr, hg, hu⟩ := hd'
            cases hc : Nat.beq (min ys.length len) 0 with
            | true =>
              rw [hc] at h; cases h
              exact ⟨E, _, hzero A _ cap e1 (Nat.eq_of_beq_eq_true hc), rfl, VR_goInt _, Ext.refl E, hR⟩
            | false =>
              rw [hc] at h; simp only [cond_false] at h
              have hmpos : 0 < min ys.length len := by
                rcases Nat.eq_zero_or_pos (min ys.length len) with e | e
                · rw [e] at hc; cases hc
                · exact e
              split at h
              · cases h
              · rename_i b hbk
                simp only [Blk.len_eq] at h
                cases hcc : (Nat.beq b.esz n && Nat.ble (off + len) b.elems.length && okG r (ys.take (min ys.length len))) with
                | false => rw [hcc] at h; cases h
                | true =>
                  rw [hcc] at h; cases h
                  simp only [Bool.and_eq_true] at hcc
                  have he : b.esz = n := Nat.eq_of_beq_eq_true hcc.1.1
                  have hol := Nat.le_of_ble_eq_true hcc.1.2
                  have hent := Bs.getg_ent.1 hbk
                  obtain ⟨h1, h2, h3, h4⟩ := hu b hbk
                  have hA := h4.1 (by omega)
                  subst hA
                  obtain ⟨us', v1, v2, v3⟩ := s2 (min ys.length len) (Nat.min_le_left _ _)
                  obtain ⟨E', q1, q2, q3, q4⟩ := over_run (P := P) hR (o := off) (m := min ys.length len) (ys := ys.take (min ys.length len)) hent (by simp) hmpos (by omega)
                    (news := us'.toList) (by rw [he]; simpa using v2) (by rw [he]; simpa using v3) (by
                      refine one_of_rows (n := n) hn0 v3 (by rw [v2]; congr 1; simp) ?_
                      exact List.all_eq_true.2 fun p hp => List.all_eq_true.1 hb.2 p (List.mem_of_mem_take hp)) hcc.2
                  exact ⟨E', _, hrun _ len cap _ _ us' e1 rfl (v1 _ fun _ => rfl) q1, q2, VR_goInt _, q3, q4⟩
          · cases h
  · cases h

def popClear (T : Tbl) (bs : Bs) (t : TypeId) (x : PV) : Option (PV × Bs) :=
  match T.und t with
  | some (.slice e) => match x with
    | .vs _ _ xs => bif xs.isEmpty then some (.tup [], bs) else none
    | .sl r g off len =>
      bif Nat.beq len 0 then some (.tup [], bs)
      else match bs.getg r g, T.size e, T.zero e with
        | some b, some n, some z =>
          bif Nat.beq b.esz n && Nat.ble (off + len) b.len && Nat.beq (ofVal z).cells.length n && known (ofVal z) && (ofVal z).cells.all isCell && okG r (List.replicate len (ofVal z)) then
            some (.tup [], bs.upd r g (some (b.over off (List.replicate len (ofVal z)))))
          else none
        | _, _, _ => none
    | _ => none
  | _ => none

theorem VR_unit {E : Env} : VR E (.tup []) (.tuple #[]) := by simp only [VR]; exact ⟨[], rfl, VRl_nil⟩

set_option maxRecDepth 20000 in
theorem popClear_run {T : Tbl} {P : Program} (hT : T.Ok P) {E : Env} (hR : Rel E) {t ty : TypeId} {x pv : PV} {u : Value} {bs' : Bs} (hx : VR E x u)
    (h : popClear T E.bs t x = some (pv, bs')) :
    ∃ (E' : Env) (v : Value), (Builtin.clear_ #[t] ty #[u]).run P E.w = .ok v E'.w ∧ E'.bs = bs' ∧ VR E' pv v ∧ Ext E E' ∧ Rel E' := by
  unfold popClear at h
  split at h
  · rename_i e ht
    have hz0 : ∀ A cap, u = .slice A 0 cap → (Builtin.clear_ #[t] ty #[u]).run P E.w = .ok (.tuple #[]) E.w := by
      intro A cap e1
      subst e1
      cases A <;> simp [Builtin.clear_, hT.run_und ht]
    split at h
    · rename_i bb full xs
      cases hc : xs.isEmpty with
      | false => rw [hc] at h; cases h
      | true =>
        rw [hc] at h; cases h
        have : xs = [] := by simpa using hc
        subst this
        simp only [VR] at hx
        obtain ⟨A, cap, ws, e1, _⟩ := hx
        exact ⟨E, _, hz0 A cap e1, rfl, VR_unit, Ext.refl E, hR⟩
    · rename_i r g off len
      simp only [VR] at hx
      obtain ⟨A, cap, e1, hlc, g', o, hr, hg, hu⟩ := hx
      cases hc : Nat.beq len 0 with
      | true =>
        rw [hc] at h; cases h
        have : len = 0 := Nat.eq_of_beq_eq_true hc
        subst this
        exact ⟨E, _, hz0 A cap e1, rfl, VR_unit, Ext.refl E, hR⟩
      | false =>
        rw [hc] at h; simp only [cond_false] at h
        have hlpos : 0 < len := by
          rcases Nat.eq_zero_or_pos len with e | e
          · rw [e] at hc; cases hc
          · exact e
        split at h
        · rename_i b n z hbk hn hz
          simp only [Blk.len_eq] at h
          cases hcc : (Nat.beq b.esz n && Nat.ble (off + len) b.elems.length && Nat.beq (ofVal z).cells.length n && known (ofVal z) && (ofVal z).cells.all isCell && okG r (List.replicate len (ofVal z))) with
          | false => rw [hcc] at h; cases h
          | true =>
            rw [hcc] at h; cases h
            simp only [Bool.and_eq_true] at hcc
            obtain ⟨⟨⟨⟨⟨c1, c2⟩, c3⟩, c4⟩, c5⟩, c6⟩ := hcc
            have he : b.esz = n := Nat.eq_of_beq_eq_true c1
            have hol := Nat.le_of_ble_eq_true c2
            have hzc : (ofVal z).cells.length = n := Nat.eq_of_beq_eq_true c3
            have hzr := cells_VR (VR_ofVal E z) (known_ne c4)
            have hzl : z.cells.size = n := by rw [← hzc]; simpa using VRl_length hzr
            have hent := Bs.getg_ent.1 hbk
            obtain ⟨h1, h2, h3, h4⟩ := hu b hbk
            have hA := h4.1 (by omega)
            subst hA
            subst e1
            have hnpos : 0 < n := by
              rw [← he]
              exact (hR.phys r g b hent (by omega)).1
            have hall := allCells_VR c5 hzr
            have hcell : ∀ x : Nat, x < len * n → (Builtin.zeroCells z.cells len)[x]? = some (z.cells[x % z.cells.size]!) := by
              intro x hx
              simp [Builtin.zeroCells, hzl, hx]
            obtain ⟨E', q1, q2, q3, q4⟩ := over_run (P := P) hR (o := off) (m := len) (ys := List.replicate len (ofVal z)) hent (by simp) hlpos (by omega)
              (news := (Builtin.zeroCells z.cells len).toList) (by rw [he]; simp [Builtin.zeroCells, hzl]) (by
                rw [he]
                have := RowsAt_replicate (VR_ofVal E z) (known_ne c4) len (cells := Builtin.zeroCells z.cells len) (fun x hx => by rw [hzc] at hx; exact hcell x hx)
                rw [hzc] at this
                simpa using this) (by
                intro v hv
                obtain ⟨q, hq⟩ := List.mem_iff_getElem?.1 hv
                have hql : q < len * n := by have := lt_len hq; simpa [Builtin.zeroCells, hzl] using this
                rw [Array.getElem?_toList, hcell q hql] at hq
                cases hq
                have hm : q % z.cells.size < z.cells.size := Nat.mod_lt _ (by omega)
                rw [getElem!_pos z.cells _ hm]
                exact hall _ (by simp)) c6
            refine ⟨E', .tuple #[], ?_, q2, VR_unit, q3, q4⟩
            have hlne : ¬ len = 0 := by omega
            simp only [Builtin.clear_]
            cases len with
            | zero => exact absurd rfl hlne
            | succ len =>
              simp [hT.run_und ht, hT.run_zero hz, q1]
        · cases h
    · cases h
  · cases h

end

end Go.Pm

/- PM: values handed to a callee (lent) and handed back (frozen). -/

namespace Go.Pm
noncomputable section

def mapO (f : PV → Option PV) : List PV → Option (List PV)
  | [] => some []
  | x :: r => match f x with
    | none => none
    | some y => match mapO f r with
      | none => none
      | some l => some (y :: l)

theorem mapO_length {f : PV → Option PV} : ∀ {l l' : List PV}, mapO f l = some l' → l'.length = l.length
  | [], l', h => by simp only [mapO] at h; cases h; rfl
  | x :: r, l', h => by
    simp only [mapO] at h
    split at h
    · cases h
    · split at h
      · cases h
      · rename_i hr
        cases h
        simp [mapO_length hr]

/-- What a value looks like to one who may not write: its own blocks laid open (bb: lent for a while; else for ever). -/
def fz (bb : Bool) (bs : Bs) : Nat → PV → Option PV
  | 0, _ => none
  | n + 1, pv => match pv with
    | .s v => some (.s v)
    | .undef => none
    | .agg cs => (mapO (fz bb bs n) cs).map .agg
    | .tup cs => (mapO (fz bb bs n) cs).map .tup
    | .vs b _ xs => bif bb || (xs.isEmpty || !b) then some (.vs b false xs) else none
    | .fp b cs => bif bb || !b then some (.fp b cs) else none
    | .fn f caps => (mapO (fz bb bs n) caps).map (.fn f)
    | .ifc t v => (fz bb bs n v).map (.ifc t)
    | .sl r g off len => match r with
      | .glob _ => none
      | .loc t k => bif Nat.beq len 0 then some (.vs (bs.getg (.loc t k) g).isSome false []) else match bs.getg (.loc t k) g with
        | none => none
        | some b => (mapO (fz bb bs n) ((b.elems.drop off).take len)).map (.vs bb false)
    | .lp r g i j => match r with
      | .glob _ => none
      | .loc t k => match bs.getg (.loc t k) g with
        | none => none
        | some b => match b.at i j with
          | none => none
          | some cs => (mapO (fz bb bs n) cs).map (.fp bb)
    | .mp _ => none
    | .ts _ _ _ _ _ => none

/-- The one who sees it so: he may write only what no living block of the function's own lies in. -/
structure Sees (bb : Bool) (E E2 : Env) : Prop where
  w : E2.w = E.w
  wr : ∀ k, E2.Wr k → E.Wr k ∧ ∀ t j g b, E.bs.ent (.loc t j) = some (g, some b) → 0 < E.cap (.loc t j) → (E.mu (.loc t j)).1 ≠ k
  lent : ∀ k, E2.Lent k → E.Lent k ∨ (bb = true ∧ E.Wr k)

theorem Sees.notWr {bb : Bool} {E E2 : Env} (hs : Sees bb E E2) {k : Nat} (h : ¬ E.Wr k) : ¬ E2.Wr k := fun hk => h (hs.wr k hk).1

theorem Sees.frz {bb b : Bool} {E E2 : Env} (hs : Sees bb E E2) {k : Nat} (h : Frz E b k) : Frz E2 b k := by
  obtain ⟨h1, h2, h3⟩ := h
  refine ⟨by rw [hs.w]; exact h1, hs.notWr h2, fun hb hl => ?_⟩
  rcases hs.lent k hl with h | h
  · exact h3 hb h
  · exact h2 h.2

/-- A block of one's own, seen so. -/
theorem Sees.own {bb : Bool} {E E2 : Env} (hs : Sees bb E E2) (hR : Rel E) {t k g : Nat} {b : Blk} (he : E.bs.ent (.loc t k) = some (g, some b)) (hc : 0 < E.cap (.loc t k)) : Frz E2 bb (E.mu (.loc t k)).1 := by
  obtain ⟨p1, p2, _⟩ := hR.phys _ _ _ he hc
  refine ⟨by rw [hs.w]; exact hR.lt _ p2, fun hk => ?_, fun hb hl => ?_⟩
  · exact (hs.wr _ hk).2 t k g b he hc rfl
  · rcases hs.lent _ hl with h | h
    · exact hR.apart _ p2 h
    · rw [hb] at h; cases h.1

mutual
theorem VR_sees {bb : Bool} {E E2 : Env} (hs : Sees bb E E2) : ∀ {pv : PV} {v : Value}, frozen pv = true → VR E pv v → VR E2 pv v
  | .s x, v, _, h => by simpa [VR] using h
  | .undef, v, h, _ => by simp [frozen] at h
  | .agg cs, v, hz, h => by
    simp only [VR] at h ⊢; obtain ⟨a, rfl, h⟩ := h; exact ⟨a, rfl, VRl_sees hs (by simpa [frozen] using hz) h⟩
  | .tup cs, v, hz, h => by
    simp only [VR] at h ⊢; obtain ⟨a, rfl, h⟩ := h; exact ⟨a, rfl, VRl_sees hs (by simpa [frozen] using hz) h⟩
  | .vs b full xs, v, hz, h => by
    simp only [VR] at h ⊢
    obtain ⟨A, cap, ws, rfl, h1, h2, h3, h4, h5, h6⟩ := h
    refine ⟨A, cap, ws, rfl, h1, h2, VRl_sees hs h4 h3, h4, h5, ?_⟩
    rcases h6 with h6 | ⟨blk, off, k, hA, hz', hk, hl⟩
    · exact .inl h6
    · exact .inr ⟨blk, off, k, hA, hs.frz hz', hk, by rw [hs.w]; exact hl⟩
  | .fp b cs, v, hz, h => by
    simp only [VR] at h ⊢
    obtain ⟨blk, off, us, rfl, h1, h2, h3, h4, h5⟩ := h
    exact ⟨blk, off, us, rfl, VRl_sees hs h2 h1, h2, h3, hs.frz h4, by rw [hs.w]; exact h5⟩
  | .lp _ _ _ _, v, hz, _ => by simp [frozen] at hz
  | .sl _ _ _ _, v, hz, _ => by simp [frozen] at hz
  | .fn f caps, v, hz, h => by
    simp only [VR] at h ⊢; obtain ⟨a, rfl, h⟩ := h; exact ⟨a, rfl, VRl_sees hs (by simpa [frozen] using hz) h⟩
  | .ifc t x, v, hz, h => by
    simp only [VR] at h ⊢; obtain ⟨y, rfl, h⟩ := h; exact ⟨y, rfl, VR_sees hs (by simpa [frozen] using hz) h⟩
  | .mp _, v, hz, _ => by simp [frozen] at hz
  | .ts _ _ _ _ _, v, hz, _ => by simp [frozen] at hz
theorem VRl_sees {bb : Bool} {E E2 : Env} (hs : Sees bb E E2) : ∀ {ps : List PV} {us : List Value}, frozenL ps = true → VRl E ps us → VRl E2 ps us
  | [], us, _, h => by simpa [VRl] using h
  | p :: ps, us, hz, h => by
    simp only [VRl] at h ⊢
    obtain ⟨u, us', rfl, hp, h⟩ := h
    simp only [frozenL, Bool.and_eq_true] at hz
    exact ⟨u, us', rfl, VR_sees hs hz.1 hp, VRl_sees hs hz.2 h⟩
end

theorem list_of {α : Type} {Q : Nat → α → Prop} : ∀ (n : Nat), (∀ i, i < n → ∃ u, Q i u) → ∃ us : List α, us.length = n ∧ ∀ (i : Nat) u, us[i]? = some u → Q i u
  | 0, _ => ⟨[], rfl, fun i u h => by simp at h⟩
  | n + 1, h => by
    obtain ⟨us, h1, h2⟩ := list_of n fun i hi => h i (by omega)
    obtain ⟨u, hu⟩ := h n (by omega)
    refine ⟨us ++ [u], by simp [h1], fun i x hx => ?_⟩
    by_cases hi : i < n
    · rw [List.getElem?_append_left (by omega)] at hx; exact h2 i x hx
    · rw [List.getElem?_append_right (by omega)] at hx
      have h0 : i - us.length = 0 := by have := lt_len hx; simp at this; omega
      rw [h0] at hx; simp at hx; subst hx
      have : i = n := by omega
      subst this; exact hu

theorem cells_single {E : Env} {p : PV} {u : Value} (h : VR E p u) (hu : p ≠ .undef) (ha : ∀ l, p ≠ .agg l) : u.cells = #[u] := by
  cases p <;> simp only [VR] at h
  case s => exact one_cells (by rw [h.1]; exact h.2)
  case undef => exact absurd rfl hu
  case agg l => exact absurd rfl (ha l)
  case tup => obtain ⟨_, rfl, _⟩ := h; rfl
  case vs => obtain ⟨_, _, _, rfl, _⟩ := h; rfl
  case fp => obtain ⟨_, _, _, rfl, _⟩ := h; rfl
  case lp => obtain ⟨_, _, rfl, _⟩ := h; rfl
  case sl => obtain ⟨_, _, rfl, _⟩ := h; rfl
  case fn => obtain ⟨_, rfl, _⟩ := h; exact fnV_cells _ _
  case ifc => obtain ⟨_, rfl, _⟩ := h; rfl
  case mp => obtain ⟨rfl, _⟩ := h; rfl
  case ts => obtain ⟨_, rfl, _⟩ := h; rfl

/-- The cells that lie behind a pointer into a block of one's own. -/
theorem cells_vals {E : Env} (hR : Rel E) {r : BRef} {g i j : Nat} {b : Blk} {cs : List PV} (he : E.bs.ent r = some (g, some b)) (hc : b.at i j = some cs) :
    ∃ us : List Value, VRl E cs us ∧ ∀ (q : Nat) y, us[q]? = some y → E.w.cell? ⟨(E.mu r).1, (E.mu r).2 + (i * b.esz + j) + q, none⟩ = some y := by
  simp only [Blk.at_eq, Option.map_eq_some_iff] at hc
  obtain ⟨e, hp, rfl⟩ := hc
  obtain ⟨h1, h2⟩ := hR.own r g b he i e hp
  obtain ⟨us, a1, a2⟩ := list_of (Q := fun q y => ∀ c, (e.cells.drop j)[q]? = some c → VR E c y ∧ E.w.cell? ⟨(E.mu r).1, (E.mu r).2 + (i * b.esz + j) + q, none⟩ = some y) (e.cells.drop j).length (fun q hq => by
    have hc := List.getElem?_eq_getElem (l := e.cells.drop j) (i := q) hq
    have hc' := hc
    rw [List.getElem?_drop] at hc'
    obtain ⟨cs, ty, y, hh, hy, hv⟩ := h2 _ _ hc'
    refine ⟨y, fun c hcc => ?_⟩
    rw [hc] at hcc; cases hcc
    refine ⟨hv, ?_⟩
    simp only [World.cell?, hh]
    rw [← hy]
    simp only [Option.isSome_none, Bool.false_eq_true, if_false]
    congr 1
    omega)
  refine ⟨us, VRl_of_get a1 (fun q p u hp hu => (a2 q u hu p hp).1), fun q y hy => ?_⟩
  have hq : q < (e.cells.drop j).length := by rw [← a1]; exact lt_len hy
  exact (a2 q y hy _ (List.getElem?_eq_getElem hq)).2

/-- The value of an element that lies in a block of one's own. -/
theorem elem_val {E : Env} (hR : Rel E) {r : BRef} {g i : Nat} {b : Blk} {p : PV} (he : E.bs.ent r = some (g, some b)) (hp : b.elems[i]? = some p) (hu : p ≠ .undef) :
    ∃ u : Value, VR E p u ∧ u.cells.size = b.esz ∧ ∀ (j : Nat) y, u.cells[j]? = some y → E.w.cell? ⟨(E.mu r).1, (E.mu r).2 + (i * b.esz + j), none⟩ = some y := by
  obtain ⟨ys, a1, a2⟩ := cells_vals hR he (i := i) (j := 0) (cs := p.cells) (by simp [Blk.at_eq, hp])
  have h1 := (hR.own r g b he i p hp).1
  have hl : ys.length = b.esz := by rw [VRl_length a1, h1]
  by_cases ha : ∃ l, p = .agg l
  · obtain ⟨l, rfl⟩ := ha
    exact ⟨.agg ys.toArray, by simp only [VR]; exact ⟨ys, rfl, a1⟩, by simpa [Value.cells] using hl, fun j y hy => by
      have := a2 j y (by simpa [Value.cells] using hy)
      rwa [show (E.mu r).2 + (i * b.esz + 0) + j = (E.mu r).2 + (i * b.esz + j) by omega] at this⟩
  · have hcells : p.cells = [p] := by cases p <;> first | rfl | exact absurd ⟨_, rfl⟩ ha
    rw [hcells] at a1
    simp only [VRl] at a1
    obtain ⟨u, us, rfl, hv, rfl⟩ := a1
    have hc := cells_single hv hu (fun l h => ha ⟨l, h⟩)
    refine ⟨u, hv, by rw [hc]; simpa using hl, fun j y hy => ?_⟩
    rw [hc] at hy
    have hj : j = 0 := by
      have : j < (#[u] : Array Value).size := by
        rcases Nat.lt_or_ge j (#[u] : Array Value).size with h | h
        · exact h
        · rw [Array.getElem?_eq_none h] at hy; cases hy
      simp at this
      exact this
    subst hj
    simp at hy; subst hy
    have := a2 0 u (by simp)
    rwa [show (E.mu r).2 + (i * b.esz + 0) + 0 = (E.mu r).2 + (i * b.esz + 0) by omega] at this

theorem rows_vals {E : Env} (hR : Rel E) {r : BRef} {g off len : Nat} {b : Blk} (he : E.bs.ent r = some (g, some b)) (hl : off + len ≤ b.elems.length) (hu : ∀ p ∈ (b.elems.drop off).take len, p ≠ .undef) :
    ∃ ws : List Value, VRl E ((b.elems.drop off).take len) ws ∧ LiesAt E.w (E.mu r).1 ((E.mu r).2 + off * b.esz) b.esz ws := by
  have hll : ((b.elems.drop off).take len).length = len := by simp; omega
  obtain ⟨ws, a1, a2⟩ := list_of (Q := fun i (u : Value) => ∀ p, ((b.elems.drop off).take len)[i]? = some p → VR E p u ∧ u.cells.size = b.esz ∧
      ∀ (j : Nat) y, u.cells[j]? = some y → E.w.cell? ⟨(E.mu r).1, (E.mu r).2 + off * b.esz + (i * b.esz + j), none⟩ = some y) len (fun i hi => by
    have hp := List.getElem?_eq_getElem (l := (b.elems.drop off).take len) (i := i) (by omega)
    obtain ⟨_, hp'⟩ := take_drop_get hp
    obtain ⟨u, u1, u2, u3⟩ := elem_val hR he hp' (hu _ (List.mem_of_getElem? hp))
    refine ⟨u, fun p hpp => ?_⟩
    rw [hp] at hpp; cases hpp
    refine ⟨u1, u2, fun j y hy => ?_⟩
    have := u3 j y hy
    rwa [show (E.mu r).2 + ((off + i) * b.esz + j) = (E.mu r).2 + off * b.esz + (i * b.esz + j) by rw [Nat.add_mul]; omega] at this)
  have get : ∀ (i : Nat) u, ws[i]? = some u → ∃ p, ((b.elems.drop off).take len)[i]? = some p := fun i u hx => ⟨_, List.getElem?_eq_getElem (by rw [hll, ← a1]; exact lt_len hx)⟩
  refine ⟨ws, VRl_of_get (by rw [a1, hll]) (fun i p u hp hx => (a2 i u hx p hp).1), fun x hx => ?_, fun i x hx j y hy => ?_⟩
  · obtain ⟨i, hi⟩ := List.mem_iff_getElem?.1 hx
    obtain ⟨p, hp⟩ := get i x hi
    exact (a2 i x hi p hp).2.1
  · obtain ⟨p, hp⟩ := get i x hx
    exact (a2 i x hx p hp).2.2 j y hy

theorem mapO_mem {f : PV → Option PV} : ∀ {l l' : List PV}, mapO f l = some l' → ∀ p ∈ l, ∃ q, f p = some q
  | [], _, _, p, hp => by cases hp
  | x :: r, l', h, p, hp => by
    simp only [mapO] at h
    split at h
    · cases h
    · rename_i y hy
      split at h
      · cases h
      · rename_i l hl
        rcases List.mem_cons.1 hp with rfl | hp
        · exact ⟨y, hy⟩
        · exact mapO_mem hl p hp

theorem mapO_VR {E E2 : Env} {f : PV → Option PV} {G : PV → Prop} (h : ∀ p v q, f p = some q → VR E p v → VR E2 q v ∧ G q) : ∀ {l l' : List PV} {us : List Value}, mapO f l = some l' → VRl E l us → VRl E2 l' us ∧ ∀ q ∈ l', G q
  | [], l', us, hm, hv => by simp only [mapO] at hm; cases hm; simp [VRl] at hv; subst hv; exact ⟨VRl_nil, fun q hq => by cases hq⟩
  | x :: r, l', us, hm, hv => by
    simp only [mapO] at hm
    split at hm
    · cases hm
    · rename_i y hy
      split at hm
      · cases hm
      · rename_i l hl
        cases hm
        simp only [VRl] at hv
        obtain ⟨u, us', rfl, hp, hv⟩ := hv
        obtain ⟨a1, a2⟩ := h x u y hy hp
        obtain ⟨b1, b2⟩ := mapO_VR h hl hv
        rw [VRl_cons]
        refine ⟨⟨a1, b1⟩, fun q hq => ?_⟩
        rcases List.mem_cons.1 hq with rfl | hq
        · exact a2
        · exact b2 q hq

theorem fz_VR {bb : Bool} {E E2 : Env} (hs : Sees bb E E2) (hR : Rel E) : ∀ (n : Nat) (p : PV) (v : Value) (q : PV), fz bb E.bs n p = some q → VR E p v → VR E2 q v ∧ (frozen q = true ∧ (bb = false → noB q = true))
  | 0, p, v, q, h, _ => by simp [fz] at h
  | n + 1, p, v, q, h, hv => by
    have ih := fz_VR hs hR n
    have split2 : ∀ l : List PV, (∀ x ∈ l, frozen x = true ∧ (bb = false → noB x = true)) → frozenL l = true ∧ (bb = false → noBL l = true) := fun l hl =>
      ⟨frozenL_mem.2 fun x hx => (hl x hx).1, fun hb => noBL_mem.2 fun x hx => (hl x hx).2 hb⟩
    cases p <;> simp only [fz] at h
    case s x => cases h; exact ⟨by simpa [VR] using hv, rfl, fun _ => rfl⟩
    case undef => cases h
    case mp x => cases h
    case ts x g off len cp => cases h
    case agg cs =>
      simp only [Option.map_eq_some_iff] at h
      obtain ⟨l, hl, rfl⟩ := h
      simp only [VR] at hv ⊢
      obtain ⟨a, rfl, hv⟩ := hv
      obtain ⟨b1, b2⟩ := mapO_VR ih hl hv
      obtain ⟨c1, c2⟩ := split2 _ b2
      exact ⟨⟨a, rfl, b1⟩, by simpa [frozen] using c1, fun hb => by simpa [noB] using c2 hb⟩
    case tup cs =>
      simp only [Option.map_eq_some_iff] at h
      obtain ⟨l, hl, rfl⟩ := h
      simp only [VR] at hv ⊢
      obtain ⟨a, rfl, hv⟩ := hv
      obtain ⟨b1, b2⟩ := mapO_VR ih hl hv
      obtain ⟨c1, c2⟩ := split2 _ b2
      exact ⟨⟨a, rfl, b1⟩, by simpa [frozen] using c1, fun hb => by simpa [noB] using c2 hb⟩
    case vs b f xs =>
      cases hb : (bb || (xs.isEmpty || !b)) with
      | false => rw [hb] at h; cases h
      | true =>
        rw [hb] at h; cases h
        have hfz : frozen (.vs b f xs) = true := by
          simp only [VR] at hv
          obtain ⟨_, _, _, _, _, _, _, h4, _⟩ := hv
          simpa [frozen] using h4
        have h2 := VR_sees hs hfz hv
        refine ⟨?_, by simpa [frozen] using hfz, fun hbb => ?_⟩
        · simp only [VR] at h2 ⊢
          obtain ⟨A, cap, ws, rfl, h1, _, h3⟩ := h2
          exact ⟨A, cap, ws, rfl, h1, fun h => (by cases h), h3⟩
        · simp only [VR] at hv
          obtain ⟨_, _, _, _, _, _, _, _, h5, _⟩ := hv
          rw [hbb] at hb
          simp only [Bool.false_or] at hb
          cases xs with
          | nil => rfl
          | cons y ys =>
            have : b = false := by simpa using hb
            simp [noB, this, h5 this]
    case fp b cs =>
      cases hb : (bb || !b) with
      | false => rw [hb] at h; cases h
      | true =>
        rw [hb] at h; cases h
        have hfz : frozen (.fp b cs) = true := by
          simp only [VR] at hv
          obtain ⟨_, _, _, _, _, h4, _⟩ := hv
          simpa [frozen] using h4
        refine ⟨VR_sees hs hfz hv, hfz, fun hbb => ?_⟩
        simp only [VR] at hv
        obtain ⟨_, _, _, _, _, _, h5, _⟩ := hv
        have : b = false := by rw [hbb] at hb; simpa using hb
        simp [noB, this, h5 this]
    case fn f caps =>
      simp only [Option.map_eq_some_iff] at h
      obtain ⟨l, hl, rfl⟩ := h
      simp only [VR] at hv ⊢
      obtain ⟨a, rfl, hv⟩ := hv
      obtain ⟨b1, b2⟩ := mapO_VR ih hl hv
      obtain ⟨c1, c2⟩ := split2 _ b2
      exact ⟨⟨a, rfl, b1⟩, by simpa [frozen] using c1, fun hb => by simpa [noB] using c2 hb⟩
    case ifc t x =>
      simp only [Option.map_eq_some_iff] at h
      obtain ⟨y, hy, rfl⟩ := h
      simp only [VR] at hv ⊢
      obtain ⟨u, rfl, hv⟩ := hv
      obtain ⟨b1, b2⟩ := ih _ _ _ hy hv
      exact ⟨⟨u, rfl, b1⟩, by simpa [frozen] using b2.1, fun hb => by simpa [noB] using b2.2 hb⟩
    case sl r g off len =>
      cases r with
      | glob x => cases h
      | loc t k =>
        simp only at h
        have hv0 := hv
        simp only [VR] at hv
        obtain ⟨A, cap, rfl, hlc, g', o, hr, hg, hu⟩ := hv
        cases hl0 : Nat.beq len 0 with
        | true =>
          rw [hl0] at h; cases h
          have : len = 0 := Nat.eq_of_beq_eq_true hl0
          subst this
          refine ⟨?_, rfl, fun _ => rfl⟩
          simp only [VR]
          refine ⟨A, cap, [], rfl, by simp, fun h => (by cases h), VRl_nil, rfl, fun _ => rfl, .inl ⟨trivial, fun hb => ?_⟩⟩
          obtain ⟨b, hb⟩ := Option.isSome_iff_exists.1 hb
          exact (hu b hb).2.2.2.2
        | false =>
          rw [hl0] at h; simp only [cond_false] at h
          split at h
          · cases h
          · rename_i b hbk
            simp only [Option.map_eq_some_iff] at h
            obtain ⟨l, hl, rfl⟩ := h
            have hent := Bs.getg_ent.1 hbk
            obtain ⟨h1, h2, h3, h4⟩ := hu b hbk
            have hlpos : 0 < len := by
              rcases Nat.eq_zero_or_pos len with e | e
              · rw [e] at hl0; cases hl0
              · exact e
            have hA := h4.1 (by omega)
            subst hA
            have hcp : 0 < E.cap (.loc t k) := by omega
            obtain ⟨ws, w1, w2⟩ := rows_vals hR hent h1 (fun p hp => by
              obtain ⟨q, hq⟩ := mapO_mem hl p hp
              rintro rfl
              cases n <;> simp [fz] at hq)
            obtain ⟨b1, b2⟩ := mapO_VR ih hl w1
            obtain ⟨c1, c2⟩ := split2 _ b2
            have hll : l.length = len := by rw [mapO_length hl]; simp; omega
            refine ⟨?_, by simpa [frozen] using c1, fun hb => by simp [noB, hb, c2 hb]⟩
            simp only [VR]
            refine ⟨_, cap, ws, by rw [hll], by omega, fun h => (by cases h), b1, c1, c2, .inr ⟨_, _, b.esz, rfl, hs.own hR hent hcp, (hR.phys _ _ _ hent hcp).1, by rw [hs.w]; exact w2⟩⟩
    case lp r g i j =>
      cases r with
      | glob x => cases h
      | loc t k =>
        simp only at h
        simp only [VR] at hv
        obtain ⟨blk, off, rfl, g', o, hr, hg, hu⟩ := hv
        split at h
        · cases h
        · rename_i b hbk
          split at h
          · cases h
          · rename_i cs hcs
            simp only [Option.map_eq_some_iff] at h
            obtain ⟨l, hl, rfl⟩ := h
            have hent := Bs.getg_ent.1 hbk
            obtain ⟨rfl, rfl⟩ := hu b hbk
            obtain ⟨us, u1, u2⟩ := cells_vals hR hent hcs
            obtain ⟨b1, b2⟩ := mapO_VR ih hl u1
            obtain ⟨c1, c2⟩ := split2 _ b2
            have hcp : 0 < E.cap (.loc t k) := by
              simp only [Blk.at_eq, Option.map_eq_some_iff] at hcs
              obtain ⟨e, he, _⟩ := hcs
              have := hR.len _ _ _ hent
              have := lt_len he
              omega
            refine ⟨?_, by simpa [frozen] using c1, fun hb => by simp [noB, hb, c2 hb]⟩
            simp only [VR]
            exact ⟨_, _, us, rfl, b1, c1, c2, hs.own hR hent hcp, fun q u hq => by rw [hs.w]; exact u2 q u hq⟩

end

end Go.Pm

/- PM: the environment of a callee, and of what it hands back. -/

namespace Go.Pm
noncomputable section

/-- .. and of what outlives frames both say the same. -/
structure SeesG (bb : Bool) (E E2 : Env) : Prop extends Sees bb E E2 where
  ent : ∀ x, E2.bs.ent (.glob x) = E.bs.ent (.glob x)
  mu : ∀ x, E2.mu (.glob x) = E.mu (.glob x)
  cap : ∀ x, E2.cap (.glob x) = E.cap (.glob x)
  maps : ∀ x, E2.bs.mapAt x = E.bs.mapAt x

theorem Bs.getg_of_ent {b1 b2 : Bs} {r : BRef} (h : b1.ent r = b2.ent r) (g : Nat) : b1.getg r g = b2.getg r g := by
  simp only [Bs.getg, h]

mutual
theorem VR_noLoc {bb : Bool} {E E2 : Env} (hs : SeesG bb E E2) : ∀ {pv : PV} {v : Value}, noLoc pv = true → VR E pv v → VR E2 pv v
  | .s x, v, _, h => by simpa [VR] using h
  | .undef, v, _, _ => by simp [VR]
  | .agg cs, v, hz, h => by
    simp only [VR] at h ⊢; obtain ⟨a, rfl, h⟩ := h; exact ⟨a, rfl, VRl_noLoc hs (by simpa [noLoc] using hz) h⟩
  | .tup cs, v, hz, h => by
    simp only [VR] at h ⊢; obtain ⟨a, rfl, h⟩ := h; exact ⟨a, rfl, VRl_noLoc hs (by simpa [noLoc] using hz) h⟩
  | .vs b full xs, v, hz, h => VR_sees hs.toSees (by
      simp only [VR] at h
      obtain ⟨_, _, _, _, _, _, _, h4, _⟩ := h
      simpa [frozen] using h4) h
  | .fp b cs, v, hz, h => VR_sees hs.toSees (by
      simp only [VR] at h
      obtain ⟨_, _, _, _, _, h4, _⟩ := h
      simpa [frozen] using h4) h
  | .lp r g i j, v, hz, h => by
    cases r with
    | loc t k => simp [noLoc] at hz
    | glob x =>
      simp only [VR] at h ⊢
      obtain ⟨blk, off, rfl, g', o, hr, hg, hu⟩ := h
      refine ⟨blk, off, rfl, g', o, by rw [hs.ent]; exact hr, hg, fun b hb => ?_⟩
      rw [Bs.getg_of_ent (hs.ent x)] at hb
      rw [hs.mu]
      exact hu b hb
  | .sl r g off len, v, hz, h => by
    cases r with
    | loc t k => simp [noLoc] at hz
    | glob x =>
      simp only [VR] at h ⊢
      obtain ⟨A, cap, rfl, hlc, g', o, hr, hg, hu⟩ := h
      refine ⟨A, cap, rfl, hlc, g', o, by rw [hs.ent]; exact hr, hg, fun b hb => ?_⟩
      rw [Bs.getg_of_ent (hs.ent x)] at hb
      rw [hs.mu, hs.cap]
      exact hu b hb
  | .fn f caps, v, hz, h => by
    simp only [VR] at h ⊢; obtain ⟨a, rfl, h⟩ := h; exact ⟨a, rfl, VRl_noLoc hs (by simpa [noLoc] using hz) h⟩
  | .ifc t x, v, hz, h => by
    simp only [VR] at h ⊢; obtain ⟨y, rfl, h⟩ := h; exact ⟨y, rfl, VR_noLoc hs (by simpa [noLoc] using hz) h⟩
  | .ts x g off len cp, v, hz, h => by
    simp only [VR] at h ⊢
    obtain ⟨A, rfl, hlc, g', o, hr, hg, hu⟩ := h
    refine ⟨A, rfl, hlc, g', o, by rw [hs.ent]; exact hr, hg, fun b hb => ?_⟩
    rw [Bs.getg_of_ent (hs.ent x)] at hb
    rw [hs.mu, hs.cap]
    exact hu b hb
  | .mp x, v, hz, h => by
    simp only [VR] at h ⊢; rw [hs.mu, hs.maps]; exact h
theorem VRl_noLoc {bb : Bool} {E E2 : Env} (hs : SeesG bb E E2) : ∀ {ps : List PV} {us : List Value}, noLocL ps = true → VRl E ps us → VRl E2 ps us
  | [], us, _, h => by simpa [VRl] using h
  | p :: ps, us, hz, h => by
    simp only [VRl] at h ⊢
    obtain ⟨u, us', rfl, hp, h⟩ := h
    simp only [noLocL, Bool.and_eq_true] at hz
    exact ⟨u, us', rfl, VR_noLoc hs hz.1 hp, VRl_noLoc hs hz.2 h⟩
end

/-- The blocks that are written by a callee alone: those that outlive frames. -/
def globWr (E : Env) (k : Nat) : Prop := (∃ x g b, E.bs.ent (.glob x) = some (g, some b) ∧ 0 < E.cap (.glob x) ∧ (E.mu (.glob x)).1 = k) ∨ ∃ x, (E.bs.mapAt x).isSome = true ∧ (E.mu (.glob x)).1 = k

theorem map_ne {E : Env} (hR : Rel E) {x : Nat} (hx : (E.bs.mapAt x).isSome = true) {r : BRef} {g : Nat} {b : Blk} (h : E.bs.ent r = some (g, some b)) (hc : 0 < E.cap r) : (E.mu r).1 ≠ (E.mu (.glob x)).1 := by
  intro he
  obtain ⟨l, hl⟩ := Option.isSome_iff_exists.1 hx
  obtain ⟨_, es, c, h1, _⟩ := hR.mps x l hl
  obtain ⟨_, _, cs, ty, h2, _⟩ := hR.phys r g b h hc
  rw [he] at h2
  rw [h2] at h1
  exact absurd (Option.some.inj h1) (by simp)

theorem globWr_wr {E : Env} (hR : Rel E) {k : Nat} (h : globWr E k) : E.Wr k ∧ ∀ t j g b, E.bs.ent (.loc t j) = some (g, some b) → 0 < E.cap (.loc t j) → (E.mu (.loc t j)).1 ≠ k := by
  rcases h with ⟨x, g, b, h1, h2, rfl⟩ | ⟨x, hx, rfl⟩
  · refine ⟨(hR.phys _ _ _ h1 h2).2.1, fun t j g' b' h1' h2' he => ?_⟩
    have := hR.inj _ _ _ _ _ _ h1' h1 h2' h2 he
    cases this
  · obtain ⟨l, hl⟩ := Option.isSome_iff_exists.1 hx
    exact ⟨(hR.mps x l hl).1, fun t j g b h hc => map_ne hR hx h hc⟩

/-- What a callee sees at its begin. -/
def calleeEnv (E : Env) : Env := { E with bs := ⟨[], E.bs.glob⟩, Wr := globWr E, Lent := fun k => E.Lent k ∨ (E.Wr k ∧ ¬ globWr E k) }

theorem callee_sees {E : Env} (hR : Rel E) : SeesG true E (calleeEnv E) where
  w := rfl
  wr k h := globWr_wr hR h
  lent k h := by
    rcases h with h | h
    · exact .inl h
    · exact .inr ⟨rfl, h.1⟩
  ent x := rfl
  mu x := rfl
  cap x := rfl
  maps x := rfl

theorem callee_rel {E : Env} (hR : Rel E) : Rel (calleeEnv E) := by
  have hs := callee_sees hR
  have hg : ∀ r g b, (calleeEnv E).bs.ent r = some (g, some b) → ∃ x, r = .glob x ∧ E.bs.ent r = some (g, some b) := by
    intro r g b h
    cases r with
    | loc t k => cases h
    | glob x => exact ⟨x, rfl, h⟩
  constructor
  · intro r g b h; obtain ⟨x, rfl, h'⟩ := hg r g b h; exact hR.len _ _ _ h'
  · intro r g b h hc
    obtain ⟨x, rfl, h'⟩ := hg r g b h
    obtain ⟨h1, h2, h3⟩ := hR.phys _ _ _ h' hc
    exact ⟨h1, .inl ⟨x, g, b, h', hc, rfl⟩, h3⟩
  · intro r g b h i p hp
    obtain ⟨x, rfl, h'⟩ := hg r g b h
    obtain ⟨h1, h2⟩ := hR.own _ _ _ h' i p hp
    have hnl := hR.gl _ _ _ h'
    simp only [okG] at hnl
    have hnp := noLoc_cells' (noLocL_mem.1 hnl p (List.mem_of_getElem? hp))
    refine ⟨h1, fun j c hc => ?_⟩
    obtain ⟨cs, ty, y, hh, hy, hv⟩ := h2 j c hc
    exact ⟨cs, ty, y, hh, hy, VR_noLoc hs (noLocL_mem.1 hnp c (List.mem_of_getElem? hc)) hv⟩
  · intro r r' g g' b b' h h' hc hc' he
    obtain ⟨x, rfl, h1⟩ := hg r g b h
    obtain ⟨x', rfl, h1'⟩ := hg r' g' b' h'
    exact hR.inj _ _ _ _ _ _ h1 h1' hc hc' he
  · intro k hk; exact hR.lt k (globWr_wr hR hk).1
  · intro k hk
    rcases hk with hk | hk
    · exact hR.llt k hk
    · exact hR.lt k hk.1
  · intro k hk hl
    rcases hl with hl | hl
    · exact hR.apart k (globWr_wr hR hk).1 hl
    · exact hl.2 hk
  · intro r g b h
    obtain ⟨x, rfl, h'⟩ := hg r g b h
    exact hR.gl _ _ _ h'
  · intro x l hl
    have hl' : E.bs.mapAt x = some l := hl
    obtain ⟨_, es, c, h1, h2, h3⟩ := hR.mps x l hl'
    refine ⟨.inr ⟨x, by rw [hl']; rfl, rfl⟩, es, c, h1, h2, fun i k p hp => ?_⟩
    obtain ⟨z1, e, z2, z3, z4⟩ := h3 i k p hp
    exact ⟨z1, e, z2, z3, VR_noLoc hs z1 z4⟩
  · exact hR.minj

/-- An argument: what outlives frames is handed on, the rest is lent. -/
def argC (bs : Bs) (n : Nat) (p : PV) : Option PV := bif noLoc p then some p else fz true bs n p

def argOf (bs : Bs) (n : Nat) (p : PV) : Option PV :=
  bif noLoc p then some p else match p with
  | .agg cs => (mapO (argC bs n) cs).map .agg
  | .fn f caps => (mapO (argC bs n) caps).map (.fn f)
  | p => fz true bs n p

theorem argC_VR {E : Env} (hR : Rel E) {n : Nat} {p q : PV} {v : Value} (h : argC E.bs n p = some q) (hv : VR E p v) : VR (calleeEnv E) q v := by
  have hs := callee_sees hR
  unfold argC at h
  cases hn : noLoc p with
  | true => rw [hn] at h; cases h; exact VR_noLoc hs hn hv
  | false => rw [hn] at h; exact (fz_VR hs.toSees hR n p v q h hv).1

theorem argOf_VR {E : Env} (hR : Rel E) {n : Nat} {p q : PV} {v : Value} (h : argOf E.bs n p = some q) (hv : VR E p v) : VR (calleeEnv E) q v := by
  have hs := callee_sees hR
  unfold argOf at h
  cases hn : noLoc p with
  | true => rw [hn] at h; cases h; exact VR_noLoc hs hn hv
  | false =>
    rw [hn] at h
    simp only [cond_false] at h
    split at h
    · rename_i cs
      simp only [Option.map_eq_some_iff] at h
      obtain ⟨l, hl, rfl⟩ := h
      simp only [VR] at hv ⊢
      obtain ⟨a, rfl, hv⟩ := hv
      exact ⟨a, rfl, (mapO_VR (G := fun _ => True) (fun p v q h hv => ⟨argC_VR hR h hv, trivial⟩) hl hv).1⟩
    · rename_i f caps
      simp only [Option.map_eq_some_iff] at h
      obtain ⟨l, hl, rfl⟩ := h
      simp only [VR] at hv ⊢
      obtain ⟨a, rfl, hv⟩ := hv
      exact ⟨a, rfl, (mapO_VR (G := fun _ => True) (fun p v q h hv => ⟨argC_VR hR h hv, trivial⟩) hl hv).1⟩
    · exact (fz_VR hs.toSees hR n p v q h hv).1

end

end Go.Pm

/- PM: what a function hands back. -/

namespace Go.Pm
noncomputable section

/-- The slices of its own that a value holds in its own cells, in order. -/
def collect : Nat → PV → List (Nat × Nat × Nat × Nat × Nat)
  | 0, _ => []
  | n + 1, .agg cs => cs.flatMap (collect n)
  | n + 1, .tup cs => cs.flatMap (collect n)
  | _ + 1, .sl (.loc t k) g off len => [(t, k, g, off, len)]
  | _ + 1, _ => []

def killAll (bs : Bs) : List (Nat × Nat × Nat × Nat × Nat) → Bs
  | [] => bs
  | (t, k, g, _, _) :: r => killAll (bs.upd (.loc t k) g none) r

/-- The blocks that are handed back, in the order of 'collect': each named once, and living. -/
def retBlks (bs0 bs : Bs) (n : Nat) : List (Nat × Nat × Nat × Nat × Nat) → Option (List Blk)
  | [] => some []
  | (t, k, g, off, len) :: r =>
    bif r.any (fun e => Nat.beq e.1 t && Nat.beq e.2.1 k) then none else
    match bs0.getg (.loc t k) g with
    | none => none
    | some b => bif Nat.ble (off + len) b.elems.length then
        match mapO (fz false bs n) ((b.elems.drop off).take len) with
        | none => none
        | some xs => match retBlks bs0 bs n r with
          | none => none
          | some l => some (Blk.of b.esz xs :: l)
      else none

mutual
/-- The value, its own slices named anew from idx on, the rest frozen. -/
def renum (bs : Bs) (n : Nat) : Nat → Nat → PV → Option (PV × Nat)
  | 0, _, _ => none
  | m + 1, idx, .agg cs => match renumL bs n m idx cs with
    | none => none
    | some (l, i) => some (.agg l, i)
  | m + 1, idx, .tup cs => match renumL bs n m idx cs with
    | none => none
    | some (l, i) => some (.tup l, i)
  | _ + 1, idx, .sl (.loc _ _) _ _ len => some (.sl (.loc 0 idx) 0 0 len, idx + 1)
  | _ + 1, idx, .lp (.glob x) g i j => some (.lp (.glob x) g i j, idx)
  | _ + 1, idx, .sl (.glob x) g off len => some (.sl (.glob x) g off len, idx)
  | _ + 1, idx, .mp x => some (.mp x, idx)
  | _ + 1, idx, .ts x g off len cp => some (.ts x g off len cp, idx)
  | _ + 1, idx, p => match fz false bs n p with
    | none => none
    | some q => some (q, idx)
def renumL (bs : Bs) (n : Nat) : Nat → Nat → List PV → Option (List PV × Nat)
  | _, idx, [] => some ([], idx)
  | m, idx, p :: ps => match renum bs n m idx p with
    | none => none
    | some (q, i) => match renumL bs n m i ps with
      | none => none
      | some (l, j) => some (q :: l, j)
end

abbrev Ky := Nat × Nat × Nat × Nat × Nat
def kref (e : Ky) : BRef := .loc e.1 e.2.1

theorem retBlks_spec {bs0 bs : Bs} {n : Nat} : ∀ {cl : List Ky} {rb : List Blk}, retBlks bs0 bs n cl = some rb →
    rb.length = cl.length ∧ cl.Pairwise (fun a b => kref a ≠ kref b) ∧ ∀ (i : Nat) e, cl[i]? = some e → ∃ b xs, bs0.getg (kref e) e.2.2.1 = some b ∧ e.2.2.2.1 + e.2.2.2.2 ≤ b.elems.length ∧
      mapO (fz false bs n) ((b.elems.drop e.2.2.2.1).take e.2.2.2.2) = some xs ∧ rb[i]? = some (Blk.of b.esz xs)
  | [], rb, h => by simp only [retBlks] at h; cases h; exact ⟨rfl, .nil, fun i e he => by simp at he⟩
  | (t, k, g, off, len) :: r, rb, h => by
    simp only [retBlks] at h
    cases ha : r.any (fun e => Nat.beq e.1 t && Nat.beq e.2.1 k) with
    | true => rw [ha] at h; cases h
    | false =>
      rw [ha] at h; simp only [cond_false] at h
      split at h
      · cases h
      · rename_i b hb
        cases hle : Nat.ble (off + len) b.elems.length with
        | false => rw [hle] at h; cases h
        | true =>
          rw [hle] at h; simp only [cond_true] at h
          split at h
          · cases h
          · rename_i xs hxs
            split at h
            · cases h
            · rename_i l hl
              cases h
              obtain ⟨h1, h2, h3⟩ := retBlks_spec hl
              refine ⟨by simp [h1], .cons (fun e he hk => ?_) h2, fun i e he => ?_⟩
              · have := List.any_eq_false.1 ha e he
                simp only [kref, BRef.loc.injEq] at hk
                rw [← hk.1, ← hk.2] at this
                simp at this
              · cases i with
                | zero => simp at he; subst he; exact ⟨b, xs, hb, Nat.le_of_ble_eq_true hle, hxs, rfl⟩
                | succ i => exact h3 i e (by simpa using he)

theorem killAll_map (x : Nat) : ∀ (cl : List Ky) (bs : Bs), (killAll bs cl).mapAt x = bs.mapAt x
  | [], _ => rfl
  | (t, k, g, off, len) :: r, bs => by simp only [killAll]; exact killAll_map x r _

theorem killAll_env : ∀ (cl : List Ky) {E : Env}, Rel E → cl.Pairwise (fun a b => kref a ≠ kref b) → (∀ e ∈ cl, ∃ b, E.bs.getg (kref e) e.2.2.1 = some b) →
    ∃ E' : Env, E'.w = E.w ∧ E'.bs = killAll E.bs cl ∧ E'.mu = E.mu ∧ E'.cap = E.cap ∧ E'.Wr = E.Wr ∧ E'.Lent = E.Lent ∧ Ext E E' ∧ Rel E' ∧
      (∀ e ∈ cl, ∀ g b, E'.bs.ent (kref e) ≠ some (g, some b)) ∧ (∀ r, (∀ e ∈ cl, r ≠ kref e) → E'.bs.ent r = E.bs.ent r)
  | [], E, hR, _, _ => ⟨E, rfl, rfl, rfl, rfl, rfl, rfl, Ext.refl E, hR, fun e he => (by cases he), fun _ _ => rfl⟩
  | (t, k, g, off, len) :: r, E, hR, hp, hl => by
    obtain ⟨hp1, hp2⟩ := List.pairwise_cons.1 hp
    obtain ⟨b, hb⟩ := hl (t, k, g, off, len) (List.mem_cons_self ..)
    have hent := Bs.getg_ent.1 hb
    obtain ⟨E1, k1, k2, k3, k4, k5, k6, k7, k8⟩ := kill_ext hR hent
    have hne : ∀ e ∈ r, kref e ≠ BRef.loc t k := fun e he h => hp1 e he h.symm
    obtain ⟨E2, m1, m2, m3, m4, m5, m6, m7, m8, m9, m10⟩ := killAll_env r (E := E1) k8 hp2 (fun e he => by
      obtain ⟨b', hb'⟩ := hl e (List.mem_cons_of_mem _ he)
      refine ⟨b', ?_⟩
      rw [Bs.getg_ent, k2]
      show (E.bs.upd (.loc t k) g none).ent (kref e) = _
      rw [Bs.ent_upd_ne _ (hne e he)]
      exact Bs.getg_ent.1 hb')
    refine ⟨E2, m1.trans k1, by rw [m2, k2]; rfl, m3.trans k3, m4.trans k4, m5.trans k5, m6.trans k6, k7.trans m7, m8, fun e he g' b' h => ?_, fun r' hr' => ?_⟩
    · rcases List.mem_cons.1 he with rfl | he
      · have h1 := m10 (kref (t, k, g, off, len)) (fun e he => (hne e he).symm)
        rw [h1, k2, Bs.ent_upd hent] at h
        cases h
      · exact m9 e he g' b' h
    · rw [m10 r' (fun e he => hr' e (List.mem_cons_of_mem _ he)), k2]
      exact Bs.ent_upd_ne _ (hr' _ (List.mem_cons_self ..))

def retLocs : Nat → List Blk → List (Nat × Nat × Nat × Option Blk)
  | _, [] => []
  | i, b :: r => (0, i, 0, some b) :: retLocs (i + 1) r

theorem locGet_retLocs : ∀ (rb : List Blk) (i t k : Nat), locGet (retLocs i rb) t k = if t = 0 ∧ i ≤ k then (rb[k - i]?).map (fun b => (0, some b)) else none
  | [], i, t, k => by simp [retLocs, locGet]
  | b :: r, i, t, k => by
    simp only [retLocs, locGet]
    cases hb : (Nat.beq 0 t && Nat.beq i k) with
    | true =>
      obtain ⟨rfl, rfl⟩ := beq2.1 hb
      simp
    | false =>
      simp only [cond_false]
      rw [locGet_retLocs r (i + 1) t k]
      have hne : ¬ (0 = t ∧ i = k) := fun h => by rw [beq2.2 h] at hb; cases hb
      by_cases h1 : t = 0 ∧ i + 1 ≤ k
      · rw [if_pos h1, if_pos ⟨h1.1, by omega⟩, show k - i = (k - (i + 1)) + 1 by omega]
        rfl
      · rw [if_neg h1]
        by_cases h2 : t = 0 ∧ i ≤ k
        · exfalso; exact hne ⟨h2.1.symm, by omega⟩
        · rw [if_neg h2]

/-- The environment of what is handed back. -/
def retEnv (E : Env) (cl : List Ky) (rb : List Blk) : Env where
  w := E.w
  bs := ⟨retLocs 0 rb, E.bs.glob⟩
  mu := fun
    | .loc _ i => match cl[i]?, rb[i]? with
      | some e, some b => ((E.mu (kref e)).1, (E.mu (kref e)).2 + e.2.2.2.1 * b.esz)
      | _, _ => (0, 0)
    | .glob x => E.mu (.glob x)
  cap := fun
    | .loc _ i => match cl[i]? with
      | some e => E.cap (kref e) - e.2.2.2.1
      | none => 0
    | .glob x => E.cap (.glob x)
  Wr := fun k => globWr E k ∨ ∃ (i : Nat) (e : Ky), cl[i]? = some e ∧ 0 < E.cap (kref e) - e.2.2.2.1 ∧ (E.mu (kref e)).1 = k
  Lent := E.Lent

theorem retEnv_loc {E : Env} {cl : List Ky} {rb : List Blk} {t k g : Nat} {o : Option Blk} (h : (retEnv E cl rb).bs.ent (.loc t k) = some (g, o)) : t = 0 ∧ g = 0 ∧ ∃ b, o = some b ∧ rb[k]? = some b := by
  have h' : locGet (retLocs 0 rb) t k = some (g, o) := h
  rw [locGet_retLocs] at h'
  split at h'
  · rename_i ht
    simp only [Nat.sub_zero, Option.map_eq_some_iff] at h'
    obtain ⟨b, hb, e⟩ := h'
    cases e
    exact ⟨ht.1, rfl, b, rfl, hb⟩
  · cases h'

structure Kept (E : Env) (cl : List Ky) (rb : List Blk) (EK : Env) : Prop where
  hl : rb.length = cl.length
  hp : cl.Pairwise (fun a b => kref a ≠ kref b)
  ent : ∀ (i : Nat) (e : Ky), cl[i]? = some e → ∃ b xs, E.bs.getg (kref e) e.2.2.1 = some b ∧ e.2.2.2.1 + e.2.2.2.2 ≤ b.elems.length ∧ rb[i]? = some (Blk.of b.esz xs) ∧ xs.length = e.2.2.2.2 ∧
    (∀ ws, VRl E ((b.elems.drop e.2.2.2.1).take e.2.2.2.2) ws → VRl (retEnv E cl rb) xs ws) ∧ (∀ q ∈ xs, frozen q = true ∧ noB q = true) ∧ (∀ p ∈ (b.elems.drop e.2.2.2.1).take e.2.2.2.2, p ≠ .undef)
  sees : SeesG false EK (retEnv E cl rb)
  ext : Ext E EK
  relK : Rel EK

theorem pair_ne {cl : List Ky} (hp : cl.Pairwise (fun a b => kref a ≠ kref b)) {i j : Nat} {a b : Ky} (hi : cl[i]? = some a) (hj : cl[j]? = some b) (h : kref a = kref b) : i = j := by
  have hi' := lt_len hi
  have hj' := lt_len hj
  rw [List.getElem?_eq_getElem hi'] at hi
  rw [List.getElem?_eq_getElem hj'] at hj
  have ea := Option.some.inj hi
  have eb := Option.some.inj hj
  rcases Nat.lt_trichotomy i j with hlt | he | hlt
  · have := List.pairwise_iff_getElem.1 hp i j hi' hj' hlt
    rw [ea, eb] at this
    exact absurd h this
  · exact he
  · have := List.pairwise_iff_getElem.1 hp j i hj' hi' hlt
    rw [ea, eb] at this
    exact absurd h.symm this

theorem ret_kept {E : Env} (hR : Rel E) {n : Nat} {cl : List Ky} {rb : List Blk} (h : retBlks E.bs (killAll E.bs cl) n cl = some rb) : ∃ EK, EK.bs = killAll E.bs cl ∧ Kept E cl rb EK := by
  obtain ⟨h1, h2, h3⟩ := retBlks_spec h
  obtain ⟨EK, k1, k2, k3, k4, k5, k6, k7, k8, k9, k10⟩ := killAll_env cl hR h2 (fun e he => by
    obtain ⟨i, hi⟩ := List.mem_iff_getElem?.1 he
    obtain ⟨b, xs, hb, _⟩ := h3 i e hi
    exact ⟨b, hb⟩)
  have hglob : ∀ x, EK.bs.ent (.glob x) = E.bs.ent (.glob x) := fun x => k10 _ (fun e _ h => by cases h)
  have hloc : ∀ t j g b, EK.bs.ent (.loc t j) = some (g, some b) → (∀ e ∈ cl, BRef.loc t j ≠ kref e) ∧ E.bs.ent (.loc t j) = some (g, some b) := by
    intro t j g b hb
    have hn : ∀ e ∈ cl, BRef.loc t j ≠ kref e := fun e he hk => k9 e he g b (by rw [← hk]; exact hb)
    exact ⟨hn, by rw [← k10 _ hn]; exact hb⟩
  have hs : SeesG false EK (retEnv E cl rb) := by
    refine ⟨⟨k1.symm, fun k hk => ?_, fun k hk => .inl (by rw [k6]; exact hk)⟩, fun x => (hglob x).symm, fun x => by rw [k3]; rfl, fun x => by rw [k4]; rfl, fun x => by rw [k2, killAll_map]; rfl⟩
    rcases hk with (⟨x, g, b, e1, e2, rfl⟩ | ⟨x, hx, rfl⟩) | ⟨i, e, he, hc, rfl⟩
    · refine ⟨by rw [k5]; exact (hR.phys _ _ _ e1 e2).2.1, fun t j g' b' hb' hc' hm => ?_⟩
      rw [k4] at hc'
      rw [k3] at hm
      have := hR.inj _ _ _ _ _ _ (hloc _ _ _ _ hb').2 e1 hc' e2 hm
      cases this
    · refine ⟨by rw [k5]; exact (globWr_wr hR (.inr ⟨x, hx, rfl⟩)).1, fun t j g' b' hb' hc' hm => ?_⟩
      rw [k4] at hc'
      rw [k3] at hm
      exact map_ne hR hx (hloc _ _ _ _ hb').2 hc' hm
    · obtain ⟨b, xs, hb, _⟩ := h3 i e he
      have hent := Bs.getg_ent.1 hb
      have hcp : 0 < E.cap (kref e) := by omega
      refine ⟨by rw [k5]; exact (hR.phys _ _ _ hent hcp).2.1, fun t j g' b' hb' hc' hm => ?_⟩
      rw [k4] at hc'
      rw [k3] at hm
      obtain ⟨hn, hb2⟩ := hloc _ _ _ _ hb'
      exact hn e (List.mem_of_getElem? he) (hR.inj _ _ _ _ _ _ hb2 hent hc' hcp hm)
  refine ⟨EK, k2, h1, h2, fun i e he => ?_, hs, k7, k8⟩
  obtain ⟨b, xs, hb, hle, hxs, hrb⟩ := h3 i e he
  have hll : ((b.elems.drop e.2.2.2.1).take e.2.2.2.2).length = e.2.2.2.2 := by simp; omega
  rw [← k2] at hxs
  have hpu : ∀ p ∈ (b.elems.drop e.2.2.2.1).take e.2.2.2.2, p ≠ .undef := by
    intro p hp
    obtain ⟨q, hq⟩ := mapO_mem hxs p hp
    rintro rfl
    cases n <;> simp [fz] at hq
  obtain ⟨ws, w1, _⟩ := rows_vals hR (Bs.getg_ent.1 hb) hle hpu
  have hg := (mapO_VR (fz_VR hs.toSees k8 n) hxs (VRl_ext k7 w1)).2
  exact ⟨b, xs, hb, hle, hrb, by rw [mapO_length hxs, hll], fun ws hws => (mapO_VR (fz_VR hs.toSees k8 n) hxs (VRl_ext k7 hws)).1, fun q hq => ⟨(hg q hq).1, (hg q hq).2 rfl⟩, hpu⟩

theorem ret_rel {E EK : Env} (hR : Rel E) {cl : List Ky} {rb : List Blk} (hk : Kept E cl rb EK) : Rel (retEnv E cl rb) := by
  have hsG : SeesG false E (retEnv E cl rb) → True := fun _ => trivial
  have hent : ∀ r g b, (retEnv E cl rb).bs.ent r = some (g, some b) → (∃ x, r = .glob x ∧ E.bs.ent r = some (g, some b)) ∨
      ∃ (i : Nat) (e : Ky) (b0 : Blk) (xs : List PV), r = .loc 0 i ∧ cl[i]? = some e ∧ rb[i]? = some b ∧ E.bs.ent (kref e) = some (e.2.2.1, some b0) ∧ b = Blk.of b0.esz xs ∧
        e.2.2.2.1 + e.2.2.2.2 ≤ b0.elems.length ∧ xs.length = e.2.2.2.2 ∧ (retEnv E cl rb).mu r = ((E.mu (kref e)).1, (E.mu (kref e)).2 + e.2.2.2.1 * b0.esz) ∧ (retEnv E cl rb).cap r = E.cap (kref e) - e.2.2.2.1 ∧
        (∀ ws, VRl E ((b0.elems.drop e.2.2.2.1).take e.2.2.2.2) ws → VRl (retEnv E cl rb) xs ws) ∧ (∀ q ∈ xs, frozen q = true ∧ noB q = true) ∧ (∀ p ∈ (b0.elems.drop e.2.2.2.1).take e.2.2.2.2, p ≠ .undef) := by
    intro r g b h
    cases r with
    | glob x => exact .inl ⟨x, rfl, h⟩
    | loc t k =>
      right
      obtain ⟨rfl, rfl, b', hb', hrb⟩ := retEnv_loc h
      cases hb'
      have hkl : k < cl.length := by rw [← hk.hl]; exact lt_len hrb
      have he := List.getElem?_eq_getElem hkl
      obtain ⟨b0, xs, h1, h2, h3, h4, h5, h6, h7⟩ := hk.ent k _ he
      rw [hrb] at h3
      cases h3
      refine ⟨k, _, b0, xs, rfl, he, hrb, Bs.getg_ent.1 h1, rfl, h2, h4, ?_, ?_, h5, h6, h7⟩
      · simp only [retEnv, he, hrb, Blk.of_esz]
      · simp only [retEnv, he]
  have hgl : ∀ x, (retEnv E cl rb).mu (.glob x) = E.mu (.glob x) ∧ (retEnv E cl rb).cap (.glob x) = E.cap (.glob x) := fun x => ⟨rfl, rfl⟩
  constructor
  · intro r g b h
    rcases hent r g b h with ⟨x, rfl, h'⟩ | ⟨i, e, b0, xs, rfl, he, hrb, h1, rfl, h2, h3, h4, h5, _⟩
    · exact hR.len _ _ _ h'
    · rw [h5]
      have := hR.len _ _ _ h1
      simp only [Blk.of_elems]
      omega
  · intro r g b h hc
    rcases hent r g b h with ⟨x, rfl, h'⟩ | ⟨i, e, b0, xs, rfl, he, hrb, h1, rfl, h2, h3, h4, h5, _⟩
    · obtain ⟨p1, p2, p3⟩ := hR.phys _ _ _ h' hc
      exact ⟨p1, .inl (.inl ⟨x, g, b, h', hc, rfl⟩), p3⟩
    · rw [h5] at hc
      obtain ⟨p1, p2, cs, ty, p3, p4⟩ := hR.phys _ _ _ h1 (by omega)
      rw [h4, h5]
      refine ⟨p1, .inr ⟨i, e, he, hc, rfl⟩, cs, ty, p3, ?_⟩
      have : e.2.2.2.1 * b0.esz + (E.cap (kref e) - e.2.2.2.1) * b0.esz = E.cap (kref e) * b0.esz := by rw [← Nat.add_mul]; congr 1; omega
      simp only [Blk.of_esz]
      omega
  · intro r g b h i p hp
    rcases hent r g b h with ⟨x, rfl, h'⟩ | ⟨i0, e, b0, xs, rfl, he, hrb, h1, rfl, h2, h3, h4, h5, h6, h7, h8⟩
    · obtain ⟨o1, o2⟩ := hR.own _ _ _ h' i p hp
      have hnl := hR.gl _ _ _ h'
      simp only [okG] at hnl
      have hnp := noLoc_cells' (noLocL_mem.1 hnl p (List.mem_of_getElem? hp))
      refine ⟨o1, fun j c hc => ?_⟩
      obtain ⟨cs, ty, y, hh, hy, hv⟩ := o2 j c hc
      exact ⟨cs, ty, y, hh, hy, VR_noLoc hk.sees (noLocL_mem.1 hnp c (List.mem_of_getElem? hc)) (VR_ext hk.ext hv)⟩
    · obtain ⟨ws, w1, w2⟩ := rows_vals hR h1 h2 h8
      have hx := h6 ws w1
      obtain ⟨u, hu, hv⟩ := VRl_get hx hp
      have hc := cells_VR hv (frozen_ne (h7 p (List.mem_of_getElem? hp)).1)
      have hus := w2.1 u (List.mem_of_getElem? hu)
      have hpl : p.cells.length = b0.esz := by rw [← hus]; simpa using (VRl_length hc).symm
      refine ⟨hpl, fun j c hcj => ?_⟩
      obtain ⟨y, hy, hvy⟩ := VRl_get hc hcj
      have hcell := w2.2 i u hu j y (by simpa using hy)
      rw [h4]
      have hcp : 0 < E.cap (kref e) := by
        have := hR.len _ _ _ h1
        have : i < xs.length := lt_len hp
        omega
      obtain ⟨_, _, cs, ty, p3, _⟩ := hR.phys _ _ _ h1 hcp
      refine ⟨cs, ty, y, p3, ?_, hvy⟩
      simp only [World.cell?, p3] at hcell
      simpa using hcell
  · intro r r' g g' b b' h h' hc hc' hm
    rcases hent r g b h with ⟨x, rfl, h1⟩ | ⟨i, e, b0, xs, rfl, he, hrb, h1, rfl, h2, h3, h4, h5, _⟩
    · rcases hent r' g' b' h' with ⟨x', rfl, h1'⟩ | ⟨i', e', b0', xs', rfl, he', hrb', h1', rfl, h2', h3', h4', h5', _⟩
      · exact hR.inj _ _ _ _ _ _ h1 h1' hc hc' hm
      · exfalso
        rw [h4'] at hm
        rw [h5'] at hc'
        have := hR.inj _ _ _ _ _ _ h1 h1' hc (by omega) hm
        simp [kref] at this
    · rcases hent r' g' b' h' with ⟨x', rfl, h1'⟩ | ⟨i', e', b0', xs', rfl, he', hrb', h1', rfl, h2', h3', h4', h5', _⟩
      · exfalso
        rw [h4] at hm
        rw [h5] at hc
        have := hR.inj _ _ _ _ _ _ h1 h1' (by omega) hc' hm
        simp [kref] at this
      · rw [h4, h4'] at hm
        rw [h5] at hc
        rw [h5'] at hc'
        have := pair_ne hk.hp he he' (hR.inj _ _ _ _ _ _ h1 h1' (by omega) (by omega) hm)
        rw [this]
  · intro k hk'
    rcases hk' with h | ⟨i, e, he, hc, rfl⟩
    · exact hR.lt k (globWr_wr hR h).1
    · obtain ⟨b, xs, h1, _⟩ := hk.ent i e he
      exact hR.lt _ (hR.phys _ _ _ (Bs.getg_ent.1 h1) (by omega)).2.1
  · exact hR.llt
  · intro k hk' hl
    rcases hk' with h | ⟨i, e, he, hc, rfl⟩
    · exact hR.apart k (globWr_wr hR h).1 hl
    · obtain ⟨b, xs, h1, _⟩ := hk.ent i e he
      exact hR.apart _ (hR.phys _ _ _ (Bs.getg_ent.1 h1) (by omega)).2.1 hl
  · intro r g b h
    rcases hent r g b h with ⟨x, rfl, h'⟩ | ⟨i, e, b0, xs, rfl, _⟩
    · exact hR.gl _ _ _ h'
    · rfl
  · intro x l hl
    have hl' : E.bs.mapAt x = some l := hl
    obtain ⟨_, es, c, h1, h2, h3⟩ := hR.mps x l hl'
    refine ⟨.inl (.inr ⟨x, by rw [hl']; rfl, rfl⟩), es, c, h1, h2, fun i k p hp => ?_⟩
    obtain ⟨z1, e, z2, z3, z4⟩ := h3 i k p hp
    exact ⟨z1, e, z2, z3, VR_noLoc hk.sees z1 (VR_ext hk.ext z4)⟩
  · exact hR.minj

mutual
theorem renum_VR {E EK : Env} (hR : Rel E) {cl : List Ky} {rb : List Blk} (hk : Kept E cl rb EK) (n : Nat) : ∀ (m idx : Nat) (p : PV) {v : Value} {q : PV} {j : Nat}, renum EK.bs n m idx p = some (q, j) → VR E p v →
    (∀ (i : Nat) e, (collect m p)[i]? = some e → cl[idx + i]? = some e) → VR (retEnv E cl rb) q v ∧ j = idx + (collect m p).length
  | 0, idx, p, v, q, j, h, _, _ => by simp [renum] at h
  | m + 1, idx, .agg cs, v, q, j, h, hv, hc => by
    simp only [renum] at h
    split at h
    · cases h
    · rename_i l i hl
      cases h
      simp only [VR] at hv ⊢
      obtain ⟨a, rfl, hv⟩ := hv
      simp only [collect] at hc ⊢
      obtain ⟨h1, h2⟩ := renumL_VR hR hk n m idx cs hl hv hc
      exact ⟨⟨a, rfl, h1⟩, h2⟩
  | m + 1, idx, .tup cs, v, q, j, h, hv, hc => by
    simp only [renum] at h
    split at h
    · cases h
    · rename_i l i hl
      cases h
      simp only [VR] at hv ⊢
      obtain ⟨a, rfl, hv⟩ := hv
      simp only [collect] at hc ⊢
      obtain ⟨h1, h2⟩ := renumL_VR hR hk n m idx cs hl hv hc
      exact ⟨⟨a, rfl, h1⟩, h2⟩
  | m + 1, idx, .sl (.loc t k) g off len, v, q, j, h, hv, hc => by
    simp only [renum] at h
    cases h
    simp only [collect] at hc ⊢
    have he := hc 0 _ rfl
    simp only [Nat.add_zero] at he
    refine ⟨?_, by simp⟩
    obtain ⟨b, xs, h1, h2, h3, h4, _⟩ := hk.ent idx _ he
    simp only [VR] at hv ⊢
    obtain ⟨A, cap, rfl, hlc, g', o, hr, hg, hu⟩ := hv
    obtain ⟨u1, u2, u3, u4⟩ := hu b h1
    have hent : (retEnv E cl rb).bs.ent (.loc 0 idx) = some (0, some (Blk.of b.esz xs)) := by
      show locGet (retLocs 0 rb) 0 idx = _
      rw [locGet_retLocs, if_pos ⟨rfl, Nat.zero_le _⟩, Nat.sub_zero, h3]
      rfl
    refine ⟨A, cap, rfl, hlc, 0, _, hent, Nat.le_refl _, fun b' hb' => ?_⟩
    rw [Bs.getg_ent, hent] at hb'
    cases hb'
    simp only [retEnv, he, h3, kref]
    simp only at h4
    refine ⟨by simp [h4], by simp [h4]; omega, by omega, fun hpos => ?_, u4.2⟩
    rw [u4.1 hpos]
    simp
  | m + 1, idx, .lp (.glob x) g i j', v, q, j, h, hv, hc => by
    simp only [renum] at h
    cases h
    exact ⟨VR_noLoc hk.sees rfl (VR_ext hk.ext hv), by simp [collect]⟩
  | m + 1, idx, .sl (.glob x) g off len, v, q, j, h, hv, hc => by
    simp only [renum] at h
    cases h
    exact ⟨VR_noLoc hk.sees rfl (VR_ext hk.ext hv), by simp [collect]⟩
  | m + 1, idx, .ts x g off len cp, v, q, j, h, hv, hc => by
    simp only [renum] at h
    cases h
    exact ⟨VR_noLoc hk.sees rfl (VR_ext hk.ext hv), by simp [collect]⟩
  | m + 1, idx, .mp x, v, q, j, h, hv, hc => by
    simp only [renum] at h
    cases h
    exact ⟨VR_noLoc hk.sees rfl (VR_ext hk.ext hv), by simp [collect]⟩
  | m + 1, idx, .s x, v, q, j, h, hv, hc => by
    simp only [renum] at h
    split at h
    · cases h
    · rename_i y hy; cases h; exact ⟨(fz_VR hk.sees.toSees hk.relK n _ _ _ hy (VR_ext hk.ext hv)).1, by simp [collect]⟩
  | m + 1, idx, .undef, v, q, j, h, hv, hc => by
    simp only [renum] at h
    split at h
    · cases h
    · rename_i y hy; cases h; exact ⟨(fz_VR hk.sees.toSees hk.relK n _ _ _ hy (VR_ext hk.ext hv)).1, by simp [collect]⟩
  | m + 1, idx, .vs _ _ _, v, q, j, h, hv, hc => by
    simp only [renum] at h
    split at h
    · cases h
    · rename_i y hy; cases h; exact ⟨(fz_VR hk.sees.toSees hk.relK n _ _ _ hy (VR_ext hk.ext hv)).1, by simp [collect]⟩
  | m + 1, idx, .fp _ _, v, q, j, h, hv, hc => by
    simp only [renum] at h
    split at h
    · cases h
    · rename_i y hy; cases h; exact ⟨(fz_VR hk.sees.toSees hk.relK n _ _ _ hy (VR_ext hk.ext hv)).1, by simp [collect]⟩
  | m + 1, idx, .lp (.loc _ _) _ _ _, v, q, j, h, hv, hc => by
    simp only [renum] at h
    split at h
    · cases h
    · rename_i y hy; cases h; exact ⟨(fz_VR hk.sees.toSees hk.relK n _ _ _ hy (VR_ext hk.ext hv)).1, by simp [collect]⟩
  | m + 1, idx, .fn _ _, v, q, j, h, hv, hc => by
    simp only [renum] at h
    split at h
    · cases h
    · rename_i y hy; cases h; exact ⟨(fz_VR hk.sees.toSees hk.relK n _ _ _ hy (VR_ext hk.ext hv)).1, by simp [collect]⟩
  | m + 1, idx, .ifc _ _, v, q, j, h, hv, hc => by
    simp only [renum] at h
    split at h
    · cases h
    · rename_i y hy; cases h; exact ⟨(fz_VR hk.sees.toSees hk.relK n _ _ _ hy (VR_ext hk.ext hv)).1, by simp [collect]⟩
theorem renumL_VR {E EK : Env} (hR : Rel E) {cl : List Ky} {rb : List Blk} (hk : Kept E cl rb EK) (n : Nat) : ∀ (m idx : Nat) (ps : List PV) {us : List Value} {qs : List PV} {j : Nat}, renumL EK.bs n m idx ps = some (qs, j) → VRl E ps us →
    (∀ (i : Nat) e, (ps.flatMap (collect m))[i]? = some e → cl[idx + i]? = some e) → VRl (retEnv E cl rb) qs us ∧ j = idx + (ps.flatMap (collect m)).length
  | m, idx, [], us, qs, j, h, hv, _ => by
    simp only [renumL] at h
    cases h
    simp [VRl] at hv; subst hv
    exact ⟨VRl_nil, by simp⟩
  | m, idx, p :: ps, us, qs, j, h, hv, hc => by
    simp only [renumL] at h
    split at h
    · cases h
    · rename_i q i hq
      split at h
      · cases h
      · rename_i l j' hl
        cases h
        simp only [VRl] at hv
        obtain ⟨u, us', rfl, hp, hv⟩ := hv
        simp only [List.flatMap_cons] at hc ⊢
        obtain ⟨a1, a2⟩ := renum_VR hR hk n m idx p hq hp (fun i e he => hc i e (by rw [List.getElem?_append_left (lt_len he)]; exact he))
        subst a2
        obtain ⟨b1, b2⟩ := renumL_VR hR hk n m _ ps hl hv (fun i e he => by
          have := hc ((collect m p).length + i) e (by rw [List.getElem?_append_right (by omega)]; simpa using he)
          rwa [← Nat.add_assoc] at this)
        rw [VRl_cons]
        exact ⟨⟨a1, b1⟩, by rw [b2, List.length_append]; omega⟩
end

/-- The value that is handed back, and the blocks that go with it (keep: own slices stay own; else all is frozen). -/
def retv (keep : Bool) (bs : Bs) (p : PV) : Option (PV × List Blk) :=
  let cl := bif keep then collect 4 p else []
  match retBlks bs (killAll bs cl) 6 cl with
  | none => none
  | some rb => bif keep then
      match renum (killAll bs cl) 6 4 0 p with
      | none => none
      | some (q, _) => some (q, rb)
    else match p with
      | .lp (.glob x) g i j => some (.lp (.glob x) g i j, rb)
      | .tup cs => (mapO (fun c => match c with
        | .lp (.glob x) g i j => some (.lp (.glob x) g i j)
        | c => fz false bs 6 c) cs).map fun l => (.tup l, rb)
      | p => (fz false bs 6 p).map fun q => (q, rb)

theorem retv_ok {E : Env} (hR : Rel E) {keep : Bool} {p q : PV} {v : Value} {rb : List Blk} (hv : VR E p v) (h : retv keep E.bs p = some (q, rb)) :
    ∃ E2 : Env, E2.w = E.w ∧ E2.bs = ⟨retLocs 0 rb, E.bs.glob⟩ ∧ VR E2 q v ∧ Rel E2 ∧ (∀ x, E2.mu (.glob x) = E.mu (.glob x) ∧ E2.cap (.glob x) = E.cap (.glob x)) ∧ (∀ k, E2.Wr k → E.Wr k) ∧ E2.Lent = E.Lent ∧
      ∀ b ∈ rb, ∀ q ∈ b.elems, frozen q = true ∧ noB q = true := by
  unfold retv at h
  simp only at h
  split at h
  · cases h
  · rename_i rb' hrb
    obtain ⟨EK, k1, hk⟩ := ret_kept hR hrb
    have hrel := ret_rel hR hk
    have hwr : ∀ k, (retEnv E (bif keep then collect 4 p else []) rb').Wr k → E.Wr k := by
      intro k hk'
      rcases hk' with h | ⟨i, e, he, hc, rfl⟩
      · exact (globWr_wr hR h).1
      · obtain ⟨b, xs, h1, _⟩ := hk.ent i e he
        exact (hR.phys _ _ _ (Bs.getg_ent.1 h1) (by omega)).2.1
    have fin : VR (retEnv E (bif keep then collect 4 p else []) rb') q v ∧ rb' = rb → ∃ E2 : Env, E2.w = E.w ∧ E2.bs = ⟨retLocs 0 rb, E.bs.glob⟩ ∧ VR E2 q v ∧ Rel E2 ∧ (∀ x, E2.mu (.glob x) = E.mu (.glob x) ∧ E2.cap (.glob x) = E.cap (.glob x)) ∧ (∀ k, E2.Wr k → E.Wr k) ∧ E2.Lent = E.Lent ∧
      ∀ b ∈ rb, ∀ q ∈ b.elems, frozen q = true ∧ noB q = true := by
      rintro ⟨h1, rfl⟩
      refine ⟨retEnv E (bif keep then collect 4 p else []) rb', rfl, rfl, h1, hrel, fun x => ⟨rfl, rfl⟩, hwr, rfl, fun b hb => ?_⟩
      obtain ⟨i, hi⟩ := List.mem_iff_getElem?.1 hb
      have hil := lt_len hi
      rw [hk.hl] at hil
      obtain ⟨b0, xs, _, _, h3, _, _, h6, _⟩ := hk.ent i _ (List.getElem?_eq_getElem hil)
      rw [hi] at h3; cases h3
      exact h6
    cases keep with
    | true =>
      simp only [cond_true] at h
      split at h
      · cases h
      · rename_i q' j hq
        cases h
        rw [show killAll E.bs (collect 4 p) = EK.bs from k1.symm] at hq
        exact fin ⟨(renum_VR hR hk 6 4 0 p hq hv (fun i e he => by simpa using he)).1, rfl⟩
    | false =>
      simp only [cond_false] at h
      have hEK : EK.bs = E.bs := k1
      have hf : ∀ p v q, fz false E.bs 6 p = some q → VR E p v → VR (retEnv E (bif false then collect 4 p else []) rb') q v := fun p v q h hv =>
        (fz_VR hk.sees.toSees hk.relK 6 p v q (by rw [hEK]; exact h) (VR_ext hk.ext hv)).1
      split at h
      · cases h; exact fin ⟨VR_noLoc hk.sees rfl (VR_ext hk.ext hv), rfl⟩
      · rename_i cs
        simp only [Option.map_eq_some_iff] at h
        obtain ⟨l, hl, e⟩ := h
        cases e
        refine fin ⟨?_, rfl⟩
        simp only [VR] at hv ⊢
        obtain ⟨a, rfl, hv⟩ := hv
        refine ⟨a, rfl, (mapO_VR (G := fun _ => True) (fun p' v' q' h' hv' => ⟨?_, trivial⟩) hl hv).1⟩
        split at h'
        · cases h'; exact VR_noLoc hk.sees rfl (VR_ext hk.ext hv')
        · exact hf p' v' q' h' hv'
      · simp only [Option.map_eq_some_iff] at h
        obtain ⟨q', hq, e⟩ := h
        cases e
        exact fin ⟨hf _ _ _ hq hv, rfl⟩

end

end Go.Pm

/- PM: a call, at the caller's. -/

namespace Go.Pm
noncomputable section

abbrev CRes := PV × List Blk × GL

/-- What is promised of a callee. -/
def CallOk (P : Program) (call : FuncId → List PV → GL → Option CRes) : Prop :=
  ∀ f args gl r rb gl', call f args gl = some (r, rb, gl') → ∀ (E : Env) (us : List Value), E.bs = ⟨[], gl⟩ → Rel E → VRl E args us →
    Calls P f us.toArray E.w fun e w' => ∃ (E' : Env) (v : Value), e = .returned v ∧ E'.w = w' ∧ E'.bs = ⟨retLocs 0 rb, gl'⟩ ∧ VR E' r v ∧ Ext E E' ∧ Rel E' ∧
      ∀ b ∈ rb, ∀ q ∈ b.elems, frozen q = true ∧ noB q = true

mutual
/-- Is it fit to be handed back: nothing lent, no name but of what goes with it or outlives frames? -/
def retOk : PV → Bool
  | .s _ => true
  | .undef => false
  | .agg cs => retOkL cs
  | .tup cs => retOkL cs
  | .vs b _ xs => xs.isEmpty || !b
  | .fp b _ => !b
  | .fn _ caps => retOkL caps
  | .ifc _ v => retOk v
  | .mp _ => true
  | .ts _ _ _ _ _ => true
  | .lp (.glob _) _ _ _ => true
  | .lp (.loc _ _) _ _ _ => false
  | .sl (.glob _) _ _ _ => true
  | .sl (.loc t _) g _ _ => Nat.beq t 0 && Nat.beq g 0
def retOkL : List PV → Bool
  | [] => true
  | x :: r => retOk x && retOkL r
end

mutual
/-- The names of what was handed back, at the caller's (d: the temporary that takes it). -/
def ren (bs : Bs) (d : Nat) : PV → PV
  | .sl (.loc _ i) _ off len => .sl (.loc d i) (bs.gen d i) off len
  | .agg cs => .agg (renL bs d cs)
  | .tup cs => .tup (renL bs d cs)
  | .fn f caps => .fn f (renL bs d caps)
  | .ifc t v => .ifc t (ren bs d v)
  | .mp x => .mp x
  | .ts x g off len cp => .ts x g off len cp
  | .s v => .s v
  | .undef => .undef
  | .vs b f xs => .vs b f xs
  | .fp b cs => .fp b cs
  | .lp r g i j => .lp r g i j
  | .sl (.glob x) g off len => .sl (.glob x) g off len
def renL (bs : Bs) (d : Nat) : List PV → List PV
  | [] => []
  | x :: r => ren bs d x :: renL bs d r
end

def addLocs (bs : Bs) (d : Nat) : Nat → List Blk → Bs
  | _, [] => bs
  | i, b :: r => addLocs (bs.mk1 d i b) d (i + 1) r

theorem gen_mk1_ne (bs : Bs) (t k t' k' : Nat) (b : Blk) (h : ¬ (t = t' ∧ k = k')) : (bs.mk1 t k b).gen t' k' = bs.gen t' k' := by
  simp only [Bs.gen, Bs.mk1]
  rw [locGet_set_ne _ _ _ _ _ _ h]

theorem addLocs_ent : ∀ (rb : List Blk) (bs : Bs) (d i : Nat) (r : BRef), (addLocs bs d i rb).ent r =
    match r with
    | .loc t k => if t = d ∧ i ≤ k ∧ k < i + rb.length then (rb[k - i]?).map (fun b => (bs.gen d k, some b)) else bs.ent (.loc t k)
    | .glob x => bs.ent (.glob x)
  | [], bs, d, i, r => by
    cases r with
    | loc t k => simp only [addLocs, List.length_nil]; rw [if_neg (by omega)]
    | glob x => rfl
  | b :: rb, bs, d, i, r => by
    simp only [addLocs]
    rw [addLocs_ent rb]
    cases r with
    | glob x => rfl
    | loc t k =>
      simp only [List.length_cons]
      by_cases h1 : t = d ∧ i + 1 ≤ k ∧ k < i + 1 + rb.length
      · rw [if_pos h1, if_pos (by omega), show k - i = (k - (i + 1)) + 1 by omega, gen_mk1_ne _ _ _ _ _ _ (by omega)]
        rfl
      · rw [if_neg h1]
        by_cases h2 : t = d ∧ k = i
        · obtain ⟨rfl, rfl⟩ := h2
          rw [if_pos (by omega), Nat.sub_self, Bs.ent_mk1]
          rfl
        · rw [if_neg (by omega), Bs.ent_mk1_ne _ _ _ _ (by rintro h; injection h with h3 h4; exact h2 ⟨h3, h4⟩)]

/-- The environment behind a call. -/
def backEnv (E Ec : Env) (d : Nat) (rb : List Blk) : Env where
  w := Ec.w
  bs := { addLocs E.bs d 0 rb with glob := Ec.bs.glob }
  mu := fun
    | .loc t k => if t = d ∧ k < rb.length then Ec.mu (.loc 0 k) else E.mu (.loc t k)
    | .glob x => Ec.mu (.glob x)
  cap := fun
    | .loc t k => if t = d ∧ k < rb.length then Ec.cap (.loc 0 k) else E.cap (.loc t k)
    | .glob x => Ec.cap (.glob x)
  Wr := fun k => (E.Wr k ∧ ¬ globWr E k) ∨ Ec.Wr k
  Lent := E.Lent

section
variable {E Ec : Env} {d : Nat} {rb : List Blk} {gl' : GL}

theorem back_ent_loc (t k : Nat) : (backEnv E Ec d rb).bs.ent (.loc t k) = if t = d ∧ k < rb.length then (rb[k]?).map (fun b => (E.bs.gen d k, some b)) else E.bs.ent (.loc t k) := by
  have := addLocs_ent rb E.bs d 0 (.loc t k)
  simp only [Nat.zero_le, true_and, Nat.zero_add, Nat.sub_zero] at this
  exact this

theorem back_fr (hR : Rel E) (hx : Ext (calleeEnv E) Ec) : Fr E (backEnv E Ec d rb) where
  os := hx.os
  tape := hx.tape
  output := hx.output
  size := hx.size
  keep b hb hw := hx.keep b hb fun h => hw (globWr_wr hR h).1
  wr b hb h := by
    rcases h with h | h
    · exact h.1
    · exact (globWr_wr hR (hx.wr b hb h)).1
  lent _ := Iff.rfl
  maps x h := hx.maps x h

theorem back_ext (hR : Rel E) (hx : Ext (calleeEnv E) Ec) : Ext E (backEnv E Ec d rb) := by
  refine ⟨back_fr hR hx, fun r g o hr => ?_⟩
  cases r with
  | glob x =>
    obtain ⟨g', o', h1, h2, h3⟩ := hx.ent (.glob x) g o hr
    exact ⟨g', o', h1, h2, h3⟩
  | loc t k =>
    by_cases h : t = d ∧ k < rb.length
    · obtain ⟨rfl, hk⟩ := h
      refine ⟨E.bs.gen t k, some rb[k], ?_, by have := Bs.gen_lt hr; omega, fun e => by have := Bs.gen_lt hr; omega⟩
      rw [back_ent_loc, if_pos ⟨rfl, hk⟩, List.getElem?_eq_getElem hk]
      rfl
    · refine ⟨g, o, by rw [back_ent_loc, if_neg h]; exact hr, Nat.le_refl _, fun _ b' hb' => ⟨b', hb', rfl, rfl, ?_, ?_⟩⟩
      · show (if _ then _ else _) = _; rw [if_neg h]
      · show (if _ then _ else _) = _; rw [if_neg h]

theorem back_frz (hx : Ext (calleeEnv E) Ec) {k : Nat} (h : Frz Ec false k) : Frz (backEnv E Ec d rb) false k := by
  obtain ⟨h1, h2, h3⟩ := h
  have h4 : ¬ (E.Lent k ∨ (E.Wr k ∧ ¬ globWr E k)) := fun hl => h3 rfl ((hx.lent k).2 hl)
  refine ⟨h1, fun hk => ?_, fun _ hl => h4 (.inl hl)⟩
  rcases hk with hk | hk
  · exact h4 (.inr hk)
  · exact h2 hk

mutual
theorem VR_back (hx : Ext (calleeEnv E) Ec) : ∀ {pv : PV} {v : Value}, frozen pv = true → noB pv = true → VR Ec pv v → VR (backEnv E Ec d rb) pv v
  | .s x, v, _, _, h => by simpa [VR] using h
  | .undef, v, h, _, _ => by simp [frozen] at h
  | .agg cs, v, hz, hb, h => by
    simp only [VR] at h ⊢; obtain ⟨a, rfl, h⟩ := h; exact ⟨a, rfl, VRl_back hx (by simpa [frozen] using hz) (by simpa [noB] using hb) h⟩
  | .tup cs, v, hz, hb, h => by
    simp only [VR] at h ⊢; obtain ⟨a, rfl, h⟩ := h; exact ⟨a, rfl, VRl_back hx (by simpa [frozen] using hz) (by simpa [noB] using hb) h⟩
  | .vs b full xs, v, hz, hb, h => by
    simp only [noB, Bool.and_eq_true] at hb
    simp only [VR] at h ⊢
    obtain ⟨A, cap, ws, rfl, h1, h2, h3, h4, h5, h6⟩ := h
    refine ⟨A, cap, ws, rfl, h1, h2, VRl_back hx h4 hb.2 h3, h4, h5, ?_⟩
    rcases h6 with h6 | ⟨blk, off, k, hA, hz', hk, hl⟩
    · exact .inl h6
    · cases xs with
      | nil =>
        refine .inl ⟨rfl, fun _ => by rw [hA]; rfl⟩
      | cons y ys =>
        have hb1 : b = false := by simpa using hb.1
        subst hb1
        exact .inr ⟨blk, off, k, hA, back_frz hx hz', hk, hl⟩
  | .fp b cs, v, hz, hb, h => by
    simp only [noB, Bool.and_eq_true, Bool.not_eq_true'] at hb
    simp only [VR] at h ⊢
    obtain ⟨blk, off, us, rfl, h1, h2, h3, h4, h5⟩ := h
    rw [hb.1] at h4 ⊢
    exact ⟨blk, off, us, rfl, VRl_back hx h2 hb.2 h1, h2, fun _ => hb.2, back_frz hx h4, h5⟩
  | .lp _ _ _ _, v, hz, _, _ => by simp [frozen] at hz
  | .sl _ _ _ _, v, hz, _, _ => by simp [frozen] at hz
  | .fn f caps, v, hz, hb, h => by
    simp only [VR] at h ⊢; obtain ⟨a, rfl, h⟩ := h; exact ⟨a, rfl, VRl_back hx (by simpa [frozen] using hz) (by simpa [noB] using hb) h⟩
  | .ifc t x, v, hz, hb, h => by
    simp only [VR] at h ⊢; obtain ⟨y, rfl, h⟩ := h; exact ⟨y, rfl, VR_back hx (by simpa [frozen] using hz) (by simpa [noB] using hb) h⟩
  | .mp _, v, hz, _, _ => by simp [frozen] at hz
  | .ts _ _ _ _ _, v, hz, _, _ => by simp [frozen] at hz
theorem VRl_back (hx : Ext (calleeEnv E) Ec) : ∀ {ps : List PV} {us : List Value}, frozenL ps = true → noBL ps = true → VRl Ec ps us → VRl (backEnv E Ec d rb) ps us
  | [], us, _, _, h => by simpa [VRl] using h
  | p :: ps, us, hz, hb, h => by
    simp only [VRl] at h ⊢
    obtain ⟨u, us', rfl, hp, h⟩ := h
    simp only [frozenL, Bool.and_eq_true] at hz
    simp only [noBL, Bool.and_eq_true] at hb
    exact ⟨u, us', rfl, VR_back hx hz.1 hb.1 hp, VRl_back hx hz.2 hb.2 h⟩
end

theorem vs_back (hx : Ext (calleeEnv E) Ec) {b full : Bool} {xs : List PV} {v : Value} (hb : (xs.isEmpty || !b) = true) (h : VR Ec (.vs b full xs) v) : VR (backEnv E Ec d rb) (.vs b full xs) v := by
  have h' := h
  simp only [VR] at h'
  obtain ⟨_, _, _, _, _, _, _, h4, h5, _⟩ := h'
  refine VR_back hx (by simpa [frozen] using h4) ?_ h
  simp only [noB, hb, Bool.true_and]
  cases xs with
  | nil => rfl
  | cons y ys => exact h5 (by simpa using hb)
theorem fp_back (hx : Ext (calleeEnv E) Ec) {cs : List PV} {v : Value} (h : VR Ec (.fp false cs) v) : VR (backEnv E Ec d rb) (.fp false cs) v := by
  have h' := h
  simp only [VR] at h'
  obtain ⟨_, _, _, _, _, h4, h5, _⟩ := h'
  exact VR_back hx (by simpa [frozen] using h4) (by simpa [noB] using h5) h

theorem mp_back {x : Nat} {v : Value} (h : VR Ec (.mp x) v) : VR (backEnv E Ec d rb) (.mp x) v := by
  simp only [VR] at h ⊢; exact h

theorem lpg_back {x g i j : Nat} {v : Value} (h : VR Ec (.lp (.glob x) g i j) v) : VR (backEnv E Ec d rb) (.lp (.glob x) g i j) v := by
  simp only [VR] at h ⊢
  obtain ⟨blk, off, rfl, g', o, hr, hg, hu⟩ := h
  refine ⟨blk, off, rfl, g', o, hr, hg, fun b hb => hu b hb⟩
theorem slg_back {x g off len : Nat} {v : Value} (h : VR Ec (.sl (.glob x) g off len) v) : VR (backEnv E Ec d rb) (.sl (.glob x) g off len) v := by
  simp only [VR] at h ⊢
  obtain ⟨A, cap, rfl, hlc, g', o, hr, hg, hu⟩ := h
  exact ⟨A, cap, rfl, hlc, g', o, hr, hg, fun b hb => hu b hb⟩
theorem ts_back {x g off len cp : Nat} {v : Value} (h : VR Ec (.ts x g off len cp) v) : VR (backEnv E Ec d rb) (.ts x g off len cp) v := by
  simp only [VR] at h ⊢
  obtain ⟨A, rfl, hlc, g', o, hr, hg, hu⟩ := h
  exact ⟨A, rfl, hlc, g', o, hr, hg, fun b hb => hu b hb⟩

mutual
/-- What is noLoc, at the caller's. -/
theorem VR_backG (hx : Ext (calleeEnv E) Ec) : ∀ {pv : PV} {v : Value}, noLoc pv = true → VR Ec pv v → VR (backEnv E Ec d rb) pv v
  | .s x, v, _, h => by simpa [VR] using h
  | .undef, v, _, _ => by simp [VR]
  | .agg cs, v, hz, h => by
    simp only [VR] at h ⊢; obtain ⟨a, rfl, h⟩ := h; exact ⟨a, rfl, VRl_backG hx (by simpa [noLoc] using hz) h⟩
  | .tup cs, v, hz, h => by
    simp only [VR] at h ⊢; obtain ⟨a, rfl, h⟩ := h; exact ⟨a, rfl, VRl_backG hx (by simpa [noLoc] using hz) h⟩
  | .vs b full xs, v, hz, h => by
    simp only [noLoc] at hz
    exact vs_back hx hz h
  | .fp b cs, v, hz, h => by
    simp only [noLoc, Bool.not_eq_true'] at hz
    subst hz; exact fp_back hx h
  | .lp (.glob x) g i j, v, hz, h => lpg_back h
  | .mp x, v, hz, h => mp_back h
  | .ts _ _ _ _ _, v, hz, h => ts_back h
  | .lp (.loc _ _) g i j, v, hz, h => by simp [noLoc] at hz
  | .sl (.glob x) g i j, v, hz, h => slg_back h
  | .sl (.loc _ _) g i j, v, hz, h => by simp [noLoc] at hz
  | .fn f caps, v, hz, h => by
    simp only [VR] at h ⊢; obtain ⟨a, rfl, h⟩ := h; exact ⟨a, rfl, VRl_backG hx (by simpa [noLoc] using hz) h⟩
  | .ifc t x, v, hz, h => by
    simp only [VR] at h ⊢; obtain ⟨y, rfl, h⟩ := h; exact ⟨y, rfl, VR_backG hx (by simpa [noLoc] using hz) h⟩
theorem VRl_backG (hx : Ext (calleeEnv E) Ec) : ∀ {ps : List PV} {us : List Value}, noLocL ps = true → VRl Ec ps us → VRl (backEnv E Ec d rb) ps us
  | [], us, _, h => by simpa [VRl] using h
  | p :: ps, us, hz, h => by
    simp only [VRl] at h ⊢
    obtain ⟨u, us', rfl, hp, h⟩ := h
    simp only [noLocL, Bool.and_eq_true] at hz
    exact ⟨u, us', rfl, VR_backG hx hz.1 hp, VRl_backG hx hz.2 h⟩
end

mutual
theorem VR_ren (hx : Ext (calleeEnv E) Ec) (hbs : Ec.bs = ⟨retLocs 0 rb, gl'⟩) : ∀ {pv : PV} {v : Value}, retOk pv = true → VR Ec pv v → VR (backEnv E Ec d rb) (ren E.bs d pv) v
  | .s x, v, _, h => by simpa [VR, ren] using h
  | .undef, v, h, _ => by simp [retOk] at h
  | .agg cs, v, hb, h => by
    simp only [VR, ren] at h ⊢; obtain ⟨a, rfl, h⟩ := h; exact ⟨a, rfl, VRl_ren hx hbs (by simpa [retOk] using hb) h⟩
  | .tup cs, v, hb, h => by
    simp only [VR, ren] at h ⊢; obtain ⟨a, rfl, h⟩ := h; exact ⟨a, rfl, VRl_ren hx hbs (by simpa [retOk] using hb) h⟩
  | .vs b full xs, v, hb, h => by
    simp only [retOk] at hb
    simp only [ren]; exact vs_back hx hb h
  | .fp b cs, v, hb, h => by
    simp only [retOk, Bool.not_eq_true'] at hb
    subst hb; simp only [ren]; exact fp_back hx h
  | .lp (.glob x) g i j, v, hb, h => by simp only [ren]; exact lpg_back h
  | .mp x, v, hb, h => by simp only [ren]; exact mp_back h
  | .ts _ _ _ _ _, v, hb, h => by simp only [ren]; exact ts_back h
  | .lp (.loc _ _) g i j, v, hb, h => by simp [retOk] at hb
  | .sl (.glob x) g i j, v, hb, h => by simp only [ren]; exact slg_back h
  | .sl (.loc t i) g off len, v, hb, h => by
    simp only [retOk] at hb
    obtain ⟨rfl, rfl⟩ := beq2.1 hb
    simp only [ren]
    simp only [VR] at h ⊢
    obtain ⟨A, cap, rfl, hlc, g', o, hr, hg, hu⟩ := h
    have hloc : Ec.bs.ent (.loc 0 i) = (rb[i]?).map (fun b => (0, some b)) := by
      rw [hbs]
      show locGet (retLocs 0 rb) 0 i = _
      rw [locGet_retLocs, if_pos ⟨rfl, Nat.zero_le _⟩, Nat.sub_zero]
    rw [hloc, Option.map_eq_some_iff] at hr
    obtain ⟨b, hb', e⟩ := hr
    cases e
    have hil := lt_len hb'
    have hent : (backEnv E Ec d rb).bs.ent (.loc d i) = some (E.bs.gen d i, some b) := by
      rw [back_ent_loc, if_pos ⟨rfl, hil⟩, hb']
      rfl
    refine ⟨A, cap, rfl, hlc, _, _, hent, Nat.le_refl _, fun b2 hb2 => ?_⟩
    rw [Bs.getg_ent, hent] at hb2
    cases hb2
    have := hu b (by rw [Bs.getg_ent, hloc, hb']; rfl)
    have m1 : (backEnv E Ec d rb).mu (.loc d i) = Ec.mu (.loc 0 i) := if_pos ⟨rfl, hil⟩
    have m2 : (backEnv E Ec d rb).cap (.loc d i) = Ec.cap (.loc 0 i) := if_pos ⟨rfl, hil⟩
    rw [m1, m2]
    exact this
  | .fn f caps, v, hb, h => by
    simp only [VR, ren] at h ⊢; obtain ⟨a, rfl, h⟩ := h; exact ⟨a, rfl, VRl_ren hx hbs (by simpa [retOk] using hb) h⟩
  | .ifc t x, v, hb, h => by
    simp only [VR, ren] at h ⊢; obtain ⟨y, rfl, h⟩ := h; exact ⟨y, rfl, VR_ren hx hbs (by simpa [retOk] using hb) h⟩
theorem VRl_ren (hx : Ext (calleeEnv E) Ec) (hbs : Ec.bs = ⟨retLocs 0 rb, gl'⟩) : ∀ {ps : List PV} {us : List Value}, retOkL ps = true → VRl Ec ps us → VRl (backEnv E Ec d rb) (renL E.bs d ps) us
  | [], us, _, h => by simpa [VRl, renL] using h
  | p :: ps, us, hb, h => by
    simp only [VRl, renL] at h ⊢
    obtain ⟨u, us', rfl, hp, h⟩ := h
    simp only [retOkL, Bool.and_eq_true] at hb
    exact ⟨u, us', rfl, VR_ren hx hbs hb.1 hp, VRl_ren hx hbs hb.2 h⟩
end
end

end

end Go.Pm

/- PM: a call, at the caller's: the relation behind it. -/

namespace Go.Pm
noncomputable section

section
variable {E Ec : Env} {d : Nat} {rb : List Blk} {gl' : GL}

theorem back_cases (hbs : Ec.bs = ⟨retLocs 0 rb, gl'⟩) {r : BRef} {g : Nat} {b : Blk} (h : (backEnv E Ec d rb).bs.ent r = some (g, some b)) :
    (∃ t k, r = .loc t k ∧ E.bs.ent r = some (g, some b) ∧ (backEnv E Ec d rb).mu r = E.mu r ∧ (backEnv E Ec d rb).cap r = E.cap r) ∨
    (∃ q, Ec.bs.ent q = some (0, some b) ∧ (backEnv E Ec d rb).mu r = Ec.mu q ∧ (backEnv E Ec d rb).cap r = Ec.cap q ∧
      ((∃ k, r = .loc d k ∧ q = .loc 0 k ∧ b ∈ rb) ∨ (∃ x, r = .glob x ∧ q = .glob x))) := by
  cases r with
  | loc t k =>
    by_cases hk : t = d ∧ k < rb.length
    · right
      obtain ⟨rfl, hk⟩ := hk
      rw [back_ent_loc, if_pos ⟨rfl, hk⟩, Option.map_eq_some_iff] at h
      obtain ⟨b', hb', e⟩ := h
      cases e
      refine ⟨.loc 0 k, ?_, if_pos ⟨rfl, hk⟩, if_pos ⟨rfl, hk⟩, .inl ⟨k, rfl, rfl, List.mem_of_getElem? hb'⟩⟩
      rw [hbs]
      show locGet (retLocs 0 rb) 0 k = _
      rw [locGet_retLocs, if_pos ⟨rfl, Nat.zero_le _⟩, Nat.sub_zero, hb']
      rfl
    · left
      rw [back_ent_loc, if_neg hk] at h
      exact ⟨t, k, rfl, h, if_neg hk, if_neg hk⟩
  | glob x =>
    right
    have h' : Ec.bs.ent (.glob x) = some (g, some b) := h
    have hg : g = 0 := by
      simp only [Bs.ent, Option.map_eq_some_iff] at h'
      obtain ⟨o, _, e⟩ := h'
      exact (congrArg Prod.fst e).symm
    subst hg
    exact ⟨.glob x, h', rfl, rfl, .inr ⟨x, rfl, rfl⟩⟩

theorem back_rel (hR : Rel E) (hx : Ext (calleeEnv E) Ec) (hRc : Rel Ec) (hbs : Ec.bs = ⟨retLocs 0 rb, gl'⟩) (hrb : ∀ b ∈ rb, ∀ q ∈ b.elems, frozen q = true ∧ noB q = true) : Rel (backEnv E Ec d rb) := by
  have hext : Ext E (backEnv E Ec d rb) := back_ext hR hx
  -- an old block of the caller's own lies where nobody wrote
  have hold : ∀ t k g b, E.bs.ent (.loc t k) = some (g, some b) → 0 < E.cap (.loc t k) → E.Wr (E.mu (.loc t k)).1 ∧ ¬ globWr E (E.mu (.loc t k)).1 ∧ Ec.w.heap[(E.mu (.loc t k)).1]? = E.w.heap[(E.mu (.loc t k)).1]? := by
    intro t k g b h hc
    have h1 := (hR.phys _ _ _ h hc).2.1
    have h2 : ¬ globWr E (E.mu (.loc t k)).1 := by
      rintro hg
      exact (globWr_wr hR hg).2 t k g b h hc rfl
    exact ⟨h1, h2, hx.keep _ (hR.lt _ h1) h2⟩
  have hcw : ∀ k, Ec.Wr k → k < E.w.heap.size → globWr E k := fun k hk hl => hx.wr k hl hk
  constructor
  · intro r g b h
    rcases back_cases hbs h with ⟨t, k, rfl, h1, h2, h3⟩ | ⟨q, h1, h2, h3, _⟩
    · rw [h3]; exact hR.len _ _ _ h1
    · rw [h3]; exact hRc.len _ _ _ h1
  · intro r g b h hc
    rcases back_cases hbs h with ⟨t, k, rfl, h1, h2, h3⟩ | ⟨q, h1, h2, h3, _⟩
    · rw [h3] at hc
      rw [h2, h3]
      obtain ⟨p1, p2, cs, ty, p3, p4⟩ := hR.phys _ _ _ h1 hc
      obtain ⟨o1, o2, o3⟩ := hold _ _ _ _ h1 hc
      exact ⟨p1, .inl ⟨o1, o2⟩, cs, ty, o3.trans p3, p4⟩
    · rw [h3] at hc
      rw [h2, h3]
      obtain ⟨p1, p2, p3⟩ := hRc.phys _ _ _ h1 hc
      exact ⟨p1, .inr p2, p3⟩
  · intro r g b h i p hp
    rcases back_cases hbs h with ⟨t, k, rfl, h1, h2, h3⟩ | ⟨q, h1, h2, h3, h4⟩
    · rw [h2]
      obtain ⟨o1, o2⟩ := hR.own _ _ _ h1 i p hp
      have hl := hR.len _ _ _ h1
      have := lt_len hp
      obtain ⟨_, _, o3⟩ := hold _ _ _ _ h1 (by omega)
      refine ⟨o1, fun j c hc => ?_⟩
      obtain ⟨cs, ty, y, hh, hy, hv⟩ := o2 j c hc
      exact ⟨cs, ty, y, o3.trans hh, hy, VR_ext hext hv⟩
    · rw [h2]
      obtain ⟨o1, o2⟩ := hRc.own _ _ _ h1 i p hp
      refine ⟨o1, fun j c hc => ?_⟩
      obtain ⟨cs, ty, y, hh, hy, hv⟩ := o2 j c hc
      refine ⟨cs, ty, y, hh, hy, ?_⟩
      rcases h4 with ⟨k, rfl, rfl, hb⟩ | ⟨x, rfl, rfl⟩
      · obtain ⟨f1, f2⟩ := hrb b hb p (List.mem_of_getElem? hp)
        exact VR_back hx (frozenL_mem.1 (frozen_cells f1) c (List.mem_of_getElem? hc)) (noBL_mem.1 (noB_cells f2) c (List.mem_of_getElem? hc)) hv
      · have hnl := hRc.gl _ _ _ h1
        simp only [okG] at hnl
        exact VR_backG hx (noLocL_mem.1 (noLoc_cells' (noLocL_mem.1 hnl p (List.mem_of_getElem? hp))) c (List.mem_of_getElem? hc)) hv
  · intro r r' g g' b b' h h' hc hc' hm
    rcases back_cases hbs h with ⟨t, k, rfl, h1, h2, h3⟩ | ⟨q, h1, h2, h3, h4⟩
    · rcases back_cases hbs h' with ⟨t', k', rfl, h1', h2', h3'⟩ | ⟨q', h1', h2', h3', h4'⟩
      · rw [h3] at hc
        rw [h3'] at hc'
        rw [h2, h2'] at hm
        exact hR.inj _ _ _ _ _ _ h1 h1' hc hc' hm
      · exfalso
        rw [h3] at hc
        rw [h3'] at hc'
        rw [h2, h2'] at hm
        obtain ⟨o1, o2, _⟩ := hold _ _ _ _ h1 hc
        have hw := (hRc.phys _ _ _ h1' hc').2.1
        rw [← hm] at hw
        exact o2 (hcw _ hw (hR.lt _ o1))
    · rcases back_cases hbs h' with ⟨t', k', rfl, h1', h2', h3'⟩ | ⟨q', h1', h2', h3', h4'⟩
      · exfalso
        rw [h3] at hc
        rw [h3'] at hc'
        rw [h2, h2'] at hm
        obtain ⟨o1, o2, _⟩ := hold _ _ _ _ h1' hc'
        have hw := (hRc.phys _ _ _ h1 hc).2.1
        rw [hm] at hw
        exact o2 (hcw _ hw (hR.lt _ o1))
      · rw [h3] at hc
        rw [h3'] at hc'
        rw [h2, h2'] at hm
        have hq := hRc.inj _ _ _ _ _ _ h1 h1' hc hc' hm
        rcases h4 with ⟨k, rfl, rfl, _⟩ | ⟨x, rfl, rfl⟩
        · rcases h4' with ⟨k', rfl, rfl, _⟩ | ⟨x', rfl, rfl⟩
          · injection hq with _ hq2; rw [hq2]
          · cases hq
        · rcases h4' with ⟨k', rfl, rfl, _⟩ | ⟨x', rfl, rfl⟩
          · cases hq
          · exact hq
  · intro k hk
    rcases hk with hk | hk
    · exact Nat.lt_of_lt_of_le (hR.lt k hk.1) hx.size
    · exact hRc.lt k hk
  · intro k hk
    exact Nat.lt_of_lt_of_le (hR.llt k hk) hx.size
  · intro k hk hl
    rcases hk with hk | hk
    · exact hR.apart k hk.1 hl
    · exact hRc.apart k hk ((hx.lent k).2 (.inl hl))
  · intro r g b h
    rcases back_cases hbs h with ⟨t, k, rfl, h1, h2, h3⟩ | ⟨q, h1, h2, h3, h4⟩
    · rfl
    · rcases h4 with ⟨k, rfl, rfl, hb⟩ | ⟨x, rfl, rfl⟩
      · rfl
      · exact hRc.gl _ _ _ h1
  · intro x l hl
    have hl' : Ec.bs.mapAt x = some l := hl
    obtain ⟨h0, es, c, h1, h2, h3⟩ := hRc.mps x l hl'
    refine ⟨.inr h0, es, c, h1, h2, fun i k p hp => ?_⟩
    obtain ⟨z1, e, z2, z3, z4⟩ := h3 i k p hp
    exact ⟨z1, e, z2, z3, VR_backG hx z1 z4⟩
  · exact hRc.minj

end

def popCall (call : FuncId → List PV → GL → Option CRes) (bs : Bs) (d : Nat) (f : FuncId) (args : List PV) : Option (PV × Bs) :=
  match mapO (argOf bs 6) args with
  | none => none
  | some args' => match call f args' bs.glob with
    | none => none
    | some (r, rb, gl') => bif retOk r then some (ren bs d r, { addLocs bs d 0 rb with glob := gl' }) else none

theorem popCall_run {P : Program} {call : FuncId → List PV → GL → Option CRes} (hc : CallOk P call) {E : Env} (hR : Rel E) {d : Nat} {f : FuncId} {args : List PV} {us : List Value} {pv : PV} {bs' : Bs}
    (hu : VRl E args us) (h : popCall call E.bs d f args = some (pv, bs')) :
    Calls P f us.toArray E.w fun e w' => ∃ (E' : Env) (v : Value), e = .returned v ∧ E'.w = w' ∧ E'.bs = bs' ∧ VR E' pv v ∧ Ext E E' ∧ Rel E' := by
  unfold popCall at h
  split at h
  · cases h
  · rename_i args' ha
    split at h
    · cases h
    · rename_i r rb gl' hr
      cases hok : retOk r with
      | false => rw [hok] at h; cases h
      | true =>
        rw [hok] at h; cases h
        have hargs := (mapO_VR (E2 := calleeEnv E) (G := fun _ => True) (fun p v q h hv => ⟨argOf_VR hR h hv, trivial⟩) ha hu).1
        refine (hc f args' E.bs.glob r rb gl' hr (calleeEnv E) us rfl (callee_rel hR) hargs).mono ?_
        rintro e w' ⟨Ec, v, rfl, rfl, hbs, hv, hx, hRc, hrb⟩
        refine ⟨backEnv E Ec d rb, v, rfl, rfl, ?_, VR_ren hx hbs hok hv, back_ext hR hx, back_rel hR hx hRc hbs hrb⟩
        show ({ addLocs E.bs d 0 rb with glob := Ec.bs.glob } : Bs) = _
        rw [hbs]

end

end Go.Pm

/- PM: blocks that come to outlive their frame. -/

namespace Go.Pm
noncomputable section

/-- A block of a frame's own gets a name that outlives it; the old name is dead. -/
def Bs.promote (bs : Bs) (t k g : Nat) (b : Blk) : Bs :=
  { loc := locSet bs.loc t k (g, none), glob := bs.glob.push (.blk b) }

theorem promote_ent {bs : Bs} {t k g : Nat} {b : Blk} : (bs.promote t k g b).ent (.loc t k) = some (g, none) := locGet_set_eq _ _ _ _
theorem promote_ent_loc {bs : Bs} {t k g : Nat} {b : Blk} {t' k' : Nat} (h : ¬ (t = t' ∧ k = k')) : (bs.promote t k g b).ent (.loc t' k') = bs.ent (.loc t' k') := locGet_set_ne _ _ _ _ _ _ h
theorem promote_ent_glob {bs : Bs} {t k g : Nat} {b : Blk} {x : Nat} : (bs.promote t k g b).ent (.glob x) = if x = bs.glob.length then some (0, some b) else bs.ent (.glob x) := by
  simp only [Bs.promote, Bs.ent, GL.get_push]
  by_cases h : x = bs.glob.length
  · rw [if_pos h, if_pos h]; rfl
  · rw [if_neg h, if_neg h]

theorem promote_map {bs : Bs} {t k g : Nat} {b : Blk} {x : Nat} : (bs.promote t k g b).mapAt x = bs.mapAt x := by
  simp only [Bs.promote, Bs.mapAt, GL.get_push]
  by_cases h : x = bs.glob.length
  · rw [if_pos h, GL.get_none (by omega)]; rfl
  · rw [if_neg h]

def promEnv (E : Env) (t k g : Nat) (b : Blk) : Env :=
  { E with bs := E.bs.promote t k g b
           mu := fun r => if r = .glob E.bs.glob.length then E.mu (.loc t k) else E.mu r
           cap := fun r => if r = .glob E.bs.glob.length then E.cap (.loc t k) else E.cap r }

theorem promote_ext {E : Env} (hR : Rel E) {t k g : Nat} {b b' : Blk} (hb : E.bs.ent (.loc t k) = some (g, some b)) (he : b'.esz = b.esz) (hl : b'.elems.length = b.elems.length)
    (hown : ∀ (i : Nat) p, b'.elems[i]? = some p → p.cells.length = b.esz ∧ ∀ (j : Nat) c, p.cells[j]? = some c →
      ∃ cs ty y, E.w.heap[(E.mu (.loc t k)).1]? = some (.cells cs ty (0, 0)) ∧ cs[(E.mu (.loc t k)).2 + (i * b.esz + j)]? = some y ∧ VR E c y)
    (hg : noLocL b'.elems = true) : Ext E (promEnv E t k g b') ∧ Rel (promEnv E t k g b') := by
  have hentL : ∀ t' k', ¬ (t = t' ∧ k = k') → (promEnv E t k g b').bs.ent (.loc t' k') = E.bs.ent (.loc t' k') := fun t' k' h => promote_ent_loc h
  have hold : ∀ x g0 o, E.bs.ent (.glob x) = some (g0, o) → x ≠ E.bs.glob.length := by
    intro x g0 o h e
    subst e
    simp [Bs.ent] at h
  have hext : Ext E (promEnv E t k g b') := by
    refine ⟨⟨rfl, rfl, rfl, Nat.le_refl _, fun x _ _ => rfl, fun x _ h => h, fun x => Iff.rfl, fun x hm => ⟨by show ((E.bs.promote t k g b').mapAt x).isSome = true; rw [promote_map]; exact hm, if_neg (by rintro h; cases h; exact absurd hm (by simp [Bs.mapAt]))⟩⟩, fun r g' o' hr => ?_⟩
    cases r with
    | loc t' k' =>
      by_cases e : t = t' ∧ k = k'
      · obtain ⟨rfl, rfl⟩ := e
        rw [hb] at hr; cases hr
        exact ⟨g, none, promote_ent, Nat.le_refl _, fun _ b2 hb2 => by cases hb2⟩
      · refine ⟨g', o', by rw [hentL _ _ e]; exact hr, Nat.le_refl _, fun _ b2 hb2 => ⟨b2, hb2, rfl, rfl, ?_, ?_⟩⟩ <;> simp [promEnv]
    | glob x =>
      have hx := hold x g' o' hr
      refine ⟨g', o', by show (E.bs.promote t k g b').ent _ = _; rw [promote_ent_glob, if_neg hx]; exact hr, Nat.le_refl _, fun _ b2 hb2 => ⟨b2, hb2, rfl, rfl, ?_, ?_⟩⟩ <;> simp [promEnv, hx]
  -- every living block is one of before, under its own name or the new one
  have f : ∀ q gq bq, (promEnv E t k g b').bs.ent q = some (gq, some bq) →
      (q = .glob E.bs.glob.length ∧ bq = b') ∨ (q ≠ .glob E.bs.glob.length ∧ q ≠ .loc t k ∧ E.bs.ent q = some (gq, some bq)) := by
    intro q gq bq hq
    cases q with
    | loc t' k' =>
      by_cases e : t = t' ∧ k = k'
      · obtain ⟨rfl, rfl⟩ := e
        rw [show (promEnv E t k g b').bs.ent (.loc t k) = some (g, none) from promote_ent] at hq
        cases hq
      · rw [hentL _ _ e] at hq
        exact .inr ⟨by simp, by rintro h; cases h; exact e ⟨rfl, rfl⟩, hq⟩
    | glob x =>
      have := hq
      rw [show (promEnv E t k g b').bs.ent (.glob x) = _ from promote_ent_glob] at this
      by_cases e : x = E.bs.glob.length
      · rw [if_pos e] at this
        cases this
        exact .inl ⟨by rw [e], rfl⟩
      · rw [if_neg e] at this
        exact .inr ⟨by simp [e], by simp, this⟩
  have mN : (promEnv E t k g b').mu (.glob E.bs.glob.length) = E.mu (.loc t k) := by simp [promEnv]
  have cN : (promEnv E t k g b').cap (.glob E.bs.glob.length) = E.cap (.loc t k) := by simp [promEnv]
  have mO : ∀ q, q ≠ .glob E.bs.glob.length → (promEnv E t k g b').mu q = E.mu q := fun q h => by simp [promEnv, h]
  have cO : ∀ q, q ≠ .glob E.bs.glob.length → (promEnv E t k g b').cap q = E.cap q := fun q h => by simp [promEnv, h]
  refine ⟨hext, ?_⟩
  constructor
  · intro r g' b1 h
    rcases f _ _ _ h with ⟨rfl, rfl⟩ | ⟨h1, h2, h3⟩
    · rw [cN, hl]; exact hR.len _ _ _ hb
    · rw [cO _ h1]; exact hR.len _ _ _ h3
  · intro r g' b1 h hcp
    rcases f _ _ _ h with ⟨rfl, rfl⟩ | ⟨h1, h2, h3⟩
    · rw [cN] at hcp
      rw [mN, cN, he]; exact hR.phys _ _ _ hb hcp
    · rw [cO _ h1] at hcp
      rw [mO _ h1, cO _ h1]; exact hR.phys _ _ _ h3 hcp
  · intro r g' b1 h i p hp
    rcases f _ _ _ h with ⟨rfl, rfl⟩ | ⟨h1, h2, h3⟩
    · obtain ⟨k1, k2⟩ := hown i p hp
      refine ⟨by rw [k1, he], fun j c hcj => ?_⟩
      obtain ⟨cs', ty', y, h3, hy, hv⟩ := k2 j c hcj
      exact ⟨cs', ty', y, by rw [mN]; exact h3, by rw [mN, he]; exact hy, VR_ext hext hv⟩
    · obtain ⟨k1, k2⟩ := hR.own _ _ _ h3 i p hp
      exact ⟨k1, fun j c hcj => by
        obtain ⟨cs', ty', y, h4, hy, hv⟩ := k2 j c hcj
        exact ⟨cs', ty', y, by rw [mO _ h1]; exact h4, by rw [mO _ h1]; exact hy, VR_ext hext hv⟩⟩
  · intro r1 r2 g1 g2 b1 b2 h1 h2 hc1 hc2 hm
    rcases f _ _ _ h1 with ⟨rfl, rfl⟩ | ⟨a1, a2, a3⟩ <;> rcases f _ _ _ h2 with ⟨rfl, rfl⟩ | ⟨c1, c2, c3⟩
    · rfl
    · rw [cN] at hc1; rw [cO _ c1] at hc2; rw [mN, mO _ c1] at hm
      exact absurd (hR.inj _ _ _ _ _ _ hb c3 hc1 hc2 hm).symm c2
    · rw [cN] at hc2; rw [cO _ a1] at hc1; rw [mN, mO _ a1] at hm
      exact absurd (hR.inj _ _ _ _ _ _ a3 hb hc1 hc2 hm) a2
    · rw [cO _ a1] at hc1; rw [cO _ c1] at hc2; rw [mO _ a1, mO _ c1] at hm
      exact hR.inj _ _ _ _ _ _ a3 c3 hc1 hc2 hm
  · exact hR.lt
  · exact hR.llt
  · exact hR.apart
  · intro r g' b1 h
    rcases f _ _ _ h with ⟨rfl, rfl⟩ | ⟨h1, h2, h3⟩
    · exact hg
    · exact hR.gl _ _ _ h3
  · exact (mps_keep hR hext (fun x => promote_map) fun x hm hwr es c hes => ⟨hwr, hes⟩).1
  · exact (mps_keep hR hext (fun x => promote_map) fun x hm hwr es c hes => ⟨hwr, hes⟩).2

def glzL (f : Bs → PV → Option (PV × Bs)) : Bs → List PV → Option (List PV × Bs)
  | bs, [] => some ([], bs)
  | bs, p :: r => match f bs p with
    | none => none
    | some (q, b1) => match glzL f b1 r with
      | none => none
      | some (l, b2) => some (q :: l, b2)

/-- The value under names that outlive the frame. -/
def glz : Nat → Bs → PV → Option (PV × Bs)
  | 0, _, _ => none
  | n + 1, bs, p => match p with
    | .agg cs => match glzL (glz n) bs cs with
      | none => none
      | some (l, b) => some (.agg l, b)
    | .tup cs => match glzL (glz n) bs cs with
      | none => none
      | some (l, b) => some (.tup l, b)
    | .fn f cs => match glzL (glz n) bs cs with
      | none => none
      | some (l, b) => some (.fn f l, b)
    | .ifc t v => match glz n bs v with
      | none => none
      | some (q, b) => some (.ifc t q, b)
    | .lp (.loc t k) g i j => match bs.getg (.loc t k) g with
      | none => none
      | some b => match glzL (glz n) bs b.elems with
        | none => none
        | some (l, b1) => match b1.getg (.loc t k) g with
          | none => none
          | some _ => bif noLocL l then some (.lp (.glob b1.glob.length) 0 i j, b1.promote t k g (.ofL b.esz l)) else none
    | .sl (.loc t k) g off len => match bs.getg (.loc t k) g with
      | none => none
      | some b => match glzL (glz n) bs b.elems with
        | none => none
        | some (l, b1) => match b1.getg (.loc t k) g with
          | none => none
          | some _ => bif noLocL l then some (.sl (.glob b1.glob.length) 0 off len, b1.promote t k g (.ofL b.esz l)) else none
    | p => some (p, bs)

/-- What renaming keeps. -/
structure Glz (E E' : Env) : Prop where
  w : E'.w = E.w
  Wr : E'.Wr = E.Wr
  Lent : E'.Lent = E.Lent
  ext : Ext E E'
  rel : Rel E'

theorem Glz.trans {A B C : Env} (h : Glz A B) (k : Glz B C) : Glz A C := ⟨k.w.trans h.w, k.Wr.trans h.Wr, k.Lent.trans h.Lent, h.ext.trans k.ext, k.rel⟩

def CellsTo (E E' : Env) (p q : PV) : Prop := q.cells.length = p.cells.length ∧ ∀ (j : Nat) c d, p.cells[j]? = some c → q.cells[j]? = some d → ∀ y, VR E c y → VR E' d y

theorem glzL_ok {f : Bs → PV → Option (PV × Bs)}
    (hf : ∀ (E : Env) p q bs', Rel E → f E.bs p = some (q, bs') → ∃ E', E'.bs = bs' ∧ Glz E E' ∧ (∀ v, VR E p v → VR E' q v) ∧ CellsTo E E' p q) :
    ∀ (l : List PV) (E : Env) (l' : List PV) (bs' : Bs), Rel E → glzL f E.bs l = some (l', bs') → ∃ E', E'.bs = bs' ∧ Glz E E' ∧ l'.length = l.length ∧
      ∀ (i : Nat) p q, l[i]? = some p → l'[i]? = some q → (∀ v, VR E p v → VR E' q v) ∧ CellsTo E E' p q
  | [], E, l', bs', hR, h => by
    simp only [glzL] at h; cases h
    exact ⟨E, rfl, ⟨rfl, rfl, rfl, Ext.refl E, hR⟩, rfl, fun i p q h => by simp at h⟩
  | p :: r, E, l', bs', hR, h => by
    simp only [glzL] at h
    split at h
    · cases h
    · rename_i q b1 hq
      split at h
      · cases h
      · rename_i l b2 hl
        cases h
        obtain ⟨E1, e1, g1, v1, c1⟩ := hf E p q b1 hR hq
        rw [← e1] at hl
        obtain ⟨E2, e2, g2, n2, r2⟩ := glzL_ok hf r E1 l bs' g1.rel hl
        refine ⟨E2, e2, g1.trans g2, by simp [n2], fun i p' q' hp hq' => ?_⟩
        cases i with
        | zero =>
          simp only [List.getElem?_cons_zero, Option.some.injEq] at hp hq'
          subst hp; subst hq'
          exact ⟨fun v hv => VR_ext g2.ext (v1 v hv), c1.1, fun j c d hc hd y hy => VR_ext g2.ext (c1.2 j c d hc hd y hy)⟩
        | succ i =>
          obtain ⟨a1, a2⟩ := r2 i p' q' (by simpa using hp) (by simpa using hq')
          exact ⟨fun v hv => a1 v (VR_ext g1.ext hv), a2.1, fun j c d hc hd y hy => a2.2 j c d hc hd y (VR_ext g1.ext hy)⟩

theorem VRl_map2 {E E' : Env} : ∀ {l l' : List PV} {vs : List Value}, l'.length = l.length → (∀ (i : Nat) p q, l[i]? = some p → l'[i]? = some q → ∀ v, VR E p v → VR E' q v) → VRl E l vs → VRl E' l' vs
  | [], l', vs, hl, _, h => by
    have : l' = [] := by simpa using hl
    subst this
    simp only [VRl] at h ⊢; exact h
  | p :: r, l', vs, hl, hm, h => by
    match l', hl with
    | q :: r', hl =>
      simp only [VRl] at h ⊢
      obtain ⟨u, us, rfl, h1, h2⟩ := h
      exact ⟨u, us, rfl, hm 0 p q rfl rfl u h1, VRl_map2 (by simpa using hl) (fun i p' q' hp hq => hm (i + 1) p' q' (by simpa using hp) (by simpa using hq)) h2⟩

theorem CellsTo.one {E E' : Env} {p q : PV} (hp : p.cells = [p]) (hq : q.cells = [q]) (h : ∀ v, VR E p v → VR E' q v) : CellsTo E E' p q := by
  refine ⟨by rw [hp, hq]; rfl, fun j c d hc hd y hy => ?_⟩
  rw [hp] at hc; rw [hq] at hd
  cases j with
  | zero => simp at hc hd; subst hc; subst hd; exact h y hy
  | succ j => simp at hc

theorem glz_ok : ∀ (n : Nat) (E : Env) (p q : PV) (bs' : Bs), Rel E → glz n E.bs p = some (q, bs') → ∃ E', E'.bs = bs' ∧ Glz E E' ∧ (∀ v, VR E p v → VR E' q v) ∧ CellsTo E E' p q
  | 0, E, p, q, bs', _, h => by simp [glz] at h
  | n + 1, E, p, q, bs', hR, h => by
    have ih := glz_ok n
    have same : glz (n + 1) E.bs p = some (p, E.bs) → p = q ∧ E.bs = bs' := fun h' => by rw [h'] at h; cases h; exact ⟨rfl, rfl⟩
    have fin : p = q ∧ E.bs = bs' → ∃ E', E'.bs = bs' ∧ Glz E E' ∧ (∀ v, VR E p v → VR E' q v) ∧ CellsTo E E' p q := by
      rintro ⟨rfl, rfl⟩
      exact ⟨E, rfl, ⟨rfl, rfl, rfl, Ext.refl E, hR⟩, fun v hv => hv, rfl, fun j c d hc hd y hy => by rw [hc] at hd; cases hd; exact hy⟩
    -- a block, promoted
    have blk : ∀ t k g b l b1, E.bs.getg (.loc t k) g = some b → glzL (glz n) E.bs b.elems = some (l, b1) → (b1.getg (.loc t k) g).isSome = true → noLocL l = true →
        ∃ E', E'.bs = b1.promote t k g (.ofL b.esz l) ∧ Glz E E' ∧ E'.bs.getg (.glob b1.glob.length) 0 = some (.ofL b.esz l) ∧ l.length = b.elems.length ∧ E'.mu (.glob b1.glob.length) = E.mu (.loc t k) ∧ E'.cap (.glob b1.glob.length) = E.cap (.loc t k) := by
      intro t k g b l b1 hb hl h1 hno
      obtain ⟨E1, e1, g1, n1, r1⟩ := glzL_ok ih b.elems E l b1 hR hl
      subst e1
      have hbe := Bs.getg_ent.1 hb
      obtain ⟨b2, h2⟩ := Option.isSome_iff_exists.1 h1
      have h2e := Bs.getg_ent.1 h2
      obtain ⟨g', o', x1, x2, x3⟩ := g1.ext.ent _ _ _ hbe
      rw [h2e] at x1; cases x1
      obtain ⟨b0, y1, y2, y3, y4, y5⟩ := x3 rfl b2 rfl
      cases y1
      have hown : ∀ (i : Nat) p, l[i]? = some p → p.cells.length = b2.esz ∧ ∀ (j : Nat) c, p.cells[j]? = some c →
          ∃ cs ty y, E1.w.heap[(E1.mu (.loc t k)).1]? = some (.cells cs ty (0, 0)) ∧ cs[(E1.mu (.loc t k)).2 + (i * b2.esz + j)]? = some y ∧ VR E1 c y := by
        intro i p hp
        have hil := lt_len hp
        have hp0 := List.getElem?_eq_getElem (l := b.elems) (i := i) (by omega)
        obtain ⟨k1, k2⟩ := hR.own _ _ _ hbe i _ hp0
        obtain ⟨_, c1, c2⟩ := r1 i _ _ hp0 hp
        refine ⟨by rw [c1, k1, y2], fun j c hcj => ?_⟩
        have hjl := lt_len hcj
        have hc0 := List.getElem?_eq_getElem (l := b.elems[i].cells) (i := j) (by omega)
        obtain ⟨cs', ty', y, h3, hy, hv⟩ := k2 j _ hc0
        exact ⟨cs', ty', y, by rw [g1.w, y4]; exact h3, by rw [y4, y2]; exact hy, c2 j _ _ hc0 hcj y hv⟩
      obtain ⟨p1, p2⟩ := promote_ext g1.rel h2e (b' := .ofL b.esz l) y2.symm (by rw [Blk.ofL_elems, n1, y3]) (by rw [Blk.ofL_elems]; exact hown) (by rw [Blk.ofL_elems]; exact hno)
      refine ⟨promEnv E1 t k g (.ofL b.esz l), rfl, g1.trans ⟨rfl, rfl, rfl, p1, p2⟩, ?_, n1, ?_, ?_⟩
      · rw [Bs.getg_ent]
        show (E1.bs.promote t k g (.ofL b.esz l)).ent _ = _
        rw [promote_ent_glob, if_pos rfl]
      · simp [promEnv, y4]
      · simp [promEnv, y5]
    cases p
    case s v => exact fin (same rfl)
    case mp x => exact fin (same rfl)
    case ts x g off len cp => exact fin (same rfl)
    case undef => exact fin (same rfl)
    case vs b f xs => exact fin (same rfl)
    case fp b cs => exact fin (same rfl)
    case agg cs =>
      simp only [glz] at h
      split at h
      · cases h
      · rename_i l b hl
        cases h
        obtain ⟨E1, e1, g1, n1, r1⟩ := glzL_ok ih cs E l bs' hR hl
        refine ⟨E1, e1, g1, fun v hv => ?_, by simpa [PV.cells] using n1, fun j c d hc hd y hy => (r1 j c d hc hd).1 y hy⟩
        simp only [VR] at hv ⊢
        obtain ⟨a, rfl, hv⟩ := hv
        exact ⟨a, rfl, VRl_map2 n1 (fun i p q hp hq => (r1 i p q hp hq).1) hv⟩
    case tup cs =>
      simp only [glz] at h
      split at h
      · cases h
      · rename_i l b hl
        cases h
        obtain ⟨E1, e1, g1, n1, r1⟩ := glzL_ok ih cs E l bs' hR hl
        have hv : ∀ v, VR E (.tup cs) v → VR E1 (.tup l) v := fun v hv => by
          simp only [VR] at hv ⊢
          obtain ⟨a, rfl, hv⟩ := hv
          exact ⟨a, rfl, VRl_map2 n1 (fun i p q hp hq => (r1 i p q hp hq).1) hv⟩
        exact ⟨E1, e1, g1, hv, CellsTo.one rfl rfl hv⟩
    case fn f cs =>
      simp only [glz] at h
      split at h
      · cases h
      · rename_i l b hl
        cases h
        obtain ⟨E1, e1, g1, n1, r1⟩ := glzL_ok ih cs E l bs' hR hl
        have hv : ∀ v, VR E (.fn f cs) v → VR E1 (.fn f l) v := fun v hv => by
          simp only [VR] at hv ⊢
          obtain ⟨a, rfl, hv⟩ := hv
          exact ⟨a, rfl, VRl_map2 n1 (fun i p q hp hq => (r1 i p q hp hq).1) hv⟩
        exact ⟨E1, e1, g1, hv, CellsTo.one rfl rfl hv⟩
    case ifc t x =>
      simp only [glz] at h
      split at h
      · cases h
      · rename_i q' b hq
        cases h
        obtain ⟨E1, e1, g1, v1, c1⟩ := ih E x q' bs' hR hq
        have hv : ∀ v, VR E (.ifc t x) v → VR E1 (.ifc t q') v := fun v hv => by
          simp only [VR] at hv ⊢
          obtain ⟨y, rfl, hv⟩ := hv
          exact ⟨y, rfl, v1 _ hv⟩
        exact ⟨E1, e1, g1, hv, CellsTo.one rfl rfl hv⟩
    case lp r g i j =>
      cases r with
      | glob x => exact fin (same rfl)
      | loc t k =>
        simp only [glz] at h
        split at h
        · cases h
        · rename_i b hb
          split at h
          · cases h
          · rename_i l b1 hl
            split at h
            · cases h
            · rename_i b2 h2
              cases hno : noLocL l with
              | false => rw [hno] at h; cases h
              | true =>
                rw [hno] at h; cases h
                obtain ⟨E', e1, g1, k1, k2, k3, k4⟩ := blk t k g b l b1 hb hl (by rw [h2]; rfl) hno
                have hv : ∀ v, VR E (.lp (.loc t k) g i j) v → VR E' (.lp (.glob b1.glob.length) 0 i j) v := fun v hv => by
                  simp only [VR] at hv ⊢
                  obtain ⟨blk, off, rfl, g', o, hr, hgg, hu⟩ := hv
                  obtain ⟨u1, u2⟩ := hu b hb
                  refine ⟨blk, off, rfl, 0, _, Bs.getg_ent.1 k1, Nat.le_refl _, fun b' hb' => ?_⟩
                  rw [k1] at hb'; cases hb'
                  rw [k3]; exact ⟨u1, u2⟩
                exact ⟨E', e1, g1, hv, CellsTo.one rfl rfl hv⟩
    case sl r g off len =>
      cases r with
      | glob x => exact fin (same rfl)
      | loc t k =>
        simp only [glz] at h
        split at h
        · cases h
        · rename_i b hb
          split at h
          · cases h
          · rename_i l b1 hl
            split at h
            · cases h
            · rename_i b2 h2
              cases hno : noLocL l with
              | false => rw [hno] at h; cases h
              | true =>
                rw [hno] at h; cases h
                obtain ⟨E', e1, g1, k1, k2, k3, k4⟩ := blk t k g b l b1 hb hl (by rw [h2]; rfl) hno
                have hv : ∀ v, VR E (.sl (.loc t k) g off len) v → VR E' (.sl (.glob b1.glob.length) 0 off len) v := fun v hv => by
                  simp only [VR] at hv ⊢
                  obtain ⟨A, cap, rfl, hlc, g', o, hr, hgg, hu⟩ := hv
                  obtain ⟨u1, u2, u3, u4⟩ := hu b hb
                  refine ⟨A, cap, rfl, hlc, 0, _, Bs.getg_ent.1 k1, Nat.le_refl _, fun b' hb' => ?_⟩
                  rw [k1] at hb'; cases hb'
                  rw [k3, k4, Blk.ofL_elems, Blk.ofL_esz, k2]; exact ⟨u1, u2, u3, u4⟩
                exact ⟨E', e1, g1, hv, CellsTo.one rfl rfl hv⟩

end

end Go.Pm

/- PM: maps. -/

namespace Go.Pm
noncomputable section

theorem mapAt_push {bs : Bs} {m : List (Value × PV)} {x : Nat} : ({ bs with glob := bs.glob.push (.map m) } : Bs).mapAt x = if x = bs.glob.length then some m else bs.mapAt x := by
  simp only [Bs.mapAt, GL.get_push]
  by_cases h : x = bs.glob.length
  · rw [if_pos h, if_pos h]; rfl
  · rw [if_neg h, if_neg h]

theorem ent_push {bs : Bs} {m : List (Value × PV)} {r : BRef} : ({ bs with glob := bs.glob.push (.map m) } : Bs).ent r = if r = .glob bs.glob.length then some (0, none) else bs.ent r := by
  cases r with
  | loc t k => rw [if_neg (by simp)]; rfl
  | glob x =>
    simp only [Bs.ent, GL.get_push]
    by_cases h : x = bs.glob.length
    · rw [if_pos h, if_pos (by rw [h])]; rfl
    · rw [if_neg h, if_neg (by simp [h])]

def mapEnv (E : Env) (w' : World) : Env where
  w := w'
  bs := { E.bs with glob := E.bs.glob.push (.map []) }
  mu := fun r => if r = .glob E.bs.glob.length then (E.w.heap.size, 0) else E.mu r
  cap := E.cap
  Wr := fun k => E.Wr k ∨ k = E.w.heap.size
  Lent := E.Lent

/-- A map is made. -/
theorem newmap_ext {E : Env} (hR : Rel E) : Ext E (mapEnv E { E.w with heap := E.w.heap.push (.map #[] 0) }) ∧ Rel (mapEnv E { E.w with heap := E.w.heap.push (.map #[] 0) }) := by
  generalize hw : ({ E.w with heap := E.w.heap.push (.map #[] 0) } : World) = w'
  have hh : ∀ x, x < E.w.heap.size → w'.heap[x]? = E.w.heap[x]? := by
    intro x hx
    rw [← hw]
    show (E.w.heap.push _)[x]? = _
    rw [Array.getElem?_push, if_neg (by omega)]
  have hnew : w'.heap[E.w.heap.size]? = some (.map #[] 0) := by
    rw [← hw]
    show (E.w.heap.push _)[E.w.heap.size]? = _
    rw [Array.getElem?_push, if_pos rfl]
  have hs : E.w.heap.size ≤ w'.heap.size := by rw [← hw]; show _ ≤ (E.w.heap.push _).size; simp
  have hsl : E.w.heap.size < w'.heap.size := by rw [← hw]; show _ < (E.w.heap.push _).size; simp
  have hold : ∀ r g o, E.bs.ent r = some (g, o) → r ≠ .glob E.bs.glob.length := by
    rintro r g o h rfl
    simp [Bs.ent] at h
  have hmO : ∀ r, r ≠ .glob E.bs.glob.length → (mapEnv E w').mu r = E.mu r := fun r h => by simp [mapEnv, h]
  have hmapO : ∀ x, (E.bs.mapAt x).isSome = true → x ≠ E.bs.glob.length := by
    rintro x h rfl
    simp [Bs.mapAt] at h
  have hext : Ext E (mapEnv E w') := by
    refine ⟨⟨by rw [← hw]; rfl, by rw [← hw]; rfl, by rw [← hw]; rfl, hs, fun x hx _ => hh x hx, fun x hx h => ?_, fun x => Iff.rfl, fun x hm => ?_⟩, fun r g o hr => ?_⟩
    · rcases h with h | rfl
      · exact h
      · omega
    · have hne := hmapO x hm
      exact ⟨by rw [show (mapEnv E w').bs.mapAt x = _ from mapAt_push, if_neg hne]; exact hm, hmO _ (by simp [hne])⟩
    · have hne := hold r g o hr
      exact ⟨g, o, by rw [show (mapEnv E w').bs.ent r = _ from ent_push, if_neg hne]; exact hr, Nat.le_refl _, fun _ b2 hb2 => ⟨b2, hb2, rfl, rfl, hmO r hne, rfl⟩⟩
  have f : ∀ r g b, (mapEnv E w').bs.ent r = some (g, some b) → r ≠ .glob E.bs.glob.length ∧ E.bs.ent r = some (g, some b) := by
    intro r g b h
    rw [show (mapEnv E w').bs.ent r = _ from ent_push] at h
    by_cases e : r = .glob E.bs.glob.length
    · rw [if_pos e] at h; cases h
    · rw [if_neg e] at h; exact ⟨e, h⟩
  have hb' : ∀ r g b, E.bs.ent r = some (g, some b) → 0 < E.cap r → w'.heap[(E.mu r).1]? = E.w.heap[(E.mu r).1]? := fun r g b hr hc => hh _ (hR.lt _ (hR.phys r g b hr hc).2.1)
  refine ⟨hext, ?_⟩
  constructor
  · intro r g b h; obtain ⟨_, h'⟩ := f r g b h; exact hR.len r g b h'
  · intro r g b h hc
    obtain ⟨hne, h'⟩ := f r g b h
    obtain ⟨h1, h2, cs, ty, h3, h4⟩ := hR.phys r g b h' hc
    rw [hmO r hne]
    exact ⟨h1, .inl h2, cs, ty, (hb' r g b h' hc).trans h3, h4⟩
  · intro r g b h i p hp
    obtain ⟨hne, h'⟩ := f r g b h
    obtain ⟨h1, h2⟩ := hR.own r g b h' i p hp
    have := hR.len r g b h'
    have := lt_len hp
    rw [hmO r hne]
    exact ⟨h1, fun j c hc => by
      obtain ⟨cs', ty', y, h3, hy, hv⟩ := h2 j c hc
      exact ⟨cs', ty', y, (hb' r g b h' (by omega)).trans h3, hy, VR_ext hext hv⟩⟩
  · intro r r' g g' b b' h h' hc hc' hm
    obtain ⟨hne, h1⟩ := f r g b h
    obtain ⟨hne', h1'⟩ := f r' g' b' h'
    rw [hmO r hne, hmO r' hne'] at hm
    exact hR.inj _ _ _ _ _ _ h1 h1' hc hc' hm
  · intro k hk
    rcases hk with hk | rfl
    · exact Nat.lt_of_lt_of_le (hR.lt k hk) hs
    · exact hsl
  · intro k hk; exact Nat.lt_of_lt_of_le (hR.llt k hk) hs
  · intro k hk hl
    rcases hk with hk | rfl
    · exact hR.apart k hk hl
    · have := hR.llt _ hl; omega
  · intro r g b h; obtain ⟨_, h'⟩ := f r g b h; exact hR.gl r g b h'
  · intro x l hl
    rw [show (mapEnv E w').bs.mapAt x = _ from mapAt_push] at hl
    by_cases e : x = E.bs.glob.length
    · rw [if_pos e] at hl
      cases hl
      subst e
      have : (mapEnv E w').mu (.glob E.bs.glob.length) = (E.w.heap.size, 0) := by simp [mapEnv]
      rw [this]
      exact ⟨.inr rfl, #[], 0, hnew, ⟨rfl, MapKept.stamped_empty 0⟩, fun i k p h => by simp at h⟩
    · rw [if_neg e] at hl
      obtain ⟨h0, es, c, h1, h2, h3⟩ := hR.mps x l hl
      rw [hmO _ (by simp [e])]
      refine ⟨.inl h0, es, c, (hh _ (hR.lt _ h0)).trans h1, h2, fun i k p hp => ?_⟩
      obtain ⟨z1, e', z2, z3, z4⟩ := h3 i k p hp
      exact ⟨z1, e', z2, z3, VR_ext hext z4⟩
  · intro x y hx hy hm
    rw [show (mapEnv E w').bs.mapAt x = _ from mapAt_push] at hx
    rw [show (mapEnv E w').bs.mapAt y = _ from mapAt_push] at hy
    have hlt : ∀ z, (E.bs.mapAt z).isSome = true → (E.mu (.glob z)).1 < E.w.heap.size := fun z hz => by
      obtain ⟨l, hl⟩ := Option.isSome_iff_exists.1 hz
      exact hR.lt _ (hR.mps z l hl).1
    have hN : (mapEnv E w').mu (.glob E.bs.glob.length) = (E.w.heap.size, 0) := by simp [mapEnv]
    by_cases ex : x = E.bs.glob.length <;> by_cases ey : y = E.bs.glob.length
    · rw [ex, ey]
    · rw [if_neg ey] at hy
      rw [ex, hN, hmO _ (by simp [ey])] at hm
      have := hlt y hy
      simp only at hm; omega
    · rw [if_neg ex] at hx
      rw [ey, hN, hmO _ (by simp [ex])] at hm
      have := hlt x hx
      simp only at hm; omega
    · rw [if_neg ex] at hx
      rw [if_neg ey] at hy
      rw [hmO _ (by simp [ex]), hmO _ (by simp [ey])] at hm
      exact hR.minj x y hx hy hm

def Bs.setMap (bs : Bs) (x : Nat) (l : List (Value × PV)) : Bs := { bs with glob := bs.glob.set x (.map l) }

theorem mapAt_lt {bs : Bs} {x : Nat} {l : List (Value × PV)} (h : bs.mapAt x = some l) : x < bs.glob.length ∧ bs.glob[x]? = some (.map l) := by
  simp only [Bs.mapAt, Option.bind_eq_some_iff] at h
  obtain ⟨y, hy, e⟩ := h
  refine ⟨GL.lt_of_get hy, ?_⟩
  cases y <;> simp [GE.map?] at e
  rw [hy, e]

theorem mapAt_set {bs : Bs} {x y : Nat} {l l' : List (Value × PV)} (h : bs.mapAt x = some l) : (bs.setMap x l').mapAt y = if y = x then some l' else bs.mapAt y := by
  obtain ⟨hx, _⟩ := mapAt_lt h
  simp only [Bs.setMap, Bs.mapAt]
  by_cases e : y = x
  · subst e; rw [if_pos rfl, GL.get_set_self hx]; rfl
  · rw [if_neg e, GL.get_set_ne (Ne.symm e)]

theorem ent_setMap {bs : Bs} {x : Nat} {l l' : List (Value × PV)} (h : bs.mapAt x = some l) (r : BRef) : (bs.setMap x l').ent r = bs.ent r := by
  obtain ⟨hx, hl⟩ := mapAt_lt h
  cases r with
  | loc t k => rfl
  | glob y =>
    simp only [Bs.setMap, Bs.ent]
    by_cases e : y = x
    · subst e; rw [GL.get_set_self hx, hl]; rfl
    · rw [GL.get_set_ne (Ne.symm e)]

def setEnv (E : Env) (x : Nat) (l' : List (Value × PV)) (o : Obj) : Env :=
  { E with w := { E.w with heap := E.w.heap.setIfInBounds (E.mu (.glob x)).1 o }, bs := E.bs.setMap x l' }

/-- A map is written. -/
theorem setmap_ext {E : Env} (hR : Rel E) {x : Nat} {l l' : List (Value × PV)} (hx : E.bs.mapAt x = some l) {es : Array MapEntry} {clock : Nat} (hsz : es.size = l'.length ∧ MapKept.Stamped es clock)
    (hv : ∀ (i : Nat) k p, l'[i]? = some (k, p) → noLoc p = true ∧ ∃ e, es[i]? = some e ∧ e.key = k ∧ VR E p e.val) :
    Ext E (setEnv E x l' (.map es clock)) ∧ Rel (setEnv E x l' (.map es clock)) := by
  obtain ⟨hwx, es0, c0, hh0, _, _⟩ := hR.mps x l hx
  have hxs : (E.bs.mapAt x).isSome = true := by rw [hx]; rfl
  have hlx := hR.lt _ hwx
  have hh : ∀ b, b ≠ (E.mu (.glob x)).1 → (setEnv E x l' (.map es clock)).w.heap[b]? = E.w.heap[b]? := by
    intro b hb
    show (E.w.heap.setIfInBounds _ _)[b]? = _
    rw [Array.getElem?_setIfInBounds_ne (Ne.symm hb)]
  have hnew : (setEnv E x l' (.map es clock)).w.heap[(E.mu (.glob x)).1]? = some (.map es clock) := by
    show (E.w.heap.setIfInBounds _ _)[_]? = _
    rw [Array.getElem?_setIfInBounds_self_of_lt hlx]
  have hbs : ∀ r, (setEnv E x l' (.map es clock)).bs.ent r = E.bs.ent r := fun r => ent_setMap hx r
  have hmp : ∀ y, (setEnv E x l' (.map es clock)).bs.mapAt y = if y = x then some l' else E.bs.mapAt y := fun y => mapAt_set hx
  have hext : Ext E (setEnv E x l' (.map es clock)) := by
    refine ⟨⟨rfl, rfl, rfl, by show _ ≤ (E.w.heap.setIfInBounds _ _).size; simp, fun b _ hb => hh b (by rintro rfl; exact hb hwx), fun b _ h => h, fun b => Iff.rfl, fun y hy => ⟨?_, rfl⟩⟩, fun r g o hr => ⟨g, o, by rw [hbs]; exact hr, Nat.le_refl _, fun _ b2 hb2 => ⟨b2, hb2, rfl, rfl, rfl, rfl⟩⟩⟩
    rw [hmp]
    by_cases e : y = x
    · rw [if_pos e]; rfl
    · rw [if_neg e]; exact hy
  have hcell : ∀ r g b, E.bs.ent r = some (g, some b) → 0 < E.cap r → (setEnv E x l' (.map es clock)).w.heap[(E.mu r).1]? = E.w.heap[(E.mu r).1]? := fun r g b hr hc => hh _ (map_ne hR hxs hr hc)
  refine ⟨hext, ?_⟩
  constructor
  · intro r g b h; rw [hbs] at h; exact hR.len r g b h
  · intro r g b h hc
    rw [hbs] at h
    obtain ⟨h1, h2, cs, ty, h3, h4⟩ := hR.phys r g b h hc
    exact ⟨h1, h2, cs, ty, (hcell r g b h hc).trans h3, h4⟩
  · intro r g b h i p hp
    rw [hbs] at h
    obtain ⟨h1, h2⟩ := hR.own r g b h i p hp
    have := hR.len r g b h
    have := lt_len hp
    exact ⟨h1, fun j c hc => by
      obtain ⟨cs', ty', y, h3, hy, hv⟩ := h2 j c hc
      exact ⟨cs', ty', y, (hcell r g b h (by omega)).trans h3, hy, VR_ext hext hv⟩⟩
  · intro r r' g g' b b' h h' hc hc' hm
    rw [hbs] at h h'
    exact hR.inj _ _ _ _ _ _ h h' hc hc' hm
  · intro k hk; exact Nat.lt_of_lt_of_le (hR.lt k hk) hext.size
  · intro k hk; exact Nat.lt_of_lt_of_le (hR.llt k hk) hext.size
  · exact hR.apart
  · intro r g b h; rw [hbs] at h; exact hR.gl r g b h
  · intro y m hm
    rw [hmp] at hm
    by_cases e : y = x
    · rw [if_pos e] at hm
      cases hm
      subst e
      refine ⟨hwx, es, clock, hnew, hsz, fun i k p hp => ?_⟩
      obtain ⟨z1, e, z2, z3, z4⟩ := hv i k p hp
      exact ⟨z1, e, z2, z3, VR_ext hext z4⟩
    · rw [if_neg e] at hm
      obtain ⟨h0, es1, c, h1, h2, h3⟩ := hR.mps y m hm
      refine ⟨h0, es1, c, (hh _ fun he => e (hR.minj y x (by rw [hm]; rfl) hxs he)).trans h1, h2, fun i k p hp => ?_⟩
      obtain ⟨z1, e', z2, z3, z4⟩ := h3 i k p hp
      exact ⟨z1, e', z2, z3, VR_ext hext z4⟩
  · intro y z hy hz hm
    have g : ∀ y, ((setEnv E x l' (.map es clock)).bs.mapAt y).isSome = true → (E.bs.mapAt y).isSome = true := by
      intro y hy
      rw [hmp] at hy
      by_cases e : y = x
      · rw [e]; exact hxs
      · rw [if_neg e] at hy; exact hy
    exact hR.minj y z (g y hy) (g z hz) hm

/-- The place of a key, among keys that can be told apart at once. -/
def pFind (d : TypeDesc) (k : Value) : List (Value × PV) → Nat → Option (Option (Nat × PV))
  | [], _ => some none
  | e :: r, i => match Instr.sameNow d k e.1 with
    | some true => some (some (i, e.2))
    | some false => pFind d k r (i + 1)
    | none => none

theorem pFind_run {E : Env} {d : TypeDesc} {k : Value} : ∀ {l : List (Value × PV)} {es : List MapEntry} {i : Nat} {r : Option (Nat × PV)},
    es.length = l.length → (∀ (j : Nat) k p, l[j]? = some (k, p) → ∃ e, es[j]? = some e ∧ e.key = k ∧ VR E p e.val) → pFind d k l i = some r →
    match r with
    | none => Instr.findNow d k es i = some none
    | some (j, p) => i ≤ j ∧ ∃ e, es[j - i]? = some e ∧ l[j - i]? = some (e.key, p) ∧ VR E p e.val ∧ Instr.sameNow d k e.key = some true ∧ Instr.findNow d k es i = some (some (j, e.val))
  | [], es, i, r, hl, _, h => by
    have : es = [] := by simpa using hl
    subst this
    simp only [pFind] at h; cases h
    rfl
  | (k0, p0) :: l, es, i, r, hl, hv, h => by
    match es, hl with
    | e :: es, hl =>
      obtain ⟨e', he, hk, hp⟩ := hv 0 k0 p0 rfl
      simp at he; subst he
      simp only [pFind] at h
      simp only [Instr.findNow, hk]
      split at h
      · rename_i hs
        cases h
        rw [hs]
        exact ⟨Nat.le_refl _, e, by simp, by simp [hk], hp, by rw [hk]; exact hs, rfl⟩
      · rename_i hs
        rw [hs]
        have ih := pFind_run (E := E) (es := es) (by simpa using hl) (fun j k p hj => by
          obtain ⟨e, h1, h2⟩ := hv (j + 1) k p (by simpa using hj)
          exact ⟨e, by simpa using h1, h2⟩) h
        cases r with
        | none => exact ih
        | some x =>
          obtain ⟨j, p⟩ := x
          obtain ⟨h1, e2, h2, h3, h4, h5, h6⟩ := ih
          refine ⟨by omega, e2, ?_, ?_, h4, h5, h6⟩
          · rw [show j - i = (j - (i + 1)) + 1 by omega]; simpa using h2
          · rw [show j - i = (j - (i + 1)) + 1 by omega]; simpa using h3
      · cases h

theorem sameNow_refl {d : TypeDesc} {k : Value} {b : Bool} (h : Instr.sameNow d k k = some b) : b = true := by
  unfold Instr.sameNow at h
  split at h
  · simp_all
  · simp only [Option.some.injEq] at h
    rw [← h]
    rename_i a
    cases a
    exact beq_self_eq_true (α := Array UInt8) _
  · simp_all
  · cases h

theorem findNow_none {d : TypeDesc} {k : Value} : ∀ {es : List MapEntry} {i : Nat}, Instr.findNow d k es i = some none → ∀ x ∈ es, x.key ≠ k
  | [], _, _, x, hx => by cases hx
  | e :: es, i, h, x, hx => by
    simp only [Instr.findNow] at h
    split at h
    · cases h
    · rename_i hs
      rcases List.mem_cons.1 hx with rfl | hx
      · intro he
        rw [he] at hs
        have := sameNow_refl hs
        cases this
      · exact findNow_none h x hx
    · cases h

def simpleKey : TypeDesc → Bool
  | .bool => true
  | .int _ => true
  | .string => true
  | _ => false

theorem checkKey_run {T : Tbl} {P : Program} (hT : T.Ok P) {kt : TypeId} {d : TypeDesc} (hk : T.und kt = some d) (hs : simpleKey d = true) (b : Bool) (n : Nat) (v : Value) (w : World) :
    (Instr.checkKey b (n + 1) kt v).run P w = .ok () w := by
  simp only [Instr.checkKey, Sem.run_bind, hT.run_und hk, Result.andThen_ok]
  cases d <;> simp [simpleKey] at hs <;> simp

/-- What a map holds: its entries, where it is known. -/
def entriesOf (bs : Bs) : PV → Option (List (Value × PV))
  | .mp x => bs.mapAt x
  | .s (.map none) => some []
  | _ => none

def popLookup (T : Tbl) (bs : Bs) (t : TypeId) (m k : PV) (ok : Bool) : Option PV :=
  match T.und t with
  | some (.map kt et) => match T.und kt, entriesOf bs m, toVal k with
    | some d, some l, some kv => bif simpleKey d then
        (match pFind d kv l 0 with
        | some (some (_, p)) => some (bif ok then .tup [p, .s (.bool true)] else p)
        | some none => match T.zero et with
          | some z => some (bif ok then .tup [ofVal z, .s (.bool false)] else ofVal z)
          | none => none
        | none => none)
      else none
    | _, _, _ => none
  | _ => none

theorem popLookup_run {T : Tbl} {P : Program} (hT : T.Ok P) {E : Env} (hR : Rel E) {t : TypeId} {m k pv : PV} {um uk : Value} {ok : Bool} (hm : VR E m um) (hk : VR E k uk)
    (h : popLookup T E.bs t m k ok = some pv) : ∃ v, (Instr.lookup t um uk ok).run P E.w = .ok v E.w ∧ VR E pv v := by
  unfold popLookup at h
  split at h
  · rename_i kt et ht
    split at h
    · rename_i d l kv hd hl hkv
      have ek := toVal_VR hk hkv
      subst ek
      cases hs : simpleKey d with
      | false => rw [hs] at h; cases h
      | true =>
        rw [hs] at h
        simp only [cond_true] at h
        have fin : ∀ (es : Array MapEntry), es.size = l.length → (∀ (j : Nat) k p, l[j]? = some (k, p) → ∃ e, es.toList[j]? = some e ∧ e.key = k ∧ VR E p e.val) →
            (∃ v, (do
              Instr.checkKey es.isEmpty 10000 kt uk
              let (v, o) ← match ← Instr.findKey kt uk es.toList with
                | some (_, v) => pure (v, true)
                | none => pure (← zeroValue et, false)
              pure (if ok then .tuple #[v, .bool o] else v) : Sem Value).run P E.w = .ok v E.w ∧ VR E pv v) := by
          intro es e1 e2
          have hck := checkKey_run (P := P) hT hd hs es.isEmpty 9999 uk E.w
          have hck' : (Instr.checkKey es.isEmpty 10000 kt uk).run P E.w = .ok () E.w := hck
          split at h
          · rename_i j p hf
            cases h
            obtain ⟨_, e, _, _, z4, _, z6⟩ := pFind_run (E := E) (es := es.toList) (by simpa using e1) e2 hf
            have hfk : (Instr.findKey kt uk es.toList).run P E.w = .ok (some (j, e.val)) E.w := by
              simp [Instr.findKey, hT.run_und hd, z6]
            refine ⟨if ok then .tuple #[e.val, .bool true] else e.val, ?_, ?_⟩
            · simp only [Sem.run_bind, hck', hfk, Result.andThen_ok, Sem.run_pure]
            · cases ok
              · exact z4
              · simp only [cond_true, if_true, VR]
                exact ⟨[e.val, .bool true], rfl, VRl_cons.2 ⟨z4, VRl_cons.2 ⟨by simp [VR, Value.oneCell'], VRl_nil⟩⟩⟩
          · rename_i hf
            have z6 := pFind_run (E := E) (es := es.toList) (by simpa using e1) e2 hf
            simp only at z6
            have hfk : (Instr.findKey kt uk es.toList).run P E.w = .ok none E.w := by
              simp [Instr.findKey, hT.run_und hd, z6]
            split at h
            · rename_i z hz
              cases h
              refine ⟨if ok then .tuple #[z, .bool false] else z, ?_, ?_⟩
              · simp only [Sem.run_bind, hck', hfk, Result.andThen_ok, Sem.run_pure, hT.run_zero hz]
              · cases ok
                · exact VR_ofVal E z
                · simp only [cond_true, if_true, VR]
                  exact ⟨[z, .bool false], rfl, VRl_cons.2 ⟨VR_ofVal E z, VRl_cons.2 ⟨by simp [VR, Value.oneCell'], VRl_nil⟩⟩⟩
            · cases h
          · cases h
        unfold entriesOf at hl
        split at hl
        · rename_i x
          obtain ⟨_, es, c, h1, h2, h3⟩ := hR.mps x l hl
          simp only [VR] at hm
          obtain ⟨rfl, _⟩ := hm
          obtain ⟨v, hv1, hv2⟩ := fin es h2.1 fun j k p hj => by
            obtain ⟨_, e, z2, z3⟩ := h3 j k p hj
            exact ⟨e, by simpa using z2, z3⟩
          refine ⟨v, ?_, hv2⟩
          have hg : (getObj (E.mu (.glob x)).1).run P E.w = .ok (.map es c) E.w := by simp [getObj, Sem.run, h1]
          simp only [Instr.lookup, Sem.run_bind, hT.run_und ht, Result.andThen_ok, hg, Sem.run_pure] at hv1 ⊢
          exact hv1
        · cases hl
          simp only [VR] at hm
          obtain ⟨rfl, _⟩ := hm
          obtain ⟨v, hv1, hv2⟩ := fin #[] rfl fun j k p hj => by simp at hj
          refine ⟨v, ?_, hv2⟩
          simp only [Instr.lookup, Sem.run_bind, hT.run_und ht, Result.andThen_ok, Sem.run_pure] at hv1 ⊢
          exact hv1
        · cases hl
    · cases h
  · cases h

def popMakeMap (T : Tbl) (bs : Bs) (t : TypeId) (reserve : Option PV) : Option (PV × Bs) :=
  match T.und t, reserve with
  | some (.map _ _), none => some (.mp bs.glob.length, { bs with glob := bs.glob.push (.map []) })
  | some (.map _ _), some (.s (.int _ _)) => some (.mp bs.glob.length, { bs with glob := bs.glob.push (.map []) })
  | _, _ => none

theorem popMakeMap_run {T : Tbl} {P : Program} (hT : T.Ok P) {E : Env} (hR : Rel E) {t : TypeId} {reserve : Option PV} {ur : Option Value} {pv : PV} {bs' : Bs}
    (hr : ∀ p, reserve = some p → ∃ u, ur = some u ∧ VR E p u) (hn : reserve = none → ur = none) (h : popMakeMap T E.bs t reserve = some (pv, bs')) :
    ∃ (E' : Env) (u : Value), (Instr.makeMap t ur).run P E.w = .ok u E'.w ∧ E'.bs = bs' ∧ VR E' pv u ∧ Ext E E' ∧ Rel E' := by
  obtain ⟨x1, x2⟩ := newmap_ext hR
  have fin : ∀ (hrun : (Instr.makeMap t ur).run P E.w = .ok (.map (some E.w.heap.size)) { E.w with heap := E.w.heap.push (.map #[] 0) }),
      some (PV.mp E.bs.glob.length, ({ E.bs with glob := E.bs.glob.push (.map []) } : Bs)) = some (pv, bs') →
      ∃ (E' : Env) (u : Value), (Instr.makeMap t ur).run P E.w = .ok u E'.w ∧ E'.bs = bs' ∧ VR E' pv u ∧ Ext E E' ∧ Rel E' := by
    intro hrun he
    cases he
    refine ⟨mapEnv E { E.w with heap := E.w.heap.push (.map #[] 0) }, .map (some E.w.heap.size), hrun, rfl, ?_, x1, x2⟩
    simp only [VR]
    refine ⟨by simp [mapEnv], ?_⟩
    rw [show (mapEnv E { E.w with heap := E.w.heap.push (.map #[] 0) }).bs.mapAt E.bs.glob.length = _ from mapAt_push, if_pos rfl]
    rfl
  unfold popMakeMap at h
  split at h
  · rename_i hd
    refine fin ?_ h
    rw [hn rfl]
    simp [Instr.makeMap, newObj, Sem.run]
  · rename_i k n hd
    obtain ⟨u, rfl, hu⟩ := hr _ rfl
    simp only [VR] at hu
    obtain ⟨rfl, _⟩ := hu
    refine fin ?_ h
    simp [Instr.makeMap, newObj, Sem.run, hT.run_und hd, asInt, asIntOf]
  · cases h

def isIntV : Value → Bool
  | .int _ _ => true
  | _ => false

def popMapUpdate (T : Tbl) (bs : Bs) (t : TypeId) (m k v : PV) : Option Bs :=
  match T.und t, m with
  | some (.map kt _), .mp x => match bs.mapAt x, T.und kt, toVal k with
    | some l, some d, some kv => bif simpleKey d && noLoc v then
        (match pFind d kv l 0 with
        | some none => some (bs.setMap x (l ++ [(kv, v)]))
        | some (some (j, _)) => bif isIntV kv then some (bs.setMap x (l.set j (kv, v))) else none
        | none => none)
      else none
    | _, _, _ => none
  | _, _ => none

theorem popMapUpdate_run {T : Tbl} {P : Program} (hT : T.Ok P) {E : Env} (hR : Rel E) {t : TypeId} {m k v : PV} {um uk uv : Value} {bs' : Bs} (hm : VR E m um) (hk : VR E k uk) (hv : VR E v uv)
    (h : popMapUpdate T E.bs t m k v = some bs') : ∃ E' : Env, (Instr.mapUpdate t um uk uv).run P E.w = .ok () E'.w ∧ E'.bs = bs' ∧ Ext E E' ∧ Rel E' := by
  unfold popMapUpdate at h
  split at h
  · rename_i kt et x ht
    split at h
    · rename_i l d kv hl hd hkv
      have ek := toVal_VR hk hkv
      subst ek
      cases hb : simpleKey d && noLoc v with
      | false => rw [hb] at h; cases h
      | true =>
        rw [hb] at h
        simp only [cond_true] at h
        simp only [Bool.and_eq_true] at hb
        obtain ⟨hs, hno⟩ := hb
        obtain ⟨_, es, c, h1, h2, h3⟩ := hR.mps x l hl
        simp only [VR] at hm
        obtain ⟨rfl, _⟩ := hm
        have hg : (getObj (E.mu (.glob x)).1).run P E.w = .ok (.map es c) E.w := by simp [getObj, Sem.run, h1]
        have hset : ∀ o, (setObj (E.mu (.glob x)).1 o).run P E.w = .ok () { E.w with heap := E.w.heap.setIfInBounds (E.mu (.glob x)).1 o } := fun o => by simp [setObj, Sem.run, h1]
        have hck : (Instr.checkKey false 10000 kt uk).run P E.w = .ok () E.w := checkKey_run (P := P) hT hd hs false 9999 uk E.w
        have e2 : ∀ (j : Nat) k p, l[j]? = some (k, p) → ∃ e, es.toList[j]? = some e ∧ e.key = k ∧ VR E p e.val := fun j k p hj => by
          obtain ⟨_, e, z2, z3⟩ := h3 j k p hj
          exact ⟨e, by simpa using z2, z3⟩
        split at h
        · rename_i hf
          cases h
          have z6 := pFind_run (E := E) (es := es.toList) (by simpa using h2.1) e2 hf
          simp only at z6
          have hfk : (Instr.findKey kt uk es.toList).run P E.w = .ok none E.w := by
            simp [Instr.findKey, hT.run_und hd, z6]
          obtain ⟨y1, y2⟩ := setmap_ext hR hl (es := es.push ⟨uk, uv, c⟩) (clock := c + 1) (l' := l ++ [(uk, v)]) ⟨by simp [h2.1], MapKept.stamped_push h2.2 (findNow_none z6)⟩ (fun i k p hp => by
            by_cases hi : i < l.length
            · rw [List.getElem?_append_left hi] at hp
              obtain ⟨z1, e, z2, z3⟩ := h3 i k p hp
              exact ⟨z1, e, by rw [Array.getElem?_push, if_neg (by have := h2.1; omega)]; exact z2, z3⟩
            · have hil := lt_len hp
              simp at hil
              have : i = l.length := by omega
              subst this
              simp at hp
              obtain ⟨rfl, rfl⟩ := hp
              exact ⟨hno, ⟨uk, uv, c⟩, by rw [← h2.1]; simp, rfl, hv⟩)
          refine ⟨_, ?_, rfl, y1, y2⟩
          simp only [Instr.mapUpdate, Sem.run_bind, hT.run_und ht, Result.andThen_ok, hg, hck, hfk, hset]
          rfl
        · rename_i j p hf
          cases hi : isIntV uk with
          | false => rw [hi] at h; cases h
          | true =>
            rw [hi] at h
            cases h
            obtain ⟨_, e, z2, z3, z4, z5, z6⟩ := pFind_run (E := E) (es := es.toList) (by simpa using h2.1) e2 hf
            have hfk : (Instr.findKey kt uk es.toList).run P E.w = .ok (some (j, e.val)) E.w := by
              simp [Instr.findKey, hT.run_und hd, z6]
            have hkey : e.key = uk := by
              cases uk <;> simp [isIntV] at hi
              rename_i ki n
              unfold Instr.sameNow at z5
              split at z5 <;> simp_all
            have hj : es[j]? = some e := by simpa using z2
            have hstay : (Instr.keyThatStays e.key uk).run P E.w = .ok uk E.w := by
              rw [hkey]
              have : Instr.sameBits 10000 uk uk = true := by
                cases uk <;> simp [isIntV] at hi
                simp [Instr.sameBits]
              simp [Instr.keyThatStays, this]
            obtain ⟨y1, y2⟩ := setmap_ext hR hl (es := es.modify j fun e => { e with key := uk, val := uv }) (clock := c) (l' := l.set j (uk, v)) ⟨by simp [h2.1], MapKept.stamped_modify h2.2 j _ (fun e _ => rfl) (fun e' _ he' => by rw [hj] at he'; cases he'; exact hkey.symm)⟩ (fun i k p hp => by
              have hil := lt_len hp
              simp at hil
              by_cases hij : j = i
              · subst hij
                rw [List.getElem?_set_self (by omega)] at hp
                cases hp
                exact ⟨hno, { e with key := uk, val := uv }, by rw [Array.getElem?_modify, if_pos rfl, hj]; rfl, rfl, hv⟩
              · rw [List.getElem?_set_ne hij] at hp
                obtain ⟨z1, e', z2', z3'⟩ := h3 i k p hp
                exact ⟨z1, e', by rw [Array.getElem?_modify, if_neg hij]; exact z2', z3'⟩)
            refine ⟨_, ?_, rfl, y1, y2⟩
            simp only [Instr.mapUpdate, Sem.run_bind, hT.run_und ht, Result.andThen_ok, hg, hck, hfk, hj, Option.map_some, Option.getD_some, hstay, hset]
            rfl
        · cases h
    · cases h
  · cases h

end

end Go.Pm

/- PM: a key taken out of a map. -/

namespace Go.Pm
noncomputable section

def popDelete (T : Tbl) (bs : Bs) (t : TypeId) (m k : PV) : Option Bs :=
  match T.und t, m with
  | some (.map kt _), .mp x => match bs.mapAt x, T.und kt, toVal k with
    | some l, some d, some kv => bif simpleKey d then
        (match pFind d kv l 0 with
        | some none => some (bs.setMap x l)
        | some (some (j, _)) => some (bs.setMap x (l.eraseIdx j))
        | none => none)
      else none
    | _, _, _ => none
  | _, _ => none

theorem popDelete_run {T : Tbl} {P : Program} (hT : T.Ok P) {E : Env} (hR : Rel E) {t kT ty : TypeId} {m k : PV} {um uk : Value} {bs' : Bs} (hm : VR E m um) (hk : VR E k uk)
    (h : popDelete T E.bs t m k = some bs') : ∃ E' : Env, (Builtin.delete_ #[t, kT] ty #[um, uk]).run P E.w = .ok (.tuple #[]) E'.w ∧ E'.bs = bs' ∧ Ext E E' ∧ Rel E' := by
  unfold popDelete at h
  split at h
  · rename_i kt et x ht
    split at h
    · rename_i l d kv hl hd hkv
      have ek := toVal_VR hk hkv
      subst ek
      cases hs : simpleKey d with
      | false => rw [hs] at h; cases h
      | true =>
        rw [hs] at h
        simp only [cond_true] at h
        obtain ⟨_, es, c, h1, h2, h3⟩ := hR.mps x l hl
        simp only [VR] at hm
        obtain ⟨rfl, _⟩ := hm
        have hg : (getObj (E.mu (.glob x)).1).run P E.w = .ok (.map es c) E.w := by simp [getObj, Sem.run, h1]
        have hset : ∀ o, (setObj (E.mu (.glob x)).1 o).run P E.w = .ok () { E.w with heap := E.w.heap.setIfInBounds (E.mu (.glob x)).1 o } := fun o => by simp [setObj, Sem.run, h1]
        have hck : (Instr.checkKey es.isEmpty 10000 kt uk).run P E.w = .ok () E.w := checkKey_run (P := P) hT hd hs es.isEmpty 9999 uk E.w
        have e2 : ∀ (j : Nat) k p, l[j]? = some (k, p) → ∃ e, es.toList[j]? = some e ∧ e.key = k ∧ VR E p e.val := fun j k p hj => by
          obtain ⟨_, e, z2, z3⟩ := h3 j k p hj
          exact ⟨e, by simpa using z2, z3⟩
        split at h
        · rename_i hf
          cases h
          have z6 := pFind_run (E := E) (es := es.toList) (by simpa using h2.1) e2 hf
          simp only at z6
          have hfk : (Instr.findKey kt uk es.toList).run P E.w = .ok none E.w := by
            simp [Instr.findKey, hT.run_und hd, z6]
          obtain ⟨y1, y2⟩ := setmap_ext hR hl (es := es) (clock := c) (l' := l) h2 h3
          refine ⟨_, ?_, rfl, y1, y2⟩
          simp only [Builtin.delete_, List.getElem?_toArray, List.getElem?_cons_zero, List.getElem?_cons_succ, Sem.run_bind, hT.run_und ht, Result.andThen_ok, hg, hck, hfk, hset]
          rfl
        · rename_i j p hf
          cases h
          obtain ⟨_, e, z2, z3, z4, z5, z6⟩ := pFind_run (E := E) (es := es.toList) (by simpa using h2.1) e2 hf
          have hfk : (Instr.findKey kt uk es.toList).run P E.w = .ok (some (j, e.val)) E.w := by
            simp [Instr.findKey, hT.run_und hd, z6]
          have hj : j < l.length := by simpa using lt_len z3
          obtain ⟨y1, y2⟩ := setmap_ext hR hl (es := es.eraseIdxIfInBounds j) (clock := c) (l' := l.eraseIdx j) ⟨by
              rw [← Array.length_toList, Array.toList_eraseIdxIfInBounds, List.length_eraseIdx, List.length_eraseIdx, Array.length_toList, h2.1], MapKept.stamped_erase h2.2 j⟩ (fun i k p hp => by
            rw [← Array.getElem?_toList, Array.toList_eraseIdxIfInBounds, List.getElem?_eraseIdx]
            rw [List.getElem?_eraseIdx] at hp
            split at hp
            · rename_i hij
              rw [if_pos hij, Array.getElem?_toList]
              exact h3 i k p hp
            · rename_i hij
              rw [if_neg hij, Array.getElem?_toList]
              exact h3 (i + 1) k p hp)
          refine ⟨_, ?_, rfl, y1, y2⟩
          simp only [Builtin.delete_, List.getElem?_toArray, List.getElem?_cons_zero, List.getElem?_cons_succ, Sem.run_bind, hT.run_und ht, Result.andThen_ok, hg, hck, hfk, hset]
          rfl
        · cases h
    · cases h
  · cases h

end

end Go.Pm

/- PM: calls that turn nothing: what they are handed is lent, what they hand back is frozen. -/

namespace Go.Pm
noncomputable section

def turnEnv (E : Env) (w' : World) : Env := { E with w := w' }

/-- A world that has grown. -/
structure Grown (w w' : World) : Prop where
  os : w'.os = w.os
  tape : w'.tape = w.tape
  output : w'.output = w.output
  size : w.heap.size ≤ w'.heap.size
  same : ∀ b, b < w.heap.size → w'.heap[b]? = w.heap[b]?

theorem ext_grown {E : Env} {w' : World} (h : Grown E.w w') : Ext E (turnEnv E w') :=
  ⟨⟨h.os, h.tape, h.output, h.size, fun b hb _ => h.same b hb, fun _ _ x => x, fun _ => Iff.rfl, fun _ x => ⟨x, rfl⟩⟩, fun _ g o hr => ⟨g, o, hr, Nat.le_refl _, fun _ b hb => ⟨b, hb, rfl, rfl, rfl, rfl⟩⟩⟩

theorem hlt {w : World} {b : Nat} {o : Obj} (h : w.heap[b]? = some o) : b < w.heap.size := (Array.getElem?_eq_some_iff.1 h).1

theorem Rel_grown {E : Env} {w' : World} (h : Grown E.w w') (hR : Rel E) : Rel (turnEnv E w') where
  len := hR.len
  phys r g b hr hc := by
    obtain ⟨h1, h2, cs, ty, h3, h4⟩ := hR.phys r g b hr hc
    exact ⟨h1, h2, cs, ty, (h.same _ (hlt h3)).trans h3, h4⟩
  own r g b hr i p hp := by
    obtain ⟨h1, h2⟩ := hR.own r g b hr i p hp
    exact ⟨h1, fun j c hc => by
      obtain ⟨cs, ty, y, h3, h4, h5⟩ := h2 j c hc
      exact ⟨cs, ty, y, (h.same _ (hlt h3)).trans h3, h4, VR_ext (ext_grown h) h5⟩⟩
  inj := hR.inj
  lt k hk := Nat.lt_of_lt_of_le (hR.lt k hk) h.size
  llt k hk := Nat.lt_of_lt_of_le (hR.llt k hk) h.size
  apart := hR.apart
  gl := hR.gl
  mps x l hl := by
    obtain ⟨h0, es, c, h1, h2, h3⟩ := hR.mps x l hl
    refine ⟨h0, es, c, (h.same _ (hlt h1)).trans h1, h2, fun i k p hp => ?_⟩
    obtain ⟨z1, e, z2, z3, z4⟩ := h3 i k p hp
    exact ⟨z1, e, z2, z3, VR_ext (ext_grown h) z4⟩
  minj := hR.minj

/-- What such a callee sees. -/
def pureEnv (E : Env) : Env := { E with bs := ⟨[], GL.nil⟩, Wr := fun _ => False, Lent := fun k => E.Lent k ∨ E.Wr k }

theorem pure_sees {E : Env} : Sees true E (pureEnv E) where
  w := rfl
  wr k h := h.elim
  lent k h := by
    rcases h with h | h
    · exact .inl h
    · exact .inr ⟨rfl, h⟩

theorem pure_ent {E : Env} {r : BRef} {x : Nat × Option Blk} (h : (pureEnv E).bs.ent r = some x) : False := by
  cases r with
  | loc t k => cases h
  | glob y => simp [pureEnv, Bs.ent, GL.nil_get] at h

theorem pure_map {E : Env} {x : Nat} {l : List (Value × PV)} (h : (pureEnv E).bs.mapAt x = some l) : False := by
  simp [pureEnv, Bs.mapAt, GL.nil_get] at h

theorem pure_rel {E : Env} (hR : Rel E) : Rel (pureEnv E) where
  len _ _ _ h := (pure_ent h).elim
  phys _ _ _ h := (pure_ent h).elim
  own _ _ _ h := (pure_ent h).elim
  inj _ _ _ _ _ _ h := (pure_ent h).elim
  lt _ h := h.elim
  llt k h := by
    rcases h with h | h
    · exact hR.llt k h
    · exact hR.lt k h
  apart _ h := h.elim
  gl _ _ _ h := (pure_ent h).elim
  mps _ _ h := (pure_map h).elim
  minj x _ h := by
    obtain ⟨l, hl⟩ := Option.isSome_iff_exists.1 h
    exact (pure_map hl).elim

theorem pure_frz {E Ec : Env} (hx : Ext (pureEnv E) Ec) {k : Nat} (h : Frz Ec false k) : Frz (turnEnv E Ec.w) false k := by
  obtain ⟨h1, _, h3⟩ := h
  have hn : ¬ (E.Lent k ∨ E.Wr k) := fun hl => h3 rfl ((hx.lent k).2 hl)
  exact ⟨h1, fun hw => hn (.inr hw), fun _ hl => hn (.inl hl)⟩

mutual
theorem VR_pure {E Ec : Env} (hx : Ext (pureEnv E) Ec) : ∀ {pv : PV} {v : Value}, frozen pv = true → noB pv = true → VR Ec pv v → VR (turnEnv E Ec.w) pv v
  | .s x, v, _, _, h => by simpa [VR] using h
  | .undef, v, h, _, _ => by simp [frozen] at h
  | .agg cs, v, hz, hb, h => by
    simp only [VR] at h ⊢; obtain ⟨a, rfl, h⟩ := h; exact ⟨a, rfl, VRl_pure hx (by simpa [frozen] using hz) (by simpa [noB] using hb) h⟩
  | .tup cs, v, hz, hb, h => by
    simp only [VR] at h ⊢; obtain ⟨a, rfl, h⟩ := h; exact ⟨a, rfl, VRl_pure hx (by simpa [frozen] using hz) (by simpa [noB] using hb) h⟩
  | .vs b full xs, v, hz, hb, h => by
    simp only [noB, Bool.and_eq_true] at hb
    simp only [VR] at h ⊢
    obtain ⟨A, cap, ws, rfl, h1, h2, h3, h4, h5, h6⟩ := h
    refine ⟨A, cap, ws, rfl, h1, h2, VRl_pure hx h4 hb.2 h3, h4, h5, ?_⟩
    rcases h6 with h6 | ⟨blk, off, k, hA, hz', hk, hl⟩
    · exact .inl h6
    · cases xs with
      | nil =>
        refine .inl ⟨rfl, fun _ => by rw [hA]; rfl⟩
      | cons y ys =>
        have hb1 : b = false := by simpa using hb.1
        subst hb1
        exact .inr ⟨blk, off, k, hA, pure_frz hx hz', hk, hl⟩
  | .fp b cs, v, hz, hb, h => by
    simp only [noB, Bool.and_eq_true, Bool.not_eq_true'] at hb
    simp only [VR] at h ⊢
    obtain ⟨blk, off, us, rfl, h1, h2, h3, h4, h5⟩ := h
    rw [hb.1] at h4 ⊢
    exact ⟨blk, off, us, rfl, VRl_pure hx h2 hb.2 h1, h2, fun _ => hb.2, pure_frz hx h4, h5⟩
  | .lp _ _ _ _, v, hz, _, _ => by simp [frozen] at hz
  | .sl _ _ _ _, v, hz, _, _ => by simp [frozen] at hz
  | .fn f caps, v, hz, hb, h => by
    simp only [VR] at h ⊢; obtain ⟨a, rfl, h⟩ := h; exact ⟨a, rfl, VRl_pure hx (by simpa [frozen] using hz) (by simpa [noB] using hb) h⟩
  | .ifc t y, v, hz, hb, h => by
    simp only [VR] at h ⊢; obtain ⟨u, rfl, h⟩ := h; exact ⟨u, rfl, VR_pure hx (by simpa [frozen] using hz) (by simpa [noB] using hb) h⟩
  | .mp _, v, hz, _, _ => by simp [frozen] at hz
  | .ts _ _ _ _ _, v, hz, _, _ => by simp [frozen] at hz
theorem VRl_pure {E Ec : Env} (hx : Ext (pureEnv E) Ec) : ∀ {ps : List PV} {us : List Value}, frozenL ps = true → noBL ps = true → VRl Ec ps us → VRl (turnEnv E Ec.w) ps us
  | [], us, _, _, h => by simpa [VRl] using h
  | p :: ps, us, hz, hb, h => by
    simp only [VRl] at h ⊢
    obtain ⟨u, us', rfl, hp, h⟩ := h
    simp only [frozenL, Bool.and_eq_true] at hz
    simp only [noBL, Bool.and_eq_true] at hb
    exact ⟨u, us', rfl, VR_pure hx hz.1 hb.1 hp, VRl_pure hx hz.2 hb.2 h⟩
end

/-- Everything lent, whatever its name. -/
def fzA (bs : Bs) : Nat → PV → Option PV
  | 0, _ => none
  | n + 1, pv => match pv with
    | .s v => some (.s v)
    | .undef => none
    | .agg cs => (mapO (fzA bs n) cs).map .agg
    | .tup cs => (mapO (fzA bs n) cs).map .tup
    | .vs b _ xs => some (.vs b false xs)
    | .fp b cs => some (.fp b cs)
    | .fn f caps => (mapO (fzA bs n) caps).map (.fn f)
    | .ifc t v => (fzA bs n v).map (.ifc t)
    | .sl r g off len => bif Nat.beq len 0 then some (.vs (bs.getg r g).isSome false []) else match bs.getg r g with
        | none => none
        | some b => (mapO (fzA bs n) ((b.elems.drop off).take len)).map (.vs true false)
    | .lp r g i j => match bs.getg r g with
        | none => none
        | some b => match b.at i j with
          | none => none
          | some cs => (mapO (fzA bs n) cs).map (.fp true)
    | .mp _ => none
    | .ts _ _ _ _ _ => none

theorem pure_own {E : Env} (hR : Rel E) {r : BRef} {g : Nat} {b : Blk} (he : E.bs.ent r = some (g, some b)) (hc : 0 < E.cap r) : Frz (pureEnv E) true (E.mu r).1 := by
  obtain ⟨_, p2, _⟩ := hR.phys _ _ _ he hc
  exact ⟨hR.lt _ p2, fun h => h.elim, fun h => by cases h⟩

theorem fzA_VR {E : Env} (hR : Rel E) : ∀ (n : Nat) (p : PV) (v : Value) (q : PV), fzA E.bs n p = some q → VR E p v → VR (pureEnv E) q v ∧ frozen q = true
  | 0, p, v, q, h, _ => by simp [fzA] at h
  | n + 1, p, v, q, h, hv => by
    have hs := pure_sees (E := E)
    have ih := fzA_VR hR n
    have split2 : ∀ l : List PV, (∀ x ∈ l, frozen x = true) → frozenL l = true := fun l hl => frozenL_mem.2 fun x hx => hl x hx
    cases p <;> simp only [fzA] at h
    case s x => cases h; exact ⟨by simpa [VR] using hv, rfl⟩
    case undef => cases h
    case mp x => cases h
    case ts x g off len cp => cases h
    case agg cs =>
      simp only [Option.map_eq_some_iff] at h
      obtain ⟨l, hl, rfl⟩ := h
      simp only [VR] at hv ⊢
      obtain ⟨a, rfl, hv⟩ := hv
      obtain ⟨b1, b2⟩ := mapO_VR ih hl hv
      exact ⟨⟨a, rfl, b1⟩, by simpa [frozen] using split2 _ b2⟩
    case tup cs =>
      simp only [Option.map_eq_some_iff] at h
      obtain ⟨l, hl, rfl⟩ := h
      simp only [VR] at hv ⊢
      obtain ⟨a, rfl, hv⟩ := hv
      obtain ⟨b1, b2⟩ := mapO_VR ih hl hv
      exact ⟨⟨a, rfl, b1⟩, by simpa [frozen] using split2 _ b2⟩
    case vs b f xs =>
      cases h
      have hfz : frozen (.vs b f xs) = true := by
        simp only [VR] at hv
        obtain ⟨_, _, _, _, _, _, _, h4, _⟩ := hv
        simpa [frozen] using h4
      have h2 := VR_sees hs hfz hv
      refine ⟨?_, by simpa [frozen] using hfz⟩
      simp only [VR] at h2 ⊢
      obtain ⟨A, cap, ws, rfl, h1, _, h3⟩ := h2
      exact ⟨A, cap, ws, rfl, h1, fun h => (by cases h), h3⟩
    case fp b cs =>
      cases h
      have hfz : frozen (.fp b cs) = true := by
        simp only [VR] at hv
        obtain ⟨_, _, _, _, _, h4, _⟩ := hv
        simpa [frozen] using h4
      exact ⟨VR_sees hs hfz hv, hfz⟩
    case fn f caps =>
      simp only [Option.map_eq_some_iff] at h
      obtain ⟨l, hl, rfl⟩ := h
      simp only [VR] at hv ⊢
      obtain ⟨a, rfl, hv⟩ := hv
      obtain ⟨b1, b2⟩ := mapO_VR ih hl hv
      exact ⟨⟨a, rfl, b1⟩, by simpa [frozen] using split2 _ b2⟩
    case ifc t x =>
      simp only [Option.map_eq_some_iff] at h
      obtain ⟨y, hy, rfl⟩ := h
      simp only [VR] at hv ⊢
      obtain ⟨u, rfl, hv⟩ := hv
      obtain ⟨b1, b2⟩ := ih _ _ _ hy hv
      exact ⟨⟨u, rfl, b1⟩, by simpa [frozen] using b2⟩
    case sl r g off len =>
      simp only [VR] at hv
      obtain ⟨A, cap, rfl, hlc, g', o, hr, hg, hu⟩ := hv
      cases hl0 : Nat.beq len 0 with
      | true =>
        rw [hl0] at h; cases h
        have : len = 0 := Nat.eq_of_beq_eq_true hl0
        subst this
        refine ⟨?_, rfl⟩
        simp only [VR]
        refine ⟨A, cap, [], rfl, by simp, fun h => (by cases h), VRl_nil, rfl, fun _ => rfl, .inl ⟨trivial, fun hb => ?_⟩⟩
        obtain ⟨b, hb⟩ := Option.isSome_iff_exists.1 hb
        exact (hu b hb).2.2.2.2
      | false =>
        rw [hl0] at h; simp only [cond_false] at h
        split at h
        · cases h
        · rename_i b hbk
          simp only [Option.map_eq_some_iff] at h
          obtain ⟨l, hl, rfl⟩ := h
          have hent := Bs.getg_ent.1 hbk
          obtain ⟨h1, h2, h3, h4⟩ := hu b hbk
          have hlpos : 0 < len := by
            rcases Nat.eq_zero_or_pos len with e | e
            · rw [e] at hl0; cases hl0
            · exact e
          have hA := h4.1 (by omega)
          subst hA
          have hcp : 0 < E.cap r := by omega
          obtain ⟨ws, w1, w2⟩ := rows_vals hR hent h1 (fun p hp => by
            obtain ⟨q, hq⟩ := mapO_mem hl p hp
            rintro rfl
            cases n <;> simp [fzA] at hq)
          obtain ⟨b1, b2⟩ := mapO_VR ih hl w1
          have c1 := split2 _ b2
          have hll : l.length = len := by rw [mapO_length hl]; simp; omega
          refine ⟨?_, by simpa [frozen] using c1⟩
          simp only [VR]
          refine ⟨_, cap, ws, by rw [hll], by omega, fun h => (by cases h), b1, c1, fun h => (by cases h), .inr ⟨_, _, b.esz, rfl, pure_own hR hent hcp, (hR.phys _ _ _ hent hcp).1, w2⟩⟩
    case lp r g i j =>
      simp only [VR] at hv
      obtain ⟨blk, off, rfl, g', o, hr, hg, hu⟩ := hv
      split at h
      · cases h
      · rename_i b hbk
        split at h
        · cases h
        · rename_i cs hcs
          simp only [Option.map_eq_some_iff] at h
          obtain ⟨l, hl, rfl⟩ := h
          have hent := Bs.getg_ent.1 hbk
          obtain ⟨rfl, rfl⟩ := hu b hbk
          obtain ⟨us, u1, u2⟩ := cells_vals hR hent hcs
          obtain ⟨b1, b2⟩ := mapO_VR ih hl u1
          have c1 := split2 _ b2
          have hcp : 0 < E.cap r := by
            simp only [Blk.at_eq, Option.map_eq_some_iff] at hcs
            obtain ⟨e, he, _⟩ := hcs
            have := hR.len _ _ _ hent
            have := lt_len he
            omega
          refine ⟨?_, by simpa [frozen] using c1⟩
          simp only [VR]
          exact ⟨_, _, us, rfl, b1, c1, fun h => (by cases h), pure_own hR hent hcp, fun q u hq => u2 q u hq⟩

def popCallN (call : FuncId → List PV → GL → Option CRes) (bs : Bs) (f : FuncId) (args : List PV) : Option PV :=
  match mapO (fzA bs 8) args with
  | none => none
  | some args' => match call f args' GL.nil with
    | some (r, [], _) => bif frozen r && noB r then some r else none
    | _ => none

theorem popCallN_run {P : Program} {call : FuncId → List PV → GL → Option CRes} (hc : CallOk P call) {E : Env} (hR : Rel E) {f : FuncId} {args : List PV} {us : List Value} {pv : PV}
    (hu : VRl E args us) (h : popCallN call E.bs f args = some pv) :
    Calls P f us.toArray E.w fun e w' => ∃ (E' : Env) (v : Value), e = .returned v ∧ E'.w = w' ∧ E'.bs = E.bs ∧ VR E' pv v ∧ Ext E E' ∧ Rel E' := by
  unfold popCallN at h
  split at h
  · cases h
  · rename_i args' ha
    split at h
    · rename_i r gl' hr
      cases hok : frozen r && noB r with
      | false => rw [hok] at h; cases h
      | true =>
        rw [hok] at h; cases h
        simp only [Bool.and_eq_true] at hok
        have hargs := (mapO_VR (E2 := pureEnv E) (G := fun _ => True) (fun p v q h hv => ⟨(fzA_VR hR _ p v q h hv).1, trivial⟩) ha hu).1
        refine (hc f args' GL.nil pv [] gl' hr (pureEnv E) us rfl (pure_rel hR) hargs).mono ?_
        rintro e w' ⟨Ec, v, rfl, rfl, hbs, hv, hx, hRc, _⟩
        have hg : Grown E.w Ec.w := ⟨hx.os, hx.tape, hx.output, hx.size, fun b hb => hx.keep b hb fun h => h.elim⟩
        exact ⟨turnEnv E Ec.w, v, rfl, rfl, rfl, VR_pure hx hok.1 hok.2 hv, ext_grown hg, Rel_grown hg hR⟩
    · cases h

end

end Go.Pm

/- PM: bytes and strings. -/

namespace Go.Pm
noncomputable section

def bytesOf : List PV → Option (List UInt8)
  | [] => some []
  | p :: r => match p with
    | .s (.int .u8 n) => match bytesOf r with
      | some l => bif decide (n = ((UInt8.ofNat n.toNat).toNat : Int)) then some (UInt8.ofNat n.toNat :: l) else none
      | none => none
    | _ => none

theorem bytesOf_get : ∀ {xs : List PV} {l : List UInt8}, bytesOf xs = some l → l.length = xs.length ∧ ∀ (j : Nat) (hj : j < l.length), xs[j]? = some (.s (.int .u8 (l[j].toNat : Int)))
  | [], l, h => by simp only [bytesOf] at h; cases h; exact ⟨rfl, fun j hj => absurd hj (Nat.not_lt_zero _)⟩
  | p :: r, l, h => by
    unfold bytesOf at h
    split at h
    · rename_i n
      split at h
      · rename_i l' hl'
        cases hb : decide (n = ((UInt8.ofNat n.toNat).toNat : Int)) with
        | false => rw [hb] at h; cases h
        | true =>
          rw [hb] at h; cases h
          simp only [decide_eq_true_eq] at hb
          obtain ⟨h1, h2⟩ := bytesOf_get hl'
          refine ⟨by simp [h1], fun j hj => ?_⟩
          cases j with
          | zero => simp only [List.getElem?_cons_zero, List.getElem_cons_zero]; rw [← hb]
          | succ j =>
            simp only [List.getElem?_cons_succ, List.getElem_cons_succ]
            exact h2 j (by simpa using hj)
      · cases h
    · cases h

/-- Bytes to a string and back; all else as before. -/
def popConv (T : Tbl) (P : Program) (bs : Bs) (src dst : TypeId) (x : PV) : Option PV :=
  match T.und src, T.und dst with
  | some (.slice e), some .string => match T.und e, lenPV (sv x), srcElems bs 1 (sv x) with
    | some (.int .u8), some _, some xs => (bytesOf xs).map fun l => .s (.string ⟨l.toArray⟩)
    | _, _, _ => none
  | some .string, some (.slice e) => match T.und e, x with
    | some (.int .u8), .s (.string s) => some (.vs s.data.toList.isEmpty false (s.data.toList.map fun b => .s (.int .u8 b.toNat)))
    | _, _ => none
  | _, _ => popConvert T P src dst x

theorem bytesWorld_grown (w : World) (e : TypeId) (s : ByteArray) : Grown w (Lib.bytesWorld w e s) where
  os := rfl
  tape := rfl
  output := rfl
  size := by rw [Lib.bytesWorld_size]; omega
  same b hb := Lib.bytesWorld_at_old w e s b hb

theorem popConv_run {T : Tbl} {P : Program} (hT : T.Ok P) {E : Env} (hR : Rel E) {src dst : TypeId} {x p : PV} {u : Value} (hu : VR E x u) (h : popConv T P E.bs src dst x = some p) :
    ∃ (E' : Env) (v : Value), (convert src dst u).run P E.w = .ok v E'.w ∧ E'.bs = E.bs ∧ VR E' p v ∧ Ext E E' ∧ Rel E' := by
  unfold popConv at h
  split at h
  · rename_i e hs hd
    split at h
    · rename_i n xs he hl hx
      simp only [Option.map_eq_some_iff] at h
      obtain ⟨l, hb, rfl⟩ := h
      obtain ⟨g1, g2⟩ := bytesOf_get hb
      have hu2 := VR_sv hu
      have hk : ∀ p ∈ xs, p.cells.length = 1 := fun p hp => by
        obtain ⟨j, hj⟩ := List.mem_iff_getElem?.1 hp
        have hjl : j < l.length := by rw [g1]; exact lt_len hj
        rw [g2 j hjl] at hj
        cases hj; rfl
      obtain ⟨s1, s2⟩ := src_run (P := P) hR (by omega) hu2 hx hk
      obtain ⟨base, cap, rfl⟩ := lenPV_VR hl hu2
      obtain ⟨us, u1, u2, u3⟩ := s2 xs.length (Nat.le_refl _)
      have hn : n = xs.length := by
        have := s1 E.w
        simp [Builtin.lenOf] at this
        exact this
      subst hn
      refine ⟨E, .string ⟨l.toArray⟩, ?_, rfl, by simp [VR, Value.oneCell'], Ext.refl E, hR⟩
      rw [run_convert_bytes_string E.w src dst e _ _ _ (hT.und _ _ hs) (hT.und _ _ he) (hT.und _ _ hd)]
      cases base with
      | none =>
        have h1 := u1 E.w (fun _ => rfl)
        simp [Builtin.firstCells] at h1
        subst h1
        have hx0 : xs.length = 0 := by simpa using u2.symm
        have hl0 : l = [] := by
          cases l with
          | nil => rfl
          | cons a r => simp [hx0] at g1
        subst hl0
        simp [Conv.bytesToString]
        rfl
      | some a =>
        have h1 := u1 E.w (fun _ => rfl)
        simp only [Builtin.firstCells, Nat.mul_one] at h1
        have hus : us = ((l.map (fun b => (b.toNat : Int))).map (Value.int .u8)).toArray := by
          apply Array.ext'
          apply List.ext_getElem?
          intro j
          rw [Array.getElem?_toList]
          by_cases hj : j < l.length
          · rw [List.take_length] at u3
            obtain ⟨_, w2⟩ := u3 j _ (g2 j hj)
            obtain ⟨y, hy, hv⟩ := w2 0 _ rfl
            simp only [Nat.zero_add, Nat.mul_one, Nat.add_zero] at hy
            rw [hy]
            simp only [VR] at hv
            rw [hv.1]
            simp [hj]
          · have husz : us.size = l.length := by rw [u2, g1]; omega
            rw [Array.getElem?_eq_none (by omega)]
            rw [List.getElem?_eq_none (by simp; omega)]
        rw [hus] at h1
        rw [run_bytesToString E.w a xs.length cap _ h1, foldl_push_byteCells]
        have he0 : ByteArray.empty.data = #[] := rfl
        rw [he0]
        simp
    · cases h
  · rename_i e hs hd
    split at h
    · rename_i s he
      cases h
      simp only [VR] at hu
      obtain ⟨rfl, _⟩ := hu
      have hg := bytesWorld_grown E.w e s
      refine ⟨turnEnv E (Lib.bytesWorld E.w e s), _, Lib.run_convert_string_bytes E.w src dst e s (hT.und _ _ hs) (hT.und _ _ hd) (hT.und _ _ he), rfl, ?_, ext_grown hg, Rel_grown hg hR⟩
      have hsz : s.data.toList.length = s.size := by rw [Array.length_toList]; rfl
      have hlen : (s.data.toList.map fun b => (PV.s (.int .u8 b.toNat))).length = s.size := by simp [hsz]
      simp only [VR]
      refine ⟨some ⟨E.w.heap.size, 0, none⟩, grownCap E.w s.size 0 e, s.data.toList.map (fun b => Value.int .u8 (b.toNat : Int)), by rw [hlen], by rw [hlen]; exact grownCap_le _ _ _ _, fun hf => (by cases hf), ?_, ?_, fun _ => ?_, Or.inr ⟨E.w.heap.size, 0, 1, rfl, ⟨?_, ?_, fun _ hl => absurd (hR.llt _ hl) (Nat.lt_irrefl _)⟩, by omega, ?_, ?_⟩⟩
      · refine VRl_of_get (by simp) fun i p u hp hu => ?_
        rw [List.getElem?_map, Option.map_eq_some_iff] at hp hu
        obtain ⟨b, hb, rfl⟩ := hp
        obtain ⟨b', hb', rfl⟩ := hu
        rw [hb] at hb'; cases hb'
        simp [VR, Value.oneCell']
      · refine frozenL_mem.2 fun p hp => ?_
        simp only [List.mem_map] at hp
        obtain ⟨b, _, rfl⟩ := hp
        rfl
      · refine noBL_mem.2 fun p hp => ?_
        simp only [List.mem_map] at hp
        obtain ⟨b, _, rfl⟩ := hp
        rfl
      · show _ < (Lib.bytesWorld E.w e s).heap.size
        rw [Lib.bytesWorld_size]; omega
      · intro hw
        have : E.Wr E.w.heap.size := hw
        exact absurd (hR.lt _ this) (by omega)
      · intro x hx
        simp only [List.mem_map] at hx
        obtain ⟨b, _, rfl⟩ := hx
        rfl
      · intro i x hx j y hy
        simp only [List.getElem?_map, Option.map_eq_some_iff] at hx
        obtain ⟨b, hb, rfl⟩ := hx
        have hi : i < s.size := by rw [← hsz]; exact (List.getElem?_eq_some_iff.1 hb).1
        have hj : j = 0 := by
          have := (Array.getElem?_eq_some_iff.1 hy).1
          simp [Value.cells] at this
          exact this
        subst hj
        have := Lib.bytesWorld_cell E.w e s i hi
        rw [show 0 + (i * 1 + 0) = i by omega]
        show (Lib.bytesWorld E.w e s).cell? _ = _
        rw [this]
        simp [Value.cells] at hy
        rw [← hy, List.getD_eq_getElem?_getD, hb]
        rfl
    · cases h
  · unfold popConvert at h
    split at h
    · rename_i a us ud ha hs hd
      have e1 := toVal_VR hu ha
      simp only [Option.map_eq_some_iff] at h
      obtain ⟨r, hr, rfl⟩ := h
      subst e1
      exact ⟨E, r, convD_run hr (hT.run_und hs E.w) (hT.run_und hd E.w), rfl, VR_ofVal E r, Ext.refl E, hR⟩
    · cases h

end

end Go.Pm

/- PM: blocks that come to outlive their frame, quickly. -/

namespace Go.Pm
noncomputable section

theorem promQ_ok {E : Env} (hR : Rel E) {t k g : Nat} {b : Blk} (hb : E.bs.getg (.loc t k) g = some b) (hn : noLocL b.elems = true) :
    ∃ E', E'.bs = E.bs.promote t k g b ∧ Glz E E' ∧ (∀ o L v, VR E (.sl (.loc t k) g o L) v → VR E' (.sl (.glob E.bs.glob.length) 0 o L) v) ∧
      (∀ i j v, VR E (.lp (.loc t k) g i j) v → VR E' (.lp (.glob E.bs.glob.length) 0 i j) v) := by
  have hbe := Bs.getg_ent.1 hb
  obtain ⟨p1, p2⟩ := promote_ext hR hbe (b' := b) rfl rfl (fun i p hp => hR.own _ _ _ hbe i p hp) hn
  have k1 : (promEnv E t k g b).bs.getg (.glob E.bs.glob.length) 0 = some b := by
    rw [Bs.getg_ent]
    show (E.bs.promote t k g b).ent _ = _
    rw [promote_ent_glob, if_pos rfl]
  have k3 : (promEnv E t k g b).mu (.glob E.bs.glob.length) = E.mu (.loc t k) := by simp [promEnv]
  have k4 : (promEnv E t k g b).cap (.glob E.bs.glob.length) = E.cap (.loc t k) := by simp [promEnv]
  refine ⟨promEnv E t k g b, rfl, ⟨rfl, rfl, rfl, p1, p2⟩, fun o L v hv => ?_, fun i j v hv => ?_⟩
  · simp only [VR] at hv ⊢
    obtain ⟨A, cap, rfl, hlc, g', o', hr, hgg, hu⟩ := hv
    obtain ⟨u1, u2, u3, u4⟩ := hu b hb
    refine ⟨A, cap, rfl, hlc, 0, _, Bs.getg_ent.1 k1, Nat.le_refl _, fun b' hb' => ?_⟩
    rw [k1] at hb'; cases hb'
    rw [k3, k4]; exact ⟨u1, u2, u3, u4⟩
  · simp only [VR] at hv ⊢
    obtain ⟨blk, off, rfl, g', o', hr, hgg, hu⟩ := hv
    obtain ⟨u1, u2⟩ := hu b hb
    refine ⟨blk, off, rfl, 0, _, Bs.getg_ent.1 k1, Nat.le_refl _, fun b' hb' => ?_⟩
    rw [k1] at hb'; cases hb'
    rw [k3]; exact ⟨u1, u2⟩

/-- The value under names that outlive the frame; a block in which there is nothing of the frame's as it is. -/
def glq (bs : Bs) (p : PV) : Option (PV × Bs) :=
  match p with
  | .lp (.loc t k) g i j => match bs.getg (.loc t k) g with
    | none => none
    | some b => bif noLocL b.elems then some (.lp (.glob bs.glob.length) 0 i j, bs.promote t k g b) else glz 8 bs (.lp (.loc t k) g i j)
  | .sl (.loc t k) g o l => match bs.getg (.loc t k) g with
    | none => none
    | some b => bif noLocL b.elems then some (.sl (.glob bs.glob.length) 0 o l, bs.promote t k g b) else glz 8 bs (.sl (.loc t k) g o l)
  | p => glz 8 bs p

theorem glq_ok (E : Env) (p q : PV) (bs' : Bs) (hR : Rel E) (h : glq E.bs p = some (q, bs')) :
    ∃ E', E'.bs = bs' ∧ Glz E E' ∧ ∀ v, VR E p v → VR E' q v := by
  have slow : ∀ p, glz 8 E.bs p = some (q, bs') → ∃ E', E'.bs = bs' ∧ Glz E E' ∧ ∀ v, VR E p v → VR E' q v := fun p h => by
    obtain ⟨E', e1, g1, k1, _⟩ := glz_ok 8 E p q bs' hR h
    exact ⟨E', e1, g1, k1⟩
  unfold glq at h
  split at h
  · split at h
    · cases h
    · rename_i b hb
      cases hn : noLocL b.elems with
      | false => rw [hn] at h; exact slow _ h
      | true =>
        rw [hn] at h; cases h
        obtain ⟨E', e1, g1, _, k2⟩ := promQ_ok hR hb hn
        exact ⟨E', e1, g1, fun v hv => k2 _ _ v hv⟩
  · split at h
    · cases h
    · rename_i b hb
      cases hn : noLocL b.elems with
      | false => rw [hn] at h; exact slow _ h
      | true =>
        rw [hn] at h; cases h
        obtain ⟨E', e1, g1, k1, _⟩ := promQ_ok hR hb hn
        exact ⟨E', e1, g1, fun v hv => k1 _ _ v hv⟩
  · exact slow _ h

theorem noLocL_app {l m : List PV} : noLocL (l ++ m) = true ↔ noLocL l = true ∧ noLocL m = true := by
  simp only [noLocL_mem, List.mem_append]
  exact ⟨fun h => ⟨fun p hp => h p (.inl hp), fun p hp => h p (.inr hp)⟩, fun h p hp => hp.elim (h.1 p) (h.2 p)⟩

/-- What an append to what outlives frames comes to. -/
theorem popAppend_glob {T : Tbl} {bs : Bs} {d : Nat} {sT xT : TypeId} {y g off len : Nat} {x pv : PV} {bs' : Bs} (h : popAppend T bs d sT xT (.sl (.glob y) g off len) x = some (pv, bs')) :
    (∃ L, pv = .sl (.glob y) g off L) ∨ ∃ b ys, bs.getg (.glob y) g = some b ∧ off + len ≤ b.elems.length ∧
      pv = .sl (.loc d 0) ((bs.upd (.glob y) g none).gen d 0) 0 (len + ys.length) ∧ bs' = (bs.upd (.glob y) g none).mk1 d 0 (growB b off len ys) := by
  unfold popAppend at h
  split at h
  · rename_i e dx ht hdx
    split at h
    · cases h
    · rename_i i hi
      split at h
      · cases h
      · rename_i z hz
        split at h
        · cases h
        · rename_i ys hys
          cases hb : (sliceOrString dx && !Nat.beq i.size 0 && Nat.beq (ofVal z).cells.length i.size && known (ofVal z) && ys.all (okEl i.size)) with
          | false => rw [hb] at h; cases h
          | true =>
            rw [hb] at h; simp only [cond_true] at h
            cases hem : ys.isEmpty with
            | true => rw [hem] at h; simp only [cond_true] at h; cases h; exact .inl ⟨_, rfl⟩
            | false =>
              rw [hem] at h; simp only [cond_false] at h
              split at h
              · cases h
              · rename_i b hbk
                simp only [Blk.len_eq] at h
                cases hc : (Nat.beq b.esz i.size && Nat.ble (off + len) b.elems.length && roomFor (len + ys.length) i.bytes) with
                | false => rw [hc] at h; cases h
                | true =>
                  rw [hc] at h; simp only [cond_true] at h
                  simp only [Bool.and_eq_true] at hc
                  cases hin : (Nat.ble (off + len + ys.length) b.elems.length && okG (.glob y) ys) with
                  | true => rw [hin] at h; cases h; exact .inl ⟨_, rfl⟩
                  | false => rw [hin] at h; cases h; exact .inr ⟨b, ys, hbk, Nat.le_of_ble_eq_true hc.1.2, rfl, rfl⟩
  · cases h

theorem popAppendZ_glob {T : Tbl} {bs : Bs} {d : Nat} {sT xT : TypeId} {y g off len : Nat} {x pv : PV} {bs' : Bs} (h : popAppendZ T bs d sT xT (.sl (.glob y) g off len) x = some (pv, bs')) :
    (∃ L, pv = .sl (.glob y) g off L) ∨ ∃ b ys, bs.getg (.glob y) g = some b ∧ off + len ≤ b.elems.length ∧
      pv = .sl (.loc d 0) ((bs.upd (.glob y) g none).gen d 0) 0 (len + ys.length) ∧ bs' = (bs.upd (.glob y) g none).mk1 d 0 (growB b off len ys) := by
  unfold popAppendZ at h
  split at h
  · rename_i e k1 k2 m ht hxT
    split at h
    · rename_i i l hi hl
      cases hc : (byteZero i && decide (0 ≤ m) && Nat.ble m.toNat 1099511627776 && roomFor (l + m.toNat) i.bytes) with
      | false => rw [hc] at h; cases h
      | true => rw [hc] at h; exact popAppend_glob h
    · cases h
  · exact popAppend_glob h

/-- The same, its new block under a name that outlives the frame. -/
def popAppendG (T : Tbl) (bs : Bs) (d : Nat) (sT xT : TypeId) (y g off len : Nat) (x : PV) : Option (PV × Bs) :=
  match popAppendZ T bs d sT xT (.sl (.glob y) g off len) x with
  | some (.sl (.loc t k) g' o L, bs') => match bs'.getg (.loc t k) g' with
    | none => none
    | some b' => bif noLocL (b'.sub len (L - len)) then some (.sl (.glob bs'.glob.length) 0 o L, bs'.promote t k g' b') else none
  | r => r

theorem popAppendG_run {T : Tbl} {P : Program} (hT : T.Ok P) {E : Env} (hR : Rel E) {d : Nat} {sT xT ty : TypeId} {y g off len : Nat} {x pv : PV} {us ux : Value} {bs' : Bs} (hs : VR E (.sl (.glob y) g off len) us) (hx : VR E x ux)
    (h : popAppendG T E.bs d sT xT y g off len x = some (pv, bs')) :
    ∃ (E' : Env) (v : Value), (Builtin.append_ #[sT, xT] ty #[us, ux]).run P E.w = .ok v E'.w ∧ E'.bs = bs' ∧ VR E' pv v ∧ Ext E E' ∧ Rel E' := by
  unfold popAppendG at h
  split at h
  · rename_i t k g' o L bs1 hz
    split at h
    · cases h
    · rename_i b' hb'
      cases hn : noLocL (b'.sub len (L - len)) with
      | false => rw [hn] at h; cases h
      | true =>
        rw [hn] at h; cases h
        obtain ⟨E1, v, e1, e2, e3, e4, e5⟩ := popAppendZ_run hT hR (ty := ty) hs hx hz
        subst e2
        have hnl : noLocL b'.elems = true := by
          rcases popAppendZ_glob hz with ⟨L', h'⟩ | ⟨b, ys, q1, q2, q3, q4⟩
          · cases h'
          · cases q3
            rw [q4, Bs.getg_ent, Bs.ent_mk1] at hb'
            cases hb'
            rw [growB_elems]
            rw [Blk.sub_eq, growB_elems] at hn
            have hl : ((b.elems.drop off).take len).length = len := by simp; omega
            rw [List.drop_append_of_le_length (by omega), List.drop_eq_nil_of_le (by omega)] at hn
            have hk : len + ys.length - len = ys.length := by omega
            rw [hk, List.nil_append, List.take_length] at hn
            rw [noLocL_app]
            refine ⟨?_, hn⟩
            have hg := hR.gl _ _ _ (Bs.getg_ent.1 q1)
            simp only [okG] at hg
            exact noLocL_mem.2 fun p hp => noLocL_mem.1 hg p (List.mem_of_mem_drop (List.mem_of_mem_take hp))
        obtain ⟨E2, k1, k2, k3, _⟩ := promQ_ok e5 hb' hnl
        exact ⟨E2, v, by rw [k2.w]; exact e1, k1, k3 _ _ v e3, e4.trans k2.ext, k2.rel⟩
  · exact popAppendZ_run hT hR hs hx h

end

end Go.Pm

/- PM: one operation, whatever it is. -/

namespace Go.Pm
noncomputable section

structure Ctx where
  T : Tbl
  P : Program
  call : FuncId → List PV → GL → Option CRes
  callN : FuncId → List PV → GL → Option CRes
  ext : FuncId → List Value → Option Value
  nt : Nat
  fuel : Nat
  fm : Nat
  gl : Nat → Bool

/-- What is promised of the functions without a body. -/
def ExtOk (P : Program) (ext : FuncId → List Value → Option Value) : Prop :=
  ∀ f args v, ext f args = some v → ∀ w, (callFunc f args.toArray).run P w = .ok (.value v) w

/-- .. and of the table. -/
structure Ctx.Ok (C : Ctx) : Prop where
  T : C.T.Ok C.P
  names : ∀ f fn, C.T.func f = some fn → (fn.name == "runtime.NumGoroutine") = false
  call : CallOk C.P C.call
  callN : CallOk C.P C.callN
  ext : ExtOk C.P C.ext

structure St where
  env : Tr
  bs : Bs

def evP (env : Tr) : Operand → PV
  | .tmp t => env.getR t
  | .const v => ofVal v
  | .global g => .s (.pointer (some ⟨g, 0, none⟩))
  | .func f => .fn (Nat.mul 2 f) []

/-- What it is called with. -/
def fnArgs (g : Nat) (args caps : List PV) : List PV := bif fnLt g then args ++ caps else caps ++ args

theorem fn_call {E : Env} {g : Nat} {args caps : List PV} {cv as : List Value} (h1 : VRl E args as) (h2 : VRl E caps cv) :
    ∃ avs : List Value, VRl E (fnArgs g args caps) avs ∧ ∃ cap ar : Array Value, Deferred.ofValue (fnV g cv) as.toArray = pure { target := .fn (.func (fnId g)) cap, args := ar } ∧ ar ++ cap = avs.toArray := by
  cases hb : fnLt g with
  | true =>
    have e3 : fnArgs g args caps = args ++ caps := by unfold fnArgs; rw [hb]; rfl
    rw [fnV_t hb, e3]
    exact ⟨as ++ cv, VRl_append h1 h2, cv.toArray, #[] ++ as.toArray, rfl, by simp⟩
  | false =>
    have e3 : fnArgs g args caps = caps ++ args := by unfold fnArgs; rw [hb]; rfl
    rw [fnV_f hb, e3]
    exact ⟨cv ++ as, VRl_append h2 h1, #[], cv.toArray ++ as.toArray, rfl, by simp⟩

theorem VR_func {E : Env} (f : FuncId) : VR E (.fn (Nat.mul 2 f) []) (.func (.func f) #[] #[]) := by
  simp only [VR]
  exact ⟨[], by rw [fnV_t (fnLt_even f), fnId_even], VRl_nil⟩

/-- Does it make, write or end blocks, or call? -/
def isE (fm : Nat) : Op → Bool
  | .alloc _ | .box .. | .store .. | .buildSlice .. => true
  | .makeSlice .. => !Nat.beq fm 1
  | .makeMap .. | .mapUpdate .. | .insert .. => true
  | .call c => match c.callee with
    | .builtin .len => false
    | .builtin .min => false
    | .builtin .max => false
    | .value _ => !Nat.beq fm 2
    | _ => true
  | _ => false

def two {α : Type} : List α → Option (α × α)
  | [a, b] => some (a, b)
  | _ => none
def single {α : Type} : List α → Option α
  | [a] => some a
  | _ => none

theorem two_eq {α : Type} {l : List α} {a b : α} (h : two l = some (a, b)) : l = [a, b] := by
  match l, h with
  | [x, y], h => simp [two] at h; rw [h.1, h.2]
theorem single_eq {α : Type} {l : List α} {a : α} (h : single l = some a) : l = [a] := by
  match l, h with
  | [x], h => simp [single] at h; rw [h]

/-- Is it under a name that outlives frames? -/
def isGlob : PV → Bool
  | .lp (.glob _) _ _ _ => true
  | .sl (.glob _) _ _ _ => true
  | _ => false

/-- What goes into such a block goes under such names. -/
def into (bs : Bs) (a x : PV) : Option (PV × Bs) := bif isGlob a then glz 8 bs x else some (x, bs)

theorem into_ok {E : Env} (hR : Rel E) {a x q : PV} {bs' : Bs} {v : Value} (hv : VR E x v) (h : into E.bs a x = some (q, bs')) :
    ∃ E', E'.bs = bs' ∧ E'.w = E.w ∧ Ext E E' ∧ Rel E' ∧ VR E' q v := by
  unfold into at h
  cases hg : isGlob a with
  | false => rw [hg] at h; cases h; exact ⟨E, rfl, rfl, Ext.refl E, hR, hv⟩
  | true =>
    rw [hg] at h
    obtain ⟨E', e1, g1, k1, _⟩ := glz_ok 8 E x q bs' hR h
    exact ⟨E', e1, g1.w, g1.ext, g1.rel, k1 v hv⟩

def popE (C : Ctx) (bs : Bs) (ev : Operand → PV) (dst : Option Tmp) (op : Op) (_ty : TypeId) : Option (PV × Bs) :=
  match op, dst with
  | .alloc t, some d => popAlloc C.T bs d t
  | .box _ x, some d => popBox bs d (ev x)
  | .store t a x, _ => match into bs (ev a) (ev x) with
    | none => none
    | some (q, b1) => (popStore C.T b1 t (ev a) q).map fun b => (.undef, b)
  | .buildSlice t len ps, some d => popLit C.T bs d t len (evParts ev ps.toList)
  | .makeSlice t l c, some d => popMake C.T bs d t (ev l) (ev c)
  | .makeMap t r, _ => popMakeMap C.T bs t (r.map ev)
  | .mapUpdate t m k x, _ => match glz 8 bs (ev x) with
    | none => none
    | some (q, b1) => (popMapUpdate C.T b1 t (ev m) (ev k) q).map fun b => (.undef, b)
  | .insert t m k x, _ => match glz 8 bs (ev x) with
    | none => none
    | some (q, b1) => (popMapUpdate C.T b1 t (ev m) (ev k) q).map fun b => (.undef, b)
  | .call c, dst => match c.callee with
    | .builtin .append => match dst, two c.argTypes.toList, two c.args.toList with
      | some d, some (sT, xT), some (s, x) => match into bs (sv (ev s)) (sv (ev x)) with
        | none => none
        | some (q, b1) => match sv (ev s) with
          | .sl (.glob y) g off len => popAppendG C.T b1 d sT xT y g off len q
          | s' => popAppendZ C.T b1 d sT xT s' q
      | _, _, _ => none
    | .builtin .copy => match two c.argTypes.toList, two c.args.toList with
      | some (dT, _), some (d, s) => popCopy C.T bs dT (sv (ev d)) (sv (ev s))
      | _, _ => none
    | .builtin .clear => match single c.argTypes.toList, single c.args.toList with
      | some t, some x => popClear C.T bs t (sv (ev x))
      | _, _ => none
    | .builtin .delete => match two c.argTypes.toList, two c.args.toList with
      | some (mT, _), some (m, k) => (popDelete C.T bs mT (ev m) (ev k)).map fun b => (.tup [], b)
      | _, _ => none
    | .value f => match ev f with
      | .fn g caps => match C.T.func (fnId g) with
        | none => none
        | some fn => match fn.body with
          | none => match toValL (fnArgs g (c.args.toList.map ev) caps) with
            | none => none
            | some l => (C.ext (fnId g) l).map fun v => (ofVal v, bs)
          | some _ => popCall C.call bs (dst.getD 0) (fnId g) (fnArgs g (c.args.toList.map ev) caps)
      | _ => none
    | _ => none
  | _, _ => none

/-- A call that turns nothing. -/
def popPure (C : Ctx) (bs : Bs) (f : PV) (args : List PV) : Option PV :=
  match f with
  | .fn g caps => match C.T.func (fnId g) with
    | none => none
    | some fn => match fn.body with
      | none => match toValL (fnArgs g args caps) with
        | none => none
        | some l => (C.ext (fnId g) l).map ofVal
      | some _ => popCallN C.callN bs (fnId g) (fnArgs g args caps)
  | _ => none

/-- One operation, under the names that it gives. -/
def popOp0 (C : Ctx) (o : Oper) (ev : Operand → PV) (bs : Bs) : Option (PV × Bs) :=
  bif isE C.fm o.op then popE C bs ev o.dst o.op o.type
  else match o.op with
    | .makeSlice t l c => (popMakeF C.T t (ev l) (ev c)).map fun p => (p, bs)
    | .lookup t x ix ok => (popLookup C.T bs t (ev x) (ev ix) ok).map fun p => (p, bs)
    | .convert src dst x => (popConv C.T C.P bs src dst (ev x)).map fun p => (p, bs)
    | .call ⟨.value f, args, _⟩ => (popPure C bs (ev f) (args.toList.map ev)).map fun p => (p, bs)
    | _ => (popN C.T C.P bs ev o.op o.type).map fun p => (p, bs)

theorem evP_VR {E : Env} {env : Tr} {a : Act} (h : ∀ t, VR E (env.get t) (a.tmps.getD t undef)) (x : Operand) : VR E (evP env x) (a.eval x) := by
  cases x with
  | tmp t => simp only [evP, Tr.getR_eq]; exact h t
  | const v => exact VR_ofVal E v
  | global g => simp [evP, Act.eval, VR, Value.oneCell']
  | func f => simp only [evP, Act.eval]; exact VR_func f

theorem popOp0_wp {C : Ctx} (hC : C.Ok) {E : Env} (hR : Rel E) {ev : Operand → PV} {a : Act} (hev : ∀ x, VR E (ev x) (a.eval x)) (o : Oper) {pv : PV} {bs' : Bs}
    (h : popOp0 C o ev E.bs = some (pv, bs')) {K : Act → World → Prop} {Q : Exit → Act → World → Prop}
    (hK : ∀ (E' : Env) (v : Value), E'.bs = bs' → VR E' pv v → Ext E E' → Rel E' → K (a.put o.dst v) E'.w) : o.wp C.P a E.w K Q := by
  unfold Oper.wp
  have value : ∀ (E' : Env) (v : Value), (execOp a.eval o).run C.P E.w = .ok (.value v) E'.w → E'.bs = bs' → VR E' pv v → Ext E E' → Rel E' → o.upon C.P a K Q ((execOp a.eval o).run C.P E.w) := by
    intro E' v h1 h2 h3 h4 h5
    rw [h1, Oper.upon_value]
    exact hK E' v h2 h3 h4 h5
  unfold popOp0 at h
  cases hE : isE C.fm o.op with
  | false =>
    rw [hE] at h
    simp only [cond_false] at h
    split at h
    · rename_i t l c hop
      simp only [Option.map_eq_some_iff] at h
      obtain ⟨p, hp, e⟩ := h
      cases e
      obtain ⟨E', u, h1, h2, h3, h4, h5⟩ := popMakeF_run hC.T hR t (hev l) (hev c) hp
      exact value E' u (by simp [execOp, hop, h1]) h2 h3 h4 h5
    · rename_i t x ix ok hop
      simp only [Option.map_eq_some_iff] at h
      obtain ⟨p, hp, e⟩ := h
      cases e
      obtain ⟨u, h1, h2⟩ := popLookup_run hC.T hR (hev x) (hev ix) hp
      exact value E u (by simp [execOp, hop, h1]) rfl h2 (Ext.refl E) hR
    · rename_i src dst x hop
      simp only [Option.map_eq_some_iff] at h
      obtain ⟨p, hp, e⟩ := h
      cases e
      obtain ⟨E', u, h1, h2, h3, h4, h5⟩ := popConv_run hC.T hR (hev x) hp
      exact value E' u (by simp [execOp, hop, h1]) h2 h3 h4 h5
    · rename_i f args ats hop
      simp only [Option.map_eq_some_iff] at h
      obtain ⟨p, hp, e⟩ := h
      cases e
      unfold popPure at hp
      split at hp
      · rename_i g caps hf
        have hfv := hev f
        rw [hf] at hfv
        simp only [VR] at hfv
        obtain ⟨cv, hfe, hcv⟩ := hfv
        split at hp
        · cases hp
        · rename_i fn hfn
          obtain ⟨avs, hal, cap, ar, hdef, harr⟩ := fn_call (g := g) (VRl_map hev args.toList) hcv
          have hargs : args.map a.eval = (args.toList.map a.eval).toArray := by apply Array.toList_inj.1; simp
          have hex : (execOp a.eval o).run C.P E.w = (callFunc (fnId g) avs.toArray).run C.P E.w := by
            simp only [execOp, hop, resolve, hfe, hargs, hdef, Sem.run_bind, Sem.run_pure, Result.andThen_ok, invoke, harr]
          split at hp
          · split at hp
            · cases hp
            · rename_i l hl
              simp only [Option.map_eq_some_iff] at hp
              obtain ⟨v, hv, e⟩ := hp
              cases e
              have := toValL_VR hal hl
              rw [this] at hex
              exact value E v (by rw [hex, hC.ext (fnId g) l v hv]) rfl (VR_ofVal E v) (Ext.refl E) hR
          · rename_i body hbody
            rw [hex]
            have hcf : (callFunc (fnId g) avs.toArray).run C.P E.w = .ok (.enter (fnId g) avs.toArray) E.w := by
              have hnm : ¬ fn.name = "runtime.NumGoroutine" := by simpa using hC.names (fnId g) fn hfn
              simp [callFunc, hC.T.func (fnId g) fn hfn, hnm, hbody]
            rw [hcf, Oper.upon_enter]
            refine (popCallN_run hC.callN hR hal hp).mono ?_
            rintro e w' ⟨E', v, rfl, rfl, h2, h3, h4, h5⟩
            exact hK E' v h2 h3 h4 h5
      · cases hp
    · simp only [Option.map_eq_some_iff] at h
      obtain ⟨p, hp, e⟩ := h
      cases e
      obtain ⟨v, h1, h2⟩ := popN_run hC.T hR hev o hp
      exact value E v h1 rfl h2 (Ext.refl E) hR
  | true =>
    rw [hE] at h
    simp only [cond_true] at h
    obtain ⟨dst, op, ty, pos, after, guard⟩ := o
    simp only at h
    unfold popE at h
    split at h
    · rename_i t d
      obtain ⟨E', u, h1, h2, h3, h4, h5⟩ := popAlloc_run hC.T hR t d h
      exact value E' u (by simp [execOp, h1]) h2 h3 h4 h5
    · rename_i t x d
      obtain ⟨E', u, h1, h2, h3, h4, h5⟩ := popBox_run (P := C.P) hR t d (hev x) h
      have h1' : (Instr.box t (a.eval x)).run C.P E.w = .ok u E'.w := h1
      exact value E' u (by simp only [execOp, Sem.run_bind, h1']; rfl) h2 h3 h4 h5
    · rename_i t p x
      split at h
      · cases h
      rename_i q b1 hin
      obtain ⟨E1, i1, i2, i3, i4, i5⟩ := into_ok hR (hev x) hin
      subst i1
      simp only [Option.map_eq_some_iff] at h
      obtain ⟨b, hb', e⟩ := h
      cases e
      obtain ⟨E', h1, h2, h3, h4⟩ := popStore_run hC.T i4 (VR_ext i3 (hev p)) i5 hb'
      rw [i2] at h1
      have : (execOp a.eval ⟨dst, .store t p x, ty, pos, after, guard⟩).run C.P E.w = .ok .skip E'.w := by simp [execOp, h1]
      rw [this, Oper.upon_skip]
      exact hK E' undef h2 (by simp [VR]) (i3.trans h3) h4
    · rename_i t len ps d
      obtain ⟨E', u, h1, h2, h3, h4, h5⟩ := popLit_run hC.T hR t d len (vs := ps.map fun (i, x) => (i, a.eval x)) h (by simp [evParts]) (fun k p v hp hv => by
        simp only [evParts, List.getElem?_map, Option.map_eq_some_iff] at hp
        obtain ⟨q, hq, rfl⟩ := hp
        simp only [Array.getElem?_map, Option.map_eq_some_iff] at hv
        obtain ⟨q', hq', rfl⟩ := hv
        simp only [Array.getElem?_toList] at hq
        rw [hq] at hq'; cases hq'
        exact ⟨rfl, hev _⟩)
      exact value E' u (by simp only [execOp, Sem.run_bind, h1]; rfl) h2 h3 h4 h5
    · rename_i t l c d
      obtain ⟨E', u, h1, h2, h3, h4, h5⟩ := popMake_run hC.T hR t d (hev l) (hev c) h
      exact value E' u (by simp [execOp, h1]) h2 h3 h4 h5
    · rename_i t r
      obtain ⟨E', u, h1, h2, h3, h4, h5⟩ := popMakeMap_run hC.T hR (ur := r.map a.eval) (fun p hp => by
        cases r with
        | none => cases hp
        | some x => cases hp; exact ⟨_, rfl, hev x⟩) (fun hp => by
        cases r with
        | none => rfl
        | some x => cases hp) h
      exact value E' u (by simp [execOp, h1]) h2 h3 h4 h5
    · rename_i t m k x
      split at h
      · cases h
      rename_i q b1 hin
      obtain ⟨E1, i1, g1, i5, _⟩ := glz_ok 8 E _ q b1 hR hin
      subst i1
      simp only [Option.map_eq_some_iff] at h
      obtain ⟨b, hb', e⟩ := h
      cases e
      obtain ⟨E', h1, h2, h3, h4⟩ := popMapUpdate_run hC.T g1.rel (VR_ext g1.ext (hev m)) (VR_ext g1.ext (hev k)) (i5 _ (hev x)) hb'
      rw [g1.w] at h1
      have : (execOp a.eval ⟨dst, .mapUpdate t m k x, ty, pos, after, guard⟩).run C.P E.w = .ok .skip E'.w := by simp [execOp, h1]
      rw [this, Oper.upon_skip]
      exact hK E' undef h2 (by simp [VR]) (g1.ext.trans h3) h4
    · rename_i t m k x
      split at h
      · cases h
      rename_i q b1 hin
      obtain ⟨E1, i1, g1, i5, _⟩ := glz_ok 8 E _ q b1 hR hin
      subst i1
      simp only [Option.map_eq_some_iff] at h
      obtain ⟨b, hb', e⟩ := h
      cases e
      obtain ⟨E', h1, h2, h3, h4⟩ := popMapUpdate_run hC.T g1.rel (VR_ext g1.ext (hev m)) (VR_ext g1.ext (hev k)) (i5 _ (hev x)) hb'
      rw [g1.w] at h1
      have : (execOp a.eval ⟨dst, .insert t m k x, ty, pos, after, guard⟩).run C.P E.w = .ok .skip E'.w := by simp [execOp, h1]
      rw [this, Oper.upon_skip]
      exact hK E' undef h2 (by simp [VR]) (g1.ext.trans h3) h4
    · rename_i c
      obtain ⟨callee, args, ats⟩ := c
      cases callee with
      | invoke r m => cases h
      | builtin b =>
        cases b <;> simp only at h <;> try (cases h; done)
        case append =>
          split at h
          · rename_i d sT xT s x hat harg
            split at h
            · cases h
            rename_i q b1 hin
            obtain ⟨E1, i1, i2, i3, i4, i5⟩ := into_ok hR (VR_sv (hev x)) hin
            subst i1
            obtain ⟨E', u, h1, h2, h3, h4, h5⟩ : ∃ (E' : Env) (v : Value), (Builtin.append_ #[sT, xT] ty #[a.eval s, a.eval x]).run C.P E1.w = .ok v E'.w ∧ E'.bs = bs' ∧ VR E' pv v ∧ Ext E1 E' ∧ Rel E' := by
              have hsv := VR_ext i3 (VR_sv (hev s))
              split at h
              · rename_i y g off len heq
                rw [heq] at hsv
                exact popAppendG_run hC.T i4 hsv i5 h
              · exact popAppendZ_run hC.T i4 hsv i5 h
            rw [i2] at h1
            replace h4 := i3.trans h4
            have e1 : ats = #[sT, xT] := by apply Array.toList_inj.1; exact two_eq hat
            have e2 : args.map a.eval = #[a.eval s, a.eval x] := by apply Array.toList_inj.1; rw [Array.toList_map, two_eq harg]; rfl
            exact value E' u (by simp only [execOp, resolve, e1, e2, invoke, builtin, Sem.run_bind, Sem.run_pure, Result.andThen_ok, h1]) h2 h3 h4 h5
          · cases h
        case copy =>
          split at h
          · rename_i dT sT d s hat harg
            obtain ⟨E', u, h1, h2, h3, h4, h5⟩ := popCopy_run hC.T hR (sT := sT) (ty := ty) (VR_sv (hev d)) (VR_sv (hev s)) h
            have e1 : ats = #[dT, sT] := by apply Array.toList_inj.1; exact two_eq hat
            have e2 : args.map a.eval = #[a.eval d, a.eval s] := by apply Array.toList_inj.1; rw [Array.toList_map, two_eq harg]; rfl
            exact value E' u (by simp only [execOp, resolve, e1, e2, invoke, builtin, Sem.run_bind, Sem.run_pure, Result.andThen_ok, h1]) h2 h3 h4 h5
          · cases h
        case clear =>
          split at h
          · rename_i t x hat harg
            obtain ⟨E', u, h1, h2, h3, h4, h5⟩ := popClear_run hC.T hR (ty := ty) (VR_sv (hev x)) h
            have e1 : ats = #[t] := by apply Array.toList_inj.1; exact single_eq hat
            have e2 : args.map a.eval = #[a.eval x] := by apply Array.toList_inj.1; rw [Array.toList_map, single_eq harg]; rfl
            exact value E' u (by simp only [execOp, resolve, e1, e2, invoke, builtin, Sem.run_bind, Sem.run_pure, Result.andThen_ok, h1]) h2 h3 h4 h5
          · cases h
        case delete =>
          split at h
          · rename_i mT kT m k hat harg
            simp only [Option.map_eq_some_iff] at h
            obtain ⟨b', hb', e⟩ := h
            cases e
            obtain ⟨E', h1, h2, h3, h4⟩ := popDelete_run hC.T hR (kT := kT) (ty := ty) (hev m) (hev k) hb'
            have e1 : ats = #[mT, kT] := by apply Array.toList_inj.1; exact two_eq hat
            have e2 : args.map a.eval = #[a.eval m, a.eval k] := by apply Array.toList_inj.1; rw [Array.toList_map, two_eq harg]; rfl
            exact value E' (.tuple #[]) (by simp only [execOp, resolve, e1, e2, invoke, builtin, Sem.run_bind, Sem.run_pure, Result.andThen_ok, h1]) h2 VR_unit h3 h4
          · cases h
      | value f =>
        simp only at h
        split at h
        · rename_i g caps hf
          have hfv := hev f
          rw [hf] at hfv
          simp only [VR] at hfv
          obtain ⟨cv, hfe, hcv⟩ := hfv
          split at h
          · cases h
          · rename_i fn hfn
            obtain ⟨avs, hal, cap, ar, hdef, harr⟩ := fn_call (g := g) (VRl_map hev args.toList) hcv
            have hargs : args.map a.eval = (args.toList.map a.eval).toArray := by apply Array.toList_inj.1; simp
            have hex : (execOp a.eval ⟨dst, .call ⟨.value f, args, ats⟩, ty, pos, after, guard⟩).run C.P E.w = (callFunc (fnId g) avs.toArray).run C.P E.w := by
              simp only [execOp, resolve, hfe, hargs, hdef, Sem.run_bind, Sem.run_pure, Result.andThen_ok, invoke, harr]
            split at h
            · split at h
              · cases h
              · rename_i l hl
                simp only [Option.map_eq_some_iff] at h
                obtain ⟨v, hv, e⟩ := h
                cases e
                have := toValL_VR hal hl
                rw [this] at hex
                exact value E v (by rw [hex, hC.ext (fnId g) l v hv]) rfl (VR_ofVal E v) (Ext.refl E) hR
            · rename_i body hbody
              rw [hex]
              have hcf : (callFunc (fnId g) avs.toArray).run C.P E.w = .ok (.enter (fnId g) avs.toArray) E.w := by
                have hnm : ¬ fn.name = "runtime.NumGoroutine" := by simpa using hC.names (fnId g) fn hfn
                simp [callFunc, hC.T.func (fnId g) fn hfn, hnm, hbody]
              rw [hcf, Oper.upon_enter]
              refine (popCall_run hC.call hR hal h).mono ?_
              rintro e w' ⟨E', v, rfl, rfl, h2, h3, h4, h5⟩
              exact hK E' v h2 h3 h4 h5
        · cases h
    · cases h

def glD (gl : Nat → Bool) : Option Tmp → Bool
  | none => false
  | some d => gl d

/-- One operation. -/
def popOp (C : Ctx) (o : Oper) (ev : Operand → PV) (bs : Bs) : Option (PV × Bs) :=
  match popOp0 C o ev bs with
  | none => none
  | some (pv, bs') => bif isE C.fm o.op && glD C.gl o.dst then glq bs' pv else some (pv, bs')

theorem popOp_wp {C : Ctx} (hC : C.Ok) {E : Env} (hR : Rel E) {ev : Operand → PV} {a : Act} (hev : ∀ x, VR E (ev x) (a.eval x)) (o : Oper) {pv : PV} {bs' : Bs}
    (h : popOp C o ev E.bs = some (pv, bs')) {K : Act → World → Prop} {Q : Exit → Act → World → Prop}
    (hK : ∀ (E' : Env) (v : Value), E'.bs = bs' → VR E' pv v → Ext E E' → Rel E' → K (a.put o.dst v) E'.w) : o.wp C.P a E.w K Q := by
  unfold popOp at h
  split at h
  · cases h
  · rename_i p0 b0 h0
    refine popOp0_wp hC hR hev o h0 fun E' v hb hv hx hR' => ?_
    cases hc : isE C.fm o.op && glD C.gl o.dst with
    | false => rw [hc] at h; cases h; exact hK E' v hb hv hx hR'
    | true =>
      rw [hc] at h
      simp only [cond_true] at h
      rw [← hb] at h
      obtain ⟨E2, e1, g1, k1⟩ := glq_ok E' p0 pv bs' hR' h
      rw [← g1.w]
      exact hK E2 v e1 (k1 v hv) (hx.trans g1.ext) g1.rel

end

end Go.Pm

/- PM: forgetting: temporaries, and names that nobody bears any more, at the head of a loop. -/

namespace Go.Pm
noncomputable section

/-- What stays of the blocks that outlive the frame. -/
structure GExt (E E' : Env) : Prop extends Fr E E' where
  ent : ∀ x g o, E.bs.ent (.glob x) = some (g, o) → ∃ g' o', E'.bs.ent (.glob x) = some (g', o') ∧ g ≤ g' ∧
    (g' = g → ∀ b', o' = some b' → ∃ b, o = some b ∧ b'.esz = b.esz ∧ b'.elems.length = b.elems.length ∧ E'.mu (.glob x) = E.mu (.glob x) ∧ E'.cap (.glob x) = E.cap (.glob x))

theorem Ext.toG {E E' : Env} (h : Ext E E') : GExt E E' := ⟨h.toFr, fun x g o hr => h.ent (.glob x) g o hr⟩
theorem GExt.trans {A B C : Env} (h : GExt A B) (k : GExt B C) : GExt A C where
  toFr := h.toFr.trans k.toFr
  ent x g o hr := by
    obtain ⟨g1, o1, h1, l1, e1⟩ := h.ent x g o hr
    obtain ⟨g2, o2, h2, l2, e2⟩ := k.ent x g1 o1 h1
    refine ⟨g2, o2, h2, Nat.le_trans l1 l2, fun hg b2 hb2 => ?_⟩
    have hg1 : g1 = g := by omega
    obtain ⟨b1, hb1, x1, x2, x3, x4⟩ := e2 (by omega) b2 hb2
    obtain ⟨b, hb, y1, y2, y3, y4⟩ := e1 hg1 b1 hb1
    exact ⟨b, hb, x1.trans y1, x2.trans y2, x3.trans y3, x4.trans y4⟩

structure StRel (E : Env) (st : St) (a : Act) (nt : Nat) (ds : List Deferred) : Prop where
  bs : E.bs = st.bs
  rel : Rel E
  size : a.tmps.size = nt
  defers : a.defers = ds
  env : ∀ t, VR E (st.env.get t) (a.tmps.getD t undef)

end

end Go.Pm
