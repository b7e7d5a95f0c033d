/- Slices of rows: what they read as, and the functions that only read them. -/
import Derived.Test.YtpcahemjcmccjaaD
namespace Go.Proofs.Ytpcahemjcmccjaa
open Go.RowKit

/-- The cells of rows. -/
def RC (w : World) (B : Nat) (A : Option Addr) (l : List RowD) : Prop :=
  (∀ d ∈ l, d.key < 18446744073709551616 ∧ d.cols.length ≤ maxLen) ∧ (0 < l.length → ∃ b off, A = some ⟨b, off, none⟩ ∧ b < B ∧ ∀ i d, l[i]? = some d → ∃ A' c', FC w B A' d.cols ∧ d.cols.length ≤ c' ∧ (A' = none → c' = 0) ∧
    ∀ j v, (d.cells A' c')[j]? = some v → w.cell? ⟨b, off + i * 6 + j, none⟩ = some v)

theorem RC.below {w w' : World} {B : Nat} {A : Option Addr} {l : List RowD} (h : RC w B A l) (hb : Below B w w') : RC w' B A l :=
  ⟨h.1, fun hl => by
    obtain ⟨b, off, e, hB, hc⟩ := h.2 hl
    refine ⟨b, off, e, hB, fun i d hd => ?_⟩
    obtain ⟨A', c', h1, h2, h3, h4⟩ := hc i d hd
    exact ⟨A', c', h1.below hb, h2, h3, fun j v hv => (hb.cell (p := ⟨b, off + i * 6 + j, none⟩) hB).trans (h4 j v hv)⟩⟩
theorem RC.more {w : World} {B B' : Nat} {A : Option Addr} {l : List RowD} (h : RC w B A l) (hb : B ≤ B') : RC w B' A l :=
  ⟨h.1, fun hl => by
    obtain ⟨b, off, e, hB, hc⟩ := h.2 hl
    refine ⟨b, off, e, by omega, fun i d hd => ?_⟩
    obtain ⟨A', c', h1, h2, h3, h4⟩ := hc i d hd
    exact ⟨A', c', h1.more hb, h2, h3, h4⟩⟩

/-- One row of them. -/
theorem RC.at_ {w : World} {B : Nat} {A : Option Addr} {l : List RowD} (h : RC w B A l) {k : Nat} {d : RowD} (hd : l[k]? = some d) :
    ∃ b off A' c', A = some ⟨b, off, none⟩ ∧ b < B ∧ FC w B A' d.cols ∧ d.cols.length ≤ c' ∧ (A' = none → c' = 0) ∧ d.key < 18446744073709551616 ∧ d.cols.length ≤ maxLen ∧
      w.cell? ⟨b, off + k * 6, none⟩ = some (.float .f64 d.key) ∧ w.cell? ⟨b, off + k * 6 + 1, none⟩ = some (.bool d.dead) ∧ w.cell? ⟨b, off + k * 6 + 2, none⟩ = some (.slice A' d.cols.length c') ∧
      w.cell? ⟨b, off + k * 6 + 3, none⟩ = some (.int .i64 d.wr) ∧ w.cell? ⟨b, off + k * 6 + 4, none⟩ = some (.int .i64 d.rc) ∧ w.cell? ⟨b, off + k * 6 + 5, none⟩ = some (.int .i64 d.rn) := by
  obtain ⟨b, off, e, hB, hc⟩ := h.2 (by have := (List.getElem?_eq_some_iff.1 hd).1; omega)
  obtain ⟨A', c', h1, h2, h3, h4⟩ := hc k d hd
  have h5 := h.1 d (List.mem_of_getElem? hd)
  exact ⟨b, off, A', c', e, hB, h1, h2, h3, h5.1, h5.2, h4 0 _ rfl, h4 1 _ rfl, h4 2 _ rfl, h4 3 _ rfl, h4 4 _ rfl, h4 5 _ rfl⟩
theorem take_at {α : Type} {l : List α} {k : Nat} {d : α} (h : l[k]? = some d) : l.take (k + 1) = l.take k ++ [d] := by
  rw [List.take_add_one, h]; rfl
theorem get_at {α : Type} {l : List α} {k n : Nat} (hn : Hid (l.length = n)) (h : k < n) : ∃ d, l[k]? = some d := ⟨l[k]'(by rw [hn.out]; exact h), List.getElem?_eq_getElem _⟩

/-- It answers; where it says yes there are few. -/
def Few (l : List RowD) (w : World) (e : Ending) (w' : World) : Prop := ∃ b, e = .returned (.bool b) ∧ (b = true → l.length ≤ 60 ∧ ∀ d ∈ l, d.cols.length ≤ 10) ∧ Below w.heap.size w w'

set_option maxHeartbeats 2000000 in
theorem light_any (A : Option Addr) (c : Nat) (l : List RowD) (w : World) (h : RC w w.heap.size A l) (m : l.length ≤ maxLen) :
    Calls Try.prog 10 #[.slice A l.length c] w (Few l w) := by
  unfold maxLen at m
  obtain ⟨n, hn⟩ : ∃ n, l.length = n := ⟨_, rfl⟩
  rw [hn] at m ⊢
  have H := Lib.hid h
  have N := Lib.hid hn
  clear h hn
  go_enter Try.func10, Try.ntmps10
  go_wp2
  go_loopw [3] (fun i wr => ∃ k : Nat, k ≤ n ∧ k ≤ 60 ∧ i = .int .i64 k ∧ (∀ d ∈ l.take k, d.cols.length ≤ 10) ∧ Below w.heap.size w wr) (fun i _ => n - (intOf i).toNat)
  case atStart => exact ⟨0, Nat.zero_le _, by omega, rfl, by simp, Below.refl _ _⟩
  case round =>
    obtain ⟨k, hk, hk2, rfl, ht, hb⟩ := hrel
    have HB := Lib.hid hb
    have HT := Lib.hid ht
    clear hb ht
    by_cases hlt : k < n
    · by_cases hlt2 : k < 60
      · obtain ⟨d, hd⟩ := get_at N hlt
        obtain ⟨b1, o1, A', c', e1, q1, q2, q3, q4, q5, q6, r0, r1, r2, r3, r4, r5⟩ := (H.out.below HB.out).at_ hd
        subst e1
        have HD := Lib.hid hd
        clear r0 r1 r3 r4 r5 q1 q2 q3 q4 q5 hd
        unfold maxLen at q6
        go_wp2
        · go_ret
          exact ⟨_, rfl, (fun h => by cases h), HB.out⟩
        · have h10 : d.cols.length ≤ 10 := by omega
          refine ⟨⟨k + 1, by omega, by omega, by go_num, ?_, HB.out⟩, by simp [intOf]; omega⟩
          rw [take_at HD.out]
          intro d' hd'
          rcases List.mem_append.1 hd' with h | h
          · exact HT.out d' h
          · rw [List.mem_singleton.1 h]; exact h10
      · have : k = 60 := by omega
        subst this
        clear hlt2
        go_wp2
        go_ret
        refine ⟨_, rfl, fun h => ?_, HB.out⟩
        simp at h
        omega
    · have hk' : k = n := by omega
      have HK := Lib.hid hk'
      clear hk'
      go_wp2
      go_ret
      refine ⟨_, rfl, fun _ => ⟨by have := N.out; omega, ?_⟩, HB.out⟩
      have ht := HT.out
      rw [List.take_of_length_le (by have := N.out; have := HK.out; omega)] at ht
      exact ht

/-- Rows of nobody. -/
def Nobody (l : List RowD) : Prop := (l.length ≤ 60 ∧ ∀ d ∈ l, d.cols.length ≤ 10) ∧ ∀ d ∈ l, d.wr = 0 ∧ d.rc = 0 ∧ d.rn = 0
def Fine (l : List RowD) (w : World) (e : Ending) (w' : World) : Prop := ∃ b, e = .returned (.bool b) ∧ (b = true → Nobody l) ∧ Below w.heap.size w w'

theorem light_of (A : Option Addr) (c : Nat) (l : List RowD) (w W : World) (hb : Below w.heap.size w W) (h : RC w w.heap.size A l) (m : l.length ≤ maxLen) :
    Calls Try.prog 10 #[.slice A l.length c] W fun e w' => ∃ b, e = .returned (.bool b) ∧ (b = true → l.length ≤ 60 ∧ ∀ d ∈ l, d.cols.length ≤ 10) ∧ Below w.heap.size w w' :=
  (light_any A c l W ((h.below hb).more hb.size) m).mono fun _ _ ⟨b, h1, h2, h3⟩ => ⟨b, h1, h2, hb.trans (h3.mono hb.size)⟩
theorem rmay_of (a : RowD) (A : Option Addr) (c : Nat) (w W : World) (hb : Below w.heap.size w W) (h : FC w w.heap.size A a.cols) (m : a.cols.length ≤ maxLen) (hk : a.key < 18446744073709551616) :
    Calls Try.prog 9 #[.agg (a.cells A c)] W fun e w' => ∃ b, e = .returned (.bool b) ∧ Below w.heap.size w w' :=
  (rmay_any a A c W ((h.below hb).more hb.size) m hk).mono fun _ _ ⟨b, h1, h2⟩ => ⟨b, h1, hb.trans (h2.mono hb.size)⟩

set_option maxHeartbeats 2000000 in
theorem may_any (A : Option Addr) (c : Nat) (l : List RowD) (w : World) (h : RC w w.heap.size A l) (m : l.length ≤ maxLen) :
    Calls Try.prog 4 #[.slice A l.length c] w (Fine l w) := by
  have cl := fun W (hb : Below w.heap.size w W) => light_of A c l w W hb h m
  unfold maxLen at m
  obtain ⟨n, hn⟩ : ∃ n, l.length = n := ⟨_, rfl⟩
  rw [hn] at m cl ⊢
  have H := Lib.hid h
  have N := Lib.hid hn
  have CL := Lib.hid cl
  clear h hn cl
  go_enter Try.func4, Try.ntmps4
  go_wp2
  go_loopw [3] (fun i wr => ∃ k : Nat, k ≤ n ∧ k ≤ 60 ∧ i = .int .i64 k ∧ (∀ d ∈ l.take k, d.wr = 0 ∧ d.rc = 0 ∧ d.rn = 0) ∧ Below w.heap.size w wr) (fun i _ => n - (intOf i).toNat)
  case atStart => exact ⟨0, Nat.zero_le _, by omega, rfl, by simp, Below.refl _ _⟩
  case round =>
    obtain ⟨k, hk, hk2, rfl, ht, hb⟩ := hrel
    have HB := Lib.hid hb
    have HT := Lib.hid ht
    clear hb ht
    by_cases hlt : k < n
    · by_cases hlt2 : k < 60
      · obtain ⟨d, hd⟩ := get_at N hlt
        obtain ⟨b1, o1, A', c', e1, q1, q2, q3, q4, q5, q6, r0, r1, r2, r3, r4, r5⟩ := (H.out.below HB.out).at_ hd
        subst e1
        have cm := fun W (hb : Below wr.heap.size wr W) => rmay_of d A' c' wr W hb (q2.more HB.out.size) q6 q5
        have q1' : b1 < wr.heap.size := Nat.lt_of_lt_of_le q1 HB.out.size
        have HD := Lib.hid hd
        clear q1 q2 q3 q4 q5 q6 hd
        obtain ⟨key, dead, cols, x, y, z⟩ := d
        simp only [RowD.cells] at cm r0 r1 r2 r3 r4 r5
        have CM := Lib.hid cm
        clear cm
        by_cases g1 : x = 0
        · subst g1
          go_wp2_with (first | (go_at_call 9; (with_reducible refine (CM.out _ (Below.refl _ _)).mono ?_); rintro e w1 ⟨b, rfl, hb1⟩; cases b; all_goals (have s3 := (hb1.cell (p := ⟨b1, o1 + k * 6 + 3, none⟩) q1').trans r3; have s4 := (hb1.cell (p := ⟨b1, o1 + k * 6 + 4, none⟩) q1').trans r4; have s5 := (hb1.cell (p := ⟨b1, o1 + k * 6 + 5, none⟩) q1').trans r5)))
          all_goals first
            | (go_ret; exact ⟨_, rfl, (fun h => by cases h), HB.out.trans (hb1.mono HB.out.size)⟩)
            | skip
          refine ⟨⟨k + 1, by omega, by omega, by go_num, ?_, HB.out.trans (hb1.mono HB.out.size)⟩, by simp [intOf]; omega⟩
          rw [take_at HD.out]
          have hy : y = 0 := by assumption
          have hz : z = 0 := by assumption
          intro d hd
          rcases List.mem_append.1 hd with h | h
          · exact HT.out d h
          · rw [List.mem_singleton.1 h]
            exact ⟨rfl, hy, hz⟩
        · go_wp2_with (first | (go_at_call 9; (with_reducible refine (CM.out _ (Below.refl _ _)).mono ?_); rintro e w1 ⟨b, rfl, hb1⟩; cases b; all_goals (have s3 := (hb1.cell (p := ⟨b1, o1 + k * 6 + 3, none⟩) q1').trans r3; have s4 := (hb1.cell (p := ⟨b1, o1 + k * 6 + 4, none⟩) q1').trans r4; have s5 := (hb1.cell (p := ⟨b1, o1 + k * 6 + 5, none⟩) q1').trans r5)))
          all_goals (go_ret; exact ⟨_, rfl, (fun h => by cases h), HB.out.trans (hb1.mono HB.out.size)⟩)
      · have : k = 60 := by omega
        subst this
        clear hlt2
        go_wp2_with (first | (go_at_call 10; (with_reducible refine (CL.out _ HB.out).mono ?_); rintro e w1 ⟨b, rfl, h60, hb1⟩; have H60 := Lib.hid h60; clear h60))
        go_ret
        refine ⟨_, rfl, fun h => ?_, hb1⟩
        have h2 := (H60.out h).1
        have := N.out
        omega
    · have hk' : k = n := by omega
      have HK := Lib.hid hk'
      clear hk'
      go_wp2_with (first | (go_at_call 10; (with_reducible refine (CL.out _ HB.out).mono ?_); rintro e w1 ⟨b, rfl, h60, hb1⟩; have H60 := Lib.hid h60; clear h60))
      go_ret
      refine ⟨_, rfl, fun h => ⟨⟨by rw [N.out]; exact (H60.out h).1, (H60.out h).2⟩, ?_⟩, hb1⟩
      · have ht := HT.out
        rw [List.take_of_length_le (by have := N.out; have := HK.out; omega)] at ht
        exact ht
end Go.Proofs.Ytpcahemjcmccjaa
