/- The arguments opened: rows that are read, as cells. -/
import Derived.Test.YtpcahemjcmccjaaV
import Derived.Deep.Slices
namespace Go.Proofs.Ytpcahemjcmccjaa
open Go.ChangeShapes Go.WideShapes Go.RowKit

section
variable {H : Type} {enc : TypeId × Value → H} {w : World} {base : Nat} {spare : Nat → Bool} {held : Bool}

theorem trod_float {P : Program} {t : TypeId} {k : FloatKind} {fuel : Nat} {cs : List Value} {x : DataW H × List MemPlace} (ht : P.underlying t = some (.float k)) (h : DataW.trod enc P w base spare held fuel t cs = some x) : ∃ b, cs = [.float k b] ∧ (Lit.float k b).wf = true := by
  cases fuel with
  | zero => simp [DataW.trod] at h
  | succ n =>
    unfold DataW.trod at h
    rw [ht] at h
    split at h <;> simp_all
theorem trod_key {fuel : Nat} {cs : List Value} {x : DataW H × List MemPlace} (h : DataW.trod enc Try.prog w base spare held fuel 28 cs = some x) : ∃ b, cs = [.float .f64 b] ∧ b < 18446744073709551616 := by
  obtain ⟨b, h1, h2⟩ := trod_float Try.underlying28 h
  refine ⟨b, h1, ?_⟩
  simpa [Lit.wf] using h2

theorem cell_at {a : Addr} {n i : Nat} {cs : List Value} {v : Value} (h : w.cells? base a n = some cs) (hv : cs[i]? = some v) : w.cell? (a.add i) = some v := by
  obtain ⟨_, h2, h3⟩ := World.cells?_some h
  rw [h3 i (by have := (List.getElem?_eq_some_iff.1 hv).1; omega)]
  exact hv

/-- Numbers. -/
theorem trod_FC {fuel : Nat} {cs : List Value} {x : DataW H × List MemPlace} (h : DataW.trod enc Try.prog w base spare held fuel 29 cs = some x) :
    ∃ (A : Option Addr) (l : List Nat) (c : Nat), cs = [.slice A l.length c] ∧ FC w w.heap.size A l ∧ l.length ≤ c ∧ (A = none → c = 0) ∧ l.length ≤ maxLen := by
  rcases DataW.trod_slice Try.underlying29 h with ⟨rfl, _⟩ | ⟨a, len, cap, elems, rest, n, _, rfl, _, _, hl, hm, hlen, hel, _, _⟩
  · exact ⟨none, [], 0, rfl, ⟨by simp, by simp⟩, Nat.le_refl _, fun _ => rfl, Nat.zero_le _⟩
  · obtain ⟨f, hf⟩ := Go.Deep.choose_lt (α := Nat) (n := len) (p := fun i b => w.cell? (a.add i) = some (.float .f64 b) ∧ b < 18446744073709551616) (fun i hi => by
      have h1 := hel i hi
      rw [List.getElem?_eq_getElem (by omega), Option.bind_eq_some_iff] at h1
      obtain ⟨cs', h2, h3⟩ := h1
      obtain ⟨b, rfl, hb⟩ := trod_key h3
      have hc : Try.prog.cellsOf 28 = 1 := by kernel_rfl
      rw [hc, Nat.mul_one] at h2
      refine ⟨b, ?_, hb⟩
      have := cell_at (i := 0) h2 rfl
      rwa [Go.Deep.add_add, Nat.add_zero] at this)
    have hle : ((List.range len).map f).length = len := by simp
    refine ⟨some a, (List.range len).map f, cap, by rw [hle], ⟨fun y hy => ?_, fun hp => ?_⟩, by rw [hle]; exact hl, (fun e => by cases e), by rw [hle]; omega⟩
    · obtain ⟨i, hi, rfl⟩ := List.mem_map.1 hy
      exact (hf i (List.mem_range.1 hi)).2
    · rw [hle] at hp
      have h0 := (hf 0 hp).1
      obtain ⟨b, off, spot⟩ := a
      have hs : spot = none := by simpa [Addr.add] using World.cell?_spot h0
      subst hs
      have hb : b < w.heap.size := by simpa [Addr.add] using World.block_lt_of_cell? _ _ h0
      refine ⟨b, off, rfl, hb, fun j y hy => ?_⟩
      have hj : j < len := by have := (List.getElem?_eq_some_iff.1 hy).1; omega
      have h1 := (hf j hj).1
      rw [add_plain] at h1
      rw [h1]
      simp [hj] at hy
      rw [hy]

set_option maxRecDepth 100000 in
/-- One row. -/
theorem trod_row {fuel : Nat} {cs : List Value} {x : DataW H × List MemPlace} (h : DataW.trod enc Try.prog w base spare held fuel 33 cs = some x) :
    ∃ (d : RowD) (A : Option Addr) (c : Nat), cs = (d.cells A c).toList ∧ d.key < 18446744073709551616 ∧ d.cols.length ≤ maxLen ∧ FC w w.heap.size A d.cols ∧ d.cols.length ≤ c ∧ (A = none → c = 0) := by
  obtain ⟨xs, n, _, _, hlen, hxl, hf⟩ := DataW.trod_struct Try.underlying33 h
  have h6 : Try.prog.cellsOf 33 = 6 := by kernel_rfl
  rw [h6] at hlen
  match cs, hlen with
  | [c0, c1, c2, c3, c4, c5], _ =>
    have e1 : Try.prog.cellsOf 28 = 1 := by kernel_rfl
    have e2 : Try.prog.cellsOf 4 = 1 := by kernel_rfl
    have e3 : Try.prog.cellsOf 29 = 1 := by kernel_rfl
    have e4 : Try.prog.cellsOf 3 = 1 := by kernel_rfl
    have e5 : Try.prog.cellsOf 31 = 2 := by kernel_rfl
    have hx : ∀ i, i < 5 → ∃ y, xs[i]? = some y := fun i hi => ⟨_, List.getElem?_eq_getElem (by rw [hxl]; exact hi)⟩
    obtain ⟨y0, g0⟩ := hx 0 (by omega)
    obtain ⟨y1, g1⟩ := hx 1 (by omega)
    obtain ⟨y2, g2⟩ := hx 2 (by omega)
    obtain ⟨y3, g3⟩ := hx 3 (by omega)
    obtain ⟨y4, g4⟩ := hx 4 (by omega)
    have k0 : DataW.trod enc Try.prog w base spare held n 28 (([c0, c1, c2, c3, c4, c5].drop 0).take (Try.prog.cellsOf 28)) = some y0 := (hf 0 _ rfl).trans g0
    rw [e1] at k0
    have k1 : DataW.trod enc Try.prog w base spare held n 4 (([c0, c1, c2, c3, c4, c5].drop 1).take (Try.prog.cellsOf 4)) = some y1 := (hf 1 _ rfl).trans g1
    rw [e2] at k1
    have k2 : DataW.trod enc Try.prog w base spare held n 29 (([c0, c1, c2, c3, c4, c5].drop 2).take (Try.prog.cellsOf 29)) = some y2 := (hf 2 _ rfl).trans g2
    rw [e3] at k2
    have k3 : DataW.trod enc Try.prog w base spare held n 3 (([c0, c1, c2, c3, c4, c5].drop 3).take (Try.prog.cellsOf 3)) = some y3 := (hf 3 _ rfl).trans g3
    rw [e4] at k3
    have k4 : DataW.trod enc Try.prog w base spare held n 31 (([c0, c1, c2, c3, c4, c5].drop 4).take (Try.prog.cellsOf 31)) = some y4 := (hf 4 _ rfl).trans g4
    rw [e5] at k4
    obtain ⟨key, q0, hk⟩ := trod_key (cs := [c0]) k0
    obtain ⟨dead, q1, _⟩ := DataW.trod_bool (cs := [c1]) Try.underlying4 k1
    obtain ⟨A, l, c, q2, hfc, hl, hA, hm⟩ := trod_FC (cs := [c2]) k2
    obtain ⟨wr, q3, _⟩ := DataW.trod_int (cs := [c3]) Try.underlying3 k3
    obtain ⟨zs, n', _, _, _, hzl, hz⟩ := DataW.trod_struct (cs := [c4, c5]) Try.underlying31 k4
    have hzx : ∀ i, i < 2 → ∃ y, zs[i]? = some y := fun i hi => ⟨_, List.getElem?_eq_getElem (by rw [hzl]; exact hi)⟩
    obtain ⟨z0, r0⟩ := hzx 0 (by omega)
    obtain ⟨z1, r1⟩ := hzx 1 (by omega)
    have m0 : DataW.trod enc Try.prog w base spare held n' 3 (([c4, c5].drop 0).take (Try.prog.cellsOf 3)) = some z0 := (hz 0 _ rfl).trans r0
    rw [e4] at m0
    have m1 : DataW.trod enc Try.prog w base spare held n' 3 (([c4, c5].drop 1).take (Try.prog.cellsOf 3)) = some z1 := (hz 1 _ rfl).trans r1
    rw [e4] at m1
    obtain ⟨rc, q4, _⟩ := DataW.trod_int (cs := [c4]) Try.underlying3 m0
    obtain ⟨rn, q5, _⟩ := DataW.trod_int (cs := [c5]) Try.underlying3 m1
    injection q0 with q0 _
    injection q1 with q1 _
    injection q2 with q2 _
    injection q3 with q3 _
    injection q4 with q4 _
    injection q5 with q5 _
    subst q0 q1 q2 q3 q4 q5
    exact ⟨⟨key, dead, l, wr, rc, rn⟩, A, c, rfl, hk, hm, hfc, hl, hA⟩

/-- Rows. -/
theorem trod_rows {fuel : Nat} {cs : List Value} {x : DataW H × List MemPlace} (h : DataW.trod enc Try.prog w base spare held fuel 22 cs = some x) :
    ∃ (A : Option Addr) (l : List RowD) (c : Nat), cs = [.slice A l.length c] ∧ Rd w A c l ∧ l.length ≤ maxLen := by
  rcases DataW.trod_slice Try.underlying22 h with ⟨rfl, _⟩ | ⟨a, len, cap, elems, rest, n, _, rfl, _, _, hl, hm, hlen, hel, _, _⟩
  · exact ⟨none, [], 0, rfl, Rd.nil w, Nat.zero_le _⟩
  · have : Inhabited RowD := ⟨⟨0, false, [], 0, 0, 0⟩⟩
    have hc : Try.prog.cellsOf 33 = 6 := by kernel_rfl
    obtain ⟨f, hf⟩ := Go.Deep.choose_lt (α := RowD) (n := len) (p := fun i d => d.key < 18446744073709551616 ∧ d.cols.length ≤ maxLen ∧ ∃ A' c', FC w w.heap.size A' d.cols ∧ d.cols.length ≤ c' ∧ (A' = none → c' = 0) ∧ ∀ j v, (d.cells A' c')[j]? = some v → w.cell? (a.add (i * 6 + j)) = some v) (fun i hi => by
      have h1 := hel i hi
      rw [List.getElem?_eq_getElem (by omega), Option.bind_eq_some_iff] at h1
      obtain ⟨cs', h2, h3⟩ := h1
      obtain ⟨d, A', c', rfl, g1, g2, g3, g4, g5⟩ := trod_row h3
      rw [hc] at h2
      refine ⟨d, g1, g2, A', c', g3, g4, g5, fun j v hv => ?_⟩
      have := cell_at (i := j) h2 (by simpa using hv)
      rwa [Go.Deep.add_add] at this)
    have hle : ((List.range len).map f).length = len := by simp
    refine ⟨some a, (List.range len).map f, cap, by rw [hle], ⟨⟨fun y hy => ?_, fun hp => ?_⟩, (fun e => by cases e)⟩, by rw [hle]; omega⟩
    · obtain ⟨i, hi, rfl⟩ := List.mem_map.1 hy
      have := hf i (List.mem_range.1 hi)
      exact ⟨this.1, this.2.1⟩
    · rw [hle] at hp
      obtain ⟨_, _, A0, c0, _, _, _, h0⟩ := hf 0 hp
      have h0 := h0 0 _ rfl
      obtain ⟨b, off, spot⟩ := a
      have hs : spot = none := by simpa [Addr.add] using World.cell?_spot h0
      subst hs
      have hb : b < w.heap.size := by simpa [Addr.add] using World.block_lt_of_cell? _ _ h0
      refine ⟨b, off, rfl, hb, fun i d hd => ?_⟩
      have hj : i < len := by have := (List.getElem?_eq_some_iff.1 hd).1; omega
      obtain ⟨_, _, A', c', g1, g2, g3, g4⟩ := hf i hj
      have e : f i = d := by simpa [hj] using hd
      rw [e] at g1 g2 g4
      refine ⟨A', c', g1, g2, g3, fun j v hv => ?_⟩
      have := g4 j v hv
      rw [add_plain] at this
      rw [Nat.add_assoc]
      exact this
end
end Go.Proofs.Ytpcahemjcmccjaa
