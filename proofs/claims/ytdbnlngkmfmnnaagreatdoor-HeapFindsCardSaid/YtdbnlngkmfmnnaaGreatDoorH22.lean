/- The arguments opened: leaves, rows and numbers that are read, as cells. -/
import Derived.Test.YtdbnlngkmfmnnaaGreatDoorH15
import Derived.Deep.Slices
import Derived.OpenShut
namespace Go.Proofs.YtdbnlngkmfmnnaaGreatDoor
open Go.ChangeShapes Go.WideShapes Go.RowKit
set_option maxRecDepth 100000

section
variable {H : Type} {enc : TypeId × Value → H} {w : World} {base : Nat} {spare : Nat → Bool} {held : Bool}

theorem plain_add (b off i : Nat) : (⟨b, off, none⟩ : Addr).add i = ⟨b, off + i, none⟩ := by
  unfold Addr.add
  by_cases hi : i = 0
  · subst hi; simp
  · rw [if_neg hi]

theorem trod_float {t : TypeId} {k : FloatKind} {fuel : Nat} {cs : List Value} {x : DataW H × List MemPlace} (ht : Tryz.prog.underlying t = some (.float k)) (h : DataW.trod enc Tryz.prog w base spare held fuel t cs = some x) : ∃ b, cs = [.float k b] ∧ (Lit.float k b).wf = true := by
  cases fuel with
  | zero => simp [DataW.trod] at h
  | succ n =>
    unfold DataW.trod at h
    rw [ht] at h
    split at h <;> simp_all
theorem trod_key {fuel : Nat} {cs : List Value} {x : DataW H × List MemPlace} (h : DataW.trod enc Tryz.prog w base spare held fuel 25 cs = some x) : ∃ b, cs = [.float .f64 b] ∧ b < 18446744073709551616 := by
  obtain ⟨b, h1, h2⟩ := trod_float Tryz.underlying25 h
  refine ⟨b, h1, ?_⟩
  simpa [Lit.wf] using h2

theorem cell_in {a : Addr} {n i : Nat} {cs : List Value} {v : Value} (h : w.cells? base a n = some cs) (hv : cs[i]? = some v) : w.cell? (a.add i) = some v := by
  obtain ⟨_, h2, h3⟩ := World.cells?_some h
  rw [h3 i (by have := (List.getElem?_eq_some_iff.1 hv).1; omega)]
  exact hv

/-- A slice that is read, whatever its elements. -/
theorem open_slice {α : Type} [Inhabited α] {t e : TypeId} {size : Nat} {E : List Value → α → Prop} (ht : Tryz.prog.underlying t = some (.slice e)) (hc : Tryz.prog.cellsOf e = size)
    (hE : ∀ (fuel : Nat) (cs : List Value) (x : DataW H × List MemPlace), DataW.trod enc Tryz.prog w base spare held fuel e cs = some x → 0 < cs.length ∧ ∃ d, E cs d)
    {fuel : Nat} {cs : List Value} {x : DataW H × List MemPlace} (h : DataW.trod enc Tryz.prog w base spare held fuel t cs = some x) :
    ∃ (A : Option Addr) (l : List α) (c : Nat), cs = [.slice A l.length c] ∧ l.length ≤ c ∧ c ≤ maxLen ∧ (A = none → c = 0) ∧ l.length ≤ maxLen ∧ (∀ d ∈ l, ∃ cs', E cs' d) ∧
      (0 < l.length → ∃ b off, A = some ⟨b, off, none⟩ ∧ b < w.heap.size ∧ ∀ i d, l[i]? = some d → ∃ cs', E cs' d ∧ ∀ j v, cs'[j]? = some v → w.cell? ⟨b, off + i * size + j, none⟩ = some v) := by
  rcases DataW.trod_slice ht h with ⟨rfl, _⟩ | ⟨a, len, cap, elems, rest, n, _, rfl, _, _, hl, hm, hlen, hel, _, _⟩
  · exact ⟨none, [], 0, rfl, Nat.le_refl _, Nat.zero_le _, fun _ => rfl, Nat.zero_le _, by simp, by simp⟩
  · obtain ⟨f, hf⟩ := Go.Deep.choose_lt (α := α) (n := len) (p := fun i d => ∃ cs', E cs' d ∧ 0 < cs'.length ∧ ∀ j v, cs'[j]? = some v → w.cell? (a.add (i * size + j)) = some v) (fun i hi => by
      have h1 := hel i hi
      rw [List.getElem?_eq_getElem (by omega), Option.bind_eq_some_iff] at h1
      obtain ⟨cs', h2, h3⟩ := h1
      obtain ⟨hp, d, hd⟩ := hE _ _ _ h3
      rw [hc] at h2
      refine ⟨d, cs', hd, hp, fun j v hv => ?_⟩
      have := cell_in (i := j) h2 hv
      rwa [Go.Deep.add_add] at this)
    have hle : ((List.range len).map f).length = len := by simp
    refine ⟨some a, (List.range len).map f, cap, by rw [hle], by rw [hle]; exact hl, hm, (fun e => by cases e), by rw [hle]; omega, fun d hd => ?_, fun hp => ?_⟩
    · obtain ⟨i, hi, rfl⟩ := List.mem_map.1 hd
      obtain ⟨cs', h1, _⟩ := hf i (List.mem_range.1 hi)
      exact ⟨cs', h1⟩
    · rw [hle] at hp
      obtain ⟨cs0, _, hp0, h0⟩ := hf 0 hp
      have h0 := h0 0 _ (List.getElem?_eq_getElem hp0)
      obtain ⟨b, off, spot⟩ := a
      have hs : spot = none := by simpa [Addr.add] using World.cell?_spot h0
      subst hs
      have hb : b < w.heap.size := by simpa [Addr.add] using World.block_lt_of_cell? _ _ h0
      refine ⟨b, off, rfl, hb, fun i d hd => ?_⟩
      have hj : i < len := by have := (List.getElem?_eq_some_iff.1 hd).1; omega
      obtain ⟨cs', h1, _, h2⟩ := hf i hj
      have e : f i = d := by simpa [hj] using hd
      rw [e] at h1
      refine ⟨cs', h1, fun j v hv => ?_⟩
      have := h2 j v hv
      rw [plain_add, ← Nat.add_assoc] at this
      exact this

theorem one_of {v : Value} {cs : List Value} (h : cs = [v]) : 0 < cs.length := by rw [h]; exact Nat.zero_lt_one

theorem trod_ZC {fuel : Nat} {cs : List Value} {x : DataW H × List MemPlace} (h : DataW.trod enc Tryz.prog w base spare held fuel 59 cs = some x) :
    ∃ (A : Option Addr) (l : List Int) (c : Nat), cs = [.slice A l.length c] ∧ ZC w w.heap.size A l ∧ l.length ≤ c ∧ (A = none → c = 0) ∧ l.length ≤ maxLen := by
  obtain ⟨A, l, c, h1, h2, h3, h4, h5, h6, h7⟩ := open_slice (size := 1) (E := fun cs (n : Int) => cs = [.int .i64 n]) Tryz.underlying59 (by kernel_rfl) (fun fuel cs x hx => by
    obtain ⟨n, e, _⟩ := DataW.trod_int Tryz.underlying3 hx
    exact ⟨one_of e, n, e⟩) h
  refine ⟨A, l, c, h1, fun hp => ?_, h2, h4, h5⟩
  obtain ⟨b, off, e, hb, hc⟩ := h7 hp
  refine ⟨b, off, e, hb, fun j y hy => ?_⟩
  obtain ⟨cs', rfl, h⟩ := hc j y hy
  have := h 0 _ rfl
  simpa using this
theorem trod_BC {fuel : Nat} {cs : List Value} {x : DataW H × List MemPlace} (h : DataW.trod enc Tryz.prog w base spare held fuel 53 cs = some x) :
    ∃ (A : Option Addr) (l : List Nat) (c : Nat), cs = [.slice A l.length c] ∧ BC w w.heap.size A l ∧ l.length ≤ c ∧ (A = none → c = 0) ∧ c ≤ maxLen := by
  obtain ⟨A, l, c, h1, h2, h3, h4, h5, h6, h7⟩ := open_slice (size := 1) (E := fun cs (n : Nat) => cs = [.int .u8 (n : Nat)] ∧ n < 256) Tryz.underlying53 (by kernel_rfl) (fun fuel cs x hx => by
    obtain ⟨n, e, _, hw⟩ := DataW.trod_int Tryz.underlying5 hx
    simp [Lit.wf, IntKind.min, IntKind.max, IntKind.signed, IntKind.bits] at hw
    exact ⟨one_of e, n.toNat, by rw [e, Int.toNat_of_nonneg hw.1], by omega⟩) h
  refine ⟨A, l, c, h1, ⟨fun x hx => ?_, fun hp => ?_⟩, h2, h4, h3⟩
  · obtain ⟨_, _, hb⟩ := h6 x hx
    exact hb
  · obtain ⟨b, off, e, hb, hc⟩ := h7 hp
    refine ⟨b, off, e, hb, fun j y hy => ?_⟩
    obtain ⟨cs', ⟨rfl, _⟩, h⟩ := hc j y hy
    have := h 0 _ rfl
    simpa using this
theorem trod_SC {fuel : Nat} {cs : List Value} {x : DataW H × List MemPlace} (h : DataW.trod enc Tryz.prog w base spare held fuel 64 cs = some x) :
    ∃ (A : Option Addr) (l : List (List Nat)) (c : Nat), cs = [.slice A l.length c] ∧ SC w w.heap.size A l ∧ l.length ≤ c ∧ (A = none → c = 0) ∧ l.length ≤ maxLen := by
  obtain ⟨A, l, c, h1, h2, h3, h4, h5, h6, h7⟩ := open_slice (size := 1) (E := fun cs (s : List Nat) => ∃ A' c', cs = [.slice A' s.length c'] ∧ BC w w.heap.size A' s ∧ s.length ≤ c' ∧ c' ≤ maxLen ∧ (A' = none → c' = 0)) Tryz.underlying64 (by kernel_rfl) (fun fuel cs x hx => by
    obtain ⟨A', l', c', e, q1, q2, q3, q4⟩ := trod_BC hx
    exact ⟨one_of e, l', A', c', e, q1, q2, q4, q3⟩) h
  refine ⟨A, l, c, h1, fun hp => ?_, h2, h4, h5⟩
  obtain ⟨b, off, e, hb, hc⟩ := h7 hp
  refine ⟨b, off, e, hb, fun j y hy => ?_⟩
  obtain ⟨cs', ⟨A', c', rfl, q1, q2, q3, q4⟩, h⟩ := hc j y hy
  have := h 0 _ rfl
  exact ⟨A', c', by simpa using this, q1, q2, by unfold maxLen at q3; exact q3, q4⟩

def LeafIs (w : World) (cs : List Value) (d : LeafD) : Prop := ∃ A1 c1 A2 c2, cs = [.slice A1 d.itl.length c1, .slice A2 d.slots.length c2] ∧ ZC w w.heap.size A1 d.itl ∧ SC w w.heap.size A2 d.slots ∧ d.itl.length ≤ maxLen ∧ d.slots.length ≤ maxLen ∧ d.itl.length ≤ c1 ∧ d.slots.length ≤ c2 ∧ (A1 = none → c1 = 0) ∧ (A2 = none → c2 = 0)
set_option maxRecDepth 100000 in
theorem trod_leaf {fuel : Nat} {cs : List Value} {x : DataW H × List MemPlace} (h : DataW.trod enc Tryz.prog w base spare held fuel 66 cs = some x) : ∃ d, LeafIs w cs d := by
  obtain ⟨xs, n, _, _, hlen, hxl, hf⟩ := DataW.trod_struct Tryz.underlying66 h
  have h2 : Tryz.prog.cellsOf 66 = 2 := by kernel_rfl
  rw [h2] at hlen
  match cs, hlen with
  | [c0, c1], _ =>
    have e1 : Tryz.prog.cellsOf 59 = 1 := by kernel_rfl
    have e2 : Tryz.prog.cellsOf 64 = 1 := by kernel_rfl
    have hx : ∀ i, i < 2 → ∃ y, xs[i]? = some y := fun i hi => ⟨_, List.getElem?_eq_getElem (by rw [hxl]; exact hi)⟩
    obtain ⟨y0, g0⟩ := hx 0 (by omega)
    obtain ⟨y1, g1⟩ := hx 1 (by omega)
    have k0 : DataW.trod enc Tryz.prog w base spare held n 59 (([c0, c1].drop 0).take (Tryz.prog.cellsOf 59)) = some y0 := (hf 0 _ rfl).trans g0
    rw [e1] at k0
    have k1 : DataW.trod enc Tryz.prog w base spare held n 64 (([c0, c1].drop 1).take (Tryz.prog.cellsOf 64)) = some y1 := (hf 1 _ rfl).trans g1
    rw [e2] at k1
    obtain ⟨A1, l1, k1', q1, q2, q3, q4, q5⟩ := trod_ZC (cs := [c0]) k0
    obtain ⟨A2, l2, k2', p1, p2, p3, p4, p5⟩ := trod_SC (cs := [c1]) k1
    injection q1 with q1 _
    injection p1 with p1 _
    subst q1 p1
    exact ⟨⟨l1, l2⟩, A1, k1', A2, k2', rfl, q2, p2, q5, p5, q3, p3, q4, p4⟩
instance : Inhabited LeafD := ⟨⟨[], []⟩⟩
instance : Inhabited RowD := ⟨⟨0, false, [], 0, 0, 0⟩⟩
/-- Leaves. -/
theorem trod_LC {fuel : Nat} {cs : List Value} {x : DataW H × List MemPlace} (h : DataW.trod enc Tryz.prog w base spare held fuel 23 cs = some x) :
    ∃ (A : Option Addr) (l : List LeafD) (c : Nat), cs = [.slice A l.length c] ∧ LC w w.heap.size A l ∧ l.length ≤ maxLen := by
  obtain ⟨A, l, c, h1, h2, h3, h4, h5, h6, h7⟩ := open_slice (size := 2) (E := LeafIs w) Tryz.underlying23 (by kernel_rfl) (fun fuel cs x hx => by
    obtain ⟨d, hd⟩ := trod_leaf hx
    refine ⟨?_, d, hd⟩
    obtain ⟨_, _, _, _, rfl, _⟩ := hd
    exact Nat.zero_lt_two) h
  refine ⟨A, l, c, h1, fun hp => ?_, h5⟩
  obtain ⟨b, off, e, hb, hc⟩ := h7 hp
  refine ⟨b, off, e, hb, fun j y hy => ?_⟩
  obtain ⟨cs', ⟨A1, c1, A2, c2, rfl, q⟩, h⟩ := hc j y hy
  exact ⟨A1, c1, A2, c2, h 0 _ rfl, h 1 _ rfl, q⟩

end
theorem okWide_array {w : World} {r : Reach} {base n : Nat} {t e : TypeId} {v : Value} (ht : Tryz.prog.underlying t = some (.array n e)) (h : Value.okWide Tryz.prog w r base t v) : ∃ cs, v = .agg cs ∧ cs.size = Tryz.prog.cellsOf t := by
  simp only [Value.okWide, ht] at h
  obtain ⟨cs, h1, h2, _⟩ := h
  exact ⟨cs, h1, h2⟩
end Go.Proofs.YtdbnlngkmfmnnaaGreatDoor

/- The arguments opened: two numbers, and a berth. -/
namespace Go.Proofs.YtdbnlngkmfmnnaaGreatDoor
open Go.ChangeShapes Go.WideShapes Go.RowKit
set_option maxRecDepth 100000

section
variable {H : Type} {enc : TypeId × Value → H} {w : World} {base : Nat} {spare : Nat → Bool} {held : Bool}

/-- Two numbers. -/
theorem trod_keys {fuel : Nat} {cs : List Value} {x : DataW H × List MemPlace} (h : DataW.trod enc Tryz.prog w base spare held fuel 45 cs = some x) : ∃ x0 x1, cs = [.float .f64 x0, .float .f64 x1] ∧ x0 < 18446744073709551616 ∧ x1 < 18446744073709551616 := by
  obtain ⟨xs, n, _, _, hlen, hxl, hf⟩ := DataW.trod_array Tryz.underlying45 h
  have h2 : Tryz.prog.cellsOf 45 = 2 := by kernel_rfl
  have e1 : Tryz.prog.cellsOf 25 = 1 := by kernel_rfl
  rw [h2] at hlen
  rw [e1] at hf
  match cs, hlen with
  | [c0, c1], _ =>
    have hx : ∀ i, i < 2 → ∃ y, xs[i]? = some y := fun i hi => ⟨_, List.getElem?_eq_getElem (by rw [hxl]; exact hi)⟩
    obtain ⟨y0, g0⟩ := hx 0 (by omega)
    obtain ⟨y1, g1⟩ := hx 1 (by omega)
    obtain ⟨x0, q0, b0⟩ := trod_key (cs := [c0]) ((hf 0 (by omega)).trans g0)
    obtain ⟨x1, q1, b1⟩ := trod_key (cs := [c1]) ((hf 1 (by omega)).trans g1)
    injection q0 with q0 _
    injection q1 with q1 _
    subst q0 q1
    exact ⟨x0, x1, rfl, b0, b1⟩

/-- A berth. -/
theorem trod_berth {fuel : Nat} {cs : List Value} {x : DataW H × List MemPlace} (h : DataW.trod enc Tryz.prog w base spare held fuel 33 cs = some x) : ∃ a b, cs = [.int .i64 a, .int .i64 b] := by
  obtain ⟨xs, n, _, _, hlen, hxl, hf⟩ := DataW.trod_struct Tryz.underlying33 h
  have h2 : Tryz.prog.cellsOf 33 = 2 := by kernel_rfl
  have e1 : Tryz.prog.cellsOf 3 = 1 := by kernel_rfl
  rw [h2] at hlen
  match cs, hlen with
  | [c0, c1], _ =>
    have hx : ∀ i, i < 2 → ∃ y, xs[i]? = some y := fun i hi => ⟨_, List.getElem?_eq_getElem (by rw [hxl]; exact hi)⟩
    obtain ⟨y0, g0⟩ := hx 0 (by omega)
    obtain ⟨y1, g1⟩ := hx 1 (by omega)
    have k0 : DataW.trod enc Tryz.prog w base spare held n 3 (([c0, c1].drop 0).take (Tryz.prog.cellsOf 3)) = some y0 := (hf 0 _ rfl).trans g0
    have k1 : DataW.trod enc Tryz.prog w base spare held n 3 (([c0, c1].drop 1).take (Tryz.prog.cellsOf 3)) = some y1 := (hf 1 _ rfl).trans g1
    rw [e1] at k0 k1
    obtain ⟨a, q0, _⟩ := DataW.trod_int (cs := [c0]) Tryz.underlying3 k0
    obtain ⟨b, q1, _⟩ := DataW.trod_int (cs := [c1]) Tryz.underlying3 k1
    injection q0 with q0 _
    injection q1 with q1 _
    subst q0 q1
    exact ⟨a, b, rfl⟩
end
theorem okWide_strukt {w : World} {r : Reach} {base : Nat} {t : TypeId} {fs : Array Field} {v : Value} (ht : Tryz.prog.underlying t = some (.struct fs)) (h : Value.okWide Tryz.prog w r base t v) : ∃ cs, v = .agg cs ∧ cs.size = Tryz.prog.cellsOf t := by
  simp only [Value.okWide, ht] at h
  obtain ⟨cs, h1, h2, _⟩ := h
  exact ⟨cs, h1, h2⟩
end Go.Proofs.YtdbnlngkmfmnnaaGreatDoor
