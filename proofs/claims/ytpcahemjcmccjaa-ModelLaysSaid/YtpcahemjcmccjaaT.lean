/- The document's Lay: the walk. -/
import Derived.Test.YtpcahemjcmccjaaS
namespace Go.Proofs.Ytpcahemjcmccjaa
open Go.RowKit

theorem own_base {w : World} {base : Nat} {v : Value} {l : List RowD} (h : Own w base v l) : ∀ g, v.ownBlock = some g → base ≤ g ∧ g < w.heap.size := by
  obtain ⟨xs, h1, _⟩ := h
  exact fun g hg => h1.lt g hg

/-- .. behind another such region. -/
theorem quiet_w2 {P : Program} {f : FuncId} {args : Array Value} {w : World} {a n : Nat} {v : Value}
    (h : Calls P f args (w.drewN (a + n)) fun e w' => e = .returned v ∧ w.drewN (a + n) = w') : Calls P f args (w.drewN (a + n)) fun e w' => e = .returned v ∧ ∃ m, w' = w.drewN (a + m) :=
  h.mono fun _ _ h' => ⟨h'.1, n, h'.2.symm⟩

/-- The world within a round: the slice that grows, and the box of the row that is laid. -/
structure InW (wr : World) (bx : Nat) (BC : Array Value) (A : Option Addr) (n c : Nat) (O : List RowD) (w2 : World) : Prop where
  own : Own w2 wr.heap.size (.slice A n c) O
  len : O.length = n
  ne : Value.ownBlock (.slice A n c) ≠ some bx
  lt : bx < w2.heap.size
  box : w2.heap[bx]? = some (.cells BC 33 (0, 0))
  below : Below wr.heap.size wr w2

theorem InW.drewN {wr : World} {bx : Nat} {BC : Array Value} {A : Option Addr} {n c : Nat} {O : List RowD} {w2 : World} (h : InW wr bx BC A n c O w2) (m : Nat) : InW wr bx BC A n c O (w2.drewN m) := by
  have hb := below_drewN (Below.refl w2.heap.size w2) m
  exact ⟨h.own.below hb, h.len, h.ne, Nat.lt_of_lt_of_le h.lt hb.size, (hb.block bx h.lt).trans h.box, below_drewN h.below m⟩
theorem in_start (wr : World) (BC : Array Value) : InW wr (wr.heap.size + 1) BC (some ⟨wr.heap.size, 0, none⟩) 0 0 [] ((wr.alloc (.cells #[] 33)).alloc (.cells BC 33)).drew := by
  have h0 : Own (wr.alloc (.cells #[] 33)) wr.heap.size (.slice (some ⟨wr.heap.size, 0, none⟩) 0 0) [] := ⟨[], World.ownsRow_lit wr #[] 0 (Nat.le_refl _) (by unfold maxLen; omega) rfl, rfl⟩
  have hb : Below (wr.alloc (.cells #[] 33)).heap.size (wr.alloc (.cells #[] 33)) ((wr.alloc (.cells #[] 33)).alloc (.cells BC 33)).drew := ((Below.refl _ _).alloc (Nat.le_refl _) _).drew
  refine ⟨h0.below hb, rfl, ?_, by simp, ?_, ((Below.refl wr.heap.size wr).alloc (Nat.le_refl _) _).trans (hb.mono (by simp))⟩
  · simp [Value.ownBlock]
  · have := heap_alloc_new (wr.alloc (.cells #[] 33)) (.cells BC 33)
    rw [World.size_alloc] at this
    exact this

theorem wpList_put_row {ops : Array Oper} {rest : List Oper} {o : Oper} {a : Act} {Q : Exit → Act → World → Prop} (hgd : o.guard = none) (s x : Operand)
    (ho : o.op = .call { callee := .builtin .append, args := #[s, x], argTypes := #[22, 22] })
    {wr w2 : World} {bx : Nat} {BC : Array Value} {A : Option Addr} {n c : Nat} {O : List RowD} (hin : InW wr bx BC A n c O w2) (hs : a.eval s = .slice A n c) (hx : a.eval x = .slice (some ⟨w2.heap.size, 0, none⟩) 1 1)
    (key : Nat) (dead : Bool) (cols : List Nat) (A' : Option Addr) (c' : Nat) (x' y z : Int) (hf : FC wr wr.heap.size A' cols) (h2 : cols.length ≤ c') (h3 : A' = none → c' = 0) (m : n ≤ 10000)
    (h : ∀ g cap w', InW wr bx BC (some ⟨g, 0, none⟩) (n + 1) cap (O ++ [⟨key, dead, cols, x', y, z⟩]) w' → wpList Try.prog ops Q rest (a.put o.dst (.slice (some ⟨g, 0, none⟩) (n + 1) cap)) w') :
    wpList Try.prog ops Q (o :: rest) a (w2.alloc (.cells #[.float .f64 key, .bool dead, .slice A' cols.length c', .int .i64 x', .int .i64 y, .int .i64 z] 33)) := by
  obtain ⟨i0, hi0, hz0, hz1, hz2⟩ := info_parts Try.info33
  obtain ⟨W, hW⟩ : ∃ W, W = w2.alloc (.cells #[.float .f64 key, .bool dead, .slice A' cols.length c', .int .i64 x', .int .i64 y, .int .i64 z] 33) := ⟨_, rfl⟩
  have hal : Below w2.heap.size w2 W := by rw [hW]; exact (Below.refl w2.heap.size w2).alloc (Nat.le_refl _) _
  have hown : Own W wr.heap.size (.slice A n c) O := hin.own.below hal
  have hb := hin.below.size
  have hfx : FX W (Value.ownBlock (.slice A n c)) A' cols := FX.of_FC (hf.below (hin.below.trans (hal.mono hb))) (Nat.le_trans hb hal.size) fun g hg => (own_base hown g hg).1
  have hvx : RX W (Value.ownBlock (.slice A n c)) [⟨key, dead, cols, x', y, z⟩] (RowD.cells ⟨key, dead, cols, x', y, z⟩ A' c').toList := RX.one hfx h2 h3
  have hv : W.heap[w2.heap.size]? = some (.cells #[.float .f64 key, .bool dead, .slice A' cols.length c', .int .i64 x', .int .i64 y, .int .i64 z] 33 (0, 0)) := by rw [hW]; exact heap_alloc_new w2 _
  rw [← hW]
  obtain ⟨xs, h1, hrx⟩ := hown
  rw [hin.len] at h1
  refine wpList_append_lies W hgd s x 22 ho wr.heap.size 33 i0 zeroRow 6 64 Try.underlying22 hi0 hz0 hz1 hz2 rfl (by decide) (.slice A n c) n xs hs h1 ⟨w2.heap.size, 0, none⟩ 1 1 _ hx hvx.len (World.news_of_block hv) hvx.oneCell (by omega) (by unfold maxLen; omega) (by omega) (Nat.le_trans hb hal.size) _ rfl ?_
  intro g cap w' hown' hgrow hat hlt
  have hat' : Value.ownBlock (.slice (some ⟨g, 0, none⟩) (n + 1) cap) = Value.ownBlock (.slice A n c) ∨ Value.ownBlock (.slice (some ⟨g, 0, none⟩) (n + 1) cap) = some W.heap.size := by
    rcases hat with hat | hat
    · exact .inl (by rw [hat]; rfl)
    · exact .inr (by rw [hat]; rfl)
  have hbw : Below wr.heap.size wr W := hin.below.trans (hal.mono hb)
  refine h g cap w' ⟨own_more (by rw [List.length_append, hin.len]; exact hown') (hrx.append hvx) hgrow hat', by rw [List.length_append, hin.len]; rfl, ?_, ?_, ?_, hbw.grown hgrow hbw.size fun k hk => (h1.lt k hk).1⟩
  · rcases hat' with h | h
    · rw [h]; exact hin.ne
    · rw [h]; intro e; injection e with e; have := hin.lt; have := hal.size; omega
  · have := hin.lt; have := hal.size; have := hgrow.size; omega
  · rw [hgrow.block bx (Nat.lt_of_lt_of_le hin.lt hal.size) hin.ne.symm, hal.block bx hin.lt]
    exact hin.box

def InRel (wr : World) (BC : Array Value) (r : RowD) (L : List RowD) (n : Nat) (i v p : Value) (w2 : World) : Prop :=
  ∃ (j : Nat) (b : Bool) (O : List RowD) (A : Option Addr) (m c : Nat), j ≤ n ∧ i = .int .i64 j ∧ v = .slice A m c ∧ p = .bool b ∧ m ≤ 2 * j ∧ refGo r b O (L.drop j) = refGo r r.dead [] L ∧ InW wr (wr.heap.size + 1) BC A m c O w2

/-- A round's end within. -/
theorem in_round {wr w2 : World} {BC : Array Value} {r d : RowD} {L O O' : List RowD} {n j m c : Nat} {b b' ab : Bool} {A : Option Addr} (hj : j < n) (hm : m ≤ 2 * j + 2) (hgo : refGo r b O (L.drop j) = refGo r r.dead [] L) (hd : L.drop j = d :: L.drop (j + 1))
    (hab : decide (keyN d.key = keyN r.key) = ab) (hO : (bif ab then (bif !b && lessN r.key d.key then O ++ [refX r] else O) else (bif !b && lessN r.key d.key then O ++ [refX r] else O) ++ [d]) = O') (hb' : (bif !b && lessN r.key d.key then true else b) = b') (hin : InW wr (wr.heap.size + 1) BC A m c O' w2) :
    InRel wr BC r L n (.int .i64 ((j : Int) + 1)) (.slice A m c) (.bool b') w2 ∧ n - (intOf (.int .i64 ((j : Int) + 1))).toNat < n - (intOf (.int .i64 (j : Int))).toNat := by
  refine ⟨⟨j + 1, b', O', A, m, c, by omega, by go_num, rfl, rfl, by omega, ?_, hin⟩, by simp [intOf]; omega⟩
  rw [← hgo, hd, ← hO, ← hb', ← hab]
  simp only [refGo]

def OutRel (ls lw : List RowD) (w : World) (nw : Nat) (i v : Value) (wr : World) : Prop :=
  ∃ (k : Nat) (A : Option Addr) (c : Nat), k ≤ nw ∧ i = .int .i64 k ∧ v = .slice A (layP ls (lw.take k)).length c ∧ RC wr wr.heap.size A (layP ls (lw.take k)) ∧ (A = none → c = 0) ∧ Below w.heap.size w wr

theorem out_round {ls lw L O' : List RowD} {r : RowD} {w wo w2 : World} {nw k bx m c : Nat} {BC : Array Value} {A : Option Addr} (hk : k < nw) (hs : layP ls (lw.take (k + 1)) = layStep L r) (hO : refStep L r = O') (rl : Rising L) (fl : Fit L) (fr : Ok r)
    (hin : InW wo bx BC A m c O' w2) (hb : Below w.heap.size w wo) (fs : Fit (layP ls (lw.take (k + 1)))) :
    OutRel ls lw w nw (.int .i64 ((k : Int) + 1)) (.slice A m c) w2 ∧ nw - (intOf (.int .i64 ((k : Int) + 1))).toNat < nw - (intOf (.int .i64 (k : Int))).toNat := by
  have e : layP ls (lw.take (k + 1)) = O' := by rw [hs, ← hO, refStep_eq rl fl.keys r fr.1]
  obtain ⟨A0, c0, he, hr, hA, _⟩ := hin.own.reads (by rw [← e]; exact fs.rc)
  injection he with he1 he2 he3
  subst he1 he3
  exact ⟨⟨k + 1, A, c, by omega, by go_num, by rw [e, hin.len], by rw [e]; exact hr, hA, hb.trans (hin.below.mono hb.size)⟩, by simp [intOf]; omega⟩

theorem ref_done {r : RowD} {b : Bool} {O L : List RowD} {n j : Nat} (hn : L.length = n) (hj : n ≤ j) (hgo : refGo r b O (L.drop j) = refGo r r.dead [] L) : refStep L r = bif b then O else O ++ [refX r] := by
  rw [List.drop_of_length_le (by omega)] at hgo
  unfold refStep
  rw [← hgo]
  rfl
end Go.Proofs.Ytpcahemjcmccjaa
