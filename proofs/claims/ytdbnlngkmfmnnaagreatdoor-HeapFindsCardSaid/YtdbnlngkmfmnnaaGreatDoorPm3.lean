/- PM, part 3: a machine that evaluates a program's code in the kernel, and why what it answers is so of the model. -/
import Derived.Test.YtdbnlngkmfmnnaaGreatDoorPm2
import Derived.OrdersIn
import Derived.TacticsIn
import Derived.RangeFuncLeaves
import Derived.RangeFuncRecord
import Derived.RangeFuncSeq
/- PM: a region in the order of its text. -/

namespace Go.Pm
noncomputable section

def putP (nt : Nat) (env : Tr) (dst : Option Tmp) (v : PV) : Tr :=
  match dst with
  | none => env
  | some d => bif Nat.blt d nt then env.setR v d else env

/-- No fence, in a round or in none. -/
def Wd (r : Option Nat) : Fence := { Fence.wide with round := r }

theorem Wd_none : Wd none = Fence.wide := rfl
theorem Wd_in (l : Nat) (r : Option Nat) : (Wd r).inRound l = Wd (some l) := rfl
theorem calls_Wd {r : Option Nat} {m : Nat} {P : Program} {f : FuncId} {args : Array Value} {w : World} {R : Ending → World → Prop} (h : Calls P f args w R) : CallsIn (Wd r) m P f args w R :=
  (callsIn_wide (n := m)).2 h

def isDefer : Op → Bool
  | .defer _ => true
  | _ => false

theorem popOp_nodefer {C : Ctx} {o : Oper} {ev : Operand → PV} {bs : Bs} {r : PV × Bs} (h : popOp C o ev bs = some r) : ∀ c, o.op ≠ .defer c := by
  intro c hc
  unfold popOp popOp0 at h
  rw [hc] at h
  simp [isE, popN] at h

theorem popOp_wpIn {C : Ctx} (hC : C.Ok) {r : Option Nat} {m : Nat} {E : Env} (hR : Rel E) {ev : Operand → PV} {a : Act} (hev : ∀ x, VR E (ev x) (a.eval x)) (o : Oper) {pv : PV} {bs' : Bs}
    (h : popOp C o ev E.bs = some (pv, bs')) {K : Act → World → Prop} {Q : Exit → Act → World → Prop}
    (hK : ∀ (E' : Env) (v : Value), E'.bs = bs' → VR E' pv v → Ext E E' → Rel E' → K (a.put o.dst v) E'.w) : o.wpIn (Wd r) m C.P a E.w K Q := by
  have h1 : o.upon C.P a K (fun _ _ _ => False) ((execOp a.eval o).run C.P E.w) := popOp_wp hC hR hev o h hK
  refine ⟨fun _ _ => trivial, ?_⟩
  rw [Oper.semAt_eq _ _ _ (popOp_nodefer h)]
  have hd : (Wd r).depth.isSome = true → 1 ≤ m := fun h => by cases h
  generalize (execOp a.eval o).run C.P E.w = res at h1
  cases res with
  | ok x w' =>
    cases x with
    | value v => exact h1
    | skip => exact h1
    | defer d => exact h1
    | enter f args =>
      refine ⟨hd, calls_Wd (h1.mono ?_)⟩
      intro e w'' he
      cases e with
      | returned v => exact he
      | panicked c => exact he.elim
      | outgrown => obtain ⟨_, _, he⟩ := he; exact he.elim
    | row row args =>
      exact ⟨hd, fun c cs _ => let ⟨v, w1, r1, s1⟩ := h1 c cs; ⟨v, w1, r1, stepsIn_wide.2 s1⟩⟩
    | round => exact h1.elim
    | _ => exact h1.elim
  | halt x w' =>
    cases x <;> first | exact h1.elim | exact (h1 : False).elim

theorem put_size (a : Act) (dst : Option Tmp) (v : Value) : (a.put dst v).tmps.size = a.tmps.size ∧ (a.put dst v).defers = a.defers := by
  cases dst <;> simp [Act.put]

theorem put_get (a : Act) (dst : Option Tmp) (v : Value) (t : Nat) : (a.put dst v).tmps.getD t undef = if dst = some t ∧ t < a.tmps.size then v else a.tmps.getD t undef := by
  cases dst with
  | none => simp [Act.put]
  | some d =>
    simp only [Act.put, Option.some.injEq]
    by_cases h : d = t
    · subst h
      by_cases hs : d < a.tmps.size
      · simp [hs]
      · simp [hs]
    · rw [if_neg (fun x => h x.1)]
      rw [Array.getD_eq_getD_getElem?, Array.getD_eq_getD_getElem?, Array.getElem?_setIfInBounds_ne h]

theorem putP_VR {E : Env} {env : Tr} {a : Act} {nt : Nat} (hs : a.tmps.size = nt) {pv : PV} {v : Value} (hv : VR E pv v) (dst : Option Tmp) {t : Nat} (h : VR E (env.get t) (a.tmps.getD t undef)) :
    VR E ((putP nt env dst pv).get t) ((a.put dst v).tmps.getD t undef) := by
  rw [put_get]
  cases dst with
  | none => simpa [putP] using h
  | some d =>
    simp only [putP, Option.some.injEq, Tr.setR_eq]
    cases hb : Nat.blt d nt with
    | true =>
      have hd : d < nt := Eq.mp Nat.blt_eq hb
      simp only [cond_true]
      by_cases e : d = t
      · subst e
        rw [if_pos ⟨rfl, by rw [hs]; exact hd⟩]
        rcases Tr.get_set_eq env d pv with h' | h' <;> rw [h']
        · exact hv
        · simp [VR]
      · rw [if_neg (fun x => e x.1), Tr.get_set_ne _ _ _ _ e]
        exact h
    | false =>
      have hd : ¬ d < nt := fun hc => by have := Eq.mpr Nat.blt_eq hc; rw [hb] at this; cases this
      simp only [cond_false]
      rw [if_neg (fun (x : d = t ∧ t < a.tmps.size) => hd (by have h2 := x.2; rw [hs, ← x.1] at h2; exact h2))]
      exact h

/-- Is the operation wanted, by its guard? -/
def wantedP (ops : Array Oper) (o : Oper) (ev : Operand → PV) : Option Bool :=
  match o.guard with
  | none => some true
  | some (j, want) => match (ops[j]?).bind (·.dst) with
    | none => none
    | some t => match ev (.tmp t) with
      | .s (.bool b) => some (b == want)
      | .tup [] => some false
      | _ => none

theorem wantedP_ok {E : Env} {ops : Array Oper} {o : Oper} {ev : Operand → PV} {a : Act} (hev : ∀ x, VR E (ev x) (a.eval x)) {b : Bool} (h : wantedP ops o ev = some b) :
    Region.wanted o (yielded ops a.tmps) = b := by
  unfold wantedP at h
  unfold Region.wanted
  split at h
  · rename_i hg
    cases h
    rw [hg]
  · rename_i j want hg
    rw [hg]
    simp only
    split at h
    · cases h
    · rename_i t ht
      split at h
      · rename_i c hc
        cases h
        have hv := hev (.tmp t)
        rw [hc] at hv
        simp only [VR, Act.eval] at hv
        have hgt : a.tmps[t]? = some (.bool c) := by
          rw [Array.getD_eq_getD_getElem?] at hv
          cases hx : a.tmps[t]? with
          | none => rw [hx] at hv; exact absurd hv.1 (by simp [undef])
          | some y => rw [hx] at hv; simp at hv; rw [hv.1]
        have hy : yielded ops a.tmps j = some c := by
          simp only [yielded, ht, Option.bind_some, hgt]
        rw [hy]
        cases c <;> cases want <;> rfl
      · rename_i hc
        have hv := hev (.tmp t)
        rw [hc] at hv
        simp only [VR, VRl, Act.eval] at hv
        obtain ⟨l, hv, rfl⟩ := hv
        cases h
        have hy : yielded ops a.tmps j = none := by
          simp only [yielded, ht, Option.bind_some]
          rw [Array.getD_eq_getD_getElem?] at hv
          cases hx : a.tmps[t]? with
          | none => rfl
          | some y => rw [hx] at hv; simp at hv; rw [hv]
        rw [hy]
        rfl
      · cases h

variable {ds : List Deferred} {rr : Option Nat} {mm : Nat}

def runOps (C : Ctx) (ops : Array Oper) : List Oper → St → Option St
  | [], st => some st
  | o :: rest, st => match wantedP ops o (evP st.env) with
    | none => none
    | some false => runOps C ops rest ⟨putP C.nt st.env o.dst (.tup []), st.bs⟩
    | some true => match popOp C o (evP st.env) st.bs with
      | none => none
      | some (pv, bs') => runOps C ops rest ⟨putP C.nt st.env o.dst pv, bs'⟩

theorem runOps_wp {C : Ctx} (hC : C.Ok) {ops : Array Oper} {Q : Exit → Act → World → Prop} {st' : St} {E0 : Env} :
    ∀ (n i : Nat) (l : List Oper) (st : St) (E : Env) (a : Act), ops.toList.drop i = l → i + n = ops.size → runOps C ops l st = some st' → StRel E st a C.nt ds → Ext E0 E →
      (∀ (E' : Env) (a' : Act), StRel E' st' a' C.nt ds → Ext E0 E' → Q .normal a' E'.w) → wpOpsIn (Wd rr) mm C.P ops Q (List.range' i n) a E.w
  | 0, i, l, st, E, a, hl, hn, h, hs, hg, hQ => by
    have : l = [] := by rw [← hl]; apply List.drop_eq_nil_of_le; simp; omega
    subst this
    simp only [runOps] at h
    cases h
    simp only [List.range'_zero, wpOpsIn]
    exact hQ E a hs hg
  | n + 1, i, l, st, E, a, hl, hn, h, hs, hg, hQ => by
    have hi : i < ops.size := by omega
    have hcons : ops.toList.drop i = ops[i] :: ops.toList.drop (i + 1) := by
      rw [List.drop_eq_getElem_cons (by simpa using hi)]
      simp
    rw [hcons] at hl
    subst hl
    simp only [List.range'_succ, wpOpsIn]
    have hev := evP_VR hs.env
    simp only [runOps] at h
    have hoi : ops[i]? = some ops[i] := Array.getElem?_eq_getElem hi
    rw [hoi]
    simp only
    split at h
    · cases h
    · rename_i hw
      rw [wantedP_ok hev hw]
      simp only [Bool.false_eq_true, if_false]
      refine ⟨fun _ _ => trivial, ?_⟩
      refine runOps_wp hC n (i + 1) _ _ E _ rfl (by omega) h ⟨hs.bs, hs.rel, by rw [(put_size _ _ _).1]; exact hs.size, by rw [(put_size _ _ _).2]; exact hs.defers, fun t => putP_VR hs.size VR_unit _ (hs.env t)⟩ hg hQ
    · rename_i hw
      rw [wantedP_ok hev hw]
      simp only [if_true]
      split at h
      · cases h
      · rename_i pv bs' hp
        rw [← hs.bs] at hp
        refine popOp_wpIn hC hs.rel hev ops[i] hp fun E' v hb hv hx hR => ?_
        refine runOps_wp hC n (i + 1) _ _ E' _ rfl (by omega) h ⟨hb, hR, by rw [(put_size _ _ _).1]; exact hs.size, by rw [(put_size _ _ _).2]; exact hs.defers, fun t => ?_⟩ (hg.trans hx) hQ
        exact putP_VR hs.size hv _ (VR_ext hx (hs.env t))

end

end Go.Pm

/- PM: a region in any order. -/

namespace Go.Pm
noncomputable section

/- Equal values, for certain. -/
def vBeq : Value → Value → Bool
  | .bool a, .bool b => a == b
  | .int k n, .int k' n' => (decide (k = k')) && (decide (n = n'))
  | .float k n, .float k' n' => (decide (k = k')) && Nat.beq n n'
  | .pointer none, .pointer none => true
  | .slice none l c, .slice none l' c' => Nat.beq l l' && Nat.beq c c'
  | .map r, .map r' => decide (r = r')
  | .nilFunc, .nilFunc => true
  | .nilIface, .nilIface => true
  | .string s, .string s' => decide (s.data.toList = s'.data.toList)
  | _, _ => false

theorem vBeq_eq {a b : Value} (h : vBeq a b = true) : a = b := by
  unfold vBeq at h
  split at h <;> simp_all
  · rename_i s s' 
    have : s.data = s'.data := by first | exact Array.toList_inj.1 h | exact h
    cases s; cases s'; simp_all

mutual
def pBeq : PV → PV → Bool
  | .s a, .s b => vBeq a b
  | .undef, .undef => true
  | .agg l, .agg m => pBeqL l m
  | .tup l, .tup m => pBeqL l m
  | .vs b f l, .vs b' f' m => (b == b' && f == f') && pBeqL l m
  | .fp b l, .fp b' m => (b == b') && pBeqL l m
  | .lp r g i j, .lp r' g' i' j' => (decide (r = r') && Nat.beq g g') && (Nat.beq i i' && Nat.beq j j')
  | .sl r g i j, .sl r' g' i' j' => (decide (r = r') && Nat.beq g g') && (Nat.beq i i' && Nat.beq j j')
  | .fn f l, .fn f' m => Nat.beq f f' && pBeqL l m
  | .ifc t v, .ifc t' v' => Nat.beq t t' && pBeq v v'
  | .mp x, .mp y => Nat.beq x y
  | .ts r g i j c, .ts r' g' i' j' c' => (Nat.beq r r' && Nat.beq g g') && ((Nat.beq i i' && Nat.beq j j') && Nat.beq c c')
  | _, _ => false
def pBeqL : List PV → List PV → Bool
  | [], [] => true
  | a :: l, b :: m => pBeq a b && pBeqL l m
  | _, _ => false
end

theorem nbeq {a b : Nat} (h : Nat.beq a b = true) : a = b := Nat.eq_of_beq_eq_true h

mutual
theorem pBeq_eq : ∀ {a b : PV}, pBeq a b = true → a = b
  | .s a, b, h => by cases b <;> simp only [pBeq, Bool.false_eq_true] at h; rw [vBeq_eq h]
  | .undef, b, h => by cases b <;> simp only [pBeq, Bool.false_eq_true] at h; rfl
  | .agg l, b, h => by cases b <;> simp only [pBeq, Bool.false_eq_true] at h; rw [pBeqL_eq h]
  | .tup l, b, h => by cases b <;> simp only [pBeq, Bool.false_eq_true] at h; rw [pBeqL_eq h]
  | .vs x f l, b, h => by
    cases b <;> simp only [pBeq, Bool.false_eq_true, Bool.and_eq_true, beq_iff_eq] at h
    rw [pBeqL_eq h.2, h.1.1, h.1.2]
  | .fp x l, b, h => by
    cases b <;> simp only [pBeq, Bool.false_eq_true, Bool.and_eq_true, beq_iff_eq] at h
    rw [pBeqL_eq h.2, h.1]
  | .lp r g i j, b, h => by
    cases b <;> simp only [pBeq, Bool.false_eq_true, Bool.and_eq_true, decide_eq_true_eq] at h
    rw [h.1.1, nbeq h.1.2, nbeq h.2.1, nbeq h.2.2]
  | .sl r g i j, b, h => by
    cases b <;> simp only [pBeq, Bool.false_eq_true, Bool.and_eq_true, decide_eq_true_eq] at h
    rw [h.1.1, nbeq h.1.2, nbeq h.2.1, nbeq h.2.2]
  | .fn f l, b, h => by
    cases b <;> simp only [pBeq, Bool.false_eq_true, Bool.and_eq_true] at h
    rw [pBeqL_eq h.2, nbeq h.1]
  | .ifc t v, b, h => by
    cases b <;> simp only [pBeq, Bool.false_eq_true, Bool.and_eq_true] at h
    rw [pBeq_eq h.2, nbeq h.1]
  | .ts r g i j c, b, h => by
    cases b <;> simp only [pBeq, Bool.false_eq_true, Bool.and_eq_true] at h
    rw [nbeq h.1.1, nbeq h.1.2, nbeq h.2.1.1, nbeq h.2.1.2, nbeq h.2.2]
  | .mp x, b, h => by
    cases b <;> simp only [pBeq, Bool.false_eq_true] at h
    rw [nbeq h]
theorem pBeqL_eq : ∀ {a b : List PV}, pBeqL a b = true → a = b
  | [], b, h => by cases b <;> simp only [pBeqL, Bool.false_eq_true] at h; rfl
  | a :: l, b, h => by
    cases b <;> simp only [pBeqL, Bool.false_eq_true, Bool.and_eq_true] at h
    rw [pBeq_eq h.1, pBeqL_eq h.2]
end

/- What must come before an operation. -/
def preds (B : List Nat) : List Edge → Nat
  | [] => 0
  | e :: r => bif Region.binds .any e then (B.getD e.on 0 ||| (1 <<< e.on)) ||| preds B r else preds B r

def masks : List Oper → List Nat → List Nat
  | [], B => B
  | o :: r, B => masks r (B ++ [preds B o.after.toList])

theorem preds_spec {B : List Nat} {j : Nat} : ∀ {es : List Edge}, (preds B es).testBit j = true → ∃ e ∈ es, Region.binds .any e = true ∧ (e.on = j ∨ (B.getD e.on 0).testBit j = true)
  | [], h => by simp [preds] at h
  | e :: r, h => by
    simp only [preds] at h
    cases hb : Region.binds .any e with
    | false =>
      rw [hb] at h
      simp only [cond_false] at h
      obtain ⟨e', h1, h2⟩ := preds_spec h
      exact ⟨e', List.mem_cons_of_mem _ h1, h2⟩
    | true =>
      rw [hb] at h
      simp only [cond_true, Nat.testBit_or, Bool.or_eq_true] at h
      rcases h with (h | h) | h
      · exact ⟨e, List.mem_cons_self, hb, .inr h⟩
      · refine ⟨e, List.mem_cons_self, hb, .inl ?_⟩
        rw [Nat.shiftLeft_eq, Nat.one_mul, Nat.testBit_two_pow] at h
        simpa using h
      · obtain ⟨e', h1, h2⟩ := preds_spec h
        exact ⟨e', List.mem_cons_of_mem _ h1, h2⟩

theorem masks_spec : ∀ (l : List Oper) (B : List Nat),
    (∀ k, k < B.length → (masks l B).getD k 0 = B.getD k 0) ∧
    (∀ (i : Nat) o, l[i]? = some o → ∀ j, ((masks l B).getD (B.length + i) 0).testBit j = true → ∃ e ∈ o.after.toList, Region.binds .any e = true ∧ (e.on = j ∨ ((masks l B).getD e.on 0).testBit j = true))
  | [], B => ⟨fun _ _ => rfl, fun i o h => by simp at h⟩
  | o :: r, B => by
    obtain ⟨h1, h2⟩ := masks_spec r (B ++ [preds B o.after.toList])
    have keep : ∀ k, k < B.length → (masks r (B ++ [preds B o.after.toList])).getD k 0 = B.getD k 0 := fun k hk => by
      rw [h1 k (by simp; omega), List.getD_eq_getElem?_getD, List.getD_eq_getElem?_getD, List.getElem?_append_left hk]
    refine ⟨keep, fun i o' ho' j hj => ?_⟩
    simp only [masks] at *
    cases i with
    | zero =>
      simp only [List.getElem?_cons_zero, Option.some.injEq] at ho'
      subst ho'
      rw [h1 _ (by simp), List.getD_eq_getElem?_getD, Nat.add_zero, List.getElem?_append_right (Nat.le_refl _)] at hj
      simp only [Nat.sub_self, List.getElem?_cons_zero, Option.getD_some] at hj
      obtain ⟨e, he1, he2, he3⟩ := preds_spec hj
      refine ⟨e, he1, he2, he3.imp id fun h => ?_⟩
      rw [keep]
      · exact h
      · rcases Nat.lt_or_ge e.on B.length with h' | h'
        · exact h'
        · rw [List.getD_eq_getElem?_getD, List.getElem?_eq_none h'] at h
          simp at h
    | succ i =>
      refine h2 i o' (by simpa using ho') j ?_
      rw [← hj]
      congr 2
      simp; omega

def dstIs (o : Oper) (t : Nat) : Bool :=
  match o.dst with
  | none => false
  | some d => Nat.beq d t

theorem dstIs_iff {o : Oper} {t : Nat} : dstIs o t = true ↔ o.dst = some t := by
  unfold dstIs
  split
  · rename_i h; simp [h]
  · rename_i d h
    rw [h, Option.some.injEq]
    exact Nat.beq_eq ▸ Iff.rfl

/-- Is all that writes t surely before k (mask b)? -/
def okT (k b t : Nat) : List Oper → Nat → Bool
  | [], _ => true
  | o :: r, j => bif dstIs o t then (bif Nat.blt j k && b.testBit j then okT k b t r (j + 1) else false) else okT k b t r (j + 1)

theorem okT_spec {k b t : Nat} : ∀ {l : List Oper} {j : Nat}, okT k b t l j = true → ∀ i o, l[i]? = some o → dstIs o t = true → j + i < k ∧ b.testBit (j + i) = true
  | [], _, _, i, o, h, _ => by simp at h
  | o :: r, j, h, i, o', ho', hd => by
    simp only [okT] at h
    cases i with
    | zero =>
      simp only [List.getElem?_cons_zero, Option.some.injEq] at ho'
      subst ho'
      rw [hd] at h
      simp only [cond_true] at h
      cases hc : (Nat.blt j k && b.testBit j) with
      | false => rw [hc] at h; cases h
      | true =>
        simp only [Bool.and_eq_true] at hc
        exact ⟨by simpa [Nat.blt_eq] using hc.1, hc.2⟩
    | succ i =>
      have hr : okT k b t r (j + 1) = true := by
        cases hx : dstIs o t with
        | false => rw [hx] at h; exact h
        | true =>
          rw [hx] at h
          simp only [cond_true] at h
          cases hc : (Nat.blt j k && b.testBit j) with
          | false => rw [hc] at h; cases h
          | true => rw [hc] at h; exact h
      have := okT_spec hr i o' (by simpa using ho') hd
      rw [show j + (i + 1) = j + 1 + i by omega]
      exact this

/-- Is all that writes t surely behind k? -/
def okA (B : List Nat) (k t : Nat) : List Oper → Nat → Bool
  | [], _ => true
  | o :: r, j => bif dstIs o t then (bif (B.getD j 0).testBit k then okA B k t r (j + 1) else false) else okA B k t r (j + 1)

theorem okA_spec {B : List Nat} {k t : Nat} : ∀ {l : List Oper} {j : Nat}, okA B k t l j = true → ∀ i o, l[i]? = some o → dstIs o t = true → (B.getD (j + i) 0).testBit k = true
  | [], _, _, i, o, h, _ => by simp at h
  | o :: r, j, h, i, o', ho', hd => by
    simp only [okA] at h
    cases i with
    | zero =>
      simp only [List.getElem?_cons_zero, Option.some.injEq] at ho'
      subst ho'
      rw [hd] at h
      simp only [cond_true] at h
      cases hc : (B.getD j 0).testBit k with
      | false => rw [hc] at h; cases h
      | true => simp
    | succ i =>
      have hr : okA B k t r (j + 1) = true := by
        cases hx : dstIs o t with
        | false => rw [hx] at h; exact h
        | true =>
          rw [hx] at h
          simp only [cond_true] at h
          cases hc : (B.getD j 0).testBit k with
          | false => rw [hc] at h; cases h
          | true => rw [hc] at h; exact h
      have := okA_spec hr i o' (by simpa using ho') hd
      rw [show j + (i + 1) = j + 1 + i by omega]
      exact this

def evM (ops : List Oper) (B : List Nat) (e0 : Tr) (k : Nat) (env : Tr) : Operand → PV
  | .tmp t => bif okT k (B.getD k 0) t ops 0 then env.getR t else bif okA B k t ops 0 then e0.getR t else .undef
  | x => evP env x

def stepR (C : Ctx) (ops : Array Oper) (o : Oper) (ev : Operand → PV) (bs : Bs) : Option (PV × Bs) :=
  match wantedP ops o ev with
  | none => none
  | some false => some (.tup [], bs)
  | some true => popOp C o ev bs

theorem stepR_N {C : Ctx} {ops : Array Oper} {o : Oper} {ev : Operand → PV} {bs bs' : Bs} {pv : PV} (h : stepR C ops o ev bs = some (pv, bs')) (hE : isE C.fm o.op = false) : bs' = bs := by
  unfold stepR at h
  split at h
  · cases h
  · cases h; rfl
  · unfold popOp popOp0 at h
    rw [hE] at h
    simp only [cond_false, Bool.false_and] at h
    split at h
    · cases h
    · rename_i p0 b0 h0
      cases h
      split at h0 <;>
      · simp only [Option.map_eq_some_iff] at h0
        obtain ⟨p, _, e⟩ := h0
        cases e; rfl

variable {rr : Option Nat} {mm : Nat}

theorem stepR_wp {C : Ctx} (hC : C.Ok) {ops : Array Oper} {i : Nat} {o : Oper} (hi : ops[i]? = some o) {E : Env} (hR : Rel E) {ev : Operand → PV} {a : Act} (hev : ∀ x, VR E (ev x) (a.eval x)) {pv : PV} {bs' : Bs}
    (h : stepR C ops o ev E.bs = some (pv, bs')) {K : Act → World → Prop} {Q : Exit → Act → World → Prop}
    (hK : ∀ (E' : Env) (v : Value), E'.bs = bs' → VR E' pv v → Ext E E' → Rel E' → K (a.put o.dst v) E'.w) : wpOpIn (Wd rr) mm C.P ops Q i K a E.w := by
  unfold wpOpIn
  rw [hi]
  simp only
  unfold stepR at h
  split at h
  · cases h
  · rename_i hw
    rw [wantedP_ok hev hw]
    cases h
    simp only [Bool.false_eq_true, if_false]
    refine ⟨fun _ _ => trivial, ?_⟩
    exact hK E undef rfl VR_unit (Ext.refl E) hR
  · rename_i hw
    rw [wantedP_ok hev hw]
    simp only [if_true]
    exact popOp_wpIn hC hR hev o h hK

def goR (C : Ctx) (ops : Array Oper) (B : List Nat) (e0 : Tr) : Nat → List Oper → Tr → Bs → Option (St × List (Bs × PV))
  | _, [], env, bs => some (⟨env, bs⟩, [])
  | k, o :: r, env, bs => match stepR C ops o (evM ops.toList B e0 k env) bs with
    | none => none
    | some (pv, bs') => match goR C ops B e0 (k + 1) r (putP C.nt env o.dst pv) bs' with
      | none => none
      | some (st, recs) => some (st, (bs, pv) :: recs)

def stAt (recs : List (Bs × PV)) (st : St) (i : Nat) : Bs :=
  match recs[i]? with
  | some (b, _) => b
  | none => st.bs
def resAt (recs : List (Bs × PV)) (i : Nat) : PV :=
  match recs[i]? with
  | some (_, p) => p
  | none => .undef

def ddR : List Oper → Bool
  | [] => true
  | o :: r => (match o.dst with
    | none => true
    | some d => r.all fun o' => !dstIs o' d) && ddR r

theorem putP_ne {nt : Nat} {env : Tr} {dst : Option Tmp} {v : PV} {t : Nat} (h : dst ≠ some t) : (putP nt env dst v).get t = env.get t := by
  unfold putP
  cases dst with
  | none => rfl
  | some d =>
    simp only
    cases Nat.blt d nt with
    | false => rfl
    | true => simp only [cond_true, Tr.setR_eq]; exact Tr.get_set_ne _ _ _ _ fun e => h (by rw [e])

theorem putP_big {nt : Nat} {env : Tr} {dst : Option Tmp} {v : PV} {t : Nat} (h : nt ≤ t) : (putP nt env dst v).get t = env.get t := by
  by_cases e : dst = some t
  · subst e
    unfold putP
    have hb : Nat.blt t nt = false := by
      cases hb : Nat.blt t nt with
      | false => rfl
      | true => have : t < nt := Eq.mp Nat.blt_eq hb; omega
    simp only [hb, cond_false]
  · exact putP_ne e

theorem putP_eq {nt : Nat} {env : Tr} {d : Tmp} {v : PV} (hd : d < nt) : (putP nt env (some d) v).get d = v ∨ (putP nt env (some d) v).get d = .undef := by
  unfold putP
  have hb : Nat.blt d nt = true := Eq.mpr Nat.blt_eq hd
  simp only [hb, cond_true, Tr.setR_eq]
  exact Tr.get_set_eq _ _ _

theorem goR_spec {C : Ctx} {ops : Array Oper} {B : List Nat} {e0 : Tr} : ∀ (l : List Oper) (k : Nat) (env : Tr) (bs : Bs) (st : St) (recs : List (Bs × PV)),
    ops.toList.drop k = l → ddR l = true → goR C ops B e0 k l env bs = some (st, recs) →
    (∀ t, ((∀ o ∈ l, o.dst ≠ some t) ∨ C.nt ≤ t) → st.env.get t = env.get t) ∧ stAt recs st 0 = bs ∧ recs.length = l.length ∧
    ∀ (i : Nat) o, l[i]? = some o → stepR C ops o (evM ops.toList B e0 (k + i) st.env) (stAt recs st i) = some (resAt recs i, stAt recs st (i + 1)) ∧
      ∀ d : Tmp, o.dst = some d → d < C.nt → st.env.get d = resAt recs i ∨ st.env.get d = .undef
  | [], k, env, bs, st, recs, _, _, h => by
    simp only [goR] at h
    cases h
    exact ⟨fun _ _ => rfl, rfl, rfl, fun i o h => by simp at h⟩
  | o :: r, k, env, bs, st, recs, hl, hd, h => by
    simp only [goR] at h
    split at h
    · cases h
    · rename_i pv bs' hs
      split at h
      · cases h
      · rename_i st' recs' hg
        cases h
        simp only [ddR, Bool.and_eq_true] at hd
        have hl' : ops.toList.drop (k + 1) = r := by
          have := congrArg List.tail hl
          rwa [List.tail_drop] at this
        obtain ⟨i1, i2, i3, i4⟩ := goR_spec r (k + 1) _ _ _ _ hl' hd.2 hg
        have hget : ∀ t, ((∀ o' ∈ o :: r, o'.dst ≠ some t) ∨ C.nt ≤ t) → st.env.get t = env.get t := fun t ht => by
          rcases ht with ht | ht
          · rw [i1 t (.inl fun o' ho' => ht o' (List.mem_cons_of_mem _ ho')), putP_ne (ht o List.mem_cons_self)]
          · rw [i1 t (.inr ht), putP_big ht]
        have hm : evM ops.toList B e0 k env = evM ops.toList B e0 k st.env := by
          funext x
          cases x with
          | tmp t =>
            simp only [evM, Tr.getR_eq]
            cases hok : okT k (B.getD k 0) t ops.toList 0 with
            | false => rfl
            | true =>
              simp only [cond_true]
              refine (hget t (.inl fun o' ho' hd' => ?_)).symm
              obtain ⟨i, hi⟩ := List.getElem?_of_mem ho'
              rw [← hl, List.getElem?_drop] at hi
              have := (okT_spec hok (k + i) o' hi (dstIs_iff.2 hd')).1
              omega
          | const v => rfl
          | global g => rfl
          | func f => rfl
        refine ⟨hget, rfl, by simp [i3], fun i o' ho' => ?_⟩
        cases i with
        | zero =>
          simp only [List.getElem?_cons_zero, Option.some.injEq] at ho'
          subst ho'
          constructor
          · rw [Nat.add_zero, ← hm]
            have h2 : stAt ((bs, pv) :: recs') st (0 + 1) = bs' := by rw [← i2]; simp [stAt]
            rw [h2]
            exact hs
          · intro d hd' hdn
            have hno : ∀ o' ∈ r, o'.dst ≠ some d := fun o' ho' e => by
              have h1 := hd.1
              rw [hd'] at h1
              simp only [List.all_eq_true] at h1
              have := h1 o' ho'
              rw [dstIs_iff.2 e] at this
              cases this
            rw [i1 d (.inl hno), hd']
            exact putP_eq hdn
        | succ i =>
          have := i4 i o' (by simpa using ho')
          rw [show k + (i + 1) = k + 1 + i by omega]
          have e1 : ∀ j, stAt ((bs, pv) :: recs') st (j + 1) = stAt recs' st j := fun j => by simp [stAt]
          have e2 : ∀ j, resAt ((bs, pv) :: recs') (j + 1) = resAt recs' j := fun j => by simp [resAt]
          rw [e1, e1, e2]
          exact this

end

end Go.Pm

/- PM: a region in any order is what it is in its text's. -/

namespace Go.Pm
noncomputable section

/-- Every operation that makes or writes comes after all such before it; (acc: their indices.) -/
def okE (fm : Nat) (B : List Nat) : List Oper → Nat → List Nat → Bool
  | [], _, _ => true
  | o :: r, k, acc => bif isE fm o.op then (acc.all fun j => (B.getD k 0).testBit j) && okE fm B r (k + 1) (k :: acc) else okE fm B r (k + 1) acc

theorem okE_spec {fm : Nat} {B : List Nat} : ∀ {l : List Oper} {k : Nat} {acc : List Nat}, okE fm B l k acc = true → ∀ i o, l[i]? = some o → isE fm o.op = true →
    (∀ j ∈ acc, (B.getD (k + i) 0).testBit j = true) ∧ ∀ j oj, j < i → l[j]? = some oj → isE fm oj.op = true → (B.getD (k + i) 0).testBit (k + j) = true
  | [], k, acc, h, i, o, ho, _ => by simp at ho
  | o :: r, k, acc, h, i, o', ho', hE => by
    simp only [okE] at h
    cases i with
    | zero =>
      simp only [List.getElem?_cons_zero, Option.some.injEq] at ho'
      subst ho'
      rw [hE] at h
      simp only [cond_true, Bool.and_eq_true, List.all_eq_true] at h
      exact ⟨h.1, fun j oj hj => by omega⟩
    | succ i =>
      rw [show k + (i + 1) = k + 1 + i by omega]
      cases hx : isE fm o.op with
      | true =>
        rw [hx] at h
        simp only [cond_true, Bool.and_eq_true] at h
        obtain ⟨h1, h2⟩ := okE_spec h.2 i o' (by simpa using ho') hE
        refine ⟨fun j hj => h1 j (List.mem_cons_of_mem _ hj), fun j oj hj hoj hEj => ?_⟩
        cases j with
        | zero => exact h1 k List.mem_cons_self
        | succ j =>
          rw [show k + (j + 1) = k + 1 + j by omega]
          exact h2 j oj (by omega) (by simpa using hoj) hEj
      | false =>
        rw [hx] at h
        simp only [cond_false] at h
        obtain ⟨h1, h2⟩ := okE_spec h i o' (by simpa using ho') hE
        refine ⟨h1, fun j oj hj hoj hEj => ?_⟩
        cases j with
        | zero =>
          simp only [List.getElem?_cons_zero, Option.some.injEq] at hoj
          subst hoj
          rw [hx] at hEj; cases hEj
        | succ j =>
          rw [show k + (j + 1) = k + 1 + j by omega]
          exact h2 j oj (by omega) (by simpa using hoj) hEj

def acyc : List Oper → Nat → Bool
  | [], _ => true
  | o :: r, k => (o.after.toList.all fun e => bif Region.binds .any e then Nat.blt e.on k else true) && acyc r (k + 1)

theorem acyc_spec : ∀ {l : List Oper} {k : Nat}, acyc l k = true → ∀ i o, l[i]? = some o → ∀ e ∈ o.after.toList, Region.binds .any e = true → e.on < k + i
  | [], k, h, i, o, ho => by simp at ho
  | o :: r, k, h, i, o', ho' => by
    simp only [acyc, Bool.and_eq_true, List.all_eq_true] at h
    cases i with
    | zero =>
      simp only [List.getElem?_cons_zero, Option.some.injEq] at ho'
      subst ho'
      intro e he hb
      have := h.1 e he
      rw [hb] at this
      exact Eq.mp Nat.blt_eq this
    | succ i =>
      rw [show k + (i + 1) = k + 1 + i by omega]
      exact acyc_spec h.2 i o' (by simpa using ho')

def isEat (fm : Nat) (ops : List Oper) (j : Nat) : Bool :=
  match ops[j]? with
  | some o => isE fm o.op
  | none => false

/-- Where may the state stand when k, which makes nothing, runs: the pairs that need a look. -/
def askP (fm : Nat) (ops : List Oper) (B : List Nat) (k p : Nat) : Bool :=
  bif Nat.ble k p && ((List.range' k (p - k)).all fun j => !isEat fm ops j) then false
  else bif Nat.blt p ops.length && (B.getD k 0).testBit p then false
  else bif (List.range p).any fun j => isEat fm ops j && (B.getD j 0).testBit k then false
  else true

def todo (fm : Nat) (ops : List Oper) (B : List Nat) : List (Nat × Nat) :=
  (List.range ops.length).flatMap fun k => bif isEat fm ops k then [] else
    ((List.range (ops.length + 1)).filter fun p => (Nat.beq p ops.length || isEat fm ops p) && askP fm ops B k p).map fun p => (k, p)

def regOk (fm : Nat) (ops : List Oper) (B : List Nat) : Bool :=
  (okE fm B ops 0 [] && ddR ops) && acyc ops 0

def chk1 (C : Ctx) (ops : Array Oper) (B : List Nat) (e0 : Tr) (st' : St) (recs : List (Bs × PV)) (k p : Nat) : Bool :=
  match ops.toList[k]? with
  | none => false
  | some o => match stepR C ops o (evM ops.toList B e0 k st'.env) (stAt recs st' p) with
    | none => false
    | some (pv, _) => pBeq pv (resAt recs k)

def chk (C : Ctx) (ops : Array Oper) (B : List Nat) (e0 : Tr) (st' : St) (recs : List (Bs × PV)) : List (Nat × Nat) → Bool
  | [] => true
  | (k, p) :: r => chk1 C ops B e0 st' recs k p && chk C ops B e0 st' recs r

def anyR (C : Ctx) (ops : Array Oper) (B : List Nat) (td : List (Nat × Nat)) (st : St) : Option St :=
  match goR C ops B st.env 0 ops.toList st.env st.bs with
  | none => none
  | some (st', recs) => bif chk C ops B st.env st' recs td then some st' else none

theorem chk_spec {C : Ctx} {ops : Array Oper} {B : List Nat} {e0 : Tr} {st' : St} {recs : List (Bs × PV)} : ∀ {td : List (Nat × Nat)}, chk C ops B e0 st' recs td = true → ∀ x ∈ td,
    ∃ o pv b, ops.toList[x.1]? = some o ∧ stepR C ops o (evM ops.toList B e0 x.1 st'.env) (stAt recs st' x.2) = some (pv, b) ∧ pv = resAt recs x.1
  | [], _, x, hx => by cases hx
  | (k, p) :: r, h, x, hx => by
    simp only [chk, Bool.and_eq_true] at h
    rcases List.mem_cons.1 hx with rfl | hx
    · have := h.1
      unfold chk1 at this
      split at this
      · cases this
      · rename_i o ho
        split at this
        · cases this
        · rename_i pv b hst
          exact ⟨o, pv, b, ho, hst, pBeq_eq this⟩
    · exact chk_spec h.2 x hx

/-- What is so of a listing at every time. -/
structure InvR (C : Ctx) (ops : Array Oper) (B : List Nat) (e0 : Tr) (recs : List (Bs × PV)) (st : St) (L : Array Bool) (E0 E : Env) (a : Act) (ds : List Deferred) : Prop where
  closed : ∀ k j, L.getD k false = true → (B.getD k 0).testBit j = true → L.getD j false = true
  lsize : L.size = ops.size
  pos : ∃ p, p ≤ ops.size ∧ (p < ops.size → isEat C.fm ops.toList p = true ∧ L.getD p false = false) ∧ (∀ j, isEat C.fm ops.toList j = true → (L.getD j false = true ↔ j < p)) ∧ E.bs = stAt recs st p
  rel : Rel E
  size : a.tmps.size = C.nt
  defers : a.defers = ds
  env : ∀ t, (t < C.nt → ∀ (j : Nat) o, ops[j]? = some o → o.dst = some t → L.getD j false = true) → VR E (st.env.get t) (a.tmps.getD t undef)
  env0 : ∀ t, (∀ (j : Nat) o, ops[j]? = some o → o.dst = some t → L.getD j false = false) → VR E (e0.get t) (a.tmps.getD t undef)
  gext : Ext E0 E

theorem isEat_lt {fm : Nat} {ops : List Oper} {j : Nat} (h : isEat fm ops j = true) : j < ops.length := by
  unfold isEat at h
  split at h
  · rename_i o ho; exact (List.getElem?_eq_some_iff.1 ho).1
  · cases h

/-- The next that makes or writes, from i on. -/
theorem next_E {C : Ctx} {ops : Array Oper} {B : List Nat} {e0 : Tr} {recs : List (Bs × PV)} {st : St}
    (hs : ∀ (i : Nat) o, ops.toList[i]? = some o → stepR C ops o (evM ops.toList B e0 i st.env) (stAt recs st i) = some (resAt recs i, stAt recs st (i + 1))) :
    ∀ (m i : Nat), i + m = ops.size → ∃ p, i ≤ p ∧ p ≤ ops.size ∧ (p < ops.size → isEat C.fm ops.toList p = true) ∧ (∀ j, i ≤ j → j < p → isEat C.fm ops.toList j = false) ∧ stAt recs st p = stAt recs st i
  | 0, i, h => ⟨i, Nat.le_refl _, by omega, fun h' => by omega, fun j h1 h2 => by omega, rfl⟩
  | m + 1, i, h => by
    cases hx : isEat C.fm ops.toList i with
    | true => exact ⟨i, Nat.le_refl _, by omega, fun _ => hx, fun j h1 h2 => by omega, rfl⟩
    | false =>
      obtain ⟨p, h1, h2, h3, h4, h5⟩ := next_E hs m (i + 1) (by omega)
      refine ⟨p, by omega, h2, h3, fun j hj1 hj2 => ?_, ?_⟩
      · rcases Nat.lt_or_ge i j with h' | h'
        · exact h4 j (by omega) hj2
        · have : j = i := by omega
          rw [this]; exact hx
      · rw [h5]
        have hi : i < ops.toList.length := by simp; omega
        have ho : ops.toList[i]? = some ops.toList[i] := List.getElem?_eq_getElem hi
        refine stepR_N (hs i _ ho) ?_
        unfold isEat at hx
        rw [ho] at hx
        exact hx

theorem stAt_same {C : Ctx} {ops : Array Oper} {B : List Nat} {e0 : Tr} {recs : List (Bs × PV)} {st : St}
    (hs : ∀ (i : Nat) o, ops.toList[i]? = some o → stepR C ops o (evM ops.toList B e0 i st.env) (stAt recs st i) = some (resAt recs i, stAt recs st (i + 1))) :
    ∀ (m k : Nat), k + m ≤ ops.size → (∀ j, k ≤ j → j < k + m → isEat C.fm ops.toList j = false) → stAt recs st (k + m) = stAt recs st k
  | 0, _, _, _ => rfl
  | m + 1, k, h, hn => by
    have hi : k + m < ops.toList.length := by simp; omega
    have ho : ops.toList[k + m]? = some ops.toList[k + m] := List.getElem?_eq_getElem hi
    have h1 := stepR_N (hs _ _ ho) (by
      have := hn (k + m) (by omega) (by omega)
      unfold isEat at this
      rw [ho] at this
      exact this)
    rw [show k + (m + 1) = k + m + 1 by omega, h1]
    exact stAt_same hs m k (by omega) fun j h1 h2 => hn j h1 (by omega)

theorem getD_false_true {L : Array Bool} {j : Nat} (h : j < L.size) : L.getD j true = L.getD j false := by
  simp [h]

theorem set_get {L : Array Bool} {k j : Nat} (hk : k < L.size) : (L.setIfInBounds k true).getD j false = true ↔ (j = k ∨ L.getD j false = true) := by
  by_cases e : k = j
  · subst e; simp [hk]
  · rw [getD_set_ne false e]
    constructor
    · exact .inr
    · rintro (h | h)
      · exact absurd h.symm e
      · exact h

variable {rr : Option Nat} {mm : Nat} {ds : List Deferred}

/-- One more is listed. -/
theorem InvR.next {C : Ctx} (hC : C.Ok) {ops : Array Oper} {B : List Nat} {e0 : Tr} {recs : List (Bs × PV)} {st : St} {td : List (Nat × Nat)}
    (hB : B = masks ops.toList []) (htd : td = todo C.fm ops.toList B) (hok : regOk C.fm ops.toList B = true)
    (hs : ∀ (i : Nat) o, ops.toList[i]? = some o → stepR C ops o (evM ops.toList B e0 i st.env) (stAt recs st i) = some (resAt recs i, stAt recs st (i + 1)) ∧
      ∀ d : Tmp, o.dst = some d → d < C.nt → st.env.get d = resAt recs i ∨ st.env.get d = .undef)
    (hd : ∀ x ∈ td, ∃ o pv b, ops.toList[x.1]? = some o ∧ stepR C ops o (evM ops.toList B e0 x.1 st.env) (stAt recs st x.2) = some (pv, b) ∧ pv = resAt recs x.1)
    {L : Array Bool} {E0 E : Env} {a : Act} (h : InvR C ops B e0 recs st L E0 E a ds) {k : Nat} {o : Oper} (ho : ops[k]? = some o) (hun : L.getD k false = false)
    (hal : ∀ e ∈ o.after.toList, Region.binds .any e = true → L.getD e.on false = true) {Q : Exit → Act → World → Prop} {K : Act → World → Prop}
    (hK : ∀ E' v, InvR C ops B e0 recs st (L.setIfInBounds k true) E0 E' (a.put o.dst v) ds → K (a.put o.dst v) E'.w) : wpOpIn (Wd rr) mm C.P ops Q k K a E.w := by
  have hol : ops.toList[k]? = some o := by simpa using ho
  have hkn : k < ops.size := (Array.getElem?_eq_some_iff.1 ho).1
  simp only [regOk, Bool.and_eq_true] at hok
  have hmB : ∀ j, (B.getD k 0).testBit j = true → L.getD j false = true := fun j hj => by
    have := (masks_spec ops.toList []).2 k o hol j (by rw [← hB]; simpa using hj)
    obtain ⟨e, he, hb, hx⟩ := this
    have hle := hal e he hb
    rcases hx with rfl | hx
    · exact hle
    · exact h.closed e.on j hle (by rw [hB]; exact hx)
  have hev : ∀ x, VR E (evM ops.toList B e0 k st.env x) (a.eval x) := by
    intro x
    cases x with
    | tmp t =>
      simp only [evM, Tr.getR_eq]
      cases hk : okT k (B.getD k 0) t ops.toList 0 with
      | false =>
        simp only [cond_false]
        cases hA : okA B k t ops.toList 0 with
        | false => simp [VR]
        | true =>
          simp only [cond_true]
          refine h.env0 t fun j oj hoj hdj => ?_
          cases hx : L.getD j false with
          | false => rfl
          | true =>
            have hb := okA_spec hA j oj (by simpa using hoj) (dstIs_iff.2 hdj)
            rw [Nat.zero_add] at hb
            have := h.closed j k hx hb
            rw [hun] at this; cases this
      | true =>
        simp only [cond_true]
        refine h.env t fun _ j oj hoj hdj => hmB j ?_
        have := (okT_spec hk j oj (by simpa using hoj) (dstIs_iff.2 hdj)).2
        simpa using this
    | const v => exact VR_ofVal E v
    | global g => simp [evM, evP, Act.eval, VR, Value.oneCell']
    | func f => simp only [evM, evP, Act.eval]; exact VR_func f
  obtain ⟨p, hp1, hp2, hp3, hp4⟩ := h.pos
  have closed' : ∀ k' j, (L.setIfInBounds k true).getD k' false = true → (B.getD k' 0).testBit j = true → (L.setIfInBounds k true).getD j false = true := by
    intro k' j hk' hj
    rw [set_get (by rw [h.lsize]; exact hkn)] at hk' ⊢
    rcases hk' with rfl | hk'
    · exact .inr (hmB j hj)
    · exact .inr (h.closed k' j hk' hj)
  have env' : ∀ (E' : Env) (v : Value), VR E' (resAt recs k) v → Ext E E' → ∀ t, (t < C.nt → ∀ (j : Nat) o, ops[j]? = some o → o.dst = some t → (L.setIfInBounds k true).getD j false = true) →
      VR E' (st.env.get t) ((a.put o.dst v).tmps.getD t undef) := by
    intro E' v hv hx t ht
    rw [put_get]
    by_cases hdt : o.dst = some t ∧ t < a.tmps.size
    · rw [if_pos hdt]
      rcases (hs k o hol).2 t hdt.1 (by rw [← h.size]; exact hdt.2) with e | e <;> rw [e]
      · exact hv
      · simp [VR]
    · rw [if_neg hdt]
      refine VR_ext hx (h.env t fun htn j oj hoj hdj => ?_)
      have := ht htn j oj hoj hdj
      rw [set_get (by rw [h.lsize]; exact hkn)] at this
      rcases this with rfl | this
      · rw [ho] at hoj; cases hoj
        exact absurd ⟨hdj, by rw [h.size]; exact htn⟩ hdt
      · exact this
  have env0' : ∀ (E' : Env) (v : Value), Ext E E' → ∀ t, (∀ (j : Nat) o, ops[j]? = some o → o.dst = some t → (L.setIfInBounds k true).getD j false = false) →
      VR E' (e0.get t) ((a.put o.dst v).tmps.getD t undef) := by
    intro E' v hx t ht
    have hno : o.dst ≠ some t := fun e => by
      have h1 := ht k o ho e
      rw [(set_get (by rw [h.lsize]; exact hkn)).2 (.inl rfl)] at h1
      cases h1
    rw [put_get, if_neg (fun x => hno x.1)]
    refine VR_ext hx (h.env0 t fun j oj hoj hdj => ?_)
    cases hx : L.getD j false with
    | false => rfl
    | true =>
      have h1 := ht j oj hoj hdj
      rw [(set_get (by rw [h.lsize]; exact hkn)).2 (.inr hx)] at h1
      cases h1
  have finish : ∀ p' , stepR C ops o (evM ops.toList B e0 k st.env) E.bs = some (resAt recs k, stAt recs st p') → p' ≤ ops.size →
      (p' < ops.size → isEat C.fm ops.toList p' = true ∧ (L.setIfInBounds k true).getD p' false = false) → (∀ j, isEat C.fm ops.toList j = true → ((L.setIfInBounds k true).getD j false = true ↔ j < p')) → wpOpIn (Wd rr) mm C.P ops Q k K a E.w := by
    intro p' hst h1 h2 h3
    refine stepR_wp hC ho h.rel hev hst fun E' v hb hv hx hR => hK E' v ⟨closed', by simp [h.lsize], ⟨p', h1, h2, h3, hb⟩, hR, by rw [(put_size _ _ _).1]; exact h.size, by rw [(put_size _ _ _).2]; exact h.defers, env' E' v hv hx, env0' E' v hx, h.gext.trans hx⟩
  cases hE : isE C.fm o.op with
  | true =>
    have hEk : isEat C.fm ops.toList k = true := by unfold isEat; rw [hol]; exact hE
    have hpk : p = k := by
      have h1 : ¬ k < p := fun hc => by rw [(hp3 k hEk).2 hc] at hun; cases hun
      rcases Nat.lt_or_ge p k with h2 | h2
      · have hEp := (hp2 (by omega)).1
        have hbit : (B.getD k 0).testBit p = true := by
          unfold isEat at hEp
          split at hEp
          · rename_i op hop
            have := (okE_spec hok.1.1 k o hol hE).2 p op h2 hop hEp
            simpa using this
          · cases hEp
        have := hmB p hbit
        rw [(hp2 (by omega)).2] at this; cases this
      · omega
    subst hpk
    obtain ⟨p', q1, q2, q3, q4, q5⟩ := next_E (fun i o h => (hs i o h).1) (ops.size - (p + 1)) (p + 1) (by omega)
    refine finish p' (by rw [hp4, (hs p o hol).1, q5]) q2 (fun hlt => ⟨q3 hlt, ?_⟩) fun j hj => ?_
    · have hne : p ≠ p' := by omega
      rw [getD_set_ne false hne]
      cases hx : L.getD p' false with
      | false => rfl
      | true => have := (hp3 p' (q3 hlt)).1 hx; omega
    · rw [set_get (by rw [h.lsize]; exact hkn), hp3 j hj]
      constructor
      · rintro (rfl | h') <;> omega
      · intro hlt
        rcases Nat.lt_or_ge j (p + 1) with h' | h'
        · omega
        · rw [q4 j h' hlt] at hj; cases hj
  | false =>
    have hEk : isEat C.fm ops.toList k = false := by unfold isEat; rw [hol]; exact hE
    have hres : ∃ b, stepR C ops o (evM ops.toList B e0 k st.env) (stAt recs st p) = some (resAt recs k, b) := by
      cases hask : askP C.fm ops.toList B k p with
      | true =>
        have hmem : (k, p) ∈ td := by
          rw [htd]
          unfold todo
          rw [List.mem_flatMap]
          refine ⟨k, by simpa using hkn, ?_⟩
          rw [hEk]
          simp only [cond_false, List.mem_map, List.mem_filter, List.mem_range, Prod.mk.injEq, true_and]
          refine ⟨p, ⟨by simp; omega, ?_⟩, rfl⟩
          rw [hask]
          simp only [Bool.and_true, Bool.or_eq_true]
          rcases Nat.lt_or_ge p ops.size with h' | h'
          · exact .inr (hp2 h').1
          · refine .inl ?_
            have : p = ops.toList.length := by simp; omega
            rw [this]; exact Nat.beq_refl _
        obtain ⟨o', pv, b, e1, e2, e3⟩ := hd (k, p) hmem
        simp only at e1 e2 e3
        rw [hol] at e1; cases e1
        exact ⟨b, by rw [e2, e3]⟩
      | false =>
        unfold askP at hask
        cases h1 : (Nat.ble k p && ((List.range' k (p - k)).all fun j => !isEat C.fm ops.toList j)) with
        | true =>
          simp only [Bool.and_eq_true, List.all_eq_true, List.mem_range'_1] at h1
          have hkp : k ≤ p := Nat.le_of_ble_eq_true h1.1
          have := stAt_same (fun i o h => (hs i o h).1) (p - k) k (by omega) fun j hj1 hj2 => by
            have := h1.2 j ⟨hj1, hj2⟩
            simpa using this
          rw [show k + (p - k) = p by omega] at this
          rw [this]
          exact ⟨_, (hs k o hol).1⟩
        | false =>
          rw [h1] at hask
          simp only [cond_false] at hask
          cases h2 : (Nat.blt p ops.toList.length && (B.getD k 0).testBit p) with
          | true =>
            simp only [Bool.and_eq_true] at h2
            have hlt : p < ops.size := by have : p < ops.toList.length := Eq.mp Nat.blt_eq h2.1; simpa using this
            have := hmB p h2.2
            rw [(hp2 hlt).2] at this; cases this
          | false =>
            rw [h2] at hask
            simp only [cond_false] at hask
            cases h3 : ((List.range p).any fun j => isEat C.fm ops.toList j && (B.getD j 0).testBit k) with
            | true =>
              simp only [List.any_eq_true, List.mem_range, Bool.and_eq_true] at h3
              obtain ⟨j, hj1, hj2, hj3⟩ := h3
              have := h.closed j k ((hp3 j hj2).2 hj1) hj3
              rw [hun] at this; cases this
            | false => rw [h3] at hask; cases hask
    obtain ⟨b, hres⟩ := hres
    have hb := stepR_N hres hE
    subst hb
    refine finish p (by rw [hp4]; exact hres) hp1 (fun hlt => ⟨(hp2 hlt).1, ?_⟩) fun j hj => ?_
    · have hne : k ≠ p := fun e => by rw [e, (hp2 hlt).1] at hEk; cases hEk
      rw [getD_set_ne false hne]; exact (hp2 hlt).2
    · rw [set_get (by rw [h.lsize]; exact hkn), hp3 j hj]
      constructor
      · rintro (rfl | h')
        · rw [hEk] at hj; cases hj
        · exact h'
      · exact .inr

end

end Go.Pm

/- PM: regions. -/

namespace Go.Pm
noncomputable section

theorem all_listed {ops : Array Oper} (hac : acyc ops.toList 0 = true) {L : Array Bool} (hL : L.size = ops.size) (hr : Region.ready .any ops L = []) :
    ∀ k, k < ops.size → L.getD k false = true := by
  intro k
  induction k using Nat.strongRecOn with
  | ind k ih =>
    intro hk
    cases hx : L.getD k false with
    | true => rfl
    | false =>
      exfalso
      have ho : ops[k]? = some ops[k] := Array.getElem?_eq_getElem hk
      have : k ∈ Region.ready .any ops L := mem_ready.2 ⟨by rw [getD_false_true (by omega)]; exact hx, ops[k], ho, fun e he hb => by
        have := acyc_spec hac k ops[k] (by simp) e (by simpa using he) hb
        exact ih e.on (by omega) (by omega)⟩
      rw [hr] at this
      cases this

theorem count_set {L : Array Bool} {k n : Nat} (hk : k < L.size) (hun : L.getD k false = false) (h : L.toList.count false ≤ n + 1) : (L.setIfInBounds k true).toList.count false ≤ n := by
  rw [Array.toList_setIfInBounds, List.count_set (by simpa using hk)]
  have hf : L.toList[k]'(by simpa using hk) = false := by
    rw [Array.getElem_toList]
    simpa [hk] using hun
  rw [hf]
  simp only [beq_self_eq_true, if_true, beq_iff_eq, Bool.true_eq_false, if_false]
  omega

variable {rr : Option Nat} {mm : Nat} {ds : List Deferred}

theorem wpAny_run {C : Ctx} (hC : C.Ok) {ops : Array Oper} {B : List Nat} {e0 : Tr} {recs : List (Bs × PV)} {st : St} {td : List (Nat × Nat)}
    (hB : B = masks ops.toList []) (htd : td = todo C.fm ops.toList B) (hok : regOk C.fm ops.toList B = true)
    (hs : ∀ (i : Nat) o, ops.toList[i]? = some o → stepR C ops o (evM ops.toList B e0 i st.env) (stAt recs st i) = some (resAt recs i, stAt recs st (i + 1)) ∧
      ∀ d : Tmp, o.dst = some d → d < C.nt → st.env.get d = resAt recs i ∨ st.env.get d = .undef)
    (hlen : recs.length = ops.size)
    (hd : ∀ x ∈ td, ∃ o pv b, ops.toList[x.1]? = some o ∧ stepR C ops o (evM ops.toList B e0 x.1 st.env) (stAt recs st x.2) = some (pv, b) ∧ pv = resAt recs x.1)
    {E0 : Env} {Q : Exit → Act → World → Prop} (hQ : ∀ (E' : Env) (a' : Act), StRel E' st a' C.nt ds → Ext E0 E' → Q .normal a' E'.w) :
    ∀ (n : Nat) (L : Array Bool) (E : Env) (a : Act), L.toList.count false ≤ n → InvR C ops B e0 recs st L E0 E a ds → wpAnyIn (Wd rr) mm C.P .any ops Q n L a E.w := by
  have hac : acyc ops.toList 0 = true := by
    simp only [regOk, Bool.and_eq_true] at hok; exact hok.2
  have fin : ∀ (L : Array Bool) (E : Env) (a : Act), InvR C ops B e0 recs st L E0 E a ds → Region.ready .any ops L = [] → Q .normal a E.w := by
    intro L E a h hr
    have hall := all_listed hac h.lsize hr
    obtain ⟨p, hp1, hp2, hp3, hp4⟩ := h.pos
    have hp : p = ops.size := by
      rcases Nat.lt_or_ge p ops.size with h' | h'
      · have := hall p h'
        rw [(hp2 h').2] at this; cases this
      · omega
    refine hQ E a ⟨?_, h.rel, h.size, h.defers, fun t => h.env t fun _ j o ho _ => hall j (Array.getElem?_eq_some_iff.1 ho).1⟩ h.gext
    rw [hp4, hp]
    unfold stAt
    rw [List.getElem?_eq_none (by omega)]
  intro n
  induction n with
  | zero =>
    intro L E a hc h
    have hr : Region.ready .any ops L = [] := by
      rw [List.eq_nil_iff_forall_not_mem]
      intro k hk
      obtain ⟨hun, o, ho, _⟩ := mem_ready.1 hk
      have hkn : k < ops.size := (Array.getElem?_eq_some_iff.1 ho).1
      rw [getD_false_true (by rw [h.lsize]; exact hkn)] at hun
      have hmem : false ∈ L.toList := by
        have hk' : k < L.size := by rw [h.lsize]; exact hkn
        have : L[k] = false := by simpa [hk'] using hun
        rw [← this]; simp
      have := List.count_pos_iff.2 hmem
      omega
    exact ⟨hr, fin L E a h hr⟩
  | succ n ih =>
    intro L E a hc h
    refine ⟨fun hr => fin L E a h hr, fun k hk => ?_⟩
    obtain ⟨hun, o, ho, hal⟩ := mem_ready.1 hk
    have hkn : k < ops.size := (Array.getElem?_eq_some_iff.1 ho).1
    rw [getD_false_true (by rw [h.lsize]; exact hkn)] at hun
    exact h.next hC hB htd hok hs hd ho hun (fun e he hb => hal e (by simpa using he) hb) fun E' v h' => ih _ E' _ (count_set (by rw [h.lsize]; exact hkn) hun hc) h'

def anyP (C : Ctx) (ops : Array Oper) (st : St) : Option St :=
  match masks ops.toList [] with
  | B => bif regOk C.fm ops.toList B then anyR C ops B (todo C.fm ops.toList B) st else none

theorem goR_stAt {C : Ctx} {ops : Array Oper} {B : List Nat} {st st' : St} {recs : List (Bs × PV)} (hd : ddR ops.toList = true) (h : goR C ops B st.env 0 ops.toList st.env st.bs = some (st', recs)) :
    (∀ t, ((∀ o ∈ ops.toList, o.dst ≠ some t) ∨ C.nt ≤ t) → st'.env.get t = st.env.get t) ∧ stAt recs st' 0 = st.bs ∧ recs.length = ops.toList.length ∧
    ∀ (i : Nat) o, ops.toList[i]? = some o → stepR C ops o (evM ops.toList B st.env i st'.env) (stAt recs st' i) = some (resAt recs i, stAt recs st' (i + 1)) ∧
      ∀ d : Tmp, o.dst = some d → d < C.nt → st'.env.get d = resAt recs i ∨ st'.env.get d = .undef := by
  obtain ⟨h1, h2, h3, h4⟩ := goR_spec ops.toList 0 _ _ _ _ (by simp) hd h
  exact ⟨h1, h2, h3, fun i o ho => by simpa using h4 i o ho⟩

theorem anyP_run {C : Ctx} (hC : C.Ok) {id : Nat} {ops : Array Oper} {st st' : St} (h : anyP C ops st = some st') {E0 E : Env} {a : Act} (hs : StRel E st a C.nt ds) (hg : Ext E0 E)
    {Q : Exit → Act → World → Prop} (hQ : ∀ (E' : Env) (a' : Act), StRel E' st' a' C.nt ds → Ext E0 E' → Q .normal a' E'.w) : (Code.region id ops true).wpIn (Wd rr) mm C.P Q a E.w := by
  unfold anyP at h
  simp only at h
  cases hok : regOk C.fm ops.toList (masks ops.toList []) with
  | false => rw [hok] at h; cases h
  | true =>
    rw [hok] at h
    simp only [cond_true] at h
    unfold anyR at h
    split at h
    · cases h
    · rename_i st1 recs hgo
      generalize hB : masks ops.toList [] = B at *
      generalize htd : todo C.fm ops.toList B = td at *
      cases hall : chk C ops B st.env st1 recs td with
      | false => rw [hall] at h; cases h
      | true =>
        rw [hall] at h
        cases h
        refine wpIn_region_any hC.T.mixed ?_
        have hok' := hok
        simp only [regOk, Bool.and_eq_true] at hok'
        obtain ⟨h1, h2, h3, h4⟩ := goR_stAt hok'.1.2 hgo
        obtain ⟨E1, d1, d2, d3, d4, d5, d6, hx, hR1⟩ := draw_ext hs.rel (w' := { E.w with drawn := E.w.drawn + 1 }) rfl rfl rfl rfl
        rw [← d1]
        refine wpAny_run hC hB.symm htd.symm hok h4 (by simpa using h3) (chk_spec hall) hQ ops.size _ E1 a ?_ ?_
        · rw [Array.toList_replicate, List.count_replicate_self]; exact Nat.le_refl _
        · obtain ⟨p, q1, q2, q3, q4, q5⟩ := next_E (fun i o h => (h4 i o h).1) ops.size 0 (by omega)
          have hrep : ∀ k, (Array.replicate ops.size false).getD k false = false := fun k => by
            by_cases hk : k < ops.size <;> simp [hk]
          refine ⟨fun k j hk => absurd hk (by rw [hrep]; exact Bool.false_ne_true), by simp, ⟨p, q2, fun hlt => ⟨q3 hlt, hrep p⟩, fun j hj => ?_, ?_⟩, hR1, hs.size, hs.defers, fun t ht => ?_, fun t _ => VR_ext hx (hs.env t), hg.trans hx⟩
          · rw [hrep]
            constructor
            · intro hc; cases hc
            · intro hlt; rw [q4 j (Nat.zero_le _) hlt] at hj; cases hj
          · rw [q5, h2, d2]; exact hs.bs
          · have : st'.env.get t = st.env.get t := by
              refine h1 t ?_
              rcases Nat.lt_or_ge t C.nt with h' | h'
              · refine .inl fun o ho hdo => ?_
                obtain ⟨i, hi⟩ := List.getElem?_of_mem ho
                have := ht h' i o (by simpa using hi) hdo
                rw [hrep] at this; cases this
              · exact .inr h'
            rw [this]
            exact VR_ext hx (hs.env t)

end

end Go.Pm

/- PM: regions, of any kind. -/

namespace Go.Pm
noncomputable section

variable {rr : Option Nat} {mm : Nat} {ds : List Deferred}

def regD (C : Ctx) (ops : Array Oper) (st : St) : Option St :=
  bif regOk 0 ops.toList (masks ops.toList []) then anyP { C with fm := 0 } ops st
  else match (bif regOk 2 ops.toList (masks ops.toList []) then anyP { C with fm := 2 } ops st else none) with
    | some st' => some st'
    | none => anyP { C with fm := 1 } ops st

/-- A region, of either kind. -/
def regionP (C : Ctx) (ops : Array Oper) (draw : Bool) (st : St) : Option St :=
  bif draw then regD C ops st else runOps C ops ops.toList st

theorem region_run {C : Ctx} (hC : C.Ok) {id : Nat} {ops : Array Oper} {draw : Bool} {st st' : St} (h : regionP C ops draw st = some st') {E0 E : Env} {a : Act} (hs : StRel E st a C.nt ds) (hg : Ext E0 E)
    {Q : Exit → Act → World → Prop} (hQ : ∀ (E' : Env) (a' : Act), StRel E' st' a' C.nt ds → Ext E0 E' → Q .normal a' E'.w) : (Code.region id ops draw).wpIn (Wd rr) mm C.P Q a E.w := by
  unfold regionP at h
  cases draw with
  | false =>
    simp only [cond_false] at h
    refine wpIn_region ?_
    rw [List.range_eq_range']
    exact runOps_wp hC ops.size 0 ops.toList st E a rfl (by omega) h hs hg hQ
  | true =>
    simp only [cond_true] at h
    have hC' : ∀ fm, ({ C with fm := fm } : Ctx).Ok := fun fm => ⟨hC.T, hC.names, hC.call, hC.callN, hC.ext⟩
    unfold regD at h
    cases hok : regOk 0 ops.toList (masks ops.toList []) with
    | true =>
      rw [hok] at h
      exact anyP_run (hC' 0) h hs hg hQ
    | false =>
      rw [hok] at h
      simp only [cond_false] at h
      split at h
      · rename_i s1 hs1
        cases h
        cases hf : regOk 2 ops.toList (masks ops.toList []) with
        | false => rw [hf] at hs1; cases hs1
        | true =>
          rw [hf] at hs1
          exact anyP_run (hC' 2) hs1 hs hg hQ
      · exact anyP_run (hC' 1) h hs hg hQ

end

end Go.Pm

/- PM: worlds that have grown, or in which one block that holds no cells and no map has turned. -/

namespace Go.Pm
noncomputable section

def plainObj : Obj → Bool
  | .cells .. => false
  | .map .. => false
  | _ => true

structure Turned (D : Nat) (w w' : World) : Prop where
  os : w'.os = w.os
  tape : w'.tape = w.tape
  output : w'.output = w.output
  size : w'.heap.size = w.heap.size
  others : ∀ b, b ≠ D → w'.heap[b]? = w.heap[b]?
  was : ∃ o, w.heap[D]? = some o ∧ plainObj o = true

theorem Turned.putObj {D : Nat} {w : World} {o : Obj} (o' : Obj) (h : w.heap[D]? = some o) (hp : plainObj o = true) : Turned D w (w.putObj D o') where
  os := rfl
  tape := rfl
  output := rfl
  size := by simp [World.putObj]
  others b hb := by simp only [World.putObj]; rw [Array.getElem?_setIfInBounds_ne (Ne.symm hb)]
  was := ⟨o, h, hp⟩

theorem Turned.ne {D : Nat} {w w' : World} (h : Turned D w w') {b : Nat} {o : Obj} (hb : w.heap[b]? = some o) (ho : plainObj o = false) : b ≠ D := by
  rintro rfl
  obtain ⟨o', h1, h2⟩ := h.was
  rw [hb] at h1; cases h1
  rw [ho] at h2; cases h2

theorem Turned.cell {D : Nat} {w w' : World} (h : Turned D w w') {a : Addr} {y : Value} (hc : w.cell? a = some y) : w'.cell? a = some y := by
  have hne : a.block ≠ D := by
    intro e
    obtain ⟨o, h1, h2⟩ := h.was
    unfold World.cell? at hc
    rw [e, h1] at hc
    cases o <;> simp [plainObj] at h2 hc
  rw [← hc]
  simp only [World.cell?, h.others _ hne]

theorem Frz.turn {D : Nat} {E : Env} {w' : World} (h : Turned D E.w w') {b : Bool} {k : Nat} (hf : Frz E b k) : Frz (turnEnv E w') b k :=
  ⟨by show k < w'.heap.size; rw [h.size]; exact hf.1, hf.2.1, hf.2.2⟩

mutual
theorem VR_turn {D : Nat} {E : Env} {w' : World} (ht : Turned D E.w w') : ∀ {pv : PV} {v : Value}, VR E pv v → VR (turnEnv E w') pv v
  | .s x, v, h => by simpa [VR] using h
  | .undef, v, _ => by simp [VR]
  | .agg cs, v, h => by
    simp only [VR] at h ⊢; obtain ⟨a, rfl, h⟩ := h; exact ⟨a, rfl, VRl_turn ht h⟩
  | .tup cs, v, h => by
    simp only [VR] at h ⊢; obtain ⟨a, rfl, h⟩ := h; exact ⟨a, rfl, VRl_turn ht h⟩
  | .vs b full xs, v, h => by
    simp only [VR] at h ⊢
    obtain ⟨A, cap, ws, rfl, h1, h2, h3, h4, h5, h6⟩ := h
    refine ⟨A, cap, ws, rfl, h1, h2, VRl_turn ht h3, h4, h5, ?_⟩
    rcases h6 with h6 | ⟨blk, off, k, hA, hz', hk, hl⟩
    · exact .inl h6
    · exact .inr ⟨blk, off, k, hA, hz'.turn ht, hk, hl.1, fun i x hx j y hy => ht.cell (hl.2 i x hx j y hy)⟩
  | .fp b cs, v, h => by
    simp only [VR] at h ⊢
    obtain ⟨blk, off, us, rfl, h1, h2, h3, h4, h5⟩ := h
    exact ⟨blk, off, us, rfl, VRl_turn ht h1, h2, h3, h4.turn ht, fun j u hu => ht.cell (h5 j u hu)⟩
  | .lp r g i j, v, h => by simp only [VR] at h ⊢; exact h
  | .sl r g off len, v, h => by simp only [VR] at h ⊢; exact h
  | .fn f caps, v, h => by
    simp only [VR] at h ⊢; obtain ⟨a, rfl, h⟩ := h; exact ⟨a, rfl, VRl_turn ht h⟩
  | .ifc t x, v, h => by
    simp only [VR] at h ⊢; obtain ⟨y, rfl, h⟩ := h; exact ⟨y, rfl, VR_turn ht h⟩
  | .mp x, v, h => by simp only [VR] at h ⊢; exact h
  | .ts x g i j cp, v, h => by simp only [VR] at h ⊢; exact h
theorem VRl_turn {D : Nat} {E : Env} {w' : World} (ht : Turned D E.w w') : ∀ {ps : List PV} {us : List Value}, VRl E ps us → VRl (turnEnv E w') ps us
  | [], us, h => by simpa [VRl] using h
  | p :: ps, us, h => by
    simp only [VRl] at h ⊢
    obtain ⟨u, us', rfl, hp, h⟩ := h
    exact ⟨u, us', rfl, VR_turn ht hp, VRl_turn ht h⟩
end

theorem Rel_turn {D : Nat} {E : Env} {w' : World} (ht : Turned D E.w w') (hR : Rel E) : Rel (turnEnv E w') where
  len := hR.len
  phys r g b h hc := by
    obtain ⟨h1, h2, cs, ty, h3, h4⟩ := hR.phys r g b h hc
    exact ⟨h1, h2, cs, ty, (ht.others _ (ht.ne h3 rfl)).trans h3, h4⟩
  own r g b h i p hp := by
    obtain ⟨h1, h2⟩ := hR.own r g b h i p hp
    exact ⟨h1, fun j c hc => by
      obtain ⟨cs, ty, y, h3, h4, h5⟩ := h2 j c hc
      exact ⟨cs, ty, y, (ht.others _ (ht.ne h3 rfl)).trans h3, h4, VR_turn ht h5⟩⟩
  inj := hR.inj
  lt k hk := by show k < w'.heap.size; rw [ht.size]; exact hR.lt k hk
  llt k hk := by show k < w'.heap.size; rw [ht.size]; exact hR.llt k hk
  apart := hR.apart
  gl := hR.gl
  mps x l hl := by
    obtain ⟨h0, es, c, h1, h2, h3⟩ := hR.mps x l hl
    refine ⟨h0, es, c, (ht.others _ (ht.ne h1 rfl)).trans h1, h2, fun i k p hp => ?_⟩
    obtain ⟨z1, e, z2, z3, z4⟩ := h3 i k p hp
    exact ⟨z1, e, z2, z3, VR_turn ht z4⟩
  minj := hR.minj

theorem ext_turn {D : Nat} {E0 E : Env} {w' : World} (ht : Turned D E.w w') (hx : Ext E0 E) (hD : E0.w.heap.size ≤ D) : Ext E0 (turnEnv E w') where
  os := ht.os.trans hx.os
  tape := ht.tape.trans hx.tape
  output := ht.output.trans hx.output
  size := by show _ ≤ w'.heap.size; rw [ht.size]; exact hx.size
  keep b hb hw := (ht.others b (by omega)).trans (hx.keep b hb hw)
  wr := hx.wr
  lent := hx.lent
  maps := hx.maps
  ent := hx.ent

theorem grown_alloc (w : World) (o : Obj) : Grown w (w.alloc o) where
  os := rfl
  tape := rfl
  output := rfl
  size := by rw [World.size_alloc]; omega
  same b hb := by
    show (w.heap.push o)[b]? = _
    rw [Array.getElem?_push, if_neg (by omega)]

theorem Grown.trans {a b c : World} (h : Grown a b) (k : Grown b c) : Grown a c where
  os := k.os.trans h.os
  tape := k.tape.trans h.tape
  output := k.output.trans h.output
  size := Nat.le_trans h.size k.size
  same x hx := (k.same x (Nat.lt_of_lt_of_le hx h.size)).trans (h.same x hx)

end

end Go.Pm

/- PM: code, and calls. -/

namespace Go.Pm
noncomputable section

inductive PX where
  | normal
  | exit (id : Nat)
  | ret

def loopP (f : St → Option (PX × St)) : Nat → St → Option (PX × St)
  | 0, _ => none
  | n + 1, st => match f st with
    | some (.normal, st') => loopP f n st'
    | r => r

/-- What is known beside: calls put off that do nothing where nothing has panicked, and closures that give a slice piece by piece (its type, and that of numbers). -/
structure XC extends Ctx where
  idle : FuncId → Bool
  chunk : FuncId → Option (TypeId × TypeId)

def deferOf : List Oper → Option (Oper × Oper × Call)
  | [o1, o2] => match o2.op with
    | .defer c => some (o1, o2, c)
    | _ => none
  | _ => none

def runDefer (X : XC) (o1 o2 : Oper) (c : Call) (st : St) : Option St :=
  match o1.guard, o2.guard, o2.dst, c.callee, c.args.toList with
  | none, none, none, .value f, [] => match popOp X.toCtx o1 (evP st.env) st.bs with
    | none => none
    | some (pv, bs') => match evP (putP X.nt st.env o1.dst pv) f with
      | .fn g _ => bif X.idle (fnId g) && fnLt g then some ⟨putP X.nt st.env o1.dst pv, bs'⟩ else none
      | _ => none
  | _, _, _, _, _ => none

def natI : PV → Option Nat
  | .s (.int .i64 (.ofNat n)) => some n
  | _ => none

/-- A slice, piece by piece. -/
def chunkP (T : Tbl) (sT iT : TypeId) (p1 p2 : PV) (rnd : PV → Bs → Option (PX × Bs)) : Nat → Nat → Bs → Option (PX × Bs)
  | 0, _, _ => none
  | m + 1, i, bs => match popLoad T bs sT p1, (popLoad T bs iT p2).bind natI with
    | some s, some n => match (popLen T sT (sv s)).bind natI with
      | none => none
      | some len => bif Nat.ble len i then some (.normal, bs)
        else bif Nat.ble 1 n && Nat.ble (i + n) 4611686018427387904 then
          match popSlice T bs sT (sv s) (some (.s (.int .i64 (.ofNat i)))) none none with
          | none => none
          | some s2 => match (popLen T sT (sv s2)).bind natI with
            | none => none
            | some l2 => match popSlice T bs sT (sv s) (some (.s (.int .i64 (.ofNat i)))) (some (.s (.int .i64 (.ofNat (i + min n l2))))) (some (.s (.int .i64 (.ofNat (i + min n l2))))) with
              | none => none
              | some item => match rnd item bs with
                | some (.normal, bs') => chunkP T sT iT p1 p2 rnd m (i + n) bs'
                | r => r
        else none
    | _, _ => none

def exec (X : XC) : Code → Bool → St → Option (PX × St)
  | .skip, _, st => some (.normal, st)
  | .label _, _, st => some (.normal, st)
  | .region _ ops draw, rd, st => match deferOf ops.toList with
    | some (o1, o2, c) => bif rd || draw then none else (runDefer X o1 o2 c st).map fun st' => (.normal, st')
    | none => (regionP X.toCtx ops draw st).map fun st' => (.normal, st')
  | .seq x y, rd, st => match exec X x rd st with
    | some (.normal, st') => exec X y rd st'
    | r => r
  | .cond c x y, rd, st => match evP st.env c with
    | .s (.bool b) => bif b then exec X x rd st else exec X y rd st
    | _ => none
  | .block id c, rd, st => match exec X c rd st with
    | some (.exit id', st') => bif Nat.beq id' id then some (.normal, st') else some (.exit id', st')
    | r => r
  | .loop c, rd, st => loopP (exec X c rd) X.fuel st
  | .exit id, _, st => some (.exit id, st)
  | .ret, _, st => some (.ret, st)
  | .rangeFunc f ps assign body, rd, st => bif rd then none else match evP st.env f, ps.toList with
    | .fn g [p1, p2], [t] => match (bif fnLt g then X.chunk (fnId g) else none) with
      | none => none
      | some (sT, iT) => (chunkP X.T sT iT p1 p2 (fun pv bs => match exec X assign true ⟨putP X.nt st.env (some t) pv, bs⟩ with
        | some (.normal, st1) => (exec X body true st1).map fun r => (r.1, r.2.bs)
        | _ => none) X.fuel 0 st.bs).map fun r => (r.1, ⟨st.env, r.2⟩)
    | _, _ => none
  | _, _, _ => none

def PX.to : PX → Exit
  | .normal => .normal
  | .exit id => .exit id
  | .ret => .ret

/-- What is promised of calls put off. -/
def IdleOk (P : Program) (idle : FuncId → Bool) : Prop :=
  ∀ g, idle g = true → ∀ (cap : Array Value) (w : World), (invoke (.fn (.func g) cap) #[]).run P w = .ok (.enter g cap) w ∧
    CallsDIn Fence.wide 0 P g cap .returning w fun e u' w' => (∃ v, e = .returned v) ∧ u' = .returning ∧ Grown w w'

/-- .. and of closures that give a slice piece by piece. -/
def ChunkOk (P : Program) (chunk : FuncId → Option (TypeId × TypeId)) : Prop :=
  ∀ g sT iT, chunk g = some (sT, iT) → (∀ args w, (callFunc g args).run P w = .ok (.enter g args) w) ∧
    ∀ (l : Nat) (v1 v2 : Value) (J : Nat → Nat → World → Prop) (Jd Jx : World → Prop),
      (∀ m i W, J m i W → ∃ (s : Value) (n len : Nat), (Instr.loadAt sT v1).run P W = .ok s W ∧ (Instr.loadAt iT v2).run P W = .ok (.int .i64 n) W ∧
        (Builtin.len_ #[sT] iT #[s]).run P W = .ok (.int .i64 len) W ∧
        (len ≤ i → Jd W) ∧ (i < len → 1 ≤ n ∧ i + n ≤ 4611686018427387904 ∧ ∃ (s2 item : Value) (l2 m' : Nat), (Instr.sliceAt sT s (some (.int .i64 i)) none none).run P W = .ok s2 W ∧
          (Builtin.len_ #[sT] iT #[s2]).run P W = .ok (.int .i64 l2) W ∧
          (Instr.sliceAt sT s (some (.int .i64 i)) (some (.int .i64 (i + min n l2 : Nat))) (some (.int .i64 (i + min n l2 : Nat)))).run P W = .ok item W ∧ m' < m ∧
          YieldAt Fence.wide 0 P l #[item] W fun e W' => (e = .returned (.bool true) ∧ J m' (i + n) W') ∨ (e = .returned (.bool false) ∧ Jx W'))) →
      ∀ m W, J m 0 W → CallsIn Fence.wide 0 P g #[.func (.yield l) #[] #[], v1, v2] W fun e W' => (∃ v, e = .returned v) ∧ (Jd W' ∨ Jx W')

structure XC.Ok (X : XC) : Prop where
  ctx : X.toCtx.Ok
  idle : IdleOk X.P X.idle
  chunk : ChunkOk X.P X.chunk

/-- A call put off that does nothing, or the mark of a range over a function. -/
def DefOk (X : XC) (lo : Nat) (E : Env) (d : Deferred) : Prop :=
  (∃ g cap, d = { target := .fn (.func g) cap, args := #[] } ∧ X.idle g = true) ∨ (∃ D, d.target = .collected D ∧ lo ≤ D ∧ E.w.heap[D]? = some (.deferred (some [])) ∧ ¬ E.Wr D)

def DefsOk (X : XC) (lo : Nat) (E : Env) (ds : List Deferred) : Prop :=
  (∀ d ∈ ds, DefOk X lo E d) ∧ ds.Pairwise fun a b => ∀ D, a.target = .collected D → b.target ≠ .collected D

theorem DefsOk.ext {X : XC} {lo : Nat} {E E' : Env} {ds : List Deferred} (h : DefsOk X lo E ds) (hx : Ext E E') : DefsOk X lo E' ds := by
  refine ⟨fun d hd => ?_, h.2⟩
  rcases h.1 d hd with h1 | ⟨D, h1, h2, h3, h4⟩
  · exact .inl h1
  · exact .inr ⟨D, h1, h2, (hx.keep D (hlt h3) h4).trans h3, fun hw => h4 (hx.wr D (hlt h3) hw)⟩

theorem DefsOk.turn {X : XC} {lo D : Nat} {E : Env} {w' : World} {ds : List Deferred} (h : DefsOk X lo E ds) (ht : Turned D E.w w') (hn : ∀ d ∈ ds, d.target ≠ .collected D) : DefsOk X lo (turnEnv E w') ds := by
  refine ⟨fun d hd => ?_, h.2⟩
  rcases h.1 d hd with h1 | ⟨D', h1, h2, h3, h4⟩
  · exact .inl h1
  · exact .inr ⟨D', h1, h2, (ht.others D' (fun e => hn d hd (by rw [h1, e]))).trans h3, h4⟩

theorem StRel.turn {D : Nat} {E : Env} {w' : World} {st : St} {a : Act} {nt : Nat} {ds : List Deferred} (h : StRel E st a nt ds) (ht : Turned D E.w w') : StRel (turnEnv E w') st a nt ds :=
  ⟨h.bs, Rel_turn ht h.rel, h.size, h.defers, fun t => VR_turn ht (h.env t)⟩

/-- What is so where a piece of code ends. -/
def After (X : XC) (lo : Nat) (E : Env) (x : PX) (st : St) : Exit → Act → World → Prop :=
  fun e a w => e = x.to ∧ ∃ (E' : Env) (ds : List Deferred), E'.w = w ∧ StRel E' st a X.nt ds ∧ DefsOk X lo E' ds ∧ Ext E E'

theorem After.from {X : XC} {lo : Nat} {E E1 : Env} {x : PX} {st : St} {e : Exit} {a : Act} {w : World} (hx : Ext E E1) (h : After X lo E1 x st e a w) : After X lo E x st e a w := by
  obtain ⟨h0, E', ds, h1, h2, h3, h4⟩ := h
  exact ⟨h0, E', ds, h1, h2, h3, hx.trans h4⟩

theorem wp_loop_n {F : Fence} {k : Nat} {P : Program} {c : Code} {Q : Exit → Act → World → Prop} {a : Act} {w : World} (I : Nat → Act → World → Prop) {n : Nat} (h₀ : I n a w)
    (round : ∀ n a w, I n a w → c.wpIn F k P (Exit.then (fun a' w' => ∃ m, m < n ∧ I m a' w') Q) a w) : (Code.loop c).wpIn F k P Q a w := by
  have least : ∀ n a w, I n a w → ∃ m, I m a w ∧ ∀ k, k < m → ¬ I k a w := by
    intro n
    induction n using Nat.strongRecOn with
    | ind n ih =>
      intro a w h
      by_cases hx : ∃ k, k < n ∧ I k a w
      · obtain ⟨k, hk, hI⟩ := hx; exact ih k hk a w hI
      · exact ⟨n, h, fun k hk hI => hx ⟨k, hk, hI⟩⟩
  let μ : Act → World → Nat := fun a w => @dite _ (∃ m, I m a w ∧ ∀ k, k < m → ¬ I k a w) (Classical.propDecidable _) (fun h => Classical.choose h) (fun _ => 0)
  have hμ : ∀ n a w, I n a w → I (μ a w) a w ∧ μ a w ≤ n := by
    intro n a w h
    have he := least n a w h
    have hm : μ a w = Classical.choose he := dif_pos he
    rw [hm]
    have hs := Classical.choose_spec he
    refine ⟨hs.1, ?_⟩
    rcases Nat.lt_or_ge n (Classical.choose he) with h' | h'
    · exact absurd h (hs.2 n h')
    · exact h'
  refine wpIn_loop (fun a w => ∃ n, I n a w) μ ⟨n, h₀⟩ fun a w ⟨n, h⟩ => ?_
  refine wpIn_mono (round (μ a w) a w (hμ n a w h).1) ?_
  intro e a' w' hq
  cases e <;> simp only [Exit.then] at hq ⊢ <;> first
    | exact hq
    | (obtain ⟨m, hm, hI⟩ := hq
       exact ⟨⟨m, hI⟩, Nat.lt_of_le_of_lt (hμ m a' w' hI).2 hm⟩)

end

end Go.Pm

/- PM: what code comes to. -/

namespace Go.Pm
noncomputable section

theorem deferOf_eq {o1 o2 : Oper} {c : Call} : ∀ {l : List Oper}, deferOf l = some (o1, o2, c) → l = [o1, o2] ∧ o2.op = .defer c
  | [], h => by cases h
  | [_], h => by cases h
  | _ :: _ :: _ :: _, h => by cases h
  | [x, y], h => by
    unfold deferOf at h
    obtain ⟨d, op, t, p, af, g⟩ := y
    cases op <;> first
      | (cases h; done)
      | (cases h; exact ⟨rfl, rfl⟩)

theorem natI_VR {E : Env} {p : PV} {n : Nat} {u : Value} (h : natI p = some n) (hu : VR E p u) : u = .int .i64 n := by
  unfold natI at h
  split at h
  · cases h
    simp only [VR] at hu
    exact hu.1
  · cases h

theorem wanted_free {o : Oper} (y : Nat → Option Bool) (h : o.guard = none) : Region.wanted o y = true := by
  simp [Region.wanted, h]

theorem defer_run {X : XC} (hX : X.Ok) {lo : Nat} {id : Nat} {ops : Array Oper} {st st' : St} {o1 o2 : Oper} {c : Call} (hd : deferOf ops.toList = some (o1, o2, c)) (h : runDefer X o1 o2 c st = some st')
    {E : Env} {a : Act} {ds : List Deferred} (hs : StRel E st a X.nt ds) (hD : DefsOk X lo E ds) : (Code.region id ops false).wpIn (Wd none) 0 X.P (After X lo E .normal st') a E.w := by
  obtain ⟨hl, hop⟩ := deferOf_eq hd
  have hops : ops = #[o1, o2] := by apply Array.toList_inj.1; rw [hl]
  subst hops
  unfold runDefer at h
  split at h
  · rename_i f g1 g2 hdst hcal harg
    split at h
    · cases h
    · rename_i pv bs' hp
      split at h
      · rename_i g caps hf
        cases hi : (X.idle (fnId g) && fnLt g) with
        | false => rw [hi] at h; cases h
        | true =>
          rw [hi] at h
          cases h
          refine wpIn_region ?_
          show wpOpsIn (Wd none) 0 X.P #[o1, o2] _ [0, 1] a E.w
          simp only [wpOpsIn, List.getElem?_toArray, List.getElem?_cons_zero, List.getElem?_cons_succ]
          rw [if_pos (wanted_free _ g1)]
          have hev := evP_VR hs.env
          rw [← hs.bs] at hp
          refine popOp_wpIn hX.ctx hs.rel hev o1 hp fun E' v hb hv hx hR => ?_
          rw [if_pos (wanted_free _ g2)]
          refine ⟨fun _ _ => trivial, ?_⟩
          have henv : ∀ t, VR E' ((putP X.nt st.env o1.dst pv).get t) ((a.put o1.dst v).tmps.getD t undef) := fun t => putP_VR hs.size hv _ (VR_ext hx (hs.env t))
          have hfv := evP_VR henv f
          rw [hf] at hfv
          simp only [VR] at hfv
          obtain ⟨cv, hfe, _⟩ := hfv
          simp only [Bool.and_eq_true] at hi
          obtain ⟨hi, hev2⟩ := hi
          rw [fnV_t hev2] at hfe
          have harg' : c.args = #[] := by apply Array.toList_inj.1; rw [harg]
          have hrun : (Oper.semAt (Wd none).round (a.put o1.dst v).eval o2).run X.P E'.w = .ok (.defer { target := .fn (.func (fnId g)) cv.toArray, args := #[] }) E'.w := by
            show (Oper.semAt none (a.put o1.dst v).eval o2).run X.P E'.w = _
            rw [Oper.semAt_none]
            simp [execOp, hop, resolve, hcal, hfe, Deferred.ofValue, harg', Sem.run_pure]
          rw [hrun, Oper.uponIn_defer, hdst]
          refine ⟨rfl, E', { target := .fn (.func (fnId g)) cv.toArray, args := #[] } :: ds, rfl, ⟨hb, hR, ?_, ?_, fun t => ?_⟩, ⟨fun d hd => ?_, ?_⟩, hx⟩
          · show ((a.put o1.dst v).tmps).size = _
            rw [(put_size _ _ _).1]; exact hs.size
          · show _ :: (a.put o1.dst v).defers = _
            rw [(put_size _ _ _).2, hs.defers]
          · exact henv t
          · rcases List.mem_cons.1 hd with rfl | hd
            · exact .inl ⟨fnId g, cv.toArray, rfl, hi⟩
            · exact (hD.ext hx).1 d hd
          · refine List.pairwise_cons.2 ⟨fun b _ D hc => ?_, (hD.ext hx).2⟩
            cases hc
      · cases h
  · cases h

/-- What holds between two rounds. -/
structure Btw (X : XC) (lo : Nat) (E0 : Env) (st : St) (a : Act) (ds : List Deferred) (l D : Nat) (rec : Loop) (bs : Bs) (W : World) : Prop where
  ex : ∃ E', E'.w = W ∧ StRel E' ⟨st.env, bs⟩ a X.nt ds ∧ DefsOk X lo E' ds ∧ Ext E0 E' ∧ W.heap[l]? = some (.loop rec) ∧ ¬ E'.Wr l ∧ W.heap[D]? = some (.deferred (some [])) ∧ ¬ E'.Wr D

theorem marks_ne {X : XC} {lo l : Nat} {E : Env} {ds : List Deferred} {r : Loop} (h : DefsOk X lo E ds) (hl : E.w.heap[l]? = some (.loop r)) : ∀ d ∈ ds, d.target ≠ .collected l := by
  intro d hd e
  rcases h.1 d hd with ⟨g, cap, rfl, _⟩ | ⟨D, h1, _, h3, _⟩
  · cases e
  · rw [h1] at e
    cases e
    rw [hl] at h3; cases h3

theorem Btw.turn {X : XC} {lo : Nat} {E0 : Env} {st : St} {a : Act} {ds : List Deferred} {l D : Nat} {r r' : Loop} {bs : Bs} {W : World} (h : Btw X lo E0 st a ds l D r bs W) (hl : E0.w.heap.size ≤ l) (hne : D ≠ l) :
    Btw X lo E0 st a ds l D r' bs (W.putObj l (.loop r')) := by
  obtain ⟨E', rfl, h1, h2, h3, h4, h5, h6, h7⟩ := h.ex
  have ht : Turned l E'.w (E'.w.putObj l (.loop r')) := .putObj _ h4 rfl
  refine ⟨turnEnv E' (E'.w.putObj l (.loop r')), rfl, h1.turn ht, h2.turn ht (marks_ne h2 h4), ext_turn ht h3 hl, ?_, h5, ?_, h7⟩
  · exact World.putObj_heap_same (hlt h4)
  · exact (ht.others D hne).trans h6

end

end Go.Pm

/- PM: what code comes to, a range over a function within. -/

namespace Go.Pm
noncomputable section

theorem some_pair {α β : Type} {a a' : α} {b b' : β} (h : some (a, b) = some (a', b')) : a = a' ∧ b = b' := by
  cases h; exact ⟨rfl, rfl⟩

theorem range_run {X : XC} (hX : X.Ok) {lo : Nat} {f : Operand} {ps : Array Tmp} {assign body : Code} {st st' : St} {x : PX} {E : Env} {a : Act} {ds : List Deferred}
    (hs : StRel E st a X.nt ds) (hD : DefsOk X lo E ds) (hlo : lo ≤ E.w.heap.size)
    (iha : ∀ (l : Nat) (st st' : St) (x : PX) (E : Env) (a : Act) (ds : List Deferred), exec X assign true st = some (x, st') → StRel E st a X.nt ds → DefsOk X lo E ds → lo ≤ E.w.heap.size → assign.wpIn (Wd (some l)) 0 X.P (After X lo E x st') a E.w)
    (ihb : ∀ (l : Nat) (st st' : St) (x : PX) (E : Env) (a : Act) (ds : List Deferred), exec X body true st = some (x, st') → StRel E st a X.nt ds → DefsOk X lo E ds → lo ≤ E.w.heap.size → body.wpIn (Wd (some l)) 0 X.P (After X lo E x st') a E.w)
    (h : exec X (.rangeFunc f ps assign body) false st = some (x, st')) : (Code.rangeFunc f ps assign body).wpIn (Wd none) 0 X.P (After X lo E x st') a E.w := by
  simp only [exec, cond_false] at h
  split at h
  · rename_i g p1 p2 t hf hps
    split at h
    · cases h
    · rename_i sT iT hch
      cases hev2 : fnLt g with
      | false => rw [hev2] at hch; cases hch
      | true =>
      rw [hev2] at hch; simp only [cond_true] at hch
      simp only [Option.map_eq_some_iff] at h
      obtain ⟨⟨x', bs'⟩, hc, e⟩ := h
      obtain ⟨rfl, rfl⟩ := (Prod.mk.injEq _ _ _ _).mp e
      have hps' : ps = #[t] := by apply Array.toList_inj.1; rw [hps]
      subst hps'
      obtain ⟨hent, hgen⟩ := hX.chunk (fnId g) sT iT hch
      have hfv := evP_VR hs.env f
      rw [hf] at hfv
      simp only [VR] at hfv
      obtain ⟨cv, hfe, hcv⟩ := hfv
      rw [fnV_t hev2] at hfe
      have hcv' : ∃ v1 v2, cv = [v1, v2] ∧ VR E p1 v1 ∧ VR E p2 v2 := by
        simp only [VRl] at hcv
        obtain ⟨v1, us, rfl, h1, v2, us2, rfl, h2, rfl⟩ := hcv
        exact ⟨v1, v2, rfl, h1, h2⟩
      obtain ⟨v1, v2, rfl, _, _⟩ := hcv'
      generalize hrnd : (fun (pv : PV) (bs : Bs) => match exec X assign true ⟨putP X.nt st.env (some t) pv, bs⟩ with
        | some (.normal, st1) => (exec X body true st1).map fun (r : PX × St) => (r.1, r.2.bs)
        | _ => none) = rnd at hc
      -- the two blocks that are laid
      refine wpIn_rangeFunc ?_
      intro fn _
      let rec0 : LoopState → Option Code → Loop := fun s p => { state := s, pending := p, fn, tmps := a.tmps, params := #[t], assign, body, defers := E.w.heap.size }
      let w1 : World := (E.w.alloc (.deferred (some []))).alloc (.loop (rec0 .ready none))
      have hw1 : Grown E.w w1 := (grown_alloc _ _).trans (grown_alloc _ _)
      have hl1 : w1.heap[E.w.heap.size + 1]? = some (.loop (rec0 .ready none)) := by
        have := World.alloc_heap_new (E.w.alloc (.deferred (some []))) (.loop (rec0 .ready none))
        rwa [World.size_alloc] at this
      have hd1 : w1.heap[E.w.heap.size]? = some (.deferred (some [])) :=
        ((grown_alloc (E.w.alloc (.deferred (some []))) _).same _ (by rw [World.size_alloc]; omega)).trans (World.alloc_heap_new _ _)
      refine ⟨E.w.heap.size + 1, [{ target := .collected E.w.heap.size, args := #[] }], w1, { target := .fn (.func (fnId g)) #[v1, v2], args := #[.func (.yield (E.w.heap.size + 1)) #[] #[]] }, w1, fnId g, #[.func (.yield (E.w.heap.size + 1)) #[] #[], v1, v2], w1,
        run_enterLoop_outer fn a.tmps #[t] assign body, ?_, fun _ _ => trivial, ?_, fun h => (by cases h), ?_⟩
      · simp [resolve, hfe, Deferred.ofValue]
        rfl
      · simp only [invoke]
        exact hent _ _
      generalize hL : E.w.heap.size + 1 = l at *
      have hEl : E.w.heap.size ≤ l := by omega
      have hne : E.w.heap.size ≠ l := by omega
      have hk : CallsIn Fence.wide 0 X.P (fnId g) #[.func (.yield l) #[] #[], v1, v2] w1 fun e W' => (∃ v, e = .returned v) ∧
          ((x' = .normal ∧ Btw X lo E st a ds l E.w.heap.size (rec0 .ready none) bs' W') ∨
           (∃ c, Btw X lo E st a ds l E.w.heap.size (rec0 .done (some c)) bs' W' ∧ ((x' = .ret ∧ c = .ret) ∨ ∃ id, x' = .exit id ∧ c = .exit id))) := by
        refine hgen l v1 v2 (fun m i W => ∃ bs, Btw X lo E st a ds l E.w.heap.size (rec0 .ready none) bs W ∧ chunkP X.T sT iT p1 p2 rnd m i bs = some (x', bs')) _ _ ?_ X.fuel w1 ⟨st.bs, ⟨⟨turnEnv E w1, rfl, ?_, ?_, ext_grown hw1, hl1, ?_, hd1, ?_⟩⟩, hc⟩
        · rintro m i W ⟨bs, hB, hcp⟩
          cases m with
          | zero => simp [chunkP] at hcp
          | succ m =>
            obtain ⟨E1, rfl, b1, b2, b3, b4, b5, b6, b7⟩ := hB.ex
            have hfv1 := evP_VR b1.env f
            rw [show evP (⟨st.env, bs⟩ : St).env f = evP st.env f from rfl, hf] at hfv1
            simp only [VR] at hfv1
            obtain ⟨cv1, hfe1, hcv1⟩ := hfv1
            rw [hfe, fnV_t hev2] at hfe1
            have hcv2 : VR E1 p1 v1 ∧ VR E1 p2 v2 := by
              have e1 : cv1.toArray = #[v1, v2] := by injection hfe1 with _ _ h3; exact h3.symm
              have e2 : cv1 = [v1, v2] := by have := congrArg Array.toList e1; simpa using this
              subst e2
              have := VRl_cons.1 hcv1
              exact ⟨this.1, (VRl_cons.1 this.2).1⟩
            simp only [chunkP] at hcp
            split at hcp
            · rename_i s n hls hln
              simp only [Option.bind_eq_some_iff] at hln
              obtain ⟨pn, hln, hpn⟩ := hln
              have hbs : E1.bs = bs := b1.bs
              rw [← hbs] at hls hln
              obtain ⟨us, q1, q2⟩ := popLoad_run hX.ctx.T b1.rel hcv2.1 hls
              obtain ⟨un, q3, q4⟩ := popLoad_run hX.ctx.T b1.rel hcv2.2 hln
              have := natI_VR hpn q4
              subst this
              split at hcp
              · cases hcp
              · rename_i len hle
                simp only [Option.bind_eq_some_iff] at hle
                obtain ⟨pl, hle, hpl⟩ := hle
                obtain ⟨ul, q5, q6⟩ := popLen_run (P := X.P) hX.ctx.T (ts := []) (us := []) (ty := iT) (VR_sv q2) hle
                have := natI_VR hpl q6
                subst this
                refine ⟨us, n, len, q1, q3, q5, ?_, ?_⟩
                · intro hil
                  rw [Nat.ble_eq_true_of_le hil] at hcp
                  cases hcp
                  exact ⟨rfl, hB⟩
                · intro hil
                  have hb : Nat.ble len i = false := by
                    cases hb : Nat.ble len i with
                    | false => rfl
                    | true => have := Nat.le_of_ble_eq_true hb; omega
                  rw [hb] at hcp
                  simp only [cond_false] at hcp
                  cases hcn : (Nat.ble 1 n && Nat.ble (i + n) 4611686018427387904) with
                  | false => rw [hcn] at hcp; cases hcp
                  | true =>
                    rw [hcn] at hcp
                    simp only [cond_true] at hcp
                    simp only [Bool.and_eq_true] at hcn
                    refine ⟨Nat.le_of_ble_eq_true hcn.1, Nat.le_of_ble_eq_true hcn.2, ?_⟩
                    split at hcp
                    · cases hcp
                    · rename_i s2 hs2
                      split at hcp
                      · cases hcp
                      · rename_i l2 hl2
                        simp only [Option.bind_eq_some_iff] at hl2
                        obtain ⟨pl2, hl2, hpl2⟩ := hl2
                        split at hcp
                        · cases hcp
                        · rename_i item hit
                          rw [← hbs] at hs2 hit
                          have vi : ∀ k : Nat, VR E1 (.s (.int .i64 (.ofNat k))) (.int .i64 (k : Int)) := fun k => by simp [VR, Value.oneCell']
                          obtain ⟨us2, q7, q8⟩ := popSlice_run hX.ctx.T (VR_sv q2) (.some (vi i)) .none .none hs2
                          obtain ⟨ul2, q9, q10⟩ := popLen_run (P := X.P) hX.ctx.T (ts := []) (us := []) (ty := iT) (VR_sv q8) hl2
                          have := natI_VR hpl2 q10
                          subst this
                          obtain ⟨ui, q11, q12⟩ := popSlice_run hX.ctx.T (VR_sv q2) (.some (vi i)) (.some (vi _)) (.some (vi _)) hit
                          refine ⟨us2, ui, l2, m, q7, q9, q11, by omega, ?_⟩
                          refine ⟨fn, a.tmps.setIfInBounds t ui, assign, body, ?_, ?_⟩
                          · have := run_yield (P := X.P) (w := E1.w) (l := l) (r := rec0 .ready none) (args := #[ui]) b4 rfl
                            simpa [rec0] using this
                          refine roundIn_of_wpIn trivial ?_
                          have hrd0 : rnd item bs = (match exec X assign true ⟨putP X.nt st.env (some t) item, bs⟩ with
                            | some (.normal, st1) => (exec X body true st1).map fun (r : PX × St) => (r.1, r.2.bs)
                            | _ => none) := by rw [← hrnd]
                          rw [hrd0] at hcp
                          have hacts : StRel E1 ⟨putP X.nt st.env (some t) item, bs⟩ { tmps := a.tmps.setIfInBounds t ui, defers := [] } X.nt [] := by
                            refine ⟨b1.bs, b1.rel, ?_, rfl, fun k => ?_⟩
                            · show (a.tmps.setIfInBounds t ui).size = _
                              rw [Array.size_setIfInBounds]; exact b1.size
                            · exact putP_VR (a := a) b1.size q12 (some t) (b1.env k)
                          have hlo1 : lo ≤ E1.w.heap.size := Nat.le_trans hlo b3.size
                          split at hcp
                          · rename_i bs2 hrd
                            split at hrd
                            · rename_i st1 hea
                              simp only [Option.map_eq_some_iff] at hrd
                              obtain ⟨⟨y, st2⟩, heb, e2⟩ := hrd
                              obtain ⟨rfl, rfl⟩ := (Prod.mk.injEq _ _ _ _).mp e2
                              refine wpIn_mono (iha l _ st1 .normal E1 _ [] hea hacts ⟨fun d hd => (by cases hd), List.Pairwise.nil⟩ hlo1) ?_
                              rintro e1 a1 w2 ⟨rfl, E2, ds2, rfl, c1, c2, c3⟩
                              have hl2' : E2.w.heap[l]? = some (.loop (rec0 .ready none)) := (c3.keep l (hlt b4) b5).trans b4
                              have hl2w : ¬ E2.Wr l := fun hw => b5 (c3.wr l (hlt b4) hw)
                              refine ⟨_, run_beginRound hl2' rfl, ?_⟩
                              have ht : Turned l E2.w (E2.w.putObj l (.loop { rec0 .ready none with state := .busy })) := .putObj _ hl2' rfl
                              have hx2 : Ext E (turnEnv E2 (E2.w.putObj l (.loop { rec0 .ready none with state := .busy }))) := ext_turn ht (b3.trans c3) hEl
                              refine wpIn_mono (ihb l _ st2 .normal (turnEnv E2 (E2.w.putObj l (.loop { rec0 .ready none with state := .busy }))) a1 ds2 heb (c1.turn ht) (c2.turn ht (marks_ne c2 hl2')) (Nat.le_trans hlo hx2.size)) ?_
                              rintro e3 a3 w3 ⟨rfl, E3, ds3, rfl, d1, d2, d3⟩
                              have hl3 : E3.w.heap[l]? = some (.loop (rec0 .busy none)) := (d3.keep l (by show l < (E2.w.putObj l _).heap.size; rw [ht.size]; exact hlt hl2') hl2w).trans (World.putObj_heap_same (hlt hl2'))
                              refine ⟨_, _, run_endRound none hl3, .inl ⟨rfl, st2.bs, ?_, hcp⟩⟩
                              have hB3 : Btw X lo E st a ds l E.w.heap.size (rec0 .busy none) st2.bs E3.w := by
                                have hb6 : E2.w.heap[E.w.heap.size]? = some (.deferred (some [])) := (c3.keep _ (hlt b6) b7).trans b6
                                have hb7 : ¬ E2.Wr E.w.heap.size := fun hw => b7 (c3.wr _ (hlt b6) hw)
                                have hb8 : (E2.w.putObj l (.loop { rec0 .ready none with state := .busy })).heap[E.w.heap.size]? = some (.deferred (some [])) := (ht.others _ hne).trans hb6
                                refine ⟨E3, rfl, ⟨d1.bs, d1.rel, b1.size, b1.defers, fun k => VR_ext d3 (VR_turn ht (VR_ext c3 (b1.env k)))⟩, (((b2.ext c3).turn ht (marks_ne (b2.ext c3) hl2')).ext d3), hx2.trans d3, hl3, ?_, ?_, ?_⟩
                                · exact fun hw => hl2w (d3.wr l (by show l < (E2.w.putObj l _).heap.size; rw [ht.size]; exact hlt hl2') hw)
                                · exact (d3.keep _ (hlt hb8) hb7).trans hb8
                                · exact fun hw => hb7 (d3.wr _ (hlt hb8) hw)
                              exact hB3.turn hEl hne
                            · cases hrd
                          · rename_i hnn
                            split at hcp
                            · rename_i st1 hea
                              simp only [Option.map_eq_some_iff] at hcp
                              obtain ⟨⟨y, st2⟩, heb, e2⟩ := hcp
                              obtain ⟨rfl, rfl⟩ := (Prod.mk.injEq _ _ _ _).mp e2
                              have hyn : y ≠ .normal := by
                                rintro rfl
                                exact hnn st2.bs (by rw [hea]; simp [heb])
                              refine wpIn_mono (iha l _ st1 .normal E1 _ [] hea hacts ⟨fun d hd => (by cases hd), List.Pairwise.nil⟩ hlo1) ?_
                              rintro e1 a1 w2 ⟨rfl, E2, ds2, rfl, c1, c2, c3⟩
                              have hl2' : E2.w.heap[l]? = some (.loop (rec0 .ready none)) := (c3.keep l (hlt b4) b5).trans b4
                              have hl2w : ¬ E2.Wr l := fun hw => b5 (c3.wr l (hlt b4) hw)
                              refine ⟨_, run_beginRound hl2' rfl, ?_⟩
                              have ht : Turned l E2.w (E2.w.putObj l (.loop { rec0 .ready none with state := .busy })) := .putObj _ hl2' rfl
                              have hx2 : Ext E (turnEnv E2 (E2.w.putObj l (.loop { rec0 .ready none with state := .busy }))) := ext_turn ht (b3.trans c3) hEl
                              refine wpIn_mono (ihb l _ st2 y (turnEnv E2 (E2.w.putObj l (.loop { rec0 .ready none with state := .busy }))) a1 ds2 heb (c1.turn ht) (c2.turn ht (marks_ne c2 hl2')) (Nat.le_trans hlo hx2.size)) ?_
                              rintro e3 a3 w3 ⟨he3, E3, ds3, rfl, d1, d2, d3⟩
                              have hl3 : E3.w.heap[l]? = some (.loop (rec0 .busy none)) := (d3.keep l (by show l < (E2.w.putObj l _).heap.size; rw [ht.size]; exact hlt hl2') hl2w).trans (World.putObj_heap_same (hlt hl2'))
                              have hB3 : Btw X lo E st a ds l E.w.heap.size (rec0 .busy none) st2.bs E3.w := by
                                have hb6 : E2.w.heap[E.w.heap.size]? = some (.deferred (some [])) := (c3.keep _ (hlt b6) b7).trans b6
                                have hb7 : ¬ E2.Wr E.w.heap.size := fun hw => b7 (c3.wr _ (hlt b6) hw)
                                have hb8 : (E2.w.putObj l (.loop { rec0 .ready none with state := .busy })).heap[E.w.heap.size]? = some (.deferred (some [])) := (ht.others _ hne).trans hb6
                                refine ⟨E3, rfl, ⟨d1.bs, d1.rel, b1.size, b1.defers, fun k => VR_ext d3 (VR_turn ht (VR_ext c3 (b1.env k)))⟩, (((b2.ext c3).turn ht (marks_ne (b2.ext c3) hl2')).ext d3), hx2.trans d3, hl3, ?_, ?_, ?_⟩
                                · exact fun hw => hl2w (d3.wr l (by show l < (E2.w.putObj l _).heap.size; rw [ht.size]; exact hlt hl2') hw)
                                · exact (d3.keep _ (hlt hb8) hb7).trans hb8
                                · exact fun hw => hb7 (d3.wr _ (hlt hb8) hw)
                              cases y with
                              | normal => exact absurd rfl hyn
                              | ret =>
                                subst he3
                                exact ⟨_, _, run_endRound (some .ret) hl3, .inr ⟨rfl, .ret, hB3.turn hEl hne, .inl ⟨rfl, rfl⟩⟩⟩
                              | exit id =>
                                subst he3
                                exact ⟨_, _, run_endRound (some (.exit id)) hl3, .inr ⟨rfl, .exit id, hB3.turn hEl hne, .inr ⟨id, rfl, rfl⟩⟩⟩
                            · cases hcp
            · cases hcp
        · exact ⟨hs.bs, Rel_grown hw1 hs.rel, hs.size, hs.defers, fun k => VR_ext (ext_grown hw1) (hs.env k)⟩
        · exact hD.ext (ext_grown hw1)
        · exact fun hw => by have := hs.rel.lt _ hw; omega
        · exact fun hw => by have := hs.rel.lt _ hw; omega
      refine hk.mono ?_
      have hmark : ∀ E2 : Env, DefsOk X lo E2 ds → E2.w.heap[E.w.heap.size]? = some (.deferred (some [])) → ¬ E2.Wr E.w.heap.size → DefsOk X lo E2 ([{ target := .collected E.w.heap.size, args := #[] }] ++ ds) := by
        intro E2 h1 h2 h3
        refine ⟨fun d hd => ?_, List.pairwise_cons.2 ⟨fun b hb Dk hc => ?_, h1.2⟩⟩
        · rcases List.mem_cons.1 hd with rfl | hd
          · exact .inr ⟨_, rfl, hlo, h2, h3⟩
          · exact h1.1 d hd
        · cases hc
          intro hbt
          rcases hD.1 b hb with ⟨g', cap, rfl, _⟩ | ⟨D', k1, k2, k3, _⟩
          · cases hbt
          · rw [k1] at hbt
            cases hbt
            have := hlt k3
            omega
      rintro e W' ⟨⟨v, rfl⟩, ⟨hxn, hB⟩ | ⟨c, hB, hxc⟩⟩
      · obtain ⟨E1, rfl, b1, b2, b3, b4, b5, b6, b7⟩ := hB.ex
        refine ⟨_, _, run_endLoop b4 (by simp [rec0]), ?_⟩
        have ht : Turned l E1.w (E1.w.putObj l (.loop { rec0 .ready none with state := .exhausted })) := .putObj _ b4 rfl
        subst hxn
        have h6 : (E1.w.putObj l (.loop { rec0 .ready none with state := .exhausted })).heap[E.w.heap.size]? = some (.deferred (some [])) := (ht.others _ hne).trans b6
        have b1' := b1.turn ht
        exact ⟨rfl, turnEnv E1 (E1.w.putObj l (.loop { rec0 .ready none with state := .exhausted })), _, rfl, ⟨b1'.bs, b1'.rel, b1'.size, by show _ ++ a.defers = _; rw [hs.defers], b1'.env⟩, hmark _ (b2.turn ht (marks_ne b2 b4)) h6 b7, ext_turn ht b3 hEl⟩
      · obtain ⟨E1, rfl, b1, b2, b3, b4, b5, b6, b7⟩ := hB.ex
        refine ⟨_, _, run_endLoop b4 (by simp [rec0]), ?_⟩
        have ht : Turned l E1.w (E1.w.putObj l (.loop { rec0 .done (some c) with state := .exhausted })) := .putObj _ b4 rfl
        have h6 : (E1.w.putObj l (.loop { rec0 .done (some c) with state := .exhausted })).heap[E.w.heap.size]? = some (.deferred (some [])) := (ht.others _ hne).trans b6
        have b1' := b1.turn ht
        have fin : ∀ e : Exit, e = x'.to → After X lo E x' ⟨st.env, bs'⟩ e { a with defers := [{ target := .collected E.w.heap.size, args := #[] }] ++ a.defers } (E1.w.putObj l (.loop { rec0 .done (some c) with state := .exhausted })) := fun e he =>
          ⟨he, turnEnv E1 (E1.w.putObj l (.loop { rec0 .done (some c) with state := .exhausted })), _, rfl, ⟨b1'.bs, b1'.rel, b1'.size, by show _ ++ a.defers = _; rw [hs.defers], b1'.env⟩, hmark _ (b2.turn ht (marks_ne b2 b4)) h6 b7, ext_turn ht b3 hEl⟩
        rcases hxc with ⟨rfl, rfl⟩ | ⟨id, rfl, rfl⟩
        · exact wpIn_ret (fin .ret rfl)
        · exact wpIn_exit (fin (.exit id) rfl)
  · cases h

theorem exec_wp {X : XC} (hX : X.Ok) {lo : Nat} : ∀ (c : Code) (rd : Bool) (r : Option Nat) (st st' : St) (x : PX) (E : Env) (a : Act) (ds : List Deferred), (rd = false → r = none) → exec X c rd st = some (x, st') →
    StRel E st a X.nt ds → DefsOk X lo E ds → lo ≤ E.w.heap.size → c.wpIn (Wd r) 0 X.P (After X lo E x st') a E.w
  | .skip, rd, r, st, st', x, E, a, ds, _, h, hs, hD, _ => by
    simp only [exec] at h; cases h
    exact wpIn_skip ⟨rfl, E, ds, rfl, hs, hD, Ext.refl E⟩
  | .label l, rd, r, st, st', x, E, a, ds, _, h, hs, hD, _ => by
    simp only [exec] at h; cases h
    exact wpIn_label ⟨rfl, E, ds, rfl, hs, hD, Ext.refl E⟩
  | .region id ops draw, rd, r, st, st', x, E, a, ds, hr, h, hs, hD, _ => by
    simp only [exec] at h
    split at h
    · rename_i o1 o2 c hd
      cases hb : rd || draw with
      | true => rw [hb] at h; cases h
      | false =>
        rw [hb] at h
        simp only [cond_false, Option.map_eq_some_iff] at h
        obtain ⟨s1, h1, e⟩ := h
        cases e
        simp only [Bool.or_eq_false_iff] at hb
        rw [hr hb.1, hb.2]
        exact defer_run hX hd h1 hs hD
    · simp only [Option.map_eq_some_iff] at h
      obtain ⟨s1, h1, e⟩ := h
      cases e
      exact region_run hX.ctx h1 hs (Ext.refl E) fun E' a' hs' hx => ⟨rfl, E', ds, rfl, hs', hD.ext hx, hx⟩
  | .seq c d, rd, r, st, st', x, E, a, ds, hr, h, hs, hD, hlo => by
    simp only [exec] at h
    refine wpIn_seq ?_
    split at h
    · rename_i st1 h1
      refine wpIn_mono (exec_wp hX c rd r st st1 .normal E a ds hr h1 hs hD hlo) ?_
      rintro e a' w' ⟨rfl, E', ds', rfl, hs', hD', hx⟩
      refine wpIn_mono (exec_wp hX d rd r st1 st' x E' a' ds' hr h hs' hD' (Nat.le_trans hlo hx.size)) ?_
      exact fun e a w ha => ha.from hx
    · rename_i hne
      refine wpIn_mono (exec_wp hX c rd r st st' x E a ds hr h hs hD hlo) ?_
      intro e a' w' ha
      have hx : x ≠ .normal := fun e => by rw [e] at h; exact hne st' h
      have he := ha.1
      cases x with
      | normal => exact absurd rfl hx
      | exit id => subst he; exact ha
      | ret => subst he; exact ha
  | .cond c x y, rd, r, st, st', px, E, a, ds, hr, h, hs, hD, hlo => by
    simp only [exec] at h
    split at h
    · rename_i b hb
      have hv := evP_VR hs.env c
      rw [hb] at hv
      simp only [VR] at hv
      refine wpIn_cond hv.1 ?_
      cases b with
      | true => exact exec_wp hX x rd r st st' px E a ds hr h hs hD hlo
      | false => exact exec_wp hX y rd r st st' px E a ds hr h hs hD hlo
    · cases h
  | .block id c, rd, r, st, st', x, E, a, ds, hr, h, hs, hD, hlo => by
    simp only [exec] at h
    refine wpIn_block ?_
    split at h
    · rename_i id' st1 h1
      refine wpIn_mono (exec_wp hX c rd r st st1 (.exit id') E a ds hr h1 hs hD hlo) ?_
      rintro e a' w' ⟨rfl, E', hE'⟩
      cases hb : Nat.beq id' id with
      | true =>
        rw [hb] at h; cases h
        simp only [Exit.inBlock, PX.to, Nat.eq_of_beq_eq_true hb, if_true]
        exact ⟨rfl, E', hE'⟩
      | false =>
        rw [hb] at h; cases h
        have : ¬ id' = id := fun e => by rw [e, Nat.beq_refl] at hb; cases hb
        simp only [Exit.inBlock, PX.to, this, if_false]
        exact ⟨rfl, E', hE'⟩
    · rename_i hne
      refine wpIn_mono (exec_wp hX c rd r st st' x E a ds hr h hs hD hlo) ?_
      intro e a' w' ha
      have he := ha.1
      cases x with
      | normal => subst he; exact ha
      | exit id' => exact absurd h (hne id' st')
      | ret => subst he; exact ha
  | .loop c, rd, r, st, st', x, E, a, ds, hr, h, hs, hD, hlo => by
    simp only [exec] at h
    refine wp_loop_n (fun n a w => ∃ (E' : Env) (st : St) (ds : List Deferred), E'.w = w ∧ StRel E' st a X.nt ds ∧ DefsOk X lo E' ds ∧ Ext E E' ∧ loopP (exec X c rd) n st = some (x, st')) (n := X.fuel) ⟨E, st, ds, rfl, hs, hD, Ext.refl E, h⟩ ?_
    rintro n a w ⟨E1, st, ds, rfl, hs, hD, hx, h⟩
    have hlo' := Nat.le_trans hlo hx.size
    cases n with
    | zero => simp [loopP] at h
    | succ n =>
      simp only [loopP] at h
      split at h
      · rename_i st1 h1
        refine wpIn_mono (exec_wp hX c rd r st st1 .normal E1 a ds hr h1 hs hD hlo') ?_
        rintro e a' w' ⟨rfl, E', ds', rfl, hs', hD', hx'⟩
        exact ⟨n, by omega, E', st1, ds', rfl, hs', hD', hx.trans hx', h⟩
      · rename_i hne
        refine wpIn_mono (exec_wp hX c rd r st st' x E1 a ds hr h hs hD hlo') ?_
        intro e a' w' ha
        replace ha := ha.from hx
        have hx : x ≠ .normal := fun e => by rw [e] at h; exact hne st' h
        have he := ha.1
        cases x with
        | normal => exact absurd rfl hx
        | exit id => subst he; exact ha
        | ret => subst he; exact ha
  | .exit id, rd, r, st, st', x, E, a, ds, _, h, hs, hD, _ => by
    simp only [exec] at h; cases h
    exact wpIn_exit ⟨rfl, E, ds, rfl, hs, hD, Ext.refl E⟩
  | .ret, rd, r, st, st', x, E, a, ds, _, h, hs, hD, _ => by
    simp only [exec] at h; cases h
    exact wpIn_ret ⟨rfl, E, ds, rfl, hs, hD, Ext.refl E⟩
  | .rangeFunc f ps assign body, rd, r, st, st', x, E, a, ds, hr, h, hs, hD, hlo => by
    cases rd with
    | true => simp [exec] at h
    | false =>
      rw [hr rfl]
      exact range_run hX hs hD hlo (fun l st st' x E a ds h hs hD hlo => exec_wp hX assign true (some l) st st' x E a ds (fun h => by cases h) h hs hD hlo)
        (fun l st st' x E a ds h hs hD hlo => exec_wp hX body true (some l) st st' x E a ds (fun h => by cases h) h hs hD hlo) h
  | .scope .., rd, r, st, st', x, E, a, ds, _, h, hs, hD, _ => by simp [exec] at h
  | .goto .., rd, r, st, st', x, E, a, ds, _, h, hs, hD, _ => by simp [exec] at h
  | .refuse .., rd, r, st, st', x, E, a, ds, _, h, hs, hD, _ => by simp [exec] at h

end

end Go.Pm

/- PM: what a call comes to. -/

namespace Go.Pm
noncomputable section

/- Calls. -/
structure Cfg where
  T : Tbl
  P : Program
  ext : FuncId → List Value → Option Value
  orc : FuncId → List PV → GL → Option CRes
  keep : FuncId → Nat
  gl : FuncId → Nat → Bool
  fuel : Nat
  idle : FuncId → Bool
  chunk : FuncId → Option (TypeId × TypeId)

def resL (T : Tbl) (st : St) : List ResultVar → Option (List PV)
  | [] => some []
  | .tmp t :: r => (resL T st r).map fun l => st.env.get t :: l
  | .cell a t :: r => match popLoad T st.bs t (st.env.get a) with
    | none => none
    | some v => (resL T st r).map fun l => v :: l

def presults (T : Tbl) (rs : List ResultVar) (st : St) : Option PV :=
  (resL T st rs).map fun l => match l with
    | [x] => x
    | l => .tup l

def initEnv : List PV → Nat → Tr → Tr
  | [], _, env => env
  | x :: r, i, env => fN (fun i => initEnv r (Nat.succ i) (env.setR x i)) i

/-- What is handed back (0: frozen, 1: slices of its own stay such, 2: under names that outlive frames). -/
def retm (m : Nat) (bs : Bs) (p : PV) : Option CRes :=
  bif Nat.beq m 2 then
    match glz 8 bs p with
    | none => none
    | some (q, b1) => bif noLoc q then some (q, [], b1.glob) else none
  else match retv (Nat.beq m 1) bs p with
    | none => none
    | some (q, rb) => some (q, rb, bs.glob)

/-- The same within a call that turns nothing: slices stay one's own, nothing outlives frames. -/
def Cfg.loc (K : Cfg) : Cfg := { K with keep := fun _ => 1, gl := fun _ _ => false }

def pcall : Nat → Cfg → Bool → FuncId → List PV → GL → Option CRes
  | 0, _, _, _, _, _ => none
  | n + 1, K, top, f, args, gl => match K.orc f args gl with
    | some r => some r
    | none => match K.T.func f with
      | none => none
      | some fn => match fn.body with
        | none => none
        | some c => bif Nat.ble args.length fn.ntmps then
            match exec ⟨⟨K.T, K.P, pcall n K false, pcall n K.loc true, K.ext, fn.ntmps, K.fuel, 0, K.gl f⟩, K.idle, K.chunk⟩ c false ⟨initEnv args 0 (Tr.full (Nat.log2 (fn.ntmps + 1) + 1)), ⟨[], gl⟩⟩ with
            | some (.exit _, _) => none
            | some (_, st) => match presults K.T fn.results.toList st with
              | none => none
              | some pv => retm (bif top then 0 else K.keep f) st.bs pv
            | none => none
          else none

structure Cfg.Ok (K : Cfg) : Prop where
  T : K.T.Ok K.P
  names : ∀ f fn, K.T.func f = some fn → (fn.name == "runtime.NumGoroutine") = false
  ext : ExtOk K.P K.ext
  orc : CallOk K.P K.orc
  idle : IdleOk K.P K.idle
  chunk : ChunkOk K.P K.chunk

def resOne (tmps : Array Value) : ResultVar → Sem Value
  | .tmp t => pure (tmps.getD t undef)
  | .cell a t => do loadVar t (← asAddr (tmps.getD a undef))

theorem results_eq (fn : Func) (tmps : Array Value) : results fn tmps = (do let vs ← fn.results.mapM (resOne tmps); pure (if h : vs.size = 1 then vs[0] else .tuple vs)) := by
  unfold results
  congr 1

theorem popLoad_var {T : Tbl} {P : Program} (hT : T.Ok P) {E : Env} (hR : Rel E) {t : TypeId} {p pv : PV} {u : Value} (hu : VR E p u) (h : popLoad T E.bs t p = some pv) :
    ∃ v, (do loadVar t (← asAddr u) : Sem Value).run P E.w = .ok v E.w ∧ VR E pv v := by
  obtain ⟨v, h1, h2⟩ := popLoad_run hT hR hu h
  refine ⟨v, ?_, h2⟩
  have hp : ∃ x, u = .pointer (some x) := by
    cases p <;> simp only [popLoad] at h <;> try (cases h; done)
    case fp b cs =>
      simp only [VR] at hu
      obtain ⟨blk, off, us, rfl, _⟩ := hu
      exact ⟨_, rfl⟩
    case lp r g i j =>
      simp only [VR] at hu
      obtain ⟨blk, off, rfl, _⟩ := hu
      exact ⟨_, rfl⟩
  obtain ⟨x, rfl⟩ := hp
  exact h1

theorem resL_run {T : Tbl} {P : Program} (hT : T.Ok P) {E : Env} (hR : Rel E) {st : St} (hb : E.bs = st.bs) {tmps : Array Value} (h : ∀ t, VR E (st.env.get t) (tmps.getD t undef)) : ∀ {rs : List ResultVar} {l : List PV}, resL T st rs = some l →
    ∃ vs : List Value, (rs.mapM (resOne tmps)).run P E.w = .ok vs E.w ∧ VRl E l vs
  | [], l, h1 => by
    simp only [resL] at h1; cases h1
    exact ⟨[], by simp, VRl_nil⟩
  | .tmp t :: r, l, h1 => by
    simp only [resL, Option.map_eq_some_iff] at h1
    obtain ⟨l', h2, e⟩ := h1
    cases e
    obtain ⟨vs, h3, h4⟩ := resL_run hT hR hb h h2
    refine ⟨tmps.getD t undef :: vs, ?_, VRl_cons.2 ⟨h t, h4⟩⟩
    rw [List.mapM_cons]
    simp only [Sem.run_bind, Sem.run_pure, Result.andThen_ok, h3, resOne]
  | .cell a t :: r, l, h1 => by
    simp only [resL] at h1
    split at h1
    · cases h1
    · rename_i v hv
      simp only [Option.map_eq_some_iff] at h1
      obtain ⟨l', h2, e⟩ := h1
      cases e
      rw [← hb] at hv
      obtain ⟨u, h5, h6⟩ := popLoad_var hT hR (h a) hv
      obtain ⟨vs, h3, h4⟩ := resL_run hT hR hb h h2
      refine ⟨u :: vs, ?_, VRl_cons.2 ⟨h6, h4⟩⟩
      rw [List.mapM_cons]
      have h5' : (resOne tmps (.cell a t)).run P E.w = .ok u E.w := h5
      simp only [Sem.run_bind, Sem.run_pure, h5', Result.andThen_ok, h3]

theorem presults_run {T : Tbl} {P : Program} (hT : T.Ok P) {E : Env} (hR : Rel E) {st : St} (hb : E.bs = st.bs) {fn : Func} {tmps : Array Value} (h : ∀ t, VR E (st.env.get t) (tmps.getD t undef)) {pv : PV} (hp : presults T fn.results.toList st = some pv) :
    ∃ v, (results fn tmps).run P E.w = .ok v E.w ∧ VR E pv v := by
  unfold presults at hp
  simp only [Option.map_eq_some_iff] at hp
  obtain ⟨l, h1, e⟩ := hp
  obtain ⟨vs, h2, h3⟩ := resL_run hT hR hb h h1
  have hrun : (results fn tmps).run P E.w = .ok (if h : vs.toArray.size = 1 then vs.toArray[0] else .tuple vs.toArray) E.w := by
    rw [results_eq, Array.mapM_eq_mapM_toList]
    simp only [Sem.run_bind, Sem.run_map, Sem.run_pure]
    rw [h2]
    rfl
  have hlen := VRl_length h3
  split at e
  · rename_i x
    match vs, hlen, h3, hrun with
    | [v], _, h3, hrun => 
      subst e
      simp only [VRl_cons] at h3
      exact ⟨v, by rw [hrun]; rfl, h3.1⟩
  · rename_i hne
    refine ⟨.tuple vs.toArray, ?_, ?_⟩
    · rw [hrun, dif_neg]
      intro hc
      have hc' : l.length = 1 := by rw [← hlen]; simpa using hc
      match l, hc' with
      | [x], _ => exact hne x rfl
    · subst e
      simp only [VR]
      exact ⟨vs, rfl, h3⟩

theorem initEnv_VR {E : Env} : ∀ (args : List PV) (us : List Value) (i : Nat) (env : Tr) (vals : Nat → Value), VRl E args us → (∀ t, VR E (env.get t) (vals t)) →
    (∀ k v, us[k]? = some v → vals (i + k) = v) → ∀ t, VR E ((initEnv args i env).get t) (vals t)
  | [], _, _, env, vals, _, h, _, t => h t
  | x :: r, us, i, env, vals, hu, h, hv, t => by
    simp only [initEnv, fN_eq, Tr.setR_eq]
    match us, hu with
    | u :: us, hu =>
      refine initEnv_VR r us (i + 1) _ vals (VRl_cons.1 hu).2 (fun t => ?_) (fun k v hk => by rw [show i + 1 + k = i + (k + 1) by omega]; exact hv (k + 1) v (by simpa using hk)) t
      by_cases e : i = t
      · subst e
        rcases Tr.get_set_eq env i x with h' | h' <;> rw [h']
        · have := hv 0 u (by simp)
          rw [Nat.add_zero] at this
          rw [this]; exact (VRl_cons.1 hu).1
        · simp [VR]
      · rw [Tr.get_set_ne _ _ _ _ e]; exact h t

/-- A value without names of the frame's own, where its blocks are forgotten. -/
theorem drop_ok {E : Env} (hR : Rel E) {q : PV} {v : Value} (hv : VR E q v) (hq : noLoc q = true) :
    ∃ E2 : Env, E2.w = E.w ∧ E2.bs = ⟨[], E.bs.glob⟩ ∧ VR E2 q v ∧ Rel E2 ∧ GExt E E2 := by
  have hrb : retBlks E.bs (killAll E.bs []) 6 [] = some [] := rfl
  obtain ⟨EK, k1, hk⟩ := ret_kept hR hrb
  have hrel := ret_rel hR hk
  refine ⟨retEnv E [] [], rfl, rfl, VR_noLoc hk.sees hq (VR_ext hk.ext hv), hrel, ?_⟩
  refine ⟨⟨rfl, rfl, rfl, Nat.le_refl _, fun b _ _ => rfl, fun b _ hw => ?_, fun b => Iff.rfl, fun _ h => ⟨h, rfl⟩⟩, fun x g o hr => ⟨g, o, hr, Nat.le_refl _, fun _ b' hb' => ⟨b', hb', rfl, rfl, rfl, rfl⟩⟩⟩
  rcases hw with h | ⟨i, e, he, _⟩
  · exact (globWr_wr hR h).1
  · simp at he

theorem retm_ok {E : Env} (hR : Rel E) {m : Nat} {p r : PV} {v : Value} {rb : List Blk} {gl' : GL} (hv : VR E p v) (h : retm m E.bs p = some (r, rb, gl')) :
    ∃ E2 : Env, E2.w = E.w ∧ E2.bs = ⟨retLocs 0 rb, gl'⟩ ∧ VR E2 r v ∧ Rel E2 ∧ GExt E E2 ∧ ∀ b ∈ rb, ∀ q ∈ b.elems, frozen q = true ∧ noB q = true := by
  unfold retm at h
  cases hm : Nat.beq m 2 with
  | true =>
    rw [hm] at h
    simp only [cond_true] at h
    split at h
    · cases h
    · rename_i q b1 hq
      cases hno : noLoc q with
      | false => rw [hno] at h; cases h
      | true =>
        rw [hno] at h; cases h
        obtain ⟨E1, e1, g1, k1, _⟩ := glz_ok 8 E p r b1 hR hq
        obtain ⟨E2, d1, d2, d3, d4, d5⟩ := drop_ok g1.rel (k1 v hv) hno
        exact ⟨E2, d1.trans g1.w, by rw [d2, e1]; rfl, d3, d4, g1.ext.toG.trans d5, fun b hb => by cases hb⟩
  | false =>
    rw [hm] at h
    simp only [cond_false] at h
    split at h
    · cases h
    · rename_i q rb0 hq
      cases h
      obtain ⟨E2, k1, k2, k3, k4, k5, k6, k7, k8⟩ := retv_ok hR hv hq
      refine ⟨E2, k1, k2, k3, k4, ?_, k8⟩
      refine ⟨⟨by rw [k1], by rw [k1], by rw [k1], by rw [k1]; exact Nat.le_refl _, fun b _ _ => by rw [k1], fun b hb hw => k6 b hw, fun b => by rw [k7], fun x hx => ⟨by rw [k2]; exact hx, (k5 x).1⟩⟩, fun x g o hr => ⟨g, o, by rw [k2]; exact hr, Nat.le_refl _, fun _ b' hb' => ⟨b', hb', rfl, rfl, (k5 x).1, (k5 x).2⟩⟩⟩

theorem leaves_run {X : XC} (hX : X.Ok) {lo : Nat} {fn : Func} {E0 : Env} {st : St} {tmps : Array Value} {R : Ending → World → Prop} (hlo : E0.w.heap.size ≤ lo) : ∀ (ds : List Deferred) (E : Env), E.bs = st.bs → Rel E →
    (∀ t, VR E (st.env.get t) (tmps.getD t undef)) → DefsOk X lo E ds → Ext E0 E →
    (∀ E', E'.bs = st.bs → Rel E' → (∀ t, VR E' (st.env.get t) (tmps.getD t undef)) → Ext E0 E' → ∃ v, (results fn tmps).run X.P E'.w = .ok v E'.w ∧ R (.returned v) E'.w) →
    LeavesInM Fence.wide 0 X.P fn tmps R ds .returning E.w
  | [], E, hb, hR, hv, _, hx, h => h E hb hR hv hx
  | d :: ds, E, hb, hR, hv, hD, hx, h => by
    refine ⟨by simp, ?_⟩
    have hD2 : DefsOk X lo E ds := ⟨fun x hx => hD.1 x (List.mem_cons_of_mem _ hx), (List.pairwise_cons.1 hD.2).2⟩
    rcases hD.1 d List.mem_cons_self with ⟨g, cap, rfl, hi⟩ | ⟨D, h1, h2, h3, h4⟩
    · refine .inr ⟨fun h => (by cases h), .func g, cap, g, cap, rfl, (hX.idle g hi cap E.w).1, fun _ _ => trivial, ?_⟩
      refine CallsDIn.mono (hX.idle g hi cap E.w).2 ?_
      rintro e u' w' ⟨⟨v, rfl⟩, rfl, hg⟩
      exact leaves_run hX hlo ds (turnEnv E w') hb (Rel_grown hg hR) (fun t => VR_ext (ext_grown hg) (hv t)) (hD2.ext (ext_grown hg)) (hx.trans (ext_grown hg)) h
    · have ht : Turned D E.w (E.w.putObj D (.deferred none)) := .putObj _ h3 rfl
      refine .inl ⟨D, _, h1, run_takeDeferred h3, ?_⟩
      exact leaves_run hX hlo ds (turnEnv E _) hb (Rel_turn ht hR) (fun t => VR_turn ht (hv t)) (hD2.turn ht fun x hx => (List.pairwise_cons.1 hD.2).1 x hx D h1) (ext_turn ht hx (Nat.le_trans hlo h2)) h

theorem Cfg.Ok.loc {K : Cfg} (h : K.Ok) : K.loc.Ok := ⟨h.T, h.names, h.ext, h.orc, h.idle, h.chunk⟩

theorem pcall_ok : ∀ (n : Nat) (top : Bool) {K : Cfg} (_ : K.Ok), CallOk K.P (pcall n K top)
  | 0, top, K, _ => by intro f args gl r rb gl' h; simp [pcall] at h
  | n + 1, top, K, hK => by
    intro f args gl r rb gl' h E us hbs hR hu
    simp only [pcall] at h
    split at h
    · rename_i r' ho
      cases h
      exact hK.orc f args gl r rb gl' ho E us hbs hR hu
    · split at h
      · cases h
      · rename_i fn hfn
        split at h
        · cases h
        · rename_i c hc
          cases hle : Nat.ble args.length fn.ntmps with
          | false => rw [hle] at h; cases h
          | true =>
            rw [hle] at h
            simp only [cond_true] at h
            have hlen : us.length ≤ fn.ntmps := by rw [VRl_length hu]; exact Nat.le_of_ble_eq_true hle
            refine callsIn_wide.1 (callsIn_of_wp_marks (n := 0) (hK.T.func f fn hfn) hc trivial ?_ rfl)
            let X : XC := ⟨⟨K.T, K.P, pcall n K false, pcall n K.loc true, K.ext, fn.ntmps, K.fuel, 0, K.gl f⟩, K.idle, K.chunk⟩
            have hX : X.Ok := ⟨⟨hK.T, hK.names, pcall_ok n false hK, pcall_ok n true hK.loc, hK.ext⟩, hK.idle, hK.chunk⟩
            have hst : ∀ (st : St) (x : PX) (_ : exec X c false ⟨initEnv args 0 (Tr.full (Nat.log2 (fn.ntmps + 1) + 1)), ⟨[], gl⟩⟩ = some (x, st)),
                c.wpIn (Wd none) 0 K.P (After X E.w.heap.size E x st) { tmps := us.toArray ++ Array.replicate (fn.ntmps - us.toArray.size) undef, defers := [] } E.w := by
              intro st x hx
              refine exec_wp hX c false none _ st x E _ [] (fun _ => rfl) hx ⟨hbs, hR, by show (us.toArray ++ Array.replicate (fn.ntmps - us.toArray.size) undef).size = fn.ntmps; simp; omega, rfl, fun t => ?_⟩ ⟨fun d hd => (by cases hd), List.Pairwise.nil⟩ (Nat.le_refl _)
              refine initEnv_VR args us 0 _ (fun t => (us.toArray ++ Array.replicate (fn.ntmps - us.toArray.size) undef).getD t undef) hu (fun t => by rw [Tr.get_full]; simp [VR]) (fun k v hk => ?_) t
              have hkl := lt_len hk
              simp only [Nat.zero_add]
              rw [Array.getD_eq_getD_getElem?, Array.getElem?_append_left (by simpa using hkl)]
              simp [hk]
            have fin : ∀ (st : St) (x : PX), exec X c false ⟨initEnv args 0 (Tr.full (Nat.log2 (fn.ntmps + 1) + 1)), ⟨[], gl⟩⟩ = some (x, st) → (∀ id, x ≠ .exit id) →
                (match presults K.T fn.results.toList st with
                | none => none
                | some pv => retm (bif top then 0 else K.keep f) st.bs pv) = some (r, rb, gl') → c.wpIn Fence.wide 0 K.P (bodyPostM Fence.wide 0 K.P fn fun e w' => ∃ (E' : Env) (v : Value), e = .returned v ∧ E'.w = w' ∧ E'.bs = ⟨retLocs 0 rb, gl'⟩ ∧ VR E' r v ∧ Ext E E' ∧ Rel E' ∧
      ∀ b ∈ rb, ∀ q ∈ b.elems, frozen q = true ∧ noB q = true) { tmps := us.toArray ++ Array.replicate (fn.ntmps - us.toArray.size) undef, defers := [] } E.w := by
              intro st x hx hne hres
              split at hres
              · cases hres
              · rename_i pv hpv
                refine wpIn_mono (F := Wd none) (hst st x hx) ?_
                rintro e a' w' ⟨rfl, E1, ds, rfl, hs1, hD1, hx1⟩
                have hend : LeavesInM Fence.wide 0 K.P fn a'.tmps (fun e w' => ∃ (E' : Env) (v : Value), e = .returned v ∧ E'.w = w' ∧ E'.bs = ⟨retLocs 0 rb, gl'⟩ ∧ VR E' r v ∧ Ext E E' ∧ Rel E' ∧
      ∀ b ∈ rb, ∀ q ∈ b.elems, frozen q = true ∧ noB q = true) a'.defers .returning E1.w := by
                  rw [hs1.defers]
                  refine leaves_run hX (E0 := E) (st := st) (Nat.le_refl _) ds E1 hs1.bs hs1.rel hs1.env hD1 hx1 ?_
                  intro E1 hb1 hR1 hv1' hx1
                  obtain ⟨v, hv1, hv2⟩ := presults_run hK.T hR1 hb1 (fn := fn) (tmps := a'.tmps) hv1' hpv
                  rw [← hb1] at hres
                  obtain ⟨E2, k1, k2, k3, k4, k5, k8⟩ := retm_ok hR1 hv2 hres
                  refine ⟨v, hv1, E2, v, rfl, k1, k2, k3, ?_, k4, k8⟩
                  have hg2 : GExt E E2 := hx1.toG.trans k5
                  refine ⟨hg2.toFr, ?_⟩
                  intro rr g o hr
                  cases rr with
                  | loc t k => rw [hbs] at hr; simp [Bs.ent, locGet] at hr
                  | glob x => exact hg2.ent x g o hr
                cases x with
                | normal => exact hend
                | exit id => exact absurd rfl (hne id)
                | ret => exact hend
            split at h
            · cases h
            · rename_i x st hne hx
              exact fin st x hx (fun id e => hne id e) h
            · cases h

end

end Go.Pm

/- PM: tables of a program. -/

namespace Go.Pm
noncomputable section

inductive Tre (α : Type) where
  | nil
  | nd (v : α) (l r : Tre α)

def Tre.get {α : Type} : Tre α → Nat → Option α
  | .nil, _ => none
  | .nd v _ _, 0 => some v
  | .nd _ l r, n + 1 => bif Nat.beq (n % 2) 0 then l.get (n / 2) else r.get (n / 2)

def evens {α : Type} : List α → List α
  | [] => []
  | [a] => [a]
  | a :: _ :: r => a :: evens r
def odds {α : Type} : List α → List α
  | [] => []
  | [_] => []
  | _ :: b :: r => b :: odds r

theorem evens_get {α : Type} : ∀ (l : List α) (n : Nat), (evens l)[n]? = l[2 * n]?
  | [], n => by simp [evens]
  | [a], n => by cases n <;> simp [evens]
  | a :: b :: r, 0 => by simp [evens]
  | a :: b :: r, n + 1 => by
    rw [show 2 * (n + 1) = 2 * n + 1 + 1 by omega]
    simp [evens, evens_get r n]
theorem odds_get {α : Type} : ∀ (l : List α) (n : Nat), (odds l)[n]? = l[2 * n + 1]?
  | [], n => by simp [odds]
  | [a], n => by simp [odds]
  | a :: b :: r, 0 => by simp [odds]
  | a :: b :: r, n + 1 => by
    rw [show 2 * (n + 1) + 1 = 2 * n + 1 + 1 + 1 by omega]
    simp [odds, odds_get r n]

def Tre.ofList {α : Type} : Nat → List α → Tre α
  | 0, _ => .nil
  | _ + 1, [] => .nil
  | d + 1, a :: r => .nd a (Tre.ofList d (evens r)) (Tre.ofList d (odds r))

theorem Tre.get_ofList {α : Type} : ∀ (d : Nat) (l : List α) (n : Nat) (x : α), (Tre.ofList d l).get n = some x → l[n]? = some x
  | 0, l, n, x, h => by simp [Tre.ofList, Tre.get] at h
  | d + 1, [], n, x, h => by simp [Tre.ofList, Tre.get] at h
  | d + 1, a :: r, 0, x, h => by simpa [Tre.ofList, Tre.get] using h
  | d + 1, a :: r, n + 1, x, h => by
    simp only [Tre.ofList, Tre.get] at h
    cases hb : Nat.beq (n % 2) 0 with
    | true =>
      rw [hb] at h
      have := Tre.get_ofList d _ _ _ h
      have h0 := Nat.eq_of_beq_eq_true hb
      rw [evens_get, show 2 * (n / 2) = n by omega] at this
      simpa using this
    | false =>
      rw [hb] at h
      have := Tre.get_ofList d _ _ _ h
      have h0 : ¬ n % 2 = 0 := fun e => by rw [e] at hb; cases hb
      rw [odds_get, show 2 * (n / 2) + 1 = n by omega] at this
      simpa using this

end

end Go.Pm

/- PM: the table of a program. -/

namespace Go.Pm
noncomputable section

def undOf (g : Nat → Option TypeInfo) (t : Nat) : Option TypeDesc :=
  match g t with
  | none => none
  | some i => match i.desc with
    | .named _ u => (g u).map (·.desc)
    | d => some d

def tblOf (d : Nat) (types : List TypeInfo) (funcs : List Func) : Tbl where
  info := (Tre.ofList d types).get
  und := undOf (Tre.ofList d types).get
  func := (Tre.ofList d funcs).get

theorem info_of {P : Program} {t : Nat} {i : TypeInfo} (h : P.types.toList[t]? = some i) : P.info? t = some i := by
  have hl := (List.getElem?_eq_some_iff.1 h).1
  have hl' : t < P.types.size := by simpa using hl
  simpa [Tables.info?, hl'] using h

theorem tblOf_ok (d : Nat) {P : Program} (hm : P.follows .mixedOrders = true) : (tblOf d P.types.toList P.funcs.toList).Ok P where
  info t i h := by
    exact info_of (Tre.get_ofList d _ _ _ h)
  und t d' h := by
    have key : ∀ t i, (Tre.ofList d P.types.toList).get t = some i → P.info? t = some i := fun t i h => by
      exact info_of (Tre.get_ofList d _ _ _ h)
    simp only [tblOf, undOf] at h
    unfold Program.underlying
    split at h
    · cases h
    · rename_i i hi
      rw [key t i hi]
      split at h
      · rename_i n u hd
        simp only [Option.map_eq_some_iff] at h
        obtain ⟨j, hj, e⟩ := h
        obtain ⟨desc, a1, a2, a3, a4, a5, a6, a7, a8, a9⟩ := i
        simp only at hd
        subst hd
        simp [key u j hj, e]
      · rename_i hne
        obtain ⟨desc, a1, a2, a3, a4, a5, a6, a7, a8, a9⟩ := i
        simp only at h hne
        cases h
        cases d' <;> first | rfl | (exact absurd rfl (hne _ _))
  func f fn h := by
    have := Tre.get_ofList d _ _ _ h
    simpa using this
  mixed := hm

end

end Go.Pm
