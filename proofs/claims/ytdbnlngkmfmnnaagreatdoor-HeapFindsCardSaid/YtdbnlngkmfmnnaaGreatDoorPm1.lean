/- PM, part 1: a machine that evaluates a program's code in the kernel, and why what it answers is so of the model. -/
import Derived.KernelRfl
import Derived.Calls
import Derived.Orders
import Derived.Laws.Sem
import Derived.Laws.Cells
import Derived.Laws.Entries
import Derived.Laws.IdiomCopy
import Derived.MapKept
import Derived.Deep.AppendSrc
import Derived.Deep.Upon
/- PM: trees of eight branches, read by ways that are known beforehand. -/

namespace Go.Pm
noncomputable section

structure N8 (α : Type) where
  c0 : α
  c1 : α
  c2 : α
  c3 : α
  c4 : α
  c5 : α
  c6 : α
  c7 : α

/-- A tree of depth d. -/
@[reducible] def R8 : Nat → Type → Type
  | 0, α => α
  | d + 1, α => N8 (R8 d α)

def N8.sel {α : Type} (x : N8 α) : Nat → α
  | 0 => x.c0
  | 1 => x.c1
  | 2 => x.c2
  | 3 => x.c3
  | 4 => x.c4
  | 5 => x.c5
  | 6 => x.c6
  | _ => x.c7
def N8.upd {α : Type} (x : N8 α) (v : α) : Nat → N8 α
  | 0 => ⟨v, x.c1, x.c2, x.c3, x.c4, x.c5, x.c6, x.c7⟩
  | 1 => ⟨x.c0, v, x.c2, x.c3, x.c4, x.c5, x.c6, x.c7⟩
  | 2 => ⟨x.c0, x.c1, v, x.c3, x.c4, x.c5, x.c6, x.c7⟩
  | 3 => ⟨x.c0, x.c1, x.c2, v, x.c4, x.c5, x.c6, x.c7⟩
  | 4 => ⟨x.c0, x.c1, x.c2, x.c3, v, x.c5, x.c6, x.c7⟩
  | 5 => ⟨x.c0, x.c1, x.c2, x.c3, x.c4, v, x.c6, x.c7⟩
  | 6 => ⟨x.c0, x.c1, x.c2, x.c3, x.c4, x.c5, v, x.c7⟩
  | _ => ⟨x.c0, x.c1, x.c2, x.c3, x.c4, x.c5, x.c6, v⟩

theorem N8.sel_upd_eq {α : Type} (x : N8 α) (v : α) (i : Nat) : (x.upd v i).sel i = v := by
  match i with
  | 0 | 1 | 2 | 3 | 4 | 5 | 6 => rfl
  | n + 7 => rfl
theorem N8.sel_upd_ne {α : Type} (x : N8 α) (v : α) (i j : Nat) (hi : i < 8) (hj : j < 8) (h : i ≠ j) : (x.upd v i).sel j = x.sel j := by
  have hi' : i = 0 ∨ i = 1 ∨ i = 2 ∨ i = 3 ∨ i = 4 ∨ i = 5 ∨ i = 6 ∨ i = 7 := by omega
  have hj' : j = 0 ∨ j = 1 ∨ j = 2 ∨ j = 3 ∨ j = 4 ∨ j = 5 ∨ j = 6 ∨ j = 7 := by omega
  rcases hi' with rfl | rfl | rfl | rfl | rfl | rfl | rfl | rfl <;> rcases hj' with rfl | rfl | rfl | rfl | rfl | rfl | rfl | rfl <;> first | rfl | exact absurd rfl h

def R8.get {α : Type} : (d : Nat) → R8 d α → Nat → α
  | 0, x, _ => x
  | d + 1, x, n => R8.get d (N8.sel x (n % 8)) (n / 8)
def R8.upd {α : Type} : (d : Nat) → R8 d α → α → Nat → R8 d α
  | 0, _, v, _ => v
  | d + 1, x, v, n => N8.upd x (R8.upd d (N8.sel x (n % 8)) v (n / 8)) (n % 8)
def R8.all {α : Type} (v : α) : (d : Nat) → R8 d α
  | 0 => v
  | d + 1 => let x := R8.all v d; (⟨x, x, x, x, x, x, x, x⟩ : N8 (R8 d α))

theorem R8.get_upd_eq {α : Type} : ∀ (d : Nat) (x : R8 d α) (v : α) (n : Nat), R8.get d (R8.upd d x v n) n = v
  | 0, _, _, _ => rfl
  | d + 1, x, v, n => by
    simp only [R8.get, R8.upd, N8.sel_upd_eq]
    exact R8.get_upd_eq d _ v _
theorem R8.get_upd_ne {α : Type} : ∀ (d : Nat) (x : R8 d α) (v : α) (n m : Nat), n < 8 ^ d → m < 8 ^ d → n ≠ m → R8.get d (R8.upd d x v n) m = R8.get d x m
  | 0, _, _, n, m, hn, hm, h => by simp at hn hm; omega
  | d + 1, x, v, n, m, hn, hm, h => by
    simp only [R8.get, R8.upd]
    have hn' : n / 8 < 8 ^ d := by rw [Nat.pow_succ] at hn; omega
    have hm' : m / 8 < 8 ^ d := by rw [Nat.pow_succ] at hm; omega
    by_cases e : n % 8 = m % 8
    · rw [e, N8.sel_upd_eq]
      exact R8.get_upd_ne d _ v _ _ hn' hm' (by omega)
    · rw [N8.sel_upd_ne _ _ _ _ (Nat.mod_lt _ (by omega)) (Nat.mod_lt _ (by omega)) e]
theorem R8.get_all {α : Type} (v : α) : ∀ (d n : Nat), R8.get d (R8.all v d) n = v
  | 0, _ => rfl
  | d + 1, n => by
    simp only [R8.get, R8.all]
    have : N8.sel (⟨R8.all v d, R8.all v d, R8.all v d, R8.all v d, R8.all v d, R8.all v d, R8.all v d, R8.all v d⟩ : N8 (R8 d α)) (n % 8) = R8.all v d := by
      unfold N8.sel; split <;> rfl
    rw [this]
    exact R8.get_all v d _

def N8.map {α β : Type} (f : α → β) (x : N8 α) : N8 β := ⟨f x.c0, f x.c1, f x.c2, f x.c3, f x.c4, f x.c5, f x.c6, f x.c7⟩
def R8.map {α β : Type} (f : α → β) : (d : Nat) → R8 d α → R8 d β
  | 0, x => f x
  | d + 1, x => N8.map (R8.map f d) x
theorem R8.get_map {α β : Type} (f : α → β) : ∀ (d : Nat) (x : R8 d α) (n : Nat), R8.get d (R8.map f d x) n = f (R8.get d x n)
  | 0, _, _ => rfl
  | d + 1, x, n => by
    simp only [R8.get, R8.map]
    have : N8.sel (N8.map (R8.map f d) x) (n % 8) = R8.map f d (N8.sel x (n % 8)) := by
      unfold N8.sel; split <;> rfl
    rw [this]
    exact R8.get_map f d _ _
def R8.toList {α : Type} : (d : Nat) → R8 d α → List α
  | 0, x => [x]
  | d + 1, x => R8.toList d x.c0 ++ R8.toList d x.c1 ++ R8.toList d x.c2 ++ R8.toList d x.c3 ++ R8.toList d x.c4 ++ R8.toList d x.c5 ++ R8.toList d x.c6 ++ R8.toList d x.c7
theorem R8.get_mem {α : Type} : ∀ (d : Nat) (x : R8 d α) (n : Nat), R8.get d x n ∈ R8.toList d x
  | 0, x, _ => by simp [R8.get, R8.toList]
  | d + 1, x, n => by
    simp only [R8.get, R8.toList]
    have := R8.get_mem d (N8.sel x (n % 8)) (n / 8)
    simp only [List.mem_append]
    unfold N8.sel at *
    split at this <;> simp_all

/- Ways, known beforehand. -/
structure GW (d : Nat) (α : Type) where
  g : R8 d α → α
structure UW (d : Nat) (α : Type) where
  u : α → R8 d α → R8 d α

def Gk0 (α : Type) (d : Nat) (r : GW d α) : GW (d + 1) α := ⟨fun x => r.g (N8.c0 x)⟩
def Gk1 (α : Type) (d : Nat) (r : GW d α) : GW (d + 1) α := ⟨fun x => r.g (N8.c1 x)⟩
def Gk2 (α : Type) (d : Nat) (r : GW d α) : GW (d + 1) α := ⟨fun x => r.g (N8.c2 x)⟩
def Gk3 (α : Type) (d : Nat) (r : GW d α) : GW (d + 1) α := ⟨fun x => r.g (N8.c3 x)⟩
def Gk4 (α : Type) (d : Nat) (r : GW d α) : GW (d + 1) α := ⟨fun x => r.g (N8.c4 x)⟩
def Gk5 (α : Type) (d : Nat) (r : GW d α) : GW (d + 1) α := ⟨fun x => r.g (N8.c5 x)⟩
def Gk6 (α : Type) (d : Nat) (r : GW d α) : GW (d + 1) α := ⟨fun x => r.g (N8.c6 x)⟩
def Gk7 (α : Type) (d : Nat) (r : GW d α) : GW (d + 1) α := ⟨fun x => r.g (N8.c7 x)⟩
def Uk0 (α : Type) (d : Nat) (r : UW d α) : UW (d + 1) α := ⟨fun v x => N8.rec (motive := fun _ => N8 (R8 d α)) (fun a b c e f g h i => ⟨r.u v a, b, c, e, f, g, h, i⟩) x⟩
def Uk1 (α : Type) (d : Nat) (r : UW d α) : UW (d + 1) α := ⟨fun v x => N8.rec (motive := fun _ => N8 (R8 d α)) (fun a b c e f g h i => ⟨a, r.u v b, c, e, f, g, h, i⟩) x⟩
def Uk2 (α : Type) (d : Nat) (r : UW d α) : UW (d + 1) α := ⟨fun v x => N8.rec (motive := fun _ => N8 (R8 d α)) (fun a b c e f g h i => ⟨a, b, r.u v c, e, f, g, h, i⟩) x⟩
def Uk3 (α : Type) (d : Nat) (r : UW d α) : UW (d + 1) α := ⟨fun v x => N8.rec (motive := fun _ => N8 (R8 d α)) (fun a b c e f g h i => ⟨a, b, c, r.u v e, f, g, h, i⟩) x⟩
def Uk4 (α : Type) (d : Nat) (r : UW d α) : UW (d + 1) α := ⟨fun v x => N8.rec (motive := fun _ => N8 (R8 d α)) (fun a b c e f g h i => ⟨a, b, c, e, r.u v f, g, h, i⟩) x⟩
def Uk5 (α : Type) (d : Nat) (r : UW d α) : UW (d + 1) α := ⟨fun v x => N8.rec (motive := fun _ => N8 (R8 d α)) (fun a b c e f g h i => ⟨a, b, c, e, f, r.u v g, h, i⟩) x⟩
def Uk6 (α : Type) (d : Nat) (r : UW d α) : UW (d + 1) α := ⟨fun v x => N8.rec (motive := fun _ => N8 (R8 d α)) (fun a b c e f g h i => ⟨a, b, c, e, f, g, r.u v h, i⟩) x⟩
def Uk7 (α : Type) (d : Nat) (r : UW d α) : UW (d + 1) α := ⟨fun v x => N8.rec (motive := fun _ => N8 (R8 d α)) (fun a b c e f g h i => ⟨a, b, c, e, f, g, h, r.u v i⟩) x⟩
def Ga0 (α : Type) : GW 1 α := ⟨fun x => N8.c0 x⟩
def Ga1 (α : Type) : GW 1 α := ⟨fun x => N8.c1 x⟩
def Ga2 (α : Type) : GW 1 α := ⟨fun x => N8.c2 x⟩
def Ga3 (α : Type) : GW 1 α := ⟨fun x => N8.c3 x⟩
def Ga4 (α : Type) : GW 1 α := ⟨fun x => N8.c4 x⟩
def Ga5 (α : Type) : GW 1 α := ⟨fun x => N8.c5 x⟩
def Ga6 (α : Type) : GW 1 α := ⟨fun x => N8.c6 x⟩
def Ga7 (α : Type) : GW 1 α := ⟨fun x => N8.c7 x⟩
def Ua0 (α : Type) : UW 1 α := ⟨fun v x => N8.rec (motive := fun _ => N8 α) (fun _ b c e f g h i => ⟨v, b, c, e, f, g, h, i⟩) x⟩
def Ua1 (α : Type) : UW 1 α := ⟨fun v x => N8.rec (motive := fun _ => N8 α) (fun a _ c e f g h i => ⟨a, v, c, e, f, g, h, i⟩) x⟩
def Ua2 (α : Type) : UW 1 α := ⟨fun v x => N8.rec (motive := fun _ => N8 α) (fun a b _ e f g h i => ⟨a, b, v, e, f, g, h, i⟩) x⟩
def Ua3 (α : Type) : UW 1 α := ⟨fun v x => N8.rec (motive := fun _ => N8 α) (fun a b c _ f g h i => ⟨a, b, c, v, f, g, h, i⟩) x⟩
def Ua4 (α : Type) : UW 1 α := ⟨fun v x => N8.rec (motive := fun _ => N8 α) (fun a b c e _ g h i => ⟨a, b, c, e, v, g, h, i⟩) x⟩
def Ua5 (α : Type) : UW 1 α := ⟨fun v x => N8.rec (motive := fun _ => N8 α) (fun a b c e f _ h i => ⟨a, b, c, e, f, v, h, i⟩) x⟩
def Ua6 (α : Type) : UW 1 α := ⟨fun v x => N8.rec (motive := fun _ => N8 α) (fun a b c e f g _ i => ⟨a, b, c, e, f, g, v, i⟩) x⟩
def Ua7 (α : Type) : UW 1 α := ⟨fun v x => N8.rec (motive := fun _ => N8 α) (fun a b c e f g h _ => ⟨a, b, c, e, f, g, h, v⟩) x⟩
inductive D8 where
  | d0 | d1 | d2 | d3 | d4 | d5 | d6 | d7
def d8 (i : Nat) : D8 := Nat.rec (motive := fun _ => D8) D8.d0 (fun i _ => Nat.rec (motive := fun _ => D8) D8.d1 (fun i _ => Nat.rec (motive := fun _ => D8) D8.d2 (fun i _ => Nat.rec (motive := fun _ => D8) D8.d3 (fun i _ => Nat.rec (motive := fun _ => D8) D8.d4 (fun i _ => Nat.rec (motive := fun _ => D8) D8.d5 (fun i _ => Nat.rec (motive := fun _ => D8) D8.d6 (fun _ _ => D8.d7) i) i) i) i) i) i) i
def digG (α : Type) (d : Nat) (r : GW d α) (i : Nat) : GW (d + 1) α := D8.rec (motive := fun _ => GW (d + 1) α) (Gk0 α d r) (Gk1 α d r) (Gk2 α d r) (Gk3 α d r) (Gk4 α d r) (Gk5 α d r) (Gk6 α d r) (Gk7 α d r) (d8 i)
def digU (α : Type) (d : Nat) (r : UW d α) (i : Nat) : UW (d + 1) α := D8.rec (motive := fun _ => UW (d + 1) α) (Uk0 α d r) (Uk1 α d r) (Uk2 α d r) (Uk3 α d r) (Uk4 α d r) (Uk5 α d r) (Uk6 α d r) (Uk7 α d r) (d8 i)
def digA (α : Type) (i : Nat) : GW 1 α := D8.rec (motive := fun _ => GW 1 α) (Ga0 α) (Ga1 α) (Ga2 α) (Ga3 α) (Ga4 α) (Ga5 α) (Ga6 α) (Ga7 α) (d8 i)
def digB (α : Type) (i : Nat) : UW 1 α := D8.rec (motive := fun _ => UW 1 α) (Ua0 α) (Ua1 α) (Ua2 α) (Ua3 α) (Ua4 α) (Ua5 α) (Ua6 α) (Ua7 α) (d8 i)
theorem digG_g (α : Type) (d : Nat) (r : GW d α) (i : Nat) (x : N8 (R8 d α)) : (digG α d r i).g x = r.g (x.sel i) := by
  match i with
  | 0 | 1 | 2 | 3 | 4 | 5 | 6 => rfl
  | n + 7 => rfl
theorem digU_u (α : Type) (d : Nat) (r : UW d α) (i : Nat) (v : α) (x : N8 (R8 d α)) : (digU α d r i).u v x = x.upd (r.u v (x.sel i)) i := by
  cases x
  match i with
  | 0 | 1 | 2 | 3 | 4 | 5 | 6 => rfl
  | n + 7 => rfl
theorem digA_g (α : Type) (i : Nat) (x : N8 α) : (digA α i).g x = x.sel i := by
  match i with
  | 0 | 1 | 2 | 3 | 4 | 5 | 6 => rfl
  | n + 7 => rfl
theorem digB_u (α : Type) (i : Nat) (v : α) (x : N8 α) : (digB α i).u v x = x.upd v i := by
  cases x
  match i with
  | 0 | 1 | 2 | 3 | 4 | 5 | 6 => rfl
  | n + 7 => rfl
def gw1 (α : Type) (n : Nat) : GW 1 α := digA α (Nat.mod n 8)
def gw2 (α : Type) (n : Nat) : GW 2 α := digG α 1 (gw1 α (Nat.div n 8)) (Nat.mod n 8)
def gw3 (α : Type) (n : Nat) : GW 3 α := digG α 2 (gw2 α (Nat.div n 8)) (Nat.mod n 8)
def gw4 (α : Type) (n : Nat) : GW 4 α := digG α 3 (gw3 α (Nat.div n 8)) (Nat.mod n 8)
def gw5 (α : Type) (n : Nat) : GW 5 α := digG α 4 (gw4 α (Nat.div n 8)) (Nat.mod n 8)
def uw1 (α : Type) (n : Nat) : UW 1 α := digB α (Nat.mod n 8)
def uw2 (α : Type) (n : Nat) : UW 2 α := digU α 1 (uw1 α (Nat.div n 8)) (Nat.mod n 8)
def uw3 (α : Type) (n : Nat) : UW 3 α := digU α 2 (uw2 α (Nat.div n 8)) (Nat.mod n 8)
def uw4 (α : Type) (n : Nat) : UW 4 α := digU α 3 (uw3 α (Nat.div n 8)) (Nat.mod n 8)
def uw5 (α : Type) (n : Nat) : UW 5 α := digU α 4 (uw4 α (Nat.div n 8)) (Nat.mod n 8)
theorem gw1_eq (α : Type) (n : Nat) (x : R8 1 α) : (gw1 α n).g x = R8.get 1 x n := by
  show (digA α (n % 8)).g x = _
  rw [digA_g]
  rfl
theorem uw1_eq (α : Type) (n : Nat) (v : α) (x : R8 1 α) : (uw1 α n).u v x = R8.upd 1 x v n := by
  show (digB α (n % 8)).u v x = _
  rw [digB_u]
  rfl
theorem gw2_eq (α : Type) (n : Nat) (x : R8 2 α) : (gw2 α n).g x = R8.get 2 x n := by
  show (digG α 1 (gw1 α (n / 8)) (n % 8)).g x = _
  rw [digG_g, gw1_eq]
  rfl
theorem uw2_eq (α : Type) (n : Nat) (v : α) (x : R8 2 α) : (uw2 α n).u v x = R8.upd 2 x v n := by
  show (digU α 1 (uw1 α (n / 8)) (n % 8)).u v x = _
  rw [digU_u, uw1_eq]
  rfl
theorem gw3_eq (α : Type) (n : Nat) (x : R8 3 α) : (gw3 α n).g x = R8.get 3 x n := by
  show (digG α 2 (gw2 α (n / 8)) (n % 8)).g x = _
  rw [digG_g, gw2_eq]
  rfl
theorem uw3_eq (α : Type) (n : Nat) (v : α) (x : R8 3 α) : (uw3 α n).u v x = R8.upd 3 x v n := by
  show (digU α 2 (uw2 α (n / 8)) (n % 8)).u v x = _
  rw [digU_u, uw2_eq]
  rfl
theorem gw4_eq (α : Type) (n : Nat) (x : R8 4 α) : (gw4 α n).g x = R8.get 4 x n := by
  show (digG α 3 (gw3 α (n / 8)) (n % 8)).g x = _
  rw [digG_g, gw3_eq]
  rfl
theorem uw4_eq (α : Type) (n : Nat) (v : α) (x : R8 4 α) : (uw4 α n).u v x = R8.upd 4 x v n := by
  show (digU α 3 (uw3 α (n / 8)) (n % 8)).u v x = _
  rw [digU_u, uw3_eq]
  rfl
theorem gw5_eq (α : Type) (n : Nat) (x : R8 5 α) : (gw5 α n).g x = R8.get 5 x n := by
  show (digG α 4 (gw4 α (n / 8)) (n % 8)).g x = _
  rw [digG_g, gw4_eq]
  rfl
theorem uw5_eq (α : Type) (n : Nat) (v : α) (x : R8 5 α) : (uw5 α n).u v x = R8.upd 5 x v n := by
  show (digU α 4 (uw4 α (n / 8)) (n % 8)).u v x = _
  rw [digU_u, uw4_eq]
  rfl

end

end Go.Pm

/- PM, a machine of my own over the model's code: its values, what they say of memory, and that what is frozen stays. -/

namespace Go.Pm
noncomputable section

/-- The name of a block that the running function may write: made at temporary t (its k-th part), or one that outlives frames. -/
inductive BRef where
  | loc (t k : Nat)
  | glob (g : Nat)
  deriving DecidableEq

/-- Values: s: exactly this cell's value; undef: unknown; vs: a slice that nobody writes (b: lent by a caller; full: its capacity is its length); fp: a pointer to cells that nobody writes; lp, sl: into a block of one's own, of its g-th make. -/
inductive PV where
  | s (v : Value)
  | undef
  | agg (cs : List PV)
  | tup (cs : List PV)
  | vs (b full : Bool) (xs : List PV)
  | fp (b : Bool) (cs : List PV)
  | lp (r : BRef) (g i j : Nat)
  | sl (r : BRef) (g off len : Nat)
  | fn (f : FuncId) (caps : List PV)
  | ifc (t : TypeId) (v : PV)
  | mp (x : Nat)
  | ts (x g off len cp : Nat)

/-- A number, reckoned out before it is used. -/
def fN {α : Type} (k : Nat → α) (n : Nat) : α := Nat.rec (motive := fun _ => α) (k 0) (fun m _ => k (Nat.succ m)) n
theorem fN_eq {α : Type} (k : Nat → α) (n : Nat) : fN k n = k n := by cases n <;> rfl

/-- The elements of a block: a list, or (up to 4096) a tree. -/
inductive Els where
  | lst (l : List PV)
  | arr (n : Nat) (t : R8 4 PV)

def Els.toList : Els → List PV
  | .lst l => l
  | .arr n t => (List.range n).map fun i => R8.get 4 t i
def Els.len : Els → Nat
  | .lst l => l.length
  | .arr n _ => n
theorem Els.len_eq (e : Els) : e.len = e.toList.length := by cases e <;> simp [Els.len, Els.toList]
def arrGet (n : Nat) (t : R8 4 PV) (i : Nat) : Option PV := bif Nat.blt i n then some ((gw4 PV i).g t) else none
def Els.get (e : Els) (i : Nat) : Option PV :=
  match e with
  | .lst l => l[i]?
  | .arr n t => fN (arrGet n t) i
theorem Els.get_eq (e : Els) (i : Nat) : e.get i = e.toList[i]? := by
  cases e with
  | lst l => rfl
  | arr n t =>
    simp only [Els.get, Els.toList, fN_eq, arrGet, gw4_eq]
    cases h : Nat.blt i n with
    | true =>
      have h' : i < n := Eq.mp Nat.blt_eq h
      simp [h']
    | false =>
      have h' : ¬ i < n := fun hc => by have := Eq.mpr Nat.blt_eq hc; rw [h] at this; cases this
      simp [List.getElem?_eq_none (show ((List.range n).map fun i => R8.get 4 t i).length ≤ i by simp; omega)]

/-- Written one behind the other, from the n-th on. -/
def n8F {α β : Type} (k : N8 α → β) (x : N8 α) : β := N8.rec (motive := fun _ => β) (fun a b c d e f g h => k ⟨a, b, c, d, e, f, g, h⟩) x
theorem n8F_eq {α β : Type} (k : N8 α → β) (x : N8 α) : n8F k x = k x := by cases x; rfl
def puts : R8 4 PV → Nat → List PV → R8 4 PV
  | t, _, [] => t
  | t, n, y :: r => fN (fun n => n8F (fun t => puts t (Nat.succ n) r) ((uw4 PV n).u y t)) n
theorem puts_get : ∀ (ys : List PV) (t : R8 4 PV) (n : Nat), n + ys.length ≤ 4096 → ∀ i, i < 4096 →
    R8.get 4 (puts t n ys) i = if n ≤ i ∧ i < n + ys.length then ys.getD (i - n) .undef else R8.get 4 t i
  | [], t, n, _, i, hi => by
    have : ¬ (n ≤ i ∧ i < n + ([] : List PV).length) := by simp only [List.length_nil]; omega
    rw [if_neg this]; rfl
  | y :: r, t, n, h, i, hi => by
    simp only [List.length_cons] at h
    simp only [puts, fN_eq, n8F_eq, uw4_eq]
    rw [puts_get r _ (Nat.succ n) (by omega) i hi]
    by_cases e : i = n
    · subst e
      rw [if_neg (by omega), R8.get_upd_eq, if_pos (by simp)]
      simp
    · rw [R8.get_upd_ne 4 t y n i (by omega) (by omega) (fun x => e x.symm)]
      by_cases c : Nat.succ n ≤ i ∧ i < Nat.succ n + r.length
      · rw [if_pos c, if_pos (by simp only [List.length_cons]; omega)]
        rw [show i - n = (i - Nat.succ n) + 1 by omega]
        simp
      · rw [if_neg c, if_neg (by simp only [List.length_cons]; omega)]

/-- With these in place of what stands from the n-th on. -/
def overL (l : List PV) (off : Nat) (ys : List PV) : List PV := l.take off ++ ys ++ l.drop (off + ys.length)
theorem puts_list {n off : Nat} {t : R8 4 PV} {ys : List PV} (h1 : off ≤ n) (h2 : off + ys.length ≤ 4096) (hn : n ≤ 4096) :
    (Els.arr (max n (off + ys.length)) (puts t off ys)).toList = overL (Els.arr n t).toList off ys := by
  apply List.ext_getElem?
  intro i
  simp only [Els.toList, overL]
  rw [List.getElem?_map]
  by_cases hi : i < max n (off + ys.length)
  · rw [List.getElem?_range hi]
    simp only [Option.map_some]
    rw [puts_get ys t off h2 i (by omega)]
    by_cases c1 : i < off
    · rw [if_neg (by omega), List.append_assoc, List.getElem?_append_left (by simp; omega), List.getElem?_take, if_pos c1, List.getElem?_map, List.getElem?_range (by omega)]
      rfl
    · by_cases c2 : i < off + ys.length
      · rw [if_pos (by omega), List.getElem?_append_left (by simp; omega), List.getElem?_append_right (by simp; omega)]
        simp only [List.length_take, List.length_map, List.length_range]
        rw [show i - min off n = i - off by omega, List.getD_eq_getElem?_getD, List.getElem?_eq_getElem (show i - off < ys.length by omega)]
        rfl
      · rw [if_neg (by omega), List.getElem?_append_right (by simp; omega), List.getElem?_drop, List.getElem?_map]
        simp only [List.length_append, List.length_take, List.length_map, List.length_range]
        rw [show off + ys.length + (i - (min off n + ys.length)) = i by omega, List.getElem?_range (by omega)]
        rfl
  · rw [List.getElem?_eq_none (by simp; omega), List.getElem?_eq_none (by simp only [List.length_append, List.length_take, List.length_drop, List.length_map, List.length_range]; omega)]
    rfl

/-- A long list becomes a tree. -/
def Els.ofL (l : List PV) : Els := fN (fun n => bif Nat.blt 8 n && Nat.ble n 4096 then .arr n (puts (R8.all .undef 4) 0 l) else .lst l) l.length
theorem Els.ofL_eq (l : List PV) : (Els.ofL l).toList = l := by
  simp only [Els.ofL, fN_eq]
  cases h : (Nat.blt 8 l.length && Nat.ble l.length 4096) with
  | false => rfl
  | true =>
    simp only [Bool.and_eq_true] at h
    have h2 := Nat.le_of_ble_eq_true h.2
    have := puts_list (n := 0) (off := 0) (t := R8.all .undef 4) (ys := l) (Nat.le_refl _) (by omega) (by omega)
    simp only [Nat.zero_add, Nat.max_def, Nat.zero_le, if_true] at this
    show (Els.arr l.length _).toList = l
    rw [this]
    simp [overL, Els.toList]

def arrOver (n : Nat) (t : R8 4 PV) (off : Nat) (ys : List PV) (k : Nat) : Els := bif Nat.ble off n && Nat.ble k 4096 && Nat.ble n 4096 then fN (fun m => .arr m (puts t off ys)) (bif Nat.ble k n then n else k) else .ofL (overL (Els.arr n t).toList off ys)
/-- The same of such elements. -/
def Els.over (e : Els) (off : Nat) (ys : List PV) : Els :=
  match e with
  | .lst l => .ofL (overL l off ys)
  | .arr n t => arrOver n t off ys (off + ys.length)
theorem Els.over_eq (e : Els) (off : Nat) (ys : List PV) : (e.over off ys).toList = overL e.toList off ys := by
  cases e with
  | lst l => exact Els.ofL_eq _
  | arr n t =>
    simp only [Els.over, arrOver, fN_eq]
    cases h : (Nat.ble off n && Nat.ble (off + ys.length) 4096 && Nat.ble n 4096) with
    | false => exact Els.ofL_eq _
    | true =>
      simp only [Bool.and_eq_true] at h
      rw [← puts_list (Nat.le_of_ble_eq_true h.1.1) (Nat.le_of_ble_eq_true h.1.2) (Nat.le_of_ble_eq_true h.2)]
      show (Els.arr (bif Nat.ble (off + ys.length) n then n else off + ys.length) _).toList = _
      have : (bif Nat.ble (off + ys.length) n then n else off + ys.length) = max n (off + ys.length) := by
        cases hb : Nat.ble (off + ys.length) n with
        | true => have := Nat.le_of_ble_eq_true hb; simp only [cond_true]; omega
        | false =>
          have : ¬ off + ys.length ≤ n := fun hc => by rw [Nat.ble_eq_true_of_le hc] at hb; cases hb
          simp only [cond_false]; omega
      rw [this]
theorem set_overL (l : List PV) (i : Nat) (v : PV) (h : i < l.length) : l.set i v = overL l i [v] := by
  unfold overL
  rw [List.set_eq_take_append_cons_drop, if_pos h]
  simp
/-- What lies between. -/
def arrSub (t : R8 4 PV) : Nat → Nat → List PV
  | _, 0 => []
  | off, m + 1 => fN (fun off => (gw4 PV off).g t :: arrSub t (Nat.succ off) m) off
theorem arrSub_eq (t : R8 4 PV) : ∀ (m off : Nat), arrSub t off m = (List.range' off m).map fun i => R8.get 4 t i
  | 0, _ => rfl
  | m + 1, off => by
    simp only [arrSub, fN_eq, gw4_eq, List.range'_succ, List.map_cons]
    rw [arrSub_eq t m]
def Els.sub (e : Els) (off len : Nat) : List PV :=
  match e with
  | .lst l => (l.drop off).take len
  | .arr n t => bif Nat.ble (off + len) n then arrSub t off len else ((Els.arr n t).toList.drop off).take len
theorem Els.sub_eq (e : Els) (off len : Nat) : e.sub off len = (e.toList.drop off).take len := by
  cases e with
  | lst l => rfl
  | arr n t =>
    simp only [Els.sub]
    cases h : Nat.ble (off + len) n with
    | false => rfl
    | true =>
      have h' := Nat.le_of_ble_eq_true h
      simp only [cond_true, Els.toList, arrSub_eq]
      apply List.ext_getElem?
      intro i
      rw [List.getElem?_map, List.getElem?_take, List.getElem?_drop]
      by_cases c : i < len
      · rw [if_pos c, List.getElem?_map, List.getElem?_range (by omega), List.getElem?_eq_getElem (by simpa using c)]
        simp
      · rw [if_neg c, List.getElem?_eq_none (by simp; omega)]
        rfl

structure Blk where
  esz : Nat
  els : Els

def Blk.elems (b : Blk) : List PV := b.els.toList
def Blk.of (esz : Nat) (l : List PV) : Blk := ⟨esz, .lst l⟩
def Blk.ofL (esz : Nat) (l : List PV) : Blk := ⟨esz, .ofL l⟩
def Blk.get (b : Blk) (i : Nat) : Option PV := b.els.get i
def Blk.len (b : Blk) : Nat := b.els.len
def Blk.sub (b : Blk) (off len : Nat) : List PV := b.els.sub off len
def Blk.over (b : Blk) (off : Nat) (ys : List PV) : Blk := ⟨b.esz, b.els.over off ys⟩
theorem Blk.get_eq (b : Blk) (i : Nat) : b.get i = b.elems[i]? := Els.get_eq _ _
theorem Blk.len_eq (b : Blk) : b.len = b.elems.length := Els.len_eq _
theorem Blk.sub_eq (b : Blk) (off len : Nat) : b.sub off len = (b.elems.drop off).take len := Els.sub_eq _ _ _
theorem Blk.over_elems (b : Blk) (off : Nat) (ys : List PV) : (b.over off ys).elems = b.elems.take off ++ ys ++ b.elems.drop (off + ys.length) := Els.over_eq _ _ _
theorem Blk.over_esz (b : Blk) (off : Nat) (ys : List PV) : (b.over off ys).esz = b.esz := rfl
@[simp] theorem Blk.ofL_elems (n : Nat) (l : List PV) : (Blk.ofL n l).elems = l := Els.ofL_eq l
/-- So many of one. -/
def Blk.rep (esz c : Nat) (z : PV) : Blk := fN (fun c => ⟨esz, bif Nat.blt 8 c && Nat.ble c 4096 then .arr c (R8.all z 4) else .lst (List.replicate c z)⟩) c
theorem Blk.rep_esz (esz c : Nat) (z : PV) : (Blk.rep esz c z).esz = esz := by unfold Blk.rep; rw [fN_eq]
theorem Blk.rep_elems (esz c : Nat) (z : PV) : (Blk.rep esz c z).elems = List.replicate c z := by
  unfold Blk.rep
  rw [fN_eq]
  show (bif Nat.blt 8 c && Nat.ble c 4096 then Els.arr c (R8.all z 4) else .lst (List.replicate c z)).toList = _
  cases Nat.blt 8 c && Nat.ble c 4096 with
  | false => rfl
  | true =>
    show (List.range c).map _ = _
    apply List.ext_getElem?
    intro i
    rw [List.getElem?_map, List.getElem?_replicate]
    by_cases h : i < c
    · rw [List.getElem?_range h, if_pos h]
      simp [R8.get_all]
    · rw [if_neg h, List.getElem?_eq_none (by simp; omega)]
      rfl
theorem Blk.over1 (b : Blk) (i : Nat) (v : PV) (h : i < b.elems.length) : (b.over i [v]).elems = b.elems.set i v := by
  rw [set_overL _ _ _ h]; exact Els.over_eq _ _ _
@[simp] theorem Blk.of_elems (n : Nat) (l : List PV) : (Blk.of n l).elems = l := rfl
@[simp] theorem Blk.of_esz (n : Nat) (l : List PV) : (Blk.of n l).esz = n := rfl
@[simp] theorem Blk.ofL_esz (n : Nat) (l : List PV) : (Blk.ofL n l).esz = n := rfl

def PV.cells : PV → List PV
  | .agg cs => cs
  | v => [v]

theorem one_cells {v : Value} (h : v.oneCell' = true) : v.cells = #[v] := by
  cases v <;> simp_all [Value.oneCell', Value.cells]

/-- What lies under a name that outlives frames: nothing any more, a block, a map. -/
inductive GE where
  | dead
  | blk (b : Blk)
  | map (l : List (Value × PV))

def GE.of : Option Blk → GE
  | none => .dead
  | some b => .blk b
def GE.blk? : GE → Option Blk
  | .blk b => some b
  | _ => none
def GE.map? : GE → Option (List (Value × PV))
  | .map l => some l
  | _ => none
theorem GE.blk_of (o : Option Blk) : (GE.of o).blk? = o := by cases o <;> rfl
theorem GE.map_of (o : Option Blk) : (GE.of o).map? = none := by cases o <;> rfl

/-- What outlives frames, by number: a tree. -/
inductive GTr where
  | nil
  | nd (v : GE) (l r : GTr)

def GTr.get : GTr → Nat → GE
  | .nil, _ => .dead
  | .nd v _ _, 0 => v
  | .nd _ l r, n + 1 => bif Nat.beq (n % 2) 0 then l.get (n / 2) else r.get (n / 2)
def GTr.v : GTr → GE
  | .nil => .dead
  | .nd v _ _ => v
def GTr.l : GTr → GTr
  | .nil => .nil
  | .nd _ l _ => l
def GTr.r : GTr → GTr
  | .nil => .nil
  | .nd _ _ r => r
/-- (the first number: more than the place) -/
def GTr.put : Nat → GTr → Nat → GE → GTr
  | 0, t, _, _ => t
  | _ + 1, t, 0, e => .nd e t.l t.r
  | k + 1, t, n + 1, e => bif Nat.beq (n % 2) 0 then .nd t.v (GTr.put k t.l (n / 2) e) t.r else .nd t.v t.l (GTr.put k t.r (n / 2) e)

theorem GTr.get_zero (t : GTr) : t.get 0 = t.v := by cases t <;> rfl
theorem GTr.get_succ (t : GTr) (n : Nat) : t.get (n + 1) = bif Nat.beq (n % 2) 0 then t.l.get (n / 2) else t.r.get (n / 2) := by
  cases t with
  | nil => cases Nat.beq (n % 2) 0 <;> rfl
  | nd v l r => rfl

theorem GTr.get_put_eq : ∀ (k : Nat) (t : GTr) (n : Nat) (e : GE), n < k → (GTr.put k t n e).get n = e
  | 0, _, _, _, h => absurd h (Nat.not_lt_zero _)
  | k + 1, t, 0, e, _ => rfl
  | k + 1, t, n + 1, e, h => by
    have hn : n / 2 < k := by omega
    simp only [GTr.put]
    cases hb : Nat.beq (n % 2) 0 <;> simp only [cond_true, cond_false, GTr.get, hb]
    · exact GTr.get_put_eq k t.r _ e hn
    · exact GTr.get_put_eq k t.l _ e hn

theorem GTr.get_put_ne : ∀ (k : Nat) (t : GTr) (n m : Nat) (e : GE), n ≠ m → (GTr.put k t n e).get m = t.get m
  | 0, _, _, _, _, _ => rfl
  | k + 1, t, 0, m, e, h => by
    cases m with
    | zero => exact absurd rfl h
    | succ m => rw [GTr.get_succ t m]; rfl
  | k + 1, t, n + 1, m, e, h => by
    simp only [GTr.put]
    cases m with
    | zero => cases Nat.beq (n % 2) 0 <;> exact (GTr.get_zero t).symm
    | succ m =>
      rw [GTr.get_succ t m]
      cases hn : Nat.beq (n % 2) 0 <;> cases hm : Nat.beq (m % 2) 0 <;> simp only [cond_true, cond_false, GTr.get, hm]
      · refine GTr.get_put_ne k t.r _ _ e fun e' => h ?_
        have a1 : ¬ n % 2 = 0 := by intro e; rw [e] at hn; cases hn
        have a2 : ¬ m % 2 = 0 := by intro e; rw [e] at hm; cases hm
        omega
      · refine GTr.get_put_ne k t.l _ _ e fun e' => h ?_
        have a1 : n % 2 = 0 := Nat.eq_of_beq_eq_true hn
        have a2 : m % 2 = 0 := Nat.eq_of_beq_eq_true hm
        omega

/-- .. the first 32768 of them in a tree whose ways are known. -/
structure GL where
  a : R8 5 GE
  t : GTr
  length : Nat

def GL.nil : GL := ⟨R8.all .dead 5, .nil, 0⟩
def glGet (g : GL) (x : Nat) : GE := bif Nat.blt x 32768 then (gw5 GE x).g g.a else g.t.get x
def glPut (g : GL) (e : GE) (n : Nat) (x : Nat) : GL := bif Nat.blt x 32768 then GL.rec (motive := fun _ => GL) (fun a t _ => ⟨(uw5 GE x).u e a, t, n⟩) g else ⟨g.a, GTr.put (Nat.succ x) g.t x e, n⟩
def GL.get (g : GL) (x : Nat) : GE := fN (glGet g) x
def GL.put (g : GL) (x : Nat) (e : GE) (n : Nat) : GL := fN (glPut g e n) x
def glPush (g : GL) (e : GE) (n : Nat) : GL := g.put n e (Nat.succ n)
def GL.push (g : GL) (e : GE) : GL := fN (glPush g e) g.length
def GL.set (g : GL) (x : Nat) (e : GE) : GL := g.put x e g.length
theorem GL.push_eq (g : GL) (e : GE) : g.push e = g.put g.length e (Nat.succ g.length) := fN_eq _ _
theorem GL.put_length (g : GL) (x : Nat) (e : GE) (n : Nat) : (g.put x e n).length = n := by cases g; unfold GL.put; rw [fN_eq]; unfold glPut; cases Nat.blt x 32768 <;> rfl
theorem GL.get_put_eq (g : GL) (x : Nat) (e : GE) (n : Nat) : (g.put x e n).get x = e := by
  cases g with | mk a t l =>
  unfold GL.put GL.get
  rw [fN_eq, fN_eq]
  unfold glPut glGet
  simp only
  rw [gw5_eq, uw5_eq]
  cases h : Nat.blt x 32768 with
  | true => exact R8.get_upd_eq 5 a e x
  | false => exact GTr.get_put_eq _ _ _ _ (Nat.lt_succ_self _)
theorem GL.get_put_ne (g : GL) (x y : Nat) (e : GE) (n : Nat) (hne : x ≠ y) : (g.put x e n).get y = g.get y := by
  cases g with | mk a t l =>
  unfold GL.put GL.get
  rw [fN_eq, fN_eq, fN_eq]
  unfold glPut glGet
  simp only
  rw [gw5_eq, uw5_eq, gw5_eq]
  cases h : Nat.blt x 32768 with
  | true =>
    cases h2 : Nat.blt y 32768 with
    | true => exact R8.get_upd_ne 5 a e x y (Eq.mp Nat.blt_eq h) (Eq.mp Nat.blt_eq h2) hne
    | false => rfl
  | false =>
    cases h2 : Nat.blt y 32768 with
    | true => rfl
    | false => exact GTr.get_put_ne _ _ _ _ _ hne
instance : GetElem? GL Nat GE (fun g i => i < g.length) where
  getElem g i _ := g.get i
  getElem? g i := bif Nat.blt i g.length then some (g.get i) else none

theorem GL.get_lt {g : GL} {x : Nat} (h : x < g.length) : g[x]? = some (g.get x) := by
  show (bif Nat.blt x g.length then some (g.get x) else none) = _
  rw [Eq.mpr Nat.blt_eq h]; rfl
theorem GL.get_none {g : GL} {x : Nat} (h : g.length ≤ x) : g[x]? = none := by
  show (bif Nat.blt x g.length then some (g.get x) else none) = _
  cases hb : Nat.blt x g.length with
  | false => rfl
  | true => have : x < g.length := Eq.mp Nat.blt_eq hb; omega
@[simp] theorem GL.get_len (g : GL) : g[g.length]? = none := GL.get_none (Nat.le_refl _)
theorem GL.lt_of_get {g : GL} {x : Nat} {e : GE} (h : g[x]? = some e) : x < g.length := by
  rcases Nat.lt_or_ge x g.length with h' | h'
  · exact h'
  · rw [GL.get_none h'] at h; cases h
theorem GL.nil_get (x : Nat) : GL.nil[x]? = none := GL.get_none (Nat.zero_le _)
theorem GL.push_length (g : GL) (e : GE) : (g.push e).length = Nat.succ g.length := by rw [GL.push_eq, GL.put_length]
theorem GL.set_length (g : GL) (x : Nat) (e : GE) : (g.set x e).length = g.length := GL.put_length _ _ _ _
theorem GL.get_push (g : GL) (e : GE) (x : Nat) : (g.push e)[x]? = if x = g.length then some e else g[x]? := by
  by_cases hx : x = g.length
  · rw [if_pos hx, GL.get_lt (show x < (g.push e).length by rw [hx, GL.push_length]; exact Nat.lt_succ_self _)]
    subst hx
    rw [GL.push_eq]
    exact congrArg some (GL.get_put_eq _ _ _ _)
  · rw [if_neg hx]
    rcases Nat.lt_or_ge x g.length with h | h
    · rw [GL.get_lt h, GL.get_lt (show x < (g.push e).length by rw [GL.push_length]; exact Nat.lt_succ_of_lt h)]
      rw [GL.push_eq]
      exact congrArg some (GL.get_put_ne _ _ _ _ _ (Ne.symm hx))
    · rw [GL.get_none h, GL.get_none (show (g.push e).length ≤ x by rw [GL.push_length]; omega)]
theorem GL.get_set_ne {g : GL} {x y : Nat} {e : GE} (h : x ≠ y) : (g.set x e)[y]? = g[y]? := by
  rcases Nat.lt_or_ge y g.length with h' | h'
  · rw [GL.get_lt h', GL.get_lt (show y < (g.set x e).length by rw [GL.set_length]; exact h')]
    exact congrArg some (GL.get_put_ne _ _ _ _ _ h)
  · rw [GL.get_none h', GL.get_none (show (g.set x e).length ≤ y by rw [GL.set_length]; exact h')]
theorem GL.get_set_self {g : GL} {x : Nat} {e : GE} (h : x < g.length) : (g.set x e)[x]? = some e := by
  rw [GL.get_lt (show x < (g.set x e).length by rw [GL.set_length]; exact h)]
  exact congrArg some (GL.get_put_eq _ _ _ _)

structure Bs where
  loc : List (Nat × Nat × Nat × Option Blk)
  glob : GL

/-- The entry of a name: its make's number, and the block (none: it is gone). -/
def locGet : List (Nat × Nat × Nat × Option Blk) → Nat → Nat → Option (Nat × Option Blk)
  | [], _, _ => none
  | (t', k', e) :: r, t, k => bif Nat.beq t' t && Nat.beq k' k then some e else locGet r t k

def Bs.ent (bs : Bs) : BRef → Option (Nat × Option Blk)
  | .loc t k => locGet bs.loc t k
  | .glob g => (bs.glob[g]?).map fun b => (0, b.blk?)

/-- The map of a number. -/
def Bs.mapAt (bs : Bs) (x : Nat) : Option (List (Value × PV)) := (bs.glob[x]?).bind GE.map?

/-- A living block, and its make's number. -/
def Bs.getg (bs : Bs) (r : BRef) (g : Nat) : Option Blk :=
  match bs.ent r with
  | some (g', some b) => bif Nat.beq g' g then some b else none
  | _ => none

theorem Bs.getg_ent {bs : Bs} {r : BRef} {g : Nat} {b : Blk} : bs.getg r g = some b ↔ bs.ent r = some (g, some b) := by
  unfold Bs.getg
  constructor
  · intro h
    split at h
    · rename_i g' b' he
      cases hb : Nat.beq g' g with
      | false => rw [hb] at h; cases h
      | true => rw [hb] at h; cases h; rw [he, Nat.eq_of_beq_eq_true hb]
    · cases h
  · intro h
    rw [h]
    simp

/-- What the values of a running function mean. -/
structure Env where
  w : World
  bs : Bs
  mu : BRef → Nat × Nat
  cap : BRef → Nat
  Wr : Nat → Prop
  Lent : Nat → Prop

def Frz (E : Env) (b : Bool) (k : Nat) : Prop := k < E.w.heap.size ∧ ¬ E.Wr k ∧ (b = false → ¬ E.Lent k)

/-- A function's number in a value: twice its own; one more: with its first arguments, not with what it captures. -/
def fnLt (g : Nat) : Bool := Nat.beq (Nat.mod g 2) 0
def fnId (g : Nat) : Nat := Nat.div g 2
def fnV (g : Nat) (cv : List Value) : Value := bif fnLt g then .func (.func (fnId g)) #[] cv.toArray else .func (.func (fnId g)) cv.toArray #[]

theorem fnId_even (f : Nat) : fnId (Nat.mul 2 f) = f := by
  show (2 * f) / 2 = f
  omega
theorem fnId_odd (f : Nat) : fnId (Nat.succ (Nat.mul 2 f)) = f := by
  show (2 * f + 1) / 2 = f
  omega
theorem fnLt_even (f : Nat) : fnLt (Nat.mul 2 f) = true := by
  have : (2 * f) % 2 = 0 := by omega
  show Nat.beq ((2 * f) % 2) 0 = true
  rw [this]; rfl
theorem fnLt_odd (f : Nat) : fnLt (Nat.succ (Nat.mul 2 f)) = false := by
  have : (2 * f + 1) % 2 = 1 := by omega
  show Nat.beq ((2 * f + 1) % 2) 0 = false
  rw [this]; rfl
theorem fnV_t {g : Nat} (h : fnLt g = true) (cv : List Value) : fnV g cv = .func (.func (fnId g)) #[] cv.toArray := by unfold fnV; rw [h]; rfl
theorem fnV_f {g : Nat} (h : fnLt g = false) (cv : List Value) : fnV g cv = .func (.func (fnId g)) cv.toArray #[] := by unfold fnV; rw [h]; rfl

@[simp] theorem fnV_one (g : Nat) (cv : List Value) : (fnV g cv).oneCell' = true := by
  unfold fnV
  cases fnLt g <;> rfl

theorem fnV_cells (g : Nat) (cv : List Value) : (fnV g cv).cells = #[fnV g cv] := by
  unfold fnV
  cases fnLt g <;> rfl

theorem fnV_eq (g : Nat) (cv : List Value) : ∃ f a b, fnV g cv = .func f a b := by
  unfold fnV
  cases fnLt g
  · exact ⟨_, _, _, rfl⟩
  · exact ⟨_, _, _, rfl⟩

/-- Rows of k cells each lie one behind the other. -/
def LiesAt (w : World) (blk off k : Nat) (ws : List Value) : Prop :=
  (∀ x ∈ ws, x.cells.size = k) ∧ ∀ i x, ws[i]? = some x → ∀ j y, x.cells[j]? = some y → w.cell? ⟨blk, off + (i * k + j), none⟩ = some y

mutual
/-- No name of a block, nothing unknown: it can be frozen. -/
def frozen : PV → Bool
  | .s _ => true
  | .undef => false
  | .agg cs => frozenL cs
  | .tup cs => frozenL cs
  | .vs _ _ xs => frozenL xs
  | .fp _ cs => frozenL cs
  | .lp _ _ _ _ => false
  | .sl _ _ _ _ => false
  | .fn _ caps => frozenL caps
  | .ifc _ v => frozen v
  | .mp _ => false
  | .ts _ _ _ _ _ => false
def frozenL : List PV → Bool
  | [] => true
  | x :: r => frozen x && frozenL r
end

mutual
/-- Nothing in it is lent. -/
def noB : PV → Bool
  | .s _ => true
  | .undef => true
  | .agg cs => noBL cs
  | .tup cs => noBL cs
  | .vs b _ xs => (xs.isEmpty || !b) && noBL xs
  | .fp b cs => !b && noBL cs
  | .lp _ _ _ _ => true
  | .sl _ _ _ _ => true
  | .fn _ caps => noBL caps
  | .ifc _ v => noB v
  | .mp _ => true
  | .ts _ _ _ _ _ => true
def noBL : List PV → Bool
  | [] => true
  | x :: r => noB x && noBL r
end

mutual
/-- The value v of the model is what pv says, in E. -/
def VR (E : Env) : PV → Value → Prop
  | .s x, v => v = x ∧ x.oneCell' = true
  | .undef, _ => True
  | .agg cs, v => ∃ a : List Value, v = .agg a.toArray ∧ VRl E cs a
  | .tup cs, v => ∃ a : List Value, v = .tuple a.toArray ∧ VRl E cs a
  | .vs b full xs, v => ∃ A cap ws, v = .slice A xs.length cap ∧ xs.length ≤ cap ∧ (full = true → cap = xs.length) ∧ VRl E xs ws ∧
      frozenL xs = true ∧ (b = false → noBL xs = true) ∧
      ((xs = [] ∧ (b = true → A.isSome = true)) ∨ ∃ blk off k, A = some ⟨blk, off, none⟩ ∧ Frz E b blk ∧ 0 < k ∧ LiesAt E.w blk off k ws)
  | .fp b cs, v => ∃ blk off us, v = .pointer (some ⟨blk, off, none⟩) ∧ VRl E cs us ∧ frozenL cs = true ∧ (b = false → noBL cs = true) ∧
      Frz E b blk ∧ ∀ j u, us[j]? = some u → E.w.cell? ⟨blk, off + j, none⟩ = some u
  | .lp r g i j, v => ∃ blk off, v = .pointer (some ⟨blk, off, none⟩) ∧ ∃ g' o, E.bs.ent r = some (g', o) ∧ g ≤ g' ∧
      ∀ b, E.bs.getg r g = some b → blk = (E.mu r).1 ∧ off = (E.mu r).2 + (i * b.esz + j)
  | .sl r g off len, v => ∃ A cap, v = .slice A len cap ∧ len ≤ cap ∧ ∃ g' o, E.bs.ent r = some (g', o) ∧ g ≤ g' ∧
      ∀ b, E.bs.getg r g = some b → off + len ≤ b.elems.length ∧ b.elems.length - off ≤ cap ∧ off + cap ≤ E.cap r ∧ (0 < cap → A = some ⟨(E.mu r).1, (E.mu r).2 + off * b.esz, none⟩) ∧ A.isSome = true
  | .fn f caps, v => ∃ cv : List Value, v = fnV f cv ∧ VRl E caps cv
  | .ifc t x, v => ∃ y, v = .iface t y ∧ VR E x y
  | .ts x g off len cp, v => ∃ A, v = .slice A len cp ∧ len ≤ cp ∧ ∃ g' o, E.bs.ent (.glob x) = some (g', o) ∧ g ≤ g' ∧
      ∀ b, E.bs.getg (.glob x) g = some b → off + cp ≤ b.elems.length ∧ off + cp ≤ E.cap (.glob x) ∧ (0 < cp → A = some ⟨(E.mu (.glob x)).1, (E.mu (.glob x)).2 + off * b.esz, none⟩) ∧ A.isSome = true
  | .mp x, v => v = .map (some (E.mu (.glob x)).1) ∧ (E.bs.mapAt x).isSome = true
def VRl (E : Env) : List PV → List Value → Prop
  | [], vs => vs = []
  | p :: ps, vs => ∃ u us, vs = u :: us ∧ VR E p u ∧ VRl E ps us
end

theorem VRl_nil {E : Env} : VRl E [] [] := by simp [VRl]
theorem VRl_cons {E : Env} {p : PV} {ps : List PV} {u : Value} {us : List Value} : VRl E (p :: ps) (u :: us) ↔ VR E p u ∧ VRl E ps us := by
  simp only [VRl]
  constructor
  · rintro ⟨u', us', h, h1, h2⟩
    cases h
    exact ⟨h1, h2⟩
  · rintro ⟨h1, h2⟩
    exact ⟨u, us, rfl, h1, h2⟩
theorem VRl_length {E : Env} : ∀ {ps : List PV} {us : List Value}, VRl E ps us → us.length = ps.length
  | [], us, h => by simp [VRl] at h; simp [h]
  | p :: ps, us, h => by
    simp only [VRl] at h
    obtain ⟨u, us', rfl, _, h⟩ := h
    simp [VRl_length h]
theorem VRl_get {E : Env} : ∀ {ps : List PV} {us : List Value}, VRl E ps us → ∀ {i : Nat} {p : PV}, ps[i]? = some p → ∃ u, us[i]? = some u ∧ VR E p u
  | [], _, _, i, p, hp => by simp at hp
  | q :: ps, us, h, i, p, hp => by
    simp only [VRl] at h
    obtain ⟨u, us', rfl, hq, h⟩ := h
    cases i with
    | zero => simp at hp; subst hp; exact ⟨u, rfl, hq⟩
    | succ i => simp at hp; obtain ⟨x, hx, hv⟩ := VRl_get h hp; exact ⟨x, by simpa using hx, hv⟩
theorem VRl_of_get {E : Env} : ∀ {ps : List PV} {us : List Value}, us.length = ps.length → (∀ (i : Nat) (p : PV) (u : Value), ps[i]? = some p → us[i]? = some u → VR E p u) → VRl E ps us
  | [], us, hl, _ => by simp at hl; simp [VRl, hl]
  | p :: ps, us, hl, h => by
    cases us with
    | nil => simp at hl
    | cons u us =>
      rw [VRl_cons]
      refine ⟨h 0 p u rfl rfl, VRl_of_get (by simpa using hl) fun i q x hq hx => h (i + 1) q x (by simpa using hq) (by simpa using hx)⟩
theorem VRl_append {E : Env} {ps qs : List PV} {us vs : List Value} (h : VRl E ps us) (k : VRl E qs vs) : VRl E (ps ++ qs) (us ++ vs) := by
  induction ps generalizing us with
  | nil => simp [VRl] at h; subst h; simpa using k
  | cons p ps ih =>
    simp only [VRl] at h
    obtain ⟨u, us', rfl, hp, h⟩ := h
    simp only [List.cons_append]
    rw [VRl_cons]
    exact ⟨hp, ih h⟩
theorem VRl_drop {E : Env} {ps : List PV} {us : List Value} (h : VRl E ps us) (n : Nat) : VRl E (ps.drop n) (us.drop n) := by
  refine VRl_of_get (by simp [VRl_length h]) fun i p u hp hu => ?_
  simp only [List.getElem?_drop] at hp hu
  obtain ⟨u', hu', hv⟩ := VRl_get h hp
  rw [hu] at hu'; cases hu'; exact hv
theorem VRl_take {E : Env} {ps : List PV} {us : List Value} (h : VRl E ps us) (n : Nat) : VRl E (ps.take n) (us.take n) := by
  refine VRl_of_get (by simp [VRl_length h]) fun i p u hp hu => ?_
  rw [List.getElem?_take] at hp hu
  split at hp
  · rename_i hi
    rw [if_pos hi] at hu
    obtain ⟨u', hu', hv⟩ := VRl_get h hp
    rw [hu] at hu'; cases hu'; exact hv
  · cases hp

theorem cells_VR {E : Env} {pv : PV} {v : Value} (h : VR E pv v) (hn : pv ≠ .undef) : VRl E pv.cells v.cells.toList := by
  cases pv with
  | agg cs => simp only [VR] at h; obtain ⟨a, rfl, h⟩ := h; simpa [PV.cells, Value.cells] using h
  | s x => have h' := h; simp only [VR] at h'; obtain ⟨rfl, h1⟩ := h'; simp [PV.cells, one_cells h1, VRl]; exact h
  | undef => exact absurd rfl hn
  | tup cs => have h' := h; simp only [VR] at h'; obtain ⟨a, rfl, h'⟩ := h'; simp [PV.cells, Value.cells, VRl]; exact h
  | vs b f xs => have h' := h; simp only [VR] at h'; obtain ⟨a, b, c, rfl, h'⟩ := h'; simp [PV.cells, Value.cells, VRl]; exact h
  | fp b cs => have h' := h; simp only [VR] at h'; obtain ⟨a, b, c, rfl, h'⟩ := h'; simp [PV.cells, Value.cells, VRl]; exact h
  | lp r g i j => have h' := h; simp only [VR] at h'; obtain ⟨a, b, rfl, h'⟩ := h'; simp [PV.cells, Value.cells, VRl]; exact h
  | sl r g i j => have h' := h; simp only [VR] at h'; obtain ⟨a, b, rfl, h'⟩ := h'; simp [PV.cells, Value.cells, VRl]; exact h
  | fn f caps => have h' := h; simp only [VR] at h'; obtain ⟨a, rfl, h'⟩ := h'; obtain ⟨q, r, t, e⟩ := fnV_eq f a; rw [e] at h ⊢; simp [PV.cells, Value.cells, VRl]; exact h
  | ifc t x => have h' := h; simp only [VR] at h'; obtain ⟨a, rfl, h'⟩ := h'; simp [PV.cells, Value.cells, VRl]; exact h
  | ts x g i j cp => have h' := h; simp only [VR] at h'; obtain ⟨a, rfl, h'⟩ := h'; simp [PV.cells, Value.cells, VRl]; exact h
  | mp x => have h' := h; simp only [VR] at h'; obtain ⟨rfl, h'⟩ := h'; simp [PV.cells, Value.cells, VRl]; exact h

/-- The world has gone on: what nobody may write is as it was. -/
structure Fr (E E' : Env) : Prop where
  os : E'.w.os = E.w.os
  tape : E'.w.tape = E.w.tape
  output : E'.w.output = E.w.output
  size : E.w.heap.size ≤ E'.w.heap.size
  keep : ∀ b, b < E.w.heap.size → ¬ E.Wr b → E'.w.heap[b]? = E.w.heap[b]?
  wr : ∀ b, b < E.w.heap.size → E'.Wr b → E.Wr b
  lent : ∀ b, E'.Lent b ↔ E.Lent b
  maps : ∀ x, (E.bs.mapAt x).isSome = true → (E'.bs.mapAt x).isSome = true ∧ E'.mu (.glob x) = E.mu (.glob x)

theorem Fr.refl (E : Env) : Fr E E := ⟨rfl, rfl, rfl, Nat.le_refl _, fun _ _ _ => rfl, fun _ _ h => h, fun _ => Iff.rfl, fun _ h => ⟨h, rfl⟩⟩
theorem Fr.trans {A B C : Env} (h : Fr A B) (k : Fr B C) : Fr A C where
  os := k.os.trans h.os
  tape := k.tape.trans h.tape
  output := k.output.trans h.output
  size := Nat.le_trans h.size k.size
  keep b hb hw := (k.keep b (Nat.lt_of_lt_of_le hb h.size) (fun x => hw (h.wr b hb x))).trans (h.keep b hb hw)
  wr b hb x := h.wr b hb (k.wr b (Nat.lt_of_lt_of_le hb h.size) x)
  lent b := (k.lent b).trans (h.lent b)
  maps x hx := ⟨(k.maps x (h.maps x hx).1).1, (k.maps x (h.maps x hx).1).2.trans (h.maps x hx).2⟩

/-- .. and each name names what it named, or is gone, or names a later make. -/
structure Ext (E E' : Env) : Prop extends Fr E E' where
  ent : ∀ r g o, E.bs.ent r = some (g, o) → ∃ g' o', E'.bs.ent r = some (g', o') ∧ g ≤ g' ∧
    (g' = g → ∀ b', o' = some b' → ∃ b, o = some b ∧ b'.esz = b.esz ∧ b'.elems.length = b.elems.length ∧ E'.mu r = E.mu r ∧ E'.cap r = E.cap r)

theorem Ext.refl (E : Env) : Ext E E := ⟨Fr.refl E, fun _ g o h => ⟨g, o, h, Nat.le_refl _, fun _ b hb => ⟨b, hb, rfl, rfl, rfl, rfl⟩⟩⟩
theorem Ext.trans {A B C : Env} (h : Ext A B) (k : Ext B C) : Ext A C where
  toFr := h.toFr.trans k.toFr
  ent r g o hr := by
    obtain ⟨g1, o1, h1, l1, e1⟩ := h.ent r g o hr
    obtain ⟨g2, o2, h2, l2, e2⟩ := k.ent r g1 o1 h1
    refine ⟨g2, o2, h2, Nat.le_trans l1 l2, fun hg b2 hb2 => ?_⟩
    have hg1 : g1 = g := by omega
    obtain ⟨b1, hb1, x1, x2, x3, x4⟩ := e2 (by omega) b2 hb2
    obtain ⟨b, hb, y1, y2, y3, y4⟩ := e1 hg1 b1 hb1
    exact ⟨b, hb, x1.trans y1, x2.trans y2, x3.trans y3, x4.trans y4⟩

theorem Ext.getg {E E' : Env} (h : Ext E E') {r : BRef} {g g0 : Nat} {o : Option Blk} (he : E.bs.ent r = some (g0, o)) (hg : g ≤ g0) {b' : Blk} (hb : E'.bs.getg r g = some b') :
    ∃ b, E.bs.getg r g = some b ∧ b'.esz = b.esz ∧ b'.elems.length = b.elems.length ∧ E'.mu r = E.mu r ∧ E'.cap r = E.cap r := by
  rw [Bs.getg_ent] at hb
  obtain ⟨g', o', h1, l1, e1⟩ := h.ent r g0 o he
  rw [hb] at h1
  cases h1
  obtain ⟨b, hb', x⟩ := e1 (by omega) b' rfl
  have : g = g0 := by omega
  subst this
  exact ⟨b, by rw [Bs.getg_ent, he, hb'], x⟩

theorem cell_of_heap {w w' : World} {b : Nat} (h : w'.heap[b]? = w.heap[b]?) (o : Nat) : w'.cell? ⟨b, o, none⟩ = w.cell? ⟨b, o, none⟩ := by
  simp only [World.cell?, h]

theorem Frz.ext {E E' : Env} {b : Bool} {k : Nat} (h : Frz E b k) (hf : Fr E E') : Frz E' b k ∧ E'.w.heap[k]? = E.w.heap[k]? := by
  obtain ⟨h1, h2, h3⟩ := h
  exact ⟨⟨Nat.lt_of_lt_of_le h1 hf.size, fun x => h2 (hf.wr k h1 x), fun hb x => h3 hb ((hf.lent k).1 x)⟩, hf.keep k h1 h2⟩

theorem LiesAt.ext {w w' : World} {blk off k : Nat} {ws : List Value} (h : LiesAt w blk off k ws) (he : w'.heap[blk]? = w.heap[blk]?) : LiesAt w' blk off k ws :=
  ⟨h.1, fun i x hx j y hy => by rw [cell_of_heap he]; exact h.2 i x hx j y hy⟩

mutual
/-- What is frozen means the same later, whatever becomes of names. -/
theorem VR_frozen {E E' : Env} (hf : Fr E E') : ∀ {pv : PV} {v : Value}, frozen pv = true → VR E pv v → VR E' pv v
  | .s x, v, _, h => by simpa [VR] using h
  | .undef, v, h, _ => by simp [frozen] at h
  | .agg cs, v, hz, h => by
    simp only [VR] at h ⊢; obtain ⟨a, rfl, h⟩ := h; exact ⟨a, rfl, VRl_frozen hf (by simpa [frozen] using hz) h⟩
  | .tup cs, v, hz, h => by
    simp only [VR] at h ⊢; obtain ⟨a, rfl, h⟩ := h; exact ⟨a, rfl, VRl_frozen hf (by simpa [frozen] using hz) h⟩
  | .vs b full xs, v, hz, h => by
    simp only [VR] at h ⊢
    obtain ⟨A, cap, ws, rfl, h1, h2, h3, h4, h5, h6⟩ := h
    refine ⟨A, cap, ws, rfl, h1, h2, VRl_frozen hf h4 h3, h4, h5, ?_⟩
    rcases h6 with h6 | ⟨blk, off, k, hA, hz', hk, hl⟩
    · exact .inl h6
    · exact .inr ⟨blk, off, k, hA, (hz'.ext hf).1, hk, hl.ext (hz'.ext hf).2⟩
  | .fp b cs, v, hz, h => by
    simp only [VR] at h ⊢
    obtain ⟨blk, off, us, rfl, h1, h2, h3, h4, h5⟩ := h
    exact ⟨blk, off, us, rfl, VRl_frozen hf h2 h1, h2, h3, (h4.ext hf).1, fun j u hu => by rw [cell_of_heap (h4.ext hf).2]; exact h5 j u hu⟩
  | .lp _ _ _ _, v, hz, _ => by simp [frozen] at hz
  | .sl _ _ _ _, v, hz, _ => by simp [frozen] at hz
  | .fn f caps, v, hz, h => by
    simp only [VR] at h ⊢; obtain ⟨a, rfl, h⟩ := h; exact ⟨a, rfl, VRl_frozen hf (by simpa [frozen] using hz) h⟩
  | .ifc t x, v, hz, h => by
    simp only [VR] at h ⊢; obtain ⟨y, rfl, h⟩ := h; exact ⟨y, rfl, VR_frozen hf (by simpa [frozen] using hz) h⟩
  | .mp _, v, hz, _ => by simp [frozen] at hz
  | .ts _ _ _ _ _, v, hz, _ => by simp [frozen] at hz
theorem VRl_frozen {E E' : Env} (hf : Fr E E') : ∀ {ps : List PV} {us : List Value}, frozenL ps = true → VRl E ps us → VRl E' ps us
  | [], us, _, h => by simpa [VRl] using h
  | p :: ps, us, hz, h => by
    simp only [VRl] at h ⊢
    obtain ⟨u, us', rfl, hp, h⟩ := h
    simp only [frozenL, Bool.and_eq_true] at hz
    exact ⟨u, us', rfl, VR_frozen hf hz.1 hp, VRl_frozen hf hz.2 h⟩
end

mutual
theorem VR_ext {E E' : Env} (hx : Ext E E') : ∀ {pv : PV} {v : Value}, VR E pv v → VR E' pv v
  | .s x, v, h => by simpa [VR] using h
  | .undef, v, _ => by simp [VR]
  | .agg cs, v, h => by
    simp only [VR] at h ⊢; obtain ⟨a, rfl, h⟩ := h; exact ⟨a, rfl, VRl_ext hx h⟩
  | .tup cs, v, h => by
    simp only [VR] at h ⊢; obtain ⟨a, rfl, h⟩ := h; exact ⟨a, rfl, VRl_ext hx h⟩
  | .vs b full xs, v, h => by
    simp only [VR] at h ⊢
    obtain ⟨A, cap, ws, rfl, h1, h2, h3, h4, h5, h6⟩ := h
    refine ⟨A, cap, ws, rfl, h1, h2, VRl_frozen hx.toFr h4 h3, h4, h5, ?_⟩
    rcases h6 with h6 | ⟨blk, off, k, hA, hz', hk, hl⟩
    · exact .inl h6
    · exact .inr ⟨blk, off, k, hA, (hz'.ext hx.toFr).1, hk, hl.ext (hz'.ext hx.toFr).2⟩
  | .fp b cs, v, h => by
    simp only [VR] at h ⊢
    obtain ⟨blk, off, us, rfl, h1, h2, h3, h4, h5⟩ := h
    exact ⟨blk, off, us, rfl, VRl_frozen hx.toFr h2 h1, h2, h3, (h4.ext hx.toFr).1, fun j u hu => by rw [cell_of_heap (h4.ext hx.toFr).2]; exact h5 j u hu⟩
  | .lp r g i j, v, h => by
    simp only [VR] at h ⊢
    obtain ⟨blk, off, rfl, g', o, hr, hg, h⟩ := h
    obtain ⟨g2, o2, h2, l2, _⟩ := hx.ent r g' o hr
    refine ⟨blk, off, rfl, g2, o2, h2, Nat.le_trans hg l2, fun b' hb' => ?_⟩
    obtain ⟨b, hb, e1, e2, e3, e4⟩ := hx.getg hr hg hb'
    obtain ⟨h1, h2⟩ := h b hb
    rw [e3, e1]; exact ⟨h1, h2⟩
  | .sl r g off len, v, h => by
    simp only [VR] at h ⊢
    obtain ⟨A, cap, rfl, hlc, g', o, hr, hg, h⟩ := h
    obtain ⟨g2, o2, h2, l2, _⟩ := hx.ent r g' o hr
    refine ⟨A, cap, rfl, hlc, g2, o2, h2, Nat.le_trans hg l2, fun b' hb' => ?_⟩
    obtain ⟨b, hb, e1, e2, e3, e4⟩ := hx.getg hr hg hb'
    obtain ⟨h1, h2, h3, h4⟩ := h b hb
    rw [e3, e1, e2, e4]; exact ⟨h1, h2, h3, h4⟩
  | .fn f caps, v, h => by
    simp only [VR] at h ⊢; obtain ⟨a, rfl, h⟩ := h; exact ⟨a, rfl, VRl_ext hx h⟩
  | .ifc t x, v, h => by
    simp only [VR] at h ⊢; obtain ⟨y, rfl, h⟩ := h; exact ⟨y, rfl, VR_ext hx h⟩
  | .ts x g off len cp, v, h => by
    simp only [VR] at h ⊢
    obtain ⟨A, rfl, hlc, g', o, hr, hg, h⟩ := h
    obtain ⟨g2, o2, h2, l2, _⟩ := hx.ent (.glob x) g' o hr
    refine ⟨A, rfl, hlc, g2, o2, h2, Nat.le_trans hg l2, fun b' hb' => ?_⟩
    obtain ⟨b, hb, e1, e2, e3, e4⟩ := hx.getg hr hg hb'
    obtain ⟨h1, h2, h3⟩ := h b hb
    rw [e3, e1, e2, e4]; exact ⟨h1, h2, h3⟩
  | .mp x, v, h => by
    simp only [VR] at h ⊢
    exact ⟨by rw [(hx.maps x h.2).2]; exact h.1, (hx.maps x h.2).1⟩
theorem VRl_ext {E E' : Env} (hx : Ext E E') : ∀ {ps : List PV} {us : List Value}, VRl E ps us → VRl E' ps us
  | [], us, h => by simpa [VRl] using h
  | p :: ps, us, h => by
    simp only [VRl] at h ⊢
    obtain ⟨u, us', rfl, hp, h⟩ := h
    exact ⟨u, us', rfl, VR_ext hx hp, VRl_ext hx h⟩
end

mutual
/-- No name of a running function's own, nothing lent. -/
def noLoc : PV → Bool
  | .agg cs => noLocL cs
  | .tup cs => noLocL cs
  | .lp r _ _ _ => match r with
    | .loc _ _ => false
    | .glob _ => true
  | .sl r _ _ _ => match r with
    | .loc _ _ => false
    | .glob _ => true
  | .fn _ caps => noLocL caps
  | .ifc _ v => noLoc v
  | .mp _ => true
  | .ts _ _ _ _ _ => true
  | .s _ => true
  | .undef => true
  | .vs b _ xs => xs.isEmpty || !b
  | .fp b _ => !b
def noLocL : List PV → Bool
  | [] => true
  | x :: r => noLoc x && noLocL r
end

theorem noLocL_mem : ∀ {l : List PV}, noLocL l = true ↔ ∀ x ∈ l, noLoc x = true
  | [] => by simp [noLocL]
  | x :: r => by simp [noLocL, noLocL_mem (l := r)]
theorem noLoc_cells {p : PV} (h : noLocL p.cells = true) : noLoc p = true := by
  cases p <;> simp_all [PV.cells, noLocL, noLoc]
theorem noLoc_cells' {p : PV} (h : noLoc p = true) : noLocL p.cells = true := by
  cases p <;> simp_all [PV.cells, noLocL, noLoc]

/-- Into a block that outlives the function go values without names of its own alone. -/
def okG (r : BRef) (ps : List PV) : Bool :=
  match r with
  | .loc _ _ => true
  | .glob _ => noLocL ps

/-- What lies in the blocks of one's own, and that they lie apart. -/
structure Rel (E : Env) : Prop where
  len : ∀ r g b, E.bs.ent r = some (g, some b) → b.elems.length ≤ E.cap r
  phys : ∀ r g b, E.bs.ent r = some (g, some b) → 0 < E.cap r → 0 < b.esz ∧ E.Wr (E.mu r).1 ∧
    ∃ cs ty, E.w.heap[(E.mu r).1]? = some (.cells cs ty (0, 0)) ∧ (E.mu r).2 + E.cap r * b.esz ≤ cs.size
  own : ∀ r g b, E.bs.ent r = some (g, some b) → ∀ (i : Nat) p, b.elems[i]? = some p → p.cells.length = b.esz ∧ ∀ (j : Nat) c, p.cells[j]? = some c →
    ∃ cs ty y, E.w.heap[(E.mu r).1]? = some (.cells cs ty (0, 0)) ∧ cs[(E.mu r).2 + (i * b.esz + j)]? = some y ∧ VR E c y
  inj : ∀ r r' g g' b b', E.bs.ent r = some (g, some b) → E.bs.ent r' = some (g', some b') → 0 < E.cap r → 0 < E.cap r' → (E.mu r).1 = (E.mu r').1 → r = r'
  lt : ∀ k, E.Wr k → k < E.w.heap.size
  llt : ∀ k, E.Lent k → k < E.w.heap.size
  apart : ∀ k, E.Wr k → ¬ E.Lent k
  gl : ∀ r g b, E.bs.ent r = some (g, some b) → okG r b.elems = true
  mps : ∀ x l, E.bs.mapAt x = some l → E.Wr (E.mu (.glob x)).1 ∧ ∃ es clock, E.w.heap[(E.mu (.glob x)).1]? = some (.map es clock) ∧ (es.size = l.length ∧ MapKept.Stamped es clock) ∧
    ∀ (i : Nat) k p, l[i]? = some (k, p) → noLoc p = true ∧ ∃ e, es[i]? = some e ∧ e.key = k ∧ VR E p e.val
  minj : ∀ x y, (E.bs.mapAt x).isSome = true → (E.bs.mapAt y).isSome = true → (E.mu (.glob x)).1 = (E.mu (.glob y)).1 → x = y

end

end Go.Pm

/- PM: temporaries, the type table, the operations that change no block, and that each does in the model what PM says. -/

namespace Go.Pm
noncomputable section

/-- Temporaries, by number: the first 64 of them by a shorter way. -/
structure Tr where
  a : R8 2 PV
  b : R8 3 PV

def Tr.get (t : Tr) (n : Nat) : PV := bif Nat.blt n 64 then R8.get 2 t.a n else bif Nat.blt n 512 then R8.get 3 t.b n else .undef
def Tr.set (t : Tr) (n : Nat) (x : PV) : Tr := bif Nat.blt n 64 then ⟨R8.upd 2 t.a x n, t.b⟩ else bif Nat.blt n 512 then ⟨t.a, R8.upd 3 t.b x n⟩ else t
def Tr.full (_ : Nat) : Tr := ⟨R8.all .undef 2, R8.all .undef 3⟩
def Tr.map (f : PV → PV) (t : Tr) : Tr := ⟨R8.map f 2 t.a, R8.map f 3 t.b⟩

theorem Tr.get_set_ne (t : Tr) (n m : Nat) (x : PV) (h : n ≠ m) : (t.set n x).get m = t.get m := by
  unfold Tr.get Tr.set
  cases hn : Nat.blt n 64 <;> cases hm : Nat.blt m 64 <;> simp only [cond_true, cond_false]
  · cases hn2 : Nat.blt n 512 <;> cases hm2 : Nat.blt m 512 <;> try rfl
    exact R8.get_upd_ne 3 t.b x n m (Eq.mp Nat.blt_eq hn2) (Eq.mp Nat.blt_eq hm2) h
  · cases hn2 : Nat.blt n 512 <;> rfl
  · exact R8.get_upd_ne 2 t.a x n m (Eq.mp Nat.blt_eq hn) (Eq.mp Nat.blt_eq hm) h

theorem Tr.get_set_eq (t : Tr) (n : Nat) (x : PV) : (t.set n x).get n = x ∨ (t.set n x).get n = .undef := by
  unfold Tr.get Tr.set
  cases hn : Nat.blt n 64 with
  | true => exact .inl (R8.get_upd_eq 2 t.a x n)
  | false =>
    simp only [cond_false]
    cases hn2 : Nat.blt n 512 with
    | false => exact .inr rfl
    | true => exact .inl (R8.get_upd_eq 3 t.b x n)

theorem Tr.get_map (f : PV → PV) (hf : f .undef = .undef) (t : Tr) (n : Nat) : (t.map f).get n = f (t.get n) := by
  unfold Tr.get Tr.map
  cases hn : Nat.blt n 64 with
  | true => exact R8.get_map f 2 t.a n
  | false =>
    simp only [cond_false]
    cases hn : Nat.blt n 512 with
    | false => exact hf.symm
    | true => exact R8.get_map f 3 t.b n

theorem Tr.get_full (d n : Nat) : (Tr.full d).get n = .undef := by
  unfold Tr.get Tr.full
  cases hn : Nat.blt n 64 with
  | true => exact R8.get_all _ 2 n
  | false =>
    simp only [cond_false]
    cases hn : Nat.blt n 512 with
    | false => rfl
    | true => exact R8.get_all _ 3 n

/- The same by ways known beforehand. -/
structure TG where
  g : Tr → PV
structure TS where
  s : PV → Tr → Tr
def tgw (n : Nat) : TG := bif Nat.blt n 64 then ⟨fun t => (gw2 PV n).g t.a⟩ else bif Nat.blt n 512 then ⟨fun t => (gw3 PV n).g t.b⟩ else ⟨fun _ => .undef⟩
def tsw (n : Nat) : TS := bif Nat.blt n 64 then ⟨fun x t => Tr.rec (motive := fun _ => Tr) (fun a b => ⟨(uw2 PV n).u x a, b⟩) t⟩ else bif Nat.blt n 512 then ⟨fun x t => Tr.rec (motive := fun _ => Tr) (fun a b => ⟨a, (uw3 PV n).u x b⟩) t⟩ else ⟨fun _ t => t⟩
def Tr.getR (t : Tr) (n : Nat) : PV := (tgw n).g t
def Tr.setR (t : Tr) (x : PV) (n : Nat) : Tr := (tsw n).s x t

theorem Tr.getR_eq (t : Tr) (n : Nat) : t.getR n = t.get n := by
  unfold Tr.getR Tr.get tgw
  cases hn : Nat.blt n 64 with
  | true => exact gw2_eq PV n t.a
  | false =>
    simp only [cond_false]
    cases hn : Nat.blt n 512 with
    | false => rfl
    | true => exact gw3_eq PV n t.b
theorem Tr.setR_eq (t : Tr) (n : Nat) (x : PV) : t.setR x n = t.set n x := by
  unfold Tr.setR Tr.set tsw
  cases hn : Nat.blt n 64 with
  | true => cases t with | mk a b => show (⟨(uw2 PV n).u x a, b⟩ : Tr) = _; rw [uw2_eq]; rfl
  | false =>
    simp only [cond_false]
    cases hn : Nat.blt n 512 with
    | false => rfl
    | true => cases t with | mk a b => show (⟨a, (uw3 PV n).u x b⟩ : Tr) = _; rw [uw3_eq]; rfl

/-- What PM asks of the program's tables. -/
structure Tbl where
  info : TypeId → Option TypeInfo
  und : TypeId → Option TypeDesc
  func : FuncId → Option Func

structure Tbl.Ok (T : Tbl) (P : Program) : Prop where
  info : ∀ t i, T.info t = some i → P.info? t = some i
  und : ∀ t d, T.und t = some d → P.underlying t = some d
  func : ∀ f fn, T.func f = some fn → P.funcs[f]? = some fn
  mixed : P.follows .mixedOrders = true

def Tbl.size (T : Tbl) (t : TypeId) : Option Nat := (T.info t).map (·.size)
def Tbl.zero (T : Tbl) (t : TypeId) : Option Value := (T.info t).bind (·.zero)
def aggD : TypeDesc → Bool
  | .struct _ => true
  | .array _ _ => true
  | _ => false
def Tbl.agg (T : Tbl) (t : TypeId) : Option Bool := (T.und t).map aggD

section
variable {T : Tbl} {P : Program} (hT : T.Ok P)
include hT
theorem Tbl.Ok.run_und {t : TypeId} {d : TypeDesc} (h : T.und t = some d) (w : World) : (underlying t).run P w = .ok d w := run_underlying (hT.und t d h) w
theorem Tbl.Ok.run_info {t : TypeId} {i : TypeInfo} (h : T.info t = some i) (w : World) : (typeInfo t).run P w = .ok i w := by simp [typeInfo, hT.info t i h]
theorem Tbl.Ok.run_size {t : TypeId} {n : Nat} (h : T.size t = some n) (w : World) : (sizeOf t).run P w = .ok n w := by
  unfold Tbl.size at h
  cases hi : T.info t with
  | none => rw [hi] at h; cases h
  | some i => rw [hi] at h; cases h; simp [sizeOf, hT.run_info hi]
theorem Tbl.Ok.run_zero {t : TypeId} {z : Value} (h : T.zero t = some z) (w : World) : (zeroValue t).run P w = .ok z w := by
  unfold Tbl.zero at h
  cases hi : T.info t with
  | none => rw [hi] at h; cases h
  | some i => rw [hi] at h; simp at h; simp [zeroValue, hT.run_info hi, h]
theorem Tbl.Ok.run_agg {t : TypeId} {b : Bool} (h : T.agg t = some b) (w : World) : (isAgg t).run P w = .ok b w := by
  unfold Tbl.agg at h
  cases hi : T.und t with
  | none => rw [hi] at h; cases h
  | some i => rw [hi] at h; cases h; cases i <;> simp [isAgg, hT.run_und hi, aggD]
end

/-- A computation that asks the world nothing. -/
def pureRun {α : Type} (P : Program) : Sem α → Option α
  | .pure a => some a
  | .program k => pureRun P (k P)
  | .mark _ k => pureRun P k
  | _ => none

theorem pureRun_run {α : Type} {P : Program} {a : α} : ∀ (s : Sem α), pureRun P s = some a → ∀ w, s.run P w = .ok a w
  | .pure x, h, w => by simp only [pureRun] at h; cases h; rfl
  | .program k, h, w => by simp only [pureRun] at h; simp only [Sem.run]; exact pureRun_run (k P) h w
  | .mark _ k, h, w => by simp only [pureRun] at h; simp only [Sem.run]; exact pureRun_run k h w
  | .load .., h, _ | .store .., h, _ | .new .., h, _ | .shape .., h, _ | .freeze .., h, _ | .frozen .., h, _ | .getObj .., h, _ | .setObj .., h, _ | .choose .., h, _ | .sys .., h, _ | .halt .., h, _ => by simp [pureRun] at h

def ofVal1 (v : Value) : PV := bif v.oneCell' then .s v else .undef
def ofVal : Value → PV
  | .agg cs => .agg (cs.toList.map ofVal1)
  | .tuple cs => .tup (cs.toList.map ofVal1)
  | v => ofVal1 v

theorem VR_ofVal1 (E : Env) (v : Value) : VR E (ofVal1 v) v := by
  unfold ofVal1
  cases h : v.oneCell'
  · simp [VR]
  · simp [VR, h]
/-- The nil slice, as a slice. -/
def sv : PV → PV
  | .s (.slice none 0 0) => .vs false true []
  | p => p

theorem VR_sv {E : Env} {p : PV} {v : Value} (h : VR E p v) : VR E (sv p) v := by
  unfold sv
  split
  · simp only [VR] at h ⊢
    exact ⟨none, 0, [], h.1, by simp, by simp, by simp [VRl], by simp [frozenL], by simp [noBL], .inl ⟨trivial, fun h => (by cases h)⟩⟩
  · exact h

theorem VRl_ofVal1 (E : Env) (l : List Value) : VRl E (l.map ofVal1) l := by
  induction l with
  | nil => simp [VRl]
  | cons v l ih => simp only [List.map_cons]; rw [VRl_cons]; exact ⟨VR_ofVal1 E v, ih⟩
theorem VR_ofVal (E : Env) (v : Value) : VR E (ofVal v) v := by
  cases v with
  | agg cs => simp only [ofVal, VR]; exact ⟨cs.toList, by simp, VRl_ofVal1 E _⟩
  | tuple cs => simp only [ofVal, VR]; exact ⟨cs.toList, by simp, VRl_ofVal1 E _⟩
  | _ => simp only [ofVal]; exact VR_ofVal1 E _

def toVal1 : PV → Option Value
  | .s v => some v
  | _ => none
def toVals : List PV → Option (List Value)
  | [] => some []
  | x :: r => match toVal1 x with
    | none => none
    | some v => match toVals r with
      | none => none
      | some l => some (v :: l)
def toVal : PV → Option Value
  | .s v => some v
  | .agg cs => match toVals cs with
    | none => none
    | some l => some (.agg l.toArray)
  | _ => none

theorem toVal1_VR {E : Env} {p : PV} {v x : Value} (h : VR E p v) (ht : toVal1 p = some x) : v = x := by
  cases p <;> simp [toVal1] at ht
  subst ht; simp only [VR] at h; exact h.1
theorem toVals_VR {E : Env} : ∀ {ps : List PV} {us xs : List Value}, VRl E ps us → toVals ps = some xs → us = xs
  | [], us, xs, h, ht => by simp [VRl] at h; simp [toVals] at ht; subst ht; exact h
  | p :: ps, us, xs, h, ht => by
    simp only [VRl] at h
    obtain ⟨u, us', rfl, hp, h⟩ := h
    simp only [toVals] at ht
    split at ht
    · cases ht
    · rename_i v hv
      split at ht
      · cases ht
      · rename_i l hl
        cases ht
        rw [toVal1_VR hp hv, toVals_VR h hl]
theorem toVal_VR {E : Env} {p : PV} {v x : Value} (h : VR E p v) (ht : toVal p = some x) : v = x := by
  cases p with
  | s y => exact toVal1_VR h (by simpa [toVal, toVal1] using ht)
  | agg cs =>
    simp only [toVal] at ht
    split at ht
    · cases ht
    · rename_i l hl
      cases ht
      simp only [VR] at h
      obtain ⟨a, rfl, h⟩ := h
      rw [toVals_VR h hl]
  | _ => simp [toVal] at ht

/-- The cells of a variable of type t, of which these begin with it. -/
def loadCellsP (T : Tbl) (t : TypeId) (cs : List PV) : Option PV :=
  match T.agg t with
  | none => none
  | some false => cs.head?
  | some true => match T.size t with
    | none => none
    | some n => bif Nat.ble n cs.length then some (.agg (cs.take n)) else none

theorem loadCellsP_run {T : Tbl} {P : Program} (hT : T.Ok P) {E : Env} {t : TypeId} {cs : List PV} {pv : PV} (h : loadCellsP T t cs = some pv)
    {blk off : Nat} (hc : ∀ j c, cs[j]? = some c → ∃ y, E.w.cell? ⟨blk, off + j, none⟩ = some y ∧ VR E c y) :
    ∃ v, (loadVar t ⟨blk, off, none⟩).run P E.w = .ok v E.w ∧ VR E pv v := by
  unfold loadCellsP at h
  split at h
  · cases h
  · rename_i ha
    cases cs with
    | nil => simp at h
    | cons c r =>
      simp at h; subst h
      obtain ⟨y, hy, hv⟩ := hc 0 c rfl
      exact ⟨y, by simp only [loadVar, Sem.run_bind, hT.run_agg ha, Result.andThen_ok]; simp at hy; simp [hy], hv⟩
  · rename_i ha
    split at h
    · cases h
    · rename_i n hn
      cases hb : Nat.ble n cs.length with
      | false => rw [hb] at h; cases h
      | true =>
        rw [hb] at h; cases h
        have hle := Nat.le_of_ble_eq_true hb
        obtain ⟨ys, hl, hys⟩ : ∃ ys : List Value, ys.length = n ∧ ∀ j, j < n → ∃ c y, cs[j]? = some c ∧ ys[j]? = some y ∧ E.w.cell? ⟨blk, off + j, none⟩ = some y ∧ VR E c y := by
          clear hn hb
          induction n with
          | zero => exact ⟨[], rfl, fun j hj => by omega⟩
          | succ n ih =>
            obtain ⟨ys, hl, hys⟩ := ih (by omega)
            obtain ⟨y, hy, hv⟩ := hc n (cs[n]'(by omega)) (List.getElem?_eq_getElem (by omega))
            refine ⟨ys ++ [y], by simp [hl], fun j hj => ?_⟩
            rcases Nat.lt_or_ge j n with hj' | hj'
            · obtain ⟨c, y', h1, h2, h3⟩ := hys j hj'
              exact ⟨c, y', h1, by rw [List.getElem?_append_left (by omega)]; exact h2, h3⟩
            · have : j = n := by omega
              subst this
              exact ⟨_, y, List.getElem?_eq_getElem (by omega), by rw [List.getElem?_append_right (by omega)]; simp [hl], hy, hv⟩
        refine ⟨.agg ys.toArray, ?_, ?_⟩
        · simp only [loadVar, Sem.run_bind, hT.run_agg ha, Result.andThen_ok, if_true, hT.run_size hn]
          have := run_loadCells_list (P := P) E.w ⟨blk, off, none⟩ ys (fun j v hv => by
            have hj : j < n := by
              rcases Nat.lt_or_ge j n with h | h
              · exact h
              · rw [List.getElem?_eq_none (by omega)] at hv; cases hv
            obtain ⟨c, y, _, h2, h3, _⟩ := hys j hj
            rw [hv] at h2; cases h2
            have : (⟨blk, off, none⟩ : Addr).add j = ⟨blk, off + j, none⟩ := by unfold Addr.add; split <;> simp_all
            rw [this]; exact h3)
          rw [hl] at this
          simp [this]
        · simp only [VR]
          refine ⟨ys, rfl, VRl_of_get (by simp [hl]; omega) fun i p u hp hu => ?_⟩
          have hi : i < n := by
            rcases Nat.lt_or_ge i n with h | h
            · exact h
            · rw [List.getElem?_eq_none (by omega)] at hu; cases hu
          obtain ⟨c, y, h1, h2, _, h4⟩ := hys i hi
          rw [List.getElem?_take, if_pos hi, h1] at hp
          rw [h2] at hu
          cases hp; cases hu; exact h4

def Blk.at (b : Blk) (i j : Nat) : Option (List PV) := (b.get i).map fun e => e.cells.drop j
theorem Blk.at_eq (b : Blk) (i j : Nat) : b.at i j = (b.elems[i]?).map fun e => e.cells.drop j := by unfold Blk.at; rw [Blk.get_eq]

def popLoad (T : Tbl) (bs : Bs) (t : TypeId) : PV → Option PV
  | .fp _ cs => loadCellsP T t cs
  | .lp r g i j => match bs.getg r g with
    | none => none
    | some b => match b.at i j with
      | none => none
      | some cs => loadCellsP T t cs
  | _ => none

theorem popLoad_run {T : Tbl} {P : Program} (hT : T.Ok P) {E : Env} (hR : Rel E) {t : TypeId} {p pv : PV} {u : Value} (hu : VR E p u) (h : popLoad T E.bs t p = some pv) :
    ∃ v, (Instr.loadAt t u).run P E.w = .ok v E.w ∧ VR E pv v := by
  cases p <;> simp only [popLoad] at h <;> try (cases h; done)
  case fp b cs =>
    simp only [VR] at hu
    obtain ⟨blk, off, us, rfl, h1, _, _, _, h5⟩ := hu
    obtain ⟨v, hv, hr⟩ := loadCellsP_run hT h (E := E) (blk := blk) (off := off) (fun j c hc => by
      obtain ⟨y, hy, hv⟩ := VRl_get h1 hc
      exact ⟨y, h5 j y hy, hv⟩)
    exact ⟨v, by simpa [Instr.loadAt, Instr.sureAddr] using hv, hr⟩
  case lp r g i j =>
    split at h
    · cases h
    · rename_i b hb
      split at h
      · cases h
      · rename_i cs hcs
        simp only [VR] at hu
        obtain ⟨blk, off, rfl, _, _, _, _, hu⟩ := hu
        obtain ⟨rfl, rfl⟩ := hu b hb
        simp only [Blk.at_eq, Option.map_eq_some_iff] at hcs
        obtain ⟨e, he, rfl⟩ := hcs
        obtain ⟨_, hown⟩ := hR.own r g b (Bs.getg_ent.1 hb) i e he
        obtain ⟨v, hv, hr⟩ := loadCellsP_run hT h (E := E) (blk := (E.mu r).1) (off := (E.mu r).2 + (i * b.esz + j)) (fun q c hc => by
          rw [List.getElem?_drop] at hc
          obtain ⟨cs, ty, y, hh, hy, hv⟩ := hown (j + q) c hc
          refine ⟨y, ?_, hv⟩
          simp only [World.cell?, hh]
          rw [← hy]
          simp
          congr 1
          omega)
        exact ⟨v, by simpa [Instr.loadAt, Instr.sureAddr] using hv, hr⟩

end

end Go.Pm

/- PM: the operations that change no block (go on). -/

namespace Go.Pm
noncomputable section

theorem add_plain (b o j : Nat) : (⟨b, o, none⟩ : Addr).add j = ⟨b, o + j, none⟩ := by
  unfold Addr.add; split <;> simp_all

theorem frozenL_mem : ∀ {l : List PV}, frozenL l = true ↔ ∀ x ∈ l, frozen x = true
  | [] => by simp [frozenL]
  | x :: r => by simp [frozenL, frozenL_mem (l := r)]
theorem noBL_mem : ∀ {l : List PV}, noBL l = true ↔ ∀ x ∈ l, noB x = true
  | [] => by simp [noBL]
  | x :: r => by simp [noBL, noBL_mem (l := r)]
theorem frozenL_sub {l r : List PV} (h : frozenL l = true) (hs : ∀ x ∈ r, x ∈ l) : frozenL r = true :=
  frozenL_mem.2 fun x hx => frozenL_mem.1 h x (hs x hx)
theorem noBL_sub {l r : List PV} (h : noBL l = true) (hs : ∀ x ∈ r, x ∈ l) : noBL r = true :=
  noBL_mem.2 fun x hx => noBL_mem.1 h x (hs x hx)
theorem frozen_cells {p : PV} (h : frozen p = true) : frozenL p.cells = true := by
  cases p <;> simp_all [PV.cells, frozenL, frozen]
theorem noB_cells {p : PV} (h : noB p = true) : noBL p.cells = true := by
  cases p <;> simp_all [PV.cells, noBL, noB]
theorem frozen_ne {p : PV} (h : frozen p = true) : p ≠ .undef := by
  rintro rfl; simp [frozen] at h

def Tbl.field (T : Tbl) (s : TypeId) (f : Nat) : Option Field :=
  match T.und s with
  | some (.struct fs) => fs[f]?
  | _ => none

def popFieldAddr (T : Tbl) (s : TypeId) (f : Nat) (p : PV) : Option PV :=
  match T.field s f with
  | none => none
  | some fd => match T.size fd.type with
    | none => none
    | some n => bif Nat.beq n 0 then none else match p with
      | .lp r g i j => some (.lp r g i (j + fd.offset))
      | .fp b cs => some (.fp b (cs.drop fd.offset))
      | _ => none

section
variable {T : Tbl} {P : Program} (hT : T.Ok P) {E : Env}
include hT

omit hT in
theorem field_run {s : TypeId} {f : Nat} {fd : Field} (h : T.field s f = some fd) : ∃ fs, T.und s = some (.struct fs) ∧ fs[f]? = some fd := by
  unfold Tbl.field at h
  split at h
  · rename_i fs hs; exact ⟨fs, hs, h⟩
  · cases h

theorem popFieldAddr_run {s : TypeId} {f : Nat} {p pv : PV} {u : Value} (hu : VR E p u) (h : popFieldAddr T s f p = some pv) :
    ∃ v, (Instr.fieldAt s u f).run P E.w = .ok v E.w ∧ VR E pv v := by
  unfold popFieldAddr at h
  split at h
  · cases h
  · rename_i fd hfd
    obtain ⟨fs, hs, hf⟩ := field_run hfd
    split at h
    · cases h
    · rename_i n hn
      cases hb : Nat.beq n 0 with
      | true => rw [hb] at h; cases h
      | false =>
        rw [hb] at h; simp only [cond_false] at h
        have hn0 : n ≠ 0 := by rintro rfl; cases hb
        have hrun : ∀ blk off, (Instr.fieldAt s (.pointer (some ⟨blk, off, none⟩)) f).run P E.w = .ok (.pointer (some ⟨blk, off + fd.offset, none⟩)) E.w := by
          intro blk off
          simp [Instr.fieldAt, hT.run_und hs, hf, Instr.sureAddr, fieldPlace, hT.run_size hn, hn0, add_plain]
        cases p with
        | lp r g i j =>
          simp at h; subst h
          simp only [VR] at hu
          obtain ⟨blk, off, rfl, g', o, hr, hg, hu⟩ := hu
          refine ⟨_, hrun blk off, ?_⟩
          simp only [VR]
          refine ⟨blk, _, rfl, g', o, hr, hg, fun b hb => ?_⟩
          obtain ⟨h1, h2⟩ := hu b hb
          exact ⟨h1, by omega⟩
        | fp b cs =>
          simp at h; subst h
          simp only [VR] at hu
          obtain ⟨blk, off, us, rfl, h1, h2, h3, h4, h5⟩ := hu
          refine ⟨_, hrun blk off, ?_⟩
          simp only [VR]
          refine ⟨blk, _, us.drop fd.offset, rfl, VRl_drop h1 _, frozenL_sub h2 (fun x hx => List.mem_of_mem_drop hx), fun hb => noBL_sub (h3 hb) (fun x hx => List.mem_of_mem_drop hx), h4, fun j u hu => ?_⟩
          rw [List.getElem?_drop] at hu
          have := h5 _ _ hu
          rwa [show off + (fd.offset + j) = off + fd.offset + j by omega] at this
        | _ => simp at h
end

/-- An index in range. -/
def idxOf (p : PV) (n : Nat) : Option Nat :=
  match p with
  | .s (.int _ i) => bif decide (0 ≤ i) && decide (i < n) then some i.toNat else none
  | _ => none

theorem idxOf_VR {E : Env} {p : PV} {n i : Nat} {u : Value} (h : idxOf p n = some i) (hu : VR E p u) : ∃ k z, u = .int k z ∧ 0 ≤ z ∧ z < n ∧ z.toNat = i := by
  unfold idxOf at h
  split at h
  · rename_i k z
    simp only [VR] at hu
    cases hb : (decide (0 ≤ z) && decide (z < (n : Int))) with
    | false => rw [hb] at h; cases h
    | true =>
      rw [hb] at h; cases h
      simp only [Bool.and_eq_true, decide_eq_true_eq] at hb
      exact ⟨k, z, hu.1, hb.1, hb.2, rfl⟩
  · cases h

def popIndexAddr (T : Tbl) (bs : Bs) (t : TypeId) (x ix : PV) : Option PV :=
  match T.und t with
  | some (.slice e) => match T.size e with
    | none => none
    | some n => match x with
      | .vs b _ xs => match idxOf ix xs.length with
        | none => none
        | some i => match xs[i]? with
          | none => none
          | some p => bif Nat.beq p.cells.length n && !Nat.beq n 0 then some (.fp b p.cells) else none
      | .sl r g off len => match idxOf ix len with
        | none => none
        | some i => match bs.getg r g with
          | none => none
          | some b => bif Nat.beq b.esz n then some (.lp r g (off + i) 0) else none
      | .ts x g off len _ => match idxOf ix len with
        | none => none
        | some i => match bs.getg (.glob x) g with
          | none => none
          | some b => bif Nat.beq b.esz n then some (.lp (.glob x) g (off + i) 0) else none
      | _ => none
  | some (.array len e) => match T.size e with
    | none => none
    | some n => match idxOf ix len with
      | none => none
      | some i => match x with
        | .lp r g a j => some (.lp r g a (j + i * n))
        | .fp b cs => some (.fp b (cs.drop (i * n)))
        | _ => none
  | _ => none

section
variable {T : Tbl} {P : Program} (hT : T.Ok P) {E : Env}
include hT
theorem popIndexAddr_run {t : TypeId} {x ix pv : PV} {ux ui : Value} (hx : VR E x ux) (hi : VR E ix ui) (h : popIndexAddr T E.bs t x ix = some pv) :
    ∃ v, (Instr.indexAt t ux ui).run P E.w = .ok v E.w ∧ VR E pv v := by
  unfold popIndexAddr at h
  split at h
  · rename_i e hu
    split at h
    · cases h
    · rename_i n hn
      cases x <;> try (cases h; done)
      case vs b full xs =>
        simp only at h
        split at h
        · cases h
        · rename_i i hidx
          obtain ⟨k, z, rfl, hz0, hz1, rfl⟩ := idxOf_VR hidx hi
          split at h
          · cases h
          · rename_i p hp
            cases hb : (Nat.beq p.cells.length n && !Nat.beq n 0) with
            | false => rw [hb] at h; cases h
            | true =>
              rw [hb] at h; cases h
              simp only [Bool.and_eq_true, Bool.not_eq_true'] at hb
              have hpl : p.cells.length = n := Nat.eq_of_beq_eq_true hb.1
              simp only [VR] at hx
              obtain ⟨A, cap, ws, rfl, h1, h2, h3, h4, h5, h6⟩ := hx
              rcases h6 with ⟨rfl, _⟩ | ⟨blk, off, k', rfl, hfz, hk, hl⟩
              · simp at hp
              · obtain ⟨y, hy, hv⟩ := VRl_get h3 hp
                have hpf : frozen p = true := frozenL_mem.1 h4 p (List.mem_of_getElem? hp)
                have hc := cells_VR hv (frozen_ne hpf)
                have hyk : y.cells.size = k' := hl.1 y (List.mem_of_getElem? hy)
                have hkn : k' = n := by rw [← hyk, ← hpl]; simpa using VRl_length hc
                subst hkn
                refine ⟨.pointer (some ⟨blk, off + z.toNat * k', none⟩), ?_, ?_⟩
                · simp [Instr.indexAt, asIntOf, hT.run_und hu, hz0, hz1, hT.run_size hn, add_plain]
                · simp only [VR]
                  refine ⟨blk, _, y.cells.toList, rfl, hc, frozen_cells hpf, fun hb' => noB_cells (noBL_mem.1 (h5 hb') p (List.mem_of_getElem? hp)), hfz, fun j q hq => ?_⟩
                  have := hl.2 _ _ hy j q (by simpa using hq)
                  rwa [show off + (z.toNat * k' + j) = off + z.toNat * k' + j by omega] at this
      case sl r g off len =>
        simp only at h
        split at h
        · cases h
        · rename_i i hidx
          obtain ⟨k, z, rfl, hz0, hz1, rfl⟩ := idxOf_VR hidx hi
          split at h
          · cases h
          · rename_i b hb
            cases hbe : Nat.beq b.esz n with
            | false => rw [hbe] at h; cases h
            | true =>
              rw [hbe] at h; cases h
              have he : b.esz = n := Nat.eq_of_beq_eq_true hbe
              simp only [VR] at hx
              obtain ⟨A, cap, rfl, hlc, g', o, hr, hg, hx⟩ := hx
              obtain ⟨h1, h2, _, h3⟩ := hx b hb
              have hA := h3.1 (by omega)
              subst hA
              refine ⟨.pointer (some ⟨(E.mu r).1, (E.mu r).2 + off * b.esz + z.toNat * n, none⟩), ?_, ?_⟩
              · simp [Instr.indexAt, asIntOf, hT.run_und hu, hz0, hz1, hT.run_size hn, add_plain]
              · simp only [VR]
                refine ⟨_, _, rfl, g', o, hr, hg, fun b' hb' => ?_⟩
                rw [hb] at hb'; cases hb'
                refine ⟨rfl, ?_⟩
                rw [← he, Nat.add_mul]; omega
      case ts x g off len cp =>
        simp only at h
        split at h
        · cases h
        · rename_i i hidx
          obtain ⟨k, z, rfl, hz0, hz1, rfl⟩ := idxOf_VR hidx hi
          split at h
          · cases h
          · rename_i b hb
            cases hbe : Nat.beq b.esz n with
            | false => rw [hbe] at h; cases h
            | true =>
              rw [hbe] at h; cases h
              have he : b.esz = n := Nat.eq_of_beq_eq_true hbe
              simp only [VR] at hx
              obtain ⟨A, rfl, hlc, g', o, hr, hg, hx⟩ := hx
              obtain ⟨h1, _, h3⟩ := hx b hb
              have hA := h3.1 (by omega)
              subst hA
              refine ⟨.pointer (some ⟨(E.mu (.glob x)).1, (E.mu (.glob x)).2 + off * b.esz + z.toNat * n, none⟩), ?_, ?_⟩
              · simp [Instr.indexAt, asIntOf, hT.run_und hu, hz0, hz1, hT.run_size hn, add_plain]
              · simp only [VR]
                refine ⟨_, _, rfl, g', o, hr, hg, fun b' hb' => ?_⟩
                rw [hb] at hb'; cases hb'
                refine ⟨rfl, ?_⟩
                rw [← he, Nat.add_mul]; omega
  · rename_i len e hu
    split at h
    · cases h
    · rename_i n hn
      split at h
      · cases h
      · rename_i i hidx
        obtain ⟨k, z, rfl, hz0, hz1, rfl⟩ := idxOf_VR hidx hi
        have hrun : ∀ blk off, (Instr.indexAt t (.pointer (some ⟨blk, off, none⟩)) (.int k z)).run P E.w = .ok (.pointer (some ⟨blk, off + z.toNat * n, none⟩)) E.w := by
          intro blk off
          simp [Instr.indexAt, asIntOf, hT.run_und hu, hz0, hz1, hT.run_size hn, add_plain, Instr.sureAddr]
        cases x <;> try (cases h; done)
        case lp r g i j =>
          simp at h; subst h
          simp only [VR] at hx
          obtain ⟨blk, off, rfl, g', o, hr, hg, hx⟩ := hx
          refine ⟨_, hrun blk off, ?_⟩
          simp only [VR]
          refine ⟨blk, _, rfl, g', o, hr, hg, fun b hb => ?_⟩
          obtain ⟨h1, h2⟩ := hx b hb
          exact ⟨h1, by omega⟩
        case fp b cs =>
          simp at h; subst h
          simp only [VR] at hx
          obtain ⟨blk, off, us, rfl, h1, h2, h3, h4, h5⟩ := hx
          refine ⟨_, hrun blk off, ?_⟩
          simp only [VR]
          refine ⟨blk, _, us.drop (z.toNat * n), rfl, VRl_drop h1 _, frozenL_sub h2 (fun x hx => List.mem_of_mem_drop hx), fun hb => noBL_sub (h3 hb) (fun x hx => List.mem_of_mem_drop hx), h4, fun j u hu => ?_⟩
          rw [List.getElem?_drop] at hu
          have := h5 _ _ hu
          rwa [show off + (z.toNat * n + j) = off + z.toNat * n + j by omega] at this
  · cases h
end

/-- A bound of a slice expression: at most n. -/
def bndOf (p : PV) (n : Nat) : Option Nat :=
  match p with
  | .s (.int _ i) => bif decide (0 ≤ i) && decide (i ≤ n) then some i.toNat else none
  | _ => none

theorem bndOf_VR {E : Env} {p : PV} {n i : Nat} {u : Value} (h : bndOf p n = some i) (hu : VR E p u) : ∃ k z, u = .int k z ∧ 0 ≤ z ∧ z ≤ n ∧ z.toNat = i := by
  unfold bndOf at h
  split at h
  · rename_i k z
    simp only [VR] at hu
    cases hb : (decide (0 ≤ z) && decide (z ≤ (n : Int))) with
    | false => rw [hb] at h; cases h
    | true =>
      rw [hb] at h; cases h
      simp only [Bool.and_eq_true, decide_eq_true_eq] at hb
      exact ⟨k, z, hu.1, hb.1, hb.2, rfl⟩
  · cases h

theorem sliceBound_run {P : Program} {E : Env} {p : PV} {n y i : Nat} {u : Value} (code : BoundsCode) (h : bndOf p n = some i) (hu : VR E p u) (hy : n ≤ y) (w : World) :
    (Instr.sliceBound u y code).run P w = .ok i w ∧ i ≤ n := by
  obtain ⟨k, z, rfl, h0, h1, rfl⟩ := bndOf_VR h hu
  have : z ≤ (y : Int) := by omega
  simp [Instr.sliceBound, asIntOf, h0, this]
  omega

/-- The bounds lo, hi, max of a slice of known capacity c ('max' is c if none is named: what lies beyond is not known). -/
def bnds (len c : Nat) (lo hi mx : Option PV) : Option (Nat × Nat × Nat) :=
  match (match mx with | some m => bndOf m c | none => some c) with
  | none => none
  | some m => match (match hi with | some h => bndOf h m | none => match mx with | none => some len | some _ => none) with
    | none => none
    | some h => match (match lo with | some l => bndOf l h | none => some 0) with
      | none => none
      | some l => some (l, h, m)

inductive OVR (E : Env) : Option PV → Option Value → Prop
  | none : OVR E none none
  | some {p : PV} {v : Value} : VR E p v → OVR E (some p) (some v)

theorem bnds_run {P : Program} {E : Env} {isS : Bool} {len c cap l h m : Nat} {lo hi mx : Option PV} {ul uh um : Option Value} (hb : bnds len c lo hi mx = some (l, h, m))
    (h1 : OVR E lo ul) (h2 : OVR E hi uh) (h3 : OVR E mx um) (hlc : len ≤ c) (hc : c ≤ cap) (w : World) :
    ∃ m', (Instr.sliceBounds isS len cap ul uh um).run P w = .ok (l, h, m') w ∧ l ≤ h ∧ h ≤ m ∧ m ≤ c ∧ (mx.isSome = true → m' = m) ∧ (mx = none → m' = cap) := by
  unfold bnds at hb
  split at hb
  · cases hb
  · rename_i m0 hm0
    split at hb
    · cases hb
    · rename_i h0 hh0
      split at hb
      · cases hb
      · rename_i l0 hl0
        cases hb
        cases h3 with
        | none =>
          simp at hm0; subst hm0
          cases h2 with
          | none =>
            simp at hh0; subst hh0
            cases h1 with
            | none => simp at hl0; subst hl0; exact ⟨cap, by simp [Instr.sliceBounds], Nat.zero_le _, hlc, Nat.le_refl _, by simp, by simp⟩
            | some lv =>
              simp at hl0
              have hl := sliceBound_run (P := P) .sliceB hl0 lv (Nat.le_refl _) w
              exact ⟨cap, by simp [Instr.sliceBounds, hl.1], hl.2, hlc, Nat.le_refl _, by simp, by simp⟩
          | some hv =>
            simp at hh0
            have hh := sliceBound_run (P := P) (if isS then .sliceAcap else .sliceAlen) hh0 hv hc w
            cases h1 with
            | none => simp at hl0; subst hl0; exact ⟨cap, by simp [Instr.sliceBounds, hh.1], Nat.zero_le _, hh.2, Nat.le_refl _, by simp, by simp⟩
            | some lv =>
              simp at hl0
              have hl := sliceBound_run (P := P) .sliceB hl0 lv (Nat.le_refl _) w
              exact ⟨cap, by simp [Instr.sliceBounds, hh.1, hl.1], hl.2, hh.2, Nat.le_refl _, by simp, by simp⟩
        | some mv =>
          simp at hm0
          have hm := sliceBound_run (P := P) (y := cap) (if isS then .slice3Acap else .slice3Alen) hm0 mv hc w
          cases h2 with
          | none => simp at hh0
          | some hv =>
            simp at hh0
            have hh := sliceBound_run (P := P) (y := m) .slice3B hh0 hv (Nat.le_refl _) w
            cases h1 with
            | none => simp at hl0; subst hl0; exact ⟨m, by simp [Instr.sliceBounds, hm.1, hh.1], Nat.zero_le _, hh.2, hm.2, by simp, by simp⟩
            | some lv =>
              simp at hl0
              have hl := sliceBound_run (P := P) .slice3C hl0 lv (Nat.le_refl _) w
              exact ⟨m, by simp [Instr.sliceBounds, hm.1, hh.1, hl.1], hl.2, hh.2, hm.2, by simp, by simp⟩

/-- A slice expression over a slice. -/
def popSlice (T : Tbl) (bs : Bs) (t : TypeId) (x : PV) (lo hi mx : Option PV) : Option PV :=
  match T.und t with
  | some (.slice e) => match T.size e with
    | none => none
    | some n => match x with
      | .vs b full xs => match bnds xs.length xs.length lo hi mx with
        | none => none
        | some (l, h, m) =>
          bif Nat.blt l h then
            match xs[l]? with
            | none => none
            | some p => bif Nat.beq p.cells.length n then some (.vs b (bif mx.isSome then Nat.beq m h else full && Nat.beq h xs.length) ((xs.take h).drop l)) else none
          else some (.vs (b || !xs.isEmpty) (bif mx.isSome then Nat.beq m h else full && Nat.beq h xs.length) [])
      | .sl r g off len => match bs.getg r g with
        | none => none
        | some b => bif Nat.beq b.esz n && Nat.ble (off + len) b.len then
            match bnds len (b.len - off) lo hi mx with
            | none => none
            | some (l, h, m) =>
              bif mx.isSome && !Nat.beq m (b.len - off) then (bif Nat.beq m l then some (.vs true true []) else match r with
                | .glob x => some (.ts x g (off + l) (h - l) (m - l))
                | .loc _ _ => none)
              else some (.sl r g (off + l) (h - l))
          else none
      | .ts x g off len cp => bif mx.isSome then none else match bs.getg (.glob x) g with
        | none => none
        | some b => bif Nat.beq b.esz n && Nat.ble len cp then match bnds len cp lo hi none with
            | none => none
            | some (l, h, _) => some (.ts x g (off + l) (h - l) (cp - l))
          else none
      | _ => none
  | _ => none

theorem popSlice_run {T : Tbl} {P : Program} (hT : T.Ok P) {E : Env} {t : TypeId} {x pv : PV} {lo hi mx : Option PV} {ux : Value} {ul uh um : Option Value}
    (hx : VR E x ux) (h1 : OVR E lo ul) (h2 : OVR E hi uh) (h3 : OVR E mx um) (h : popSlice T E.bs t x lo hi mx = some pv) :
    ∃ v, (Instr.sliceAt t ux ul uh um).run P E.w = .ok v E.w ∧ VR E pv v := by
  unfold popSlice at h
  simp only [Blk.len_eq] at h
  split at h
  · rename_i e hu
    split at h
    · cases h
    · rename_i n hn
      cases x <;> try (cases h; done)
      case vs b full xs =>
        simp only at h
        split at h
        · cases h
        · rename_i l hh m hb
          simp only [VR] at hx
          obtain ⟨A, cap, ws, rfl, g1, g2, g3, g4, g5, g6⟩ := hx
          obtain ⟨m', hrun, r1, r2, r3, r4, r5⟩ := bnds_run (P := P) (isS := true) hb h1 h2 h3 (Nat.le_refl _) g1 E.w
          have hsl : (Instr.sliceAt t (.slice A xs.length cap) ul uh um).run P E.w = .ok (.slice (if m' = l then A else A.map (·.add (l * n))) (hh - l) (m' - l)) E.w := by
            simp [Instr.sliceAt, Instr.slice, hT.run_und hu, hrun, hT.run_size hn]
          have hm' : m ≤ m' := by
            cases h3 with
            | none => have := r5 rfl; omega
            | some _ => exact Nat.le_of_eq (r4 rfl).symm
          have hfull : (bif mx.isSome then Nat.beq m hh else full && Nat.beq hh xs.length) = true → m' - l = hh - l := by
            intro hf
            cases h3 with
            | none =>
              have := r5 rfl
              simp only [Option.isSome_none, cond_false, Bool.and_eq_true] at hf
              have a1 := g2 hf.1
              have a2 := Nat.eq_of_beq_eq_true hf.2
              omega
            | some _ =>
              have := r4 rfl
              simp only [Option.isSome_some, cond_true] at hf
              have a2 := Nat.eq_of_beq_eq_true hf
              omega
          refine ⟨_, hsl, ?_⟩
          cases hlt : Nat.blt l hh with
          | false =>
            rw [hlt] at h; simp only [cond_false] at h; cases h
            have hge : ¬ l < hh := by intro hc; have := Eq.mpr Nat.blt_eq hc; rw [hlt] at this; cases this
            have hz : hh - l = 0 := by omega
            rw [hz]
            simp only [VR]
            refine ⟨_, m' - l, [], rfl, by simp, fun hf => by have := hfull hf; simp; omega, by simp [VRl], by simp [frozenL], by simp [noBL], .inl ⟨trivial, fun hbb => ?_⟩⟩
            have hA : A.isSome = true := by
              rcases g6 with ⟨rfl, hA⟩ | ⟨blk, off, k, rfl, _⟩
              · exact hA (by simpa using hbb)
              · rfl
            split
            · exact hA
            · rw [Option.isSome_map]; exact hA
          | true =>
            rw [hlt] at h; simp only [cond_true] at h
            have hlt' : l < hh := Eq.mp Nat.blt_eq hlt
            split at h
            · cases h
            · rename_i p hp
              cases hbq : Nat.beq p.cells.length n with
              | false => rw [hbq] at h; cases h
              | true =>
                rw [hbq] at h; simp only [cond_true] at h; cases h
                have hpl : p.cells.length = n := Nat.eq_of_beq_eq_true hbq
                rcases g6 with ⟨rfl, _⟩ | ⟨blk, off, k, rfl, hfz, hk, hl⟩
                · simp at hp
                · obtain ⟨y, hy, hv⟩ := VRl_get g3 hp
                  have hpf : frozen p = true := frozenL_mem.1 g4 p (List.mem_of_getElem? hp)
                  have hc := cells_VR hv (frozen_ne hpf)
                  have hyk : y.cells.size = k := hl.1 y (List.mem_of_getElem? hy)
                  have hkn : k = n := by rw [← hyk, ← hpl]; simpa using VRl_length hc
                  subst hkn
                  have hml : ¬ m' = l := by omega
                  simp only [VR, if_neg hml]
                  have hsub : ∀ z ∈ (xs.take hh).drop l, z ∈ xs := fun z hz => List.mem_of_mem_take (List.mem_of_mem_drop hz)
                  have hlen : ((xs.take hh).drop l).length = hh - l := by simp; omega
                  refine ⟨some ⟨blk, off + l * k, none⟩, m' - l, (ws.take hh).drop l, by simp [add_plain, hlen], by rw [hlen]; omega, fun hf => by have := hfull hf; rw [hlen]; omega, VRl_drop (VRl_take g3 _) _, frozenL_sub g4 hsub, fun hb' => noBL_sub (g5 hb') hsub, .inr ⟨blk, off + l * k, k, rfl, hfz, hk, ⟨fun z hz => hl.1 z (List.mem_of_mem_take (List.mem_of_mem_drop hz)), fun i z hz j q hq => ?_⟩⟩⟩
                  rw [List.getElem?_drop, List.getElem?_take] at hz
                  split at hz
                  · have := hl.2 _ _ hz j q hq
                    rwa [show off + ((l + i) * k + j) = off + l * k + (i * k + j) by rw [Nat.add_mul]; omega] at this
                  · cases hz
      case sl r g off len =>
        simp only at h
        split at h
        · cases h
        · rename_i b hb
          cases hbe : (Nat.beq b.esz n && Nat.ble (off + len) b.elems.length) with
          | false => rw [hbe] at h; cases h
          | true =>
            rw [hbe] at h; simp only [cond_true] at h
            simp only [Bool.and_eq_true] at hbe
            have he : b.esz = n := Nat.eq_of_beq_eq_true hbe.1
            have hol := Nat.le_of_ble_eq_true hbe.2
            split at h
            · cases h
            · rename_i l hh m hbn
              simp only [VR] at hx
              obtain ⟨A, cap, rfl, hlc, g', o, hr, hg, hx⟩ := hx
              obtain ⟨g1, g2, g4, g3⟩ := hx b hb
              obtain ⟨m', hrun, r1, r2, r3, r4, r5⟩ := bnds_run (P := P) (isS := true) hbn h1 h2 h3 (by omega) g2 E.w
              have hsl : (Instr.sliceAt t (.slice A len cap) ul uh um).run P E.w = .ok (.slice (if m' = l then A else A.map (·.add (l * n))) (hh - l) (m' - l)) E.w := by
                simp [Instr.sliceAt, Instr.slice, hT.run_und hu, hrun, hT.run_size hn]
              refine ⟨_, hsl, ?_⟩
              cases hc : (mx.isSome && !Nat.beq m (b.elems.length - off)) with
              | true =>
                rw [hc] at h; simp only [cond_true] at h
                cases hm : Nat.beq m l with
                | false =>
                  rw [hm] at h; simp only [cond_false] at h
                  cases r with
                  | loc _ _ => cases h
                  | glob x =>
                  cases h
                  simp only [Bool.and_eq_true] at hc
                  have hm' := r4 hc.1
                  subst hm'
                  simp only [VR]
                  refine ⟨_, rfl, by omega, g', o, hr, hg, fun b' hb' => ?_⟩
                  rw [hb] at hb'; cases hb'
                  refine ⟨by omega, by omega, fun hpos => ?_, ?_⟩
                  · have hne : ¬ m' = l := by omega
                    rw [if_neg hne, g3.1 (by omega)]
                    simp [add_plain, he, Nat.add_mul]
                    omega
                  · split
                    · exact g3.2
                    · rw [Option.isSome_map]; exact g3.2
                | true =>
                  rw [hm] at h; cases h
                  have hm1 := Nat.eq_of_beq_eq_true hm
                  simp only [Bool.and_eq_true] at hc
                  have := r4 hc.1
                  have hz : hh - l = 0 := by omega
                  rw [hz]
                  simp only [VR]
                  refine ⟨_, m' - l, [], rfl, by simp, fun _ => by simp; omega, by simp [VRl], by simp [frozenL], by simp [noBL], .inl ⟨trivial, fun _ => ?_⟩⟩
                  split
                  · exact g3.2
                  · rw [Option.isSome_map]; exact g3.2
              | false =>
                rw [hc] at h; simp only [cond_false] at h; cases h
                have hm1 : b.elems.length - off ≤ m' := by
                  cases h3 with
                  | none => have := r5 rfl; omega
                  | some _ =>
                    have := r4 rfl
                    simp only [Option.isSome_some, Bool.true_and, Bool.not_eq_false'] at hc
                    have := Nat.eq_of_beq_eq_true hc
                    omega
                have hm2 : m' ≤ cap := by
                  cases h3 with
                  | none => have := r5 rfl; omega
                  | some _ => have := r4 rfl; omega
                simp only [VR]
                refine ⟨_, _, rfl, by omega, g', o, hr, hg, fun b' hb' => ?_⟩
                rw [hb] at hb'; cases hb'
                refine ⟨by omega, by omega, by omega, fun hpos => ?_, ?_⟩
                · have hml : ¬ m' = l := by omega
                  rw [if_neg hml, g3.1 (by omega)]
                  simp [add_plain, he, Nat.add_mul]
                  omega
                · split
                  · exact g3.2
                  · rw [Option.isSome_map]; exact g3.2
      case ts x g off len cp =>
        cases hmx : mx.isSome with
        | true => simp only [hmx, cond_true] at h; cases h
        | false =>
        have hmx' : mx = none := by cases mx <;> first | rfl | cases hmx
        subst hmx'
        simp only [hmx, cond_false] at h
        split at h
        · cases h
        · rename_i b hb
          cases hbe : (Nat.beq b.esz n && Nat.ble len cp) with
          | false => rw [hbe] at h; cases h
          | true =>
            rw [hbe] at h; simp only [cond_true] at h
            simp only [Bool.and_eq_true] at hbe
            have he : b.esz = n := Nat.eq_of_beq_eq_true hbe.1
            split at h
            · cases h
            · rename_i l hh m hbn
              cases h
              simp only [VR] at hx
              obtain ⟨A, rfl, hlc, g', o, hr, hg, hx⟩ := hx
              obtain ⟨g1, g4, g3⟩ := hx b hb
              obtain ⟨m', hrun, r1, r2, r3, r4, r5⟩ := bnds_run (P := P) (isS := true) hbn h1 h2 h3 hlc (Nat.le_refl _) E.w
              have hm' := r5 rfl
              subst hm'
              have hsl : (Instr.sliceAt t (.slice A len m') ul uh um).run P E.w = .ok (.slice (if m' = l then A else A.map (·.add (l * n))) (hh - l) (m' - l)) E.w := by
                simp [Instr.sliceAt, Instr.slice, hT.run_und hu, hrun, hT.run_size hn]
              refine ⟨_, hsl, ?_⟩
              simp only [VR]
              refine ⟨_, rfl, by omega, g', o, hr, hg, fun b' hb' => ?_⟩
              rw [hb] at hb'; cases hb'
              refine ⟨by omega, by omega, fun hpos => ?_, ?_⟩
              · have hml : ¬ m' = l := by omega
                rw [if_neg hml, g3.1 (by omega)]
                simp [add_plain, he, Nat.add_mul]
                omega
              · split
                · exact g3.2
                · rw [Option.isSome_map]; exact g3.2
  · cases h

end

end Go.Pm

/- PM: all operations that change no block, in one function. -/

namespace Go.Pm
noncomputable section

def partP (T : Tbl) (t : TypeId) (cs : List PV) (off : Nat) : Option PV :=
  match T.agg t with
  | none => none
  | some true => match T.size t with
    | none => none
    | some n => bif Nat.ble (off + n) cs.length then some (.agg ((cs.drop off).take n)) else none
  | some false => cs[off]?

theorem partP_run {T : Tbl} {P : Program} (hT : T.Ok P) {E : Env} {t : TypeId} {cs : List PV} {off : Nat} {us : List Value} {pv : PV} (hu : VRl E cs us) (h : partP T t cs off = some pv) :
    ∃ v, (part t us.toArray off).run P E.w = .ok v E.w ∧ VR E pv v := by
  unfold partP at h
  split at h
  · cases h
  · rename_i ha
    split at h
    · cases h
    · rename_i n hn
      cases hb : Nat.ble (off + n) cs.length with
      | false => rw [hb] at h; cases h
      | true =>
        rw [hb] at h; cases h
        refine ⟨.agg ((us.drop off).take n).toArray, ?_, ?_⟩
        · simp [part, hT.run_agg ha, hT.run_size hn, List.extract]
        · simp only [VR]
          exact ⟨_, rfl, VRl_take (VRl_drop hu _) _⟩
  · rename_i ha
    obtain ⟨u, hu', hv⟩ := VRl_get hu h
    exact ⟨u, by simp [part, hT.run_agg ha, hu'], hv⟩

def splice (cs : List PV) (off : Nat) (new : List PV) : List PV := cs.take off ++ new ++ cs.drop (off + new.length)

def pfill (place : Nat → Option (Nat × Nat)) (cs : List PV) : List (Nat × PV) → Option (List PV)
  | [] => some cs
  | (i, v) :: rest => match v with
    | .undef => none
    | v => match place i with
      | none => none
      | some (off, size) =>
        bif Nat.beq v.cells.length size && Nat.ble (off + size) cs.length then pfill place (splice cs off v.cells) rest else none

theorem setAll_toList (off : Nat) : ∀ (l : List Value) (k : Nat) (us : Array Value),
    ((l.zipIdx k).foldl (fun cs (c, j) => cs.setIfInBounds (off + j) c) us).size = us.size ∧
    ∀ i : Nat, ((l.zipIdx k).foldl (fun cs (c, j) => cs.setIfInBounds (off + j) c) us)[i]? =
      if off + k ≤ i ∧ i < off + k + l.length ∧ i < us.size then l[i - (off + k)]? else us[i]?
  | [], k, us => by
    refine ⟨rfl, fun i => ?_⟩
    rw [if_neg (by simp; omega)]
    rfl
  | x :: l, k, us => by
    obtain ⟨h1, h2⟩ := setAll_toList off l (k + 1) (us.setIfInBounds (off + k) x)
    refine ⟨by simpa using h1, fun i => ?_⟩
    simp only [List.zipIdx_cons, List.foldl_cons]
    rw [h2 i]
    simp only [Array.size_setIfInBounds, List.length_cons]
    by_cases hi : off + (k + 1) ≤ i ∧ i < off + (k + 1) + l.length ∧ i < us.size
    · rw [if_pos hi, if_pos (by omega)]
      rw [show i - (off + k) = (i - (off + (k + 1))) + 1 by omega]
      rfl
    · rw [if_neg hi]
      by_cases hk : i = off + k
      · subst hk
        by_cases hs : off + k < us.size
        · rw [if_pos ⟨Nat.le_refl _, by omega, hs⟩]
          simp [hs]
        · rw [if_neg (by omega)]
          rw [Array.getElem?_eq_none (by simp; omega), Array.getElem?_eq_none (by omega)]
      · rw [if_neg (by omega)]
        rw [Array.getElem?_setIfInBounds_ne (by omega)]

theorem foldl_zipIdx_toList (off : Nat) (new us : List Value) (h : off + new.length ≤ us.length) :
    (new.toArray.zipIdx.foldl (fun cs (c, j) => cs.setIfInBounds (off + j) c) us.toArray).toList = us.take off ++ new ++ us.drop (off + new.length) := by
  have e : new.toArray.zipIdx.foldl (fun cs (c, j) => cs.setIfInBounds (off + j) c) us.toArray = (new.zipIdx 0).foldl (fun cs (c, j) => cs.setIfInBounds (off + j) c) us.toArray := by
    rw [← Array.foldl_toList, Array.toList_zipIdx]
  rw [e]
  obtain ⟨h1, h2⟩ := setAll_toList off new 0 us.toArray
  apply List.ext_getElem?
  intro i
  rw [Array.getElem?_toList, h2 i]
  simp only [Nat.add_zero, List.size_toArray, List.getElem?_toArray]
  by_cases c1 : i < off
  · rw [if_neg (by omega), List.append_assoc, List.getElem?_append_left (by simp; omega), List.getElem?_take, if_pos c1]
  · by_cases c2 : i < off + new.length
    · rw [if_pos ⟨by omega, c2, by omega⟩, List.append_assoc, List.getElem?_append_right (by simp; omega), List.getElem?_append_left (by simp; omega)]
      congr 1
      simp
      omega
    · rw [if_neg (by omega), List.getElem?_append_right (by simp; omega), List.getElem?_drop]
      congr 1
      simp
      omega

theorem VRl_splice {E : Env} {cs new : List PV} {us nu : List Value} {off : Nat} (h : VRl E cs us) (hn : VRl E new nu) :
    VRl E (splice cs off new) (us.take off ++ nu ++ us.drop (off + nu.length)) := by
  unfold splice
  rw [VRl_length hn]
  exact VRl_append (VRl_append (VRl_take h _) hn) (VRl_drop h _)

theorem splice_length {cs new : List PV} {off : Nat} (h : off + new.length ≤ cs.length) : (splice cs off new).length = cs.length := by
  unfold splice; simp; omega

theorem pfill_run {E : Env} {place : Nat → Option (Nat × Nat)} : ∀ {ps : List (Nat × PV)} {vs : List (Nat × Value)} {cs cs' : List PV} {us : List Value},
    pfill place cs ps = some cs' → vs.length = ps.length → (∀ (k : Nat) p v, ps[k]? = some p → vs[k]? = some v → p.1 = v.1 ∧ VR E p.2 v.2) → VRl E cs us →
    ∃ us', Instr.fill place us.toArray vs = some us'.toArray ∧ VRl E cs' us'
  | [], vs, cs, cs', us, h, hl, _, hu => by
    simp at hl; subst hl
    simp only [pfill] at h; cases h
    exact ⟨us, rfl, hu⟩
  | (i, p) :: ps, vs, cs, cs', us, h, hl, hv, hu => by
    cases vs with
    | nil => simp at hl
    | cons v vs =>
      obtain ⟨i', v⟩ := v
      obtain ⟨e, hp⟩ := hv 0 (i, p) (i', v) rfl rfl
      simp only at e hp
      subst e
      have hpu : p ≠ .undef := by rintro rfl; simp [pfill] at h
      have h' : (match place i with
        | none => none
        | some (off, size) => bif Nat.beq p.cells.length size && Nat.ble (off + size) cs.length then pfill place (splice cs off p.cells) ps else none) = some cs' := by
        cases p <;> first | exact absurd rfl hpu | exact h
      split at h'
      · cases h'
      · rename_i off size hpl
        cases hb : (Nat.beq p.cells.length size && Nat.ble (off + size) cs.length) with
        | false => rw [hb] at h'; cases h'
        | true =>
          rw [hb] at h'; simp only [cond_true] at h'
          simp only [Bool.and_eq_true] at hb
          have e1 : p.cells.length = size := Nat.eq_of_beq_eq_true hb.1
          have e2 := Nat.le_of_ble_eq_true hb.2
          have hc := cells_VR hp hpu
          have e3 : v.cells.size = size := by rw [← e1]; simpa using VRl_length hc
          have e4 : us.length = cs.length := VRl_length hu
          obtain ⟨us', hf, hr⟩ := pfill_run (vs := vs) (us := us.take off ++ v.cells.toList ++ us.drop (off + v.cells.toList.length)) h' (by simpa using hl)
            (fun k p v hp hv' => hv (k + 1) p v (by simpa using hp) (by simpa using hv')) (VRl_splice hu hc)
          refine ⟨us', ?_, hr⟩
          simp only [Instr.fill, hpl]
          rw [if_neg (by simp [e3, e4]; omega)]
          rw [← hf]
          congr 1
          apply Array.toList_inj.1
          have := foldl_zipIdx_toList off v.cells.toList us (by simp; omega)
          simpa using this

def evParts (ev : Operand → PV) (ps : List (Nat × Operand)) : List (Nat × PV) := ps.map fun p => (p.1, ev p.2)

def structPlace (T : Tbl) (fs : Array Field) (i : Nat) : Option (Nat × Nat) :=
  match fs[i]? with
  | none => none
  | some f => match T.size f.type with
    | none => none
    | some n => some (f.offset, n)
def sizesKnown (T : Tbl) (fs : Array Field) : Bool := fs.toList.all fun f => (T.size f.type).isSome

def popBuild (T : Tbl) (t : TypeId) (ps : List (Nat × PV)) : Option PV :=
  match T.zero t with
  | none => none
  | some z => match ofVal z with
    | .agg cs => match T.und t with
      | some (.struct fs) => bif sizesKnown T fs then (pfill (structPlace T fs) cs ps).map .agg else none
      | some (.array _ e) => match T.size e with
        | none => none
        | some n => (pfill (fun i => some (i * n, n)) cs ps).map .agg
      | _ => none
    | _ => none

theorem mapM_places {T : Tbl} {P : Program} (hT : T.Ok P) (w : World) : ∀ (l : List Field), (l.all fun f => (T.size f.type).isSome) = true →
    ∃ qs : List (Nat × Nat), (l.mapM (fun f => do pure (f.offset, ← sizeOf f.type) : Field → Sem (Nat × Nat))).run P w = .ok qs w ∧
      qs.length = l.length ∧ ∀ (i : Nat) (f : Field), l[i]? = some f → ∃ n, T.size f.type = some n ∧ qs[i]? = some (f.offset, n)
  | [], _ => ⟨[], by simp, rfl, fun i f h => by simp at h⟩
  | f :: l, h => by
    simp only [List.all_cons, Bool.and_eq_true] at h
    obtain ⟨n, hn⟩ := Option.isSome_iff_exists.1 h.1
    obtain ⟨qs, h1, h2, h3⟩ := mapM_places hT w l h.2
    refine ⟨(f.offset, n) :: qs, ?_, by simp [h2], fun i g hg => ?_⟩
    · simp only [List.mapM_cons, Sem.run_bind, hT.run_size hn, Result.andThen_ok, Sem.run_pure]
      rw [h1]
      rfl
    cases i with
    | zero => simp at hg; subst hg; exact ⟨n, hn, rfl⟩
    | succ i => obtain ⟨m, hm, hq⟩ := h3 i g (by simpa using hg); exact ⟨m, hm, by simpa using hq⟩

theorem fill_congr {place place' : Nat → Option (Nat × Nat)} : ∀ {vs : List (Nat × Value)} {us us' : Array Value}, Instr.fill place us vs = some us' →
    (∀ i p, place i = some p → place' i = some p) → Instr.fill place' us vs = some us'
  | [], us, us', h, _ => h
  | (i, v) :: vs, us, us', h, hp => by
    simp only [Instr.fill] at h ⊢
    split at h
    · cases h
    · rename_i off size hpl
      rw [hp _ _ hpl]
      simp only
      split at h
      · cases h
      · rename_i hc
        rw [if_neg hc]
        exact fill_congr h hp

theorem popBuild_run {T : Tbl} {P : Program} (hT : T.Ok P) {E : Env} {t : TypeId} {ps : List (Nat × PV)} {vs : Array (Nat × Value)} {pv : PV} (h : popBuild T t ps = some pv)
    (hl : vs.size = ps.length) (hv : ∀ (k : Nat) p v, ps[k]? = some p → vs[k]? = some v → p.1 = v.1 ∧ VR E p.2 v.2) :
    ∃ v, (Instr.build t vs).run P E.w = .ok v E.w ∧ VR E pv v := by
  unfold popBuild at h
  split at h
  · cases h
  · rename_i z hz
    split at h
    · rename_i cs hcs
      have hzr := VR_ofVal E z
      rw [hcs] at hzr
      simp only [VR] at hzr
      obtain ⟨us, rfl, hus⟩ := hzr
      have hl' : vs.toList.length = ps.length := by simpa using hl
      have hv' : ∀ (k : Nat) p v, ps[k]? = some p → vs.toList[k]? = some v → p.1 = v.1 ∧ VR E p.2 v.2 := fun k p v hp hv'' => hv k p v hp (by simpa using hv'')
      split at h
      · rename_i fs hu
        cases hk : sizesKnown T fs with
        | false => rw [hk] at h; cases h
        | true =>
          rw [hk] at h; simp only [cond_true, Option.map_eq_some_iff] at h
          obtain ⟨cs', hf, rfl⟩ := h
          obtain ⟨us', hf', hr⟩ := pfill_run hf hl' hv' hus
          obtain ⟨qs, q1, q2, q3⟩ := mapM_places hT E.w fs.toList hk
          refine ⟨.agg us'.toArray, ?_, by simp only [VR]; exact ⟨us', rfl, hr⟩⟩
          have hm : (fs.mapM fun f => do pure (f.offset, ← sizeOf f.type) : Sem (Array (Nat × Nat))).run P E.w = .ok qs.toArray E.w := by
            rw [Array.mapM_eq_mapM_toList, Sem.run_map, q1]
            rfl
          have hfill := fill_congr (place' := (qs.toArray[·]?)) hf' (fun i p hp => by
            unfold structPlace at hp
            split at hp
            · cases hp
            · rename_i f hfi
              obtain ⟨n, hn, hq⟩ := q3 i f (by simpa using hfi)
              rw [hn] at hp; cases hp
              simpa using hq)
          simp only [Instr.build, Sem.run_bind, hT.run_zero hz, Result.andThen_ok, hT.run_und hu, hm, Value.cells, hfill, Sem.run_pure]
      · rename_i n e hu
        split at h
        · cases h
        · rename_i sz hsz
          simp only [Option.map_eq_some_iff] at h
          obtain ⟨cs', hf, rfl⟩ := h
          obtain ⟨us', hf', hr⟩ := pfill_run hf hl' hv' hus
          refine ⟨.agg us'.toArray, ?_, by simp only [VR]; exact ⟨us', rfl, hr⟩⟩
          simp only [Instr.build, Sem.run_bind, hT.run_zero hz, Result.andThen_ok, hT.run_und hu, hT.run_size hsz, Value.cells, hf', Sem.run_pure]
      · cases h
    · cases h

def popLen (T : Tbl) (t : TypeId) (x : PV) : Option PV :=
  match T.und t with
  | some .string => match x with
    | .s (.string s) => some (.s (goInt s.size))
    | _ => none
  | some (.slice _) => match x with
    | .vs _ _ xs => some (.s (goInt xs.length))
    | .sl _ _ _ len => some (.s (goInt len))
    | .ts _ _ _ len _ => some (.s (goInt len))
    | _ => none
  | some (.array n _) => some (.s (goInt n))
  | _ => none

theorem VR_goInt {E : Env} (n : Int) : VR E (.s (goInt n)) (goInt n) := by simp [VR, goInt, Value.oneCell']

theorem popLen_run {T : Tbl} {P : Program} (hT : T.Ok P) {E : Env} {t : TypeId} {ts : List TypeId} {x pv : PV} {u : Value} {us : List Value} {ty : TypeId} (hu : VR E x u) (h : popLen T t x = some pv) :
    ∃ v, (Builtin.len_ (t :: ts).toArray ty (u :: us).toArray).run P E.w = .ok v E.w ∧ VR E pv v := by
  unfold popLen at h
  split at h
  · rename_i ht
    split at h
    · cases h
      simp only [VR] at hu
      obtain ⟨rfl, _⟩ := hu
      exact ⟨_, by simp [Builtin.len_, hT.run_und ht], VR_goInt _⟩
    · cases h
  · rename_i e ht
    split at h
    · cases h
      simp only [VR] at hu
      obtain ⟨A, cap, ws, rfl, _⟩ := hu
      exact ⟨_, by simp [Builtin.len_, hT.run_und ht], VR_goInt _⟩
    · cases h
      simp only [VR] at hu
      obtain ⟨A, cap, rfl, _⟩ := hu
      exact ⟨_, by simp [Builtin.len_, hT.run_und ht], VR_goInt _⟩
    · cases h
      simp only [VR] at hu
      obtain ⟨A, rfl, _⟩ := hu
      exact ⟨_, by simp [Builtin.len_, hT.run_und ht], VR_goInt _⟩
    · cases h
  · rename_i n e ht
    cases h
    exact ⟨_, by simp [Builtin.len_, hT.run_und ht], VR_goInt _⟩
  · cases h

/-- Conversions of numbers and strings: the model's own arms. -/
def convD (us ud : TypeDesc) (x : Value) : Sem Value :=
  match us, ud, x with
  | _, .int k, .int _ n => Conv.intToInt k n
  | _, .float k, .int _ n => Conv.intToFloat k n
  | _, .int k, .float s b => Conv.floatToInt s b k
  | _, .float k, .float s b => Conv.floatToFloat s b k
  | _, .string, .string _ => pure x
  | _, _, _ => stuck ""

theorem convD_run {P : Program} {us ud : TypeDesc} {x r : Value} (h : pureRun P (convD us ud x) = some r) {src dst : TypeId} {w : World} (h1 : (underlying src).run P w = .ok us w) (h2 : (underlying dst).run P w = .ok ud w) :
    (convert src dst x).run P w = .ok r w := by
  have := pureRun_run _ h w
  unfold convD at this h
  unfold convert
  simp only [Sem.run_bind, h1, h2, Result.andThen_ok]
  split at this <;> first | exact this | (simp [stuck] at this)

def popConvert (T : Tbl) (P : Program) (src dst : TypeId) (x : PV) : Option PV :=
  match toVal x, T.und src, T.und dst with
  | some a, some us, some ud => (pureRun P (convD us ud a)).map ofVal
  | _, _, _ => none

/-- Certainly not nil. -/
def nonNil (bs : Bs) (d : TypeDesc) : PV → Bool
  | .vs b _ xs => (match d with | .slice _ => b || !xs.isEmpty | _ => false)
  | .sl r g _ _ => (match d with | .slice _ => (match bs.getg r g with | some _ => true | none => false) | _ => false)
  | .lp _ _ _ _ => (match d with | .pointer _ => true | _ => false)
  | .fp _ _ => (match d with | .pointer _ => true | _ => false)
  | .fn _ _ => (match d with | .func _ _ _ => true | _ => false)
  | .ifc _ _ => (match d with | .interface _ => true | _ => false)
  | _ => false

def isNilV (d : TypeDesc) : PV → Bool
  | .s (.slice none 0 0) => (match d with | .slice _ => true | _ => false)
  | .s (.pointer none) => (match d with | .pointer _ => true | _ => false)
  | .s .nilFunc => (match d with | .func _ _ _ => true | _ => false)
  | .s .nilIface => (match d with | .interface _ => true | _ => false)
  | _ => false

def nilCmp (T : Tbl) (bs : Bs) (op : BinOp) (t : TypeId) (x y : PV) : Option PV :=
  match T.und t with
  | none => none
  | some d => bif (nonNil bs d x && isNilV d y) || (nonNil bs d y && isNilV d x) then
      match op with
      | .eql => some (.s (.bool false))
      | .neq => some (.s (.bool true))
      | _ => none
    else none

/-- Below it, a number of its kind is itself. -/
def lim : IntKind → Nat
  | .i8 => 128
  | .i16 => 32768
  | .i32 => 2147483648
  | .i64 => 9223372036854775808
  | .u8 => 256
  | .u16 => 65536
  | .u32 => 4294967296
  | .u64 => 18446744073709551616

def finI (k : IntKind) (r : Nat) : Option Value := bif Nat.blt r (lim k) then some (.int k (.ofNat r)) else none

/-- Of two numbers that are not below 0, quickly. -/
def fastI (op : BinOp) (k : IntKind) (m n : Nat) : Option Value :=
  match op with
  | .add => finI k (Nat.add m n)
  | .sub => bif Nat.ble n m then finI k (Nat.sub m n) else none
  | .mul => finI k (Nat.mul m n)
  | .eql => some (.bool (Nat.beq m n))
  | .neq => some (.bool (!Nat.beq m n))
  | .lss => some (.bool (Nat.blt m n))
  | .leq => some (.bool (Nat.ble m n))
  | .gtr => some (.bool (Nat.blt n m))
  | .geq => some (.bool (Nat.ble n m))
  | _ => none

def fastB (op : BinOp) (x y : PV) : Option Value :=
  match x, y with
  | .s (.int k (.ofNat m)), .s (.int k' (.ofNat n)) => bif decide (k = k') then fastI op k m n else none
  | _, _ => none

theorem wrap_lim {k : IntKind} {r : Nat} (h : r < lim k) : k.wrap (r : Int) = r := by
  cases k <;> simp only [lim] at h <;> unfold IntKind.wrap <;> simp only [IntKind.signed, IntKind.bits] <;> simp <;> omega

theorem finI_run {k : IntKind} {r : Nat} {v : Value} (h : finI k r = some v) : v = .int k (k.wrap (r : Int)) := by
  unfold finI at h
  cases hb : Nat.blt r (lim k) with
  | false => rw [hb] at h; cases h
  | true =>
    rw [hb] at h; cases h
    rw [wrap_lim (Eq.mp Nat.blt_eq hb)]
    rfl

theorem blt_dec (m n : Nat) : Nat.blt m n = decide ((m : Int) < n) := by
  rw [Bool.eq_iff_iff, Nat.blt_eq, decide_eq_true_iff]
  exact Int.ofNat_lt.symm
theorem ble_dec (m n : Nat) : Nat.ble m n = decide ((m : Int) ≤ n) := by
  rw [Bool.eq_iff_iff, Nat.ble_eq, decide_eq_true_iff]
  exact Int.ofNat_le.symm
theorem beq_dec (m n : Nat) : Nat.beq m n = ((m : Int) == n) := by
  rw [Bool.eq_iff_iff, beq_iff_eq]
  constructor
  · intro h; rw [Nat.eq_of_beq_eq_true h]
  · intro h; rw [Int.ofNat_inj.1 h]; exact Nat.beq_refl _

theorem fastI_run {P : Program} {op : BinOp} {k : IntKind} {m n : Nat} {v : Value} (h : fastI op k m n = some v) (t : TypeId) (ox oy : Operand) (w : World) :
    (do eqGuard op t ox oy (.int k m) (.int k n); binOp op t (.int k m) (.int k n) : Sem Value).run P w = .ok v w := by
  cases op <;> simp only [fastI] at h <;> try (cases h; done)
  case add => rw [finI_run h]; simp [eqGuard, binOp, Op.intArith]
  case mul => rw [finI_run h]; simp [eqGuard, binOp, Op.intArith]
  case sub =>
    cases hb : Nat.ble n m with
    | false => rw [hb] at h; cases h
    | true =>
      rw [hb] at h
      have hle := Nat.le_of_ble_eq_true hb
      rw [finI_run h]
      have : ((Nat.sub m n : Nat) : Int) = (m : Int) - n := Int.ofNat_sub hle
      rw [this]
      simp [eqGuard, binOp, Op.intArith]
  case eql => cases h; rw [beq_dec]; simp [eqGuard, binOp, Op.intCmp]
  case neq => cases h; rw [beq_dec]; simp [eqGuard, binOp, Op.intCmp, bne]
  case lss => cases h; rw [blt_dec]; simp [eqGuard, binOp, Op.intCmp]
  case leq => cases h; rw [ble_dec]; simp [eqGuard, binOp, Op.intCmp]
  case gtr => cases h; rw [blt_dec]; simp [eqGuard, binOp, Op.intCmp]
  case geq => cases h; rw [ble_dec]; simp [eqGuard, binOp, Op.intCmp]

theorem fastB_run {P : Program} {E : Env} {op : BinOp} {x y : PV} {a b v : Value} (hx : VR E x a) (hy : VR E y b) (h : fastB op x y = some v) (t : TypeId) (ox oy : Operand) (w : World) :
    (do eqGuard op t ox oy a b; binOp op t a b : Sem Value).run P w = .ok v w ∧ v.oneCell' = true := by
  unfold fastB at h
  split at h
  · rename_i k m k' n
    cases hk : decide (k = k') with
    | false => rw [hk] at h; cases h
    | true =>
      rw [hk] at h
      simp only [decide_eq_true_eq] at hk
      subst hk
      simp only [VR] at hx hy
      obtain ⟨rfl, _⟩ := hx
      obtain ⟨rfl, _⟩ := hy
      refine ⟨fastI_run h t ox oy w, ?_⟩
      cases op <;> simp only [cond_true, fastI] at h <;> (try cases h) <;> (try rfl)
      case add => rw [finI_run h]; rfl
      case mul => rw [finI_run h]; rfl
      case sub =>
        cases hb : Nat.ble n m with
        | false => rw [hb] at h; cases h
        | true => rw [hb] at h; rw [finI_run h]; rfl
  · cases h

def popBin (T : Tbl) (P : Program) (bs : Bs) (op : BinOp) (t : TypeId) (ox oy : Operand) (x y : PV) : Option PV :=
  match fastB op x y with
  | some v => some (.s v)
  | none => match toVal x, toVal y with
    | some a, some b => (pureRun P (do eqGuard op t ox oy a b; binOp op t a b)).map ofVal
    | _, _ => nilCmp T bs op t x y

def OfOps (ev : Operand → PV) (o : Option Operand) : Option PV := o.map ev

/-- min, max and whatever else is of known values alone. -/
def toValL : List PV → Option (List Value)
  | [] => some []
  | x :: r => match toVal x with
    | none => none
    | some v => match toValL r with
      | none => none
      | some l => some (v :: l)

theorem toValL_VR {E : Env} : ∀ {ps : List PV} {us xs : List Value}, VRl E ps us → toValL ps = some xs → us = xs
  | [], us, xs, h, ht => by simp [VRl] at h; simp [toValL] at ht; subst ht; exact h
  | p :: ps, us, xs, h, ht => by
    simp only [VRl] at h
    obtain ⟨u, us', rfl, hp, h⟩ := h
    simp only [toValL] at ht
    split at ht
    · cases ht
    · rename_i v hv
      split at ht
      · cases ht
      · rename_i l hl
        cases ht
        rw [toVal_VR hp hv, toValL_VR h hl]

/-- A neutral operation: what it gives, of the blocks bs. -/
def popN (T : Tbl) (P : Program) (bs : Bs) (ev : Operand → PV) (op : Op) (ty : TypeId) : Option PV :=
  match op with
  | .move x => some (ev x)
  | .assign x => some (ev x)
  | .pick c a b => match ev c with
    | .s (.bool t) => some (bif t then ev a else ev b)
    | _ => none
  | .load t a => popLoad T bs t (ev a)
  | .fieldAddr s x f => popFieldAddr T s f (ev x)
  | .indexAddr t x ix => popIndexAddr T bs t (sv (ev x)) (ev ix)
  | .binOp op t x y _ => popBin T P bs op t x y (ev x) (ev y)
  | .unOp op _ x => match op, ev x with
    | .not, .s (.bool b) => some (.s (.bool (!b)))
    | op, x => match toVal x with
      | none => none
      | some a => (pureRun P (Op.unary op a)).map ofVal
  | .convert src dst x => popConvert T P src dst (ev x)
  | .nilCheck x => match ev x with
    | .lp r g i j => some (.lp r g i j)
    | .fp b cs => some (.fp b cs)
    | _ => none
  | .extract t ix => match ev t with
    | .tup cs => cs[ix]?
    | _ => none
  | .field xType x f => match T.field xType f with
    | none => none
    | some fd => match ev x with
      | .agg cs => partP T fd.type cs fd.offset
      | _ => none
  | .index xType x ix => match ev x with
    | .agg cs => match T.und xType with
      | some (.array len e) => match idxOf (ev ix) len, T.size e with
        | some i, some n => partP T e cs (i * n)
        | _, _ => none
      | _ => none
    | .s (.string s) => match T.und xType, toVal (ev ix) with
      | some .string, some i => (pureRun P (Instr.index xType (.string s) i)).map ofVal
      | _, _ => none
    | _ => none
  | .slice t x lo hi mx => match ev x with
    | .s (.string s) => match T.und t, toValL ((lo.map ev).toList), toValL ((hi.map ev).toList), mx with
      | some .string, some l, some h, none => (pureRun P (Instr.slice t (.string s) l.head? h.head? none)).map ofVal
      | _, _, _, _ => none
    | .s (.slice none 0 0) => match toValL ((lo.map ev).toList), toValL ((hi.map ev).toList), toValL ((mx.map ev).toList) with
      | some l, some h, some m => (pureRun P (Instr.sliceAt t (.slice none 0 0) l.head? h.head? m.head?)).map ofVal
      | _, _, _ => none
    | x => popSlice T bs t (sv x) (lo.map ev) (hi.map ev) (mx.map ev)
  | .build t ps => popBuild T t (evParts ev ps.toList)
  | .makeFunc (.func f) first caps => bif first.isEmpty then some (.fn (Nat.mul 2 f) (caps.toList.map ev)) else bif caps.isEmpty then some (.fn (Nat.succ (Nat.mul 2 f)) (first.toList.map ev)) else none
  | .call { callee := .builtin .len, args, argTypes } => match argTypes.toList, args.toList with
    | t :: _, x :: _ => popLen T t (sv (ev x))
    | _, _ => none
  | .call { callee := .builtin .min, args, .. } => match toValL (args.toList.map ev) with
    | none => none
    | some l => (pureRun P (Builtin.min_ #[] ty l.toArray)).map ofVal
  | .call { callee := .builtin .max, args, .. } => match toValL (args.toList.map ev) with
    | none => none
    | some l => (pureRun P (Builtin.max_ #[] ty l.toArray)).map ofVal
  | _ => none

end

end Go.Pm

/- PM: a neutral operation does in the model what PM says. -/

namespace Go.Pm
noncomputable section

theorem pure_case {P : Program} {E : Env} {s : Sem Value} {pv : PV} (h : (pureRun P s).map ofVal = some pv) : ∃ v, s.run P E.w = .ok v E.w ∧ VR E pv v := by
  simp only [Option.map_eq_some_iff] at h
  obtain ⟨r, hr, rfl⟩ := h
  exact ⟨r, pureRun_run _ hr _, VR_ofVal E r⟩

theorem VRl_map {E : Env} {ev : Operand → PV} {ρ : Operand → Value} (hev : ∀ x, VR E (ev x) (ρ x)) (l : List Operand) : VRl E (l.map ev) (l.map ρ) := by
  induction l with
  | nil => simp [VRl]
  | cons x l ih => simp only [List.map_cons]; rw [VRl_cons]; exact ⟨hev x, ih⟩

theorem OVR_map {E : Env} {ev : Operand → PV} {ρ : Operand → Value} (hev : ∀ x, VR E (ev x) (ρ x)) (o : Option Operand) : OVR E (o.map ev) (o.map ρ) := by
  cases o with
  | none => exact .none
  | some x => exact .some (hev x)

theorem nonNil_VR {E : Env} {d : TypeDesc} {p : PV} {v : Value} (h : nonNil E.bs d p = true) (hv : VR E p v) :
    (∃ e a l c, d = .slice e ∧ v = .slice (some a) l c) ∨ (∃ e a, d = .pointer e ∧ v = .pointer (some a)) ∨ (∃ x y z f a b, d = .func x y z ∧ v = .func f a b) ∨ (∃ ms t u, d = .interface ms ∧ v = .iface t u) := by
  unfold nonNil at h
  split at h <;> (try cases h; done) <;> (split at h <;> (try cases h; done)) <;> rename_i hd
  · simp only [VR] at hv
    obtain ⟨A, cap, ws, rfl, _, _, _, _, _, hx⟩ := hv
    rcases hx with ⟨rfl, hx⟩ | ⟨blk, off, k, rfl, _⟩
    · obtain ⟨a', rfl⟩ := Option.isSome_iff_exists.1 (hx (by simpa using h))
      exact .inl ⟨_, _, _, _, rfl, rfl⟩
    · exact .inl ⟨_, _, _, _, rfl, rfl⟩
  · split at h
    · rename_i b hb
      simp only [VR] at hv
      obtain ⟨A, cap, rfl, hlc, g', o, hr, hg, hu⟩ := hv
      obtain ⟨_, _, _, hA⟩ := hu b hb
      obtain ⟨a', rfl⟩ := Option.isSome_iff_exists.1 hA.2
      exact .inl ⟨_, _, _, _, rfl, rfl⟩
    · cases h
  · simp only [VR] at hv
    obtain ⟨blk, off, rfl, _⟩ := hv
    exact .inr (.inl ⟨_, _, rfl, rfl⟩)
  · simp only [VR] at hv
    obtain ⟨blk, off, us, rfl, _⟩ := hv
    exact .inr (.inl ⟨_, _, rfl, rfl⟩)
  · simp only [VR] at hv
    obtain ⟨cv, rfl, _⟩ := hv
    obtain ⟨f, a, b, e⟩ := fnV_eq _ cv
    rw [e]
    exact .inr (.inr (.inl ⟨_, _, _, _, _, _, rfl, rfl⟩))
  · simp only [VR] at hv
    obtain ⟨y, rfl, _⟩ := hv
    exact .inr (.inr (.inr ⟨_, _, _, rfl, rfl⟩))

theorem isNil_VR {E : Env} {d : TypeDesc} {p : PV} {v : Value} (h : isNilV d p = true) (hv : VR E p v) :
    (∃ e, d = .slice e ∧ v = .slice none 0 0) ∨ (∃ e, d = .pointer e ∧ v = .pointer none) ∨ (∃ x y z, d = .func x y z ∧ v = .nilFunc) ∨ (∃ ms, d = .interface ms ∧ v = .nilIface) := by
  unfold isNilV at h
  split at h <;> (try cases h; done) <;> (split at h <;> (try cases h; done)) <;> simp only [VR] at hv <;> simp [hv.1]

/-- One is nil and the other is not. -/
inductive OneNil : TypeDesc → Value → Value → Prop
  | slice (e a l c) : OneNil (.slice e) (.slice (some a) l c) (.slice none 0 0)
  | slice' (e a l c) : OneNil (.slice e) (.slice none 0 0) (.slice (some a) l c)
  | ptr (e a) : OneNil (.pointer e) (.pointer (some a)) (.pointer none)
  | ptr' (e a) : OneNil (.pointer e) (.pointer none) (.pointer (some a))
  | func (x y z f a b) : OneNil (.func x y z) (.func f a b) .nilFunc
  | func' (x y z f a b) : OneNil (.func x y z) .nilFunc (.func f a b)
  | ifc (ms t w) : OneNil (.interface ms) (.iface t w) .nilIface
  | ifc' (ms t w) : OneNil (.interface ms) .nilIface (.iface t w)

theorem oneNil_equal {T : Tbl} {P : Program} (hT : T.Ok P) {t : TypeId} {d : TypeDesc} (hd : T.und t = some d) {u v : Value} (h : OneNil d u v) (n : Nat) (w : World) : (Op.equalIn (n + 1) t u v).run P w = .ok false w := by
  cases h <;> simp [Op.equalIn, hT.run_und hd]

theorem oneNil_run {T : Tbl} {P : Program} (hT : T.Ok P) {t : TypeId} {d : TypeDesc} (hd : T.und t = some d) {u v : Value} (h : OneNil d u v) (ox oy : Operand) (w : World) :
    (do eqGuard .eql t ox oy u v; binOp .eql t u v : Sem Value).run P w = .ok (.bool false) w ∧ (do eqGuard .neq t ox oy u v; binOp .neq t u v : Sem Value).run P w = .ok (.bool true) w := by
  have key : (Op.equal t u v).run P w = .ok false w := oneNil_equal hT hd h 9999 w
  generalize hq : Op.equal t u v = q at key
  cases h <;> simp [eqGuard, binOp, hq, key]

theorem nilCmp_run {T : Tbl} {P : Program} (hT : T.Ok P) {E : Env} {op : BinOp} {t : TypeId} {ox oy : Operand} {x y pv : PV} {u v : Value} (hx : VR E x u) (hy : VR E y v) (h : nilCmp T E.bs op t x y = some pv) :
    ∃ r, (do eqGuard op t ox oy u v; binOp op t u v : Sem Value).run P E.w = .ok r E.w ∧ VR E pv r := by
  unfold nilCmp at h
  split at h
  · cases h
  · rename_i d hd
    cases hb : (nonNil E.bs d x && isNilV d y) || (nonNil E.bs d y && isNilV d x) with
    | false => rw [hb] at h; cases h
    | true =>
      rw [hb] at h
      simp only [cond_true] at h
      have hone : OneNil d u v := by
        simp only [Bool.or_eq_true, Bool.and_eq_true] at hb
        rcases hb with hb | hb
        · rcases nonNil_VR hb.1 hx with ⟨e, a, l, c, rfl, rfl⟩ | ⟨e, a, rfl, rfl⟩ | ⟨x, y, z, f, a, b, rfl, rfl⟩ | ⟨ms, t, w, rfl, rfl⟩ <;>
          rcases isNil_VR hb.2 hy with ⟨e', h1, rfl⟩ | ⟨e', h1, rfl⟩ | ⟨x', y', z', h1, rfl⟩ | ⟨ms', h1, rfl⟩ <;> first | (cases h1; done) | constructor
        · rcases nonNil_VR hb.1 hy with ⟨e, a, l, c, rfl, rfl⟩ | ⟨e, a, rfl, rfl⟩ | ⟨x, y, z, f, a, b, rfl, rfl⟩ | ⟨ms, t, w, rfl, rfl⟩ <;>
          rcases isNil_VR hb.2 hx with ⟨e', h1, rfl⟩ | ⟨e', h1, rfl⟩ | ⟨x', y', z', h1, rfl⟩ | ⟨ms', h1, rfl⟩ <;> first | (cases h1; done) | constructor
      obtain ⟨r1, r2⟩ := oneNil_run hT hd hone ox oy E.w
      cases op <;> simp only at h <;> (try cases h; done) <;> cases h
      · exact ⟨_, r1, by simp [VR, Value.oneCell']⟩
      · exact ⟨_, r2, by simp [VR, Value.oneCell']⟩

theorem heads {E : Env} {ev : Operand → PV} {ρ : Operand → Value} (hev : ∀ x, VR E (ev x) (ρ x)) {lo : Option Operand} {l : List Value} (hl : toValL ((lo.map ev).toList) = some l) : lo.map ρ = l.head? := by
  cases lo with
  | none => simp [toValL] at hl; subst hl; rfl
  | some y =>
    have := toValL_VR (ps := [ev y]) (us := [ρ y]) (E := E) (by rw [VRl_cons]; exact ⟨hev y, VRl_nil⟩) (by simpa using hl)
    subst this; rfl

theorem popN_run {T : Tbl} {P : Program} (hT : T.Ok P) {E : Env} (hR : Rel E) {ev : Operand → PV} {ρ : Operand → Value} (hev : ∀ x, VR E (ev x) (ρ x)) (o : Oper) {pv : PV}
    (h : popN T P E.bs ev o.op o.type = some pv) : ∃ v, (execOp ρ o).run P E.w = .ok (.value v) E.w ∧ VR E pv v := by
  obtain ⟨dst, op, ty, pos, after, guard⟩ := o
  simp only at h
  cases op <;> simp only [popN] at h <;> try (cases h; done)
  case move x => cases h; exact ⟨_, rfl, hev x⟩
  case assign x => cases h; exact ⟨_, rfl, hev x⟩
  case pick c a b =>
    split at h
    · rename_i t ht
      cases h
      have hc := hev c
      rw [ht] at hc
      simp only [VR] at hc
      refine ⟨if t then ρ a else ρ b, ?_, ?_⟩
      · simp [execOp, hc.1, asBool]
      · cases t
        · exact hev b
        · exact hev a
    · cases h
  case load t a =>
    obtain ⟨v, h1, h2⟩ := popLoad_run hT hR (hev a) h
    exact ⟨v, by simp [execOp, h1], h2⟩
  case fieldAddr s x f =>
    obtain ⟨v, h1, h2⟩ := popFieldAddr_run hT (hev x) h
    exact ⟨v, by simp [execOp, h1], h2⟩
  case indexAddr t x ix =>
    obtain ⟨v, h1, h2⟩ := popIndexAddr_run hT (VR_sv (hev x)) (hev ix) h
    exact ⟨v, by simp [execOp, h1], h2⟩
  case binOp op t x y yt =>
    unfold popBin at h
    split at h
    · rename_i v hv
      cases h
      obtain ⟨h1, h2⟩ := fastB_run (P := P) (hev x) (hev y) hv t x y E.w
      exact ⟨v, by simp only [execOp, Sem.run_bind] at h1 ⊢; rw [h1]; rfl, by simp [VR, h2]⟩
    · split at h
      · rename_i a b ha hb
        have e1 := toVal_VR (hev x) ha
        have e2 := toVal_VR (hev y) hb
        obtain ⟨v, h1, h2⟩ := pure_case (E := E) h
        exact ⟨v, by simp only [execOp, e1, e2, Sem.run_bind] at h1 ⊢; rw [h1]; rfl, h2⟩
      · obtain ⟨r, h1, h2⟩ := nilCmp_run (ox := x) (oy := y) hT (hev x) (hev y) h
        exact ⟨r, by simp only [execOp, Sem.run_bind] at h1 ⊢; rw [h1]; rfl, h2⟩
  case unOp op t x =>
    split at h
    · rename_i b hx
      cases h
      have hc := hev x
      rw [hx] at hc
      simp only [VR] at hc
      exact ⟨.bool (!b), by simp [execOp, hc.1, Op.unary], by simp [VR, Value.oneCell']⟩
    · split at h
      · cases h
      · rename_i a ha
        have e1 := toVal_VR (hev x) ha
        obtain ⟨v, h1, h2⟩ := pure_case (E := E) h
        exact ⟨v, by simp [execOp, e1, h1], h2⟩
  case convert src dst x =>
    unfold popConvert at h
    split at h
    · rename_i a us ud ha hs hd
      have e1 := toVal_VR (hev x) ha
      simp only [Option.map_eq_some_iff] at h
      obtain ⟨r, hr, rfl⟩ := h
      exact ⟨r, by simp [execOp, e1, convD_run hr (hT.run_und hs E.w) (hT.run_und hd E.w)], VR_ofVal E r⟩
    · cases h
  case nilCheck x =>
    split at h
    · rename_i r g i j hx
      cases h
      have hc := hev x
      rw [hx] at hc
      have hc' := hc
      simp only [VR] at hc'
      obtain ⟨blk, off, hv, _⟩ := hc'
      exact ⟨ρ x, by simp [execOp, hv], hc⟩
    · rename_i b cs hx
      cases h
      have hc := hev x
      rw [hx] at hc
      have hc' := hc
      simp only [VR] at hc'
      obtain ⟨blk, off, us, hv, _⟩ := hc'
      exact ⟨ρ x, by simp [execOp, hv], hc⟩
    · cases h
  case extract t ix =>
    split at h
    · rename_i cs hx
      have hc := hev t
      rw [hx] at hc
      simp only [VR] at hc
      obtain ⟨a, hv, hl⟩ := hc
      obtain ⟨u, hu, hr⟩ := VRl_get hl h
      exact ⟨u, by simp [execOp, hv, Instr.extract, hu], hr⟩
    · cases h
  case field xType x f =>
    split at h
    · cases h
    · rename_i fd hfd
      obtain ⟨fs, hs, hf⟩ := field_run hfd
      split at h
      · rename_i cs hx
        have hc := hev x
        rw [hx] at hc
        simp only [VR] at hc
        obtain ⟨a, hv, hl⟩ := hc
        obtain ⟨v, h1, h2⟩ := partP_run hT hl h
        exact ⟨v, by simp [execOp, hv, Instr.field, hT.run_und hs, hf, asAgg, h1], h2⟩
      · cases h
  case index xType x ix =>
    split at h
    · rename_i cs hx
      split at h
      · rename_i len e hu
        split at h
        · rename_i i n hi hn
          have hc := hev x
          rw [hx] at hc
          simp only [VR] at hc
          obtain ⟨a, hv, hl⟩ := hc
          obtain ⟨k, z, hz, hz0, hz1, rfl⟩ := idxOf_VR hi (hev ix)
          obtain ⟨v, h1, h2⟩ := partP_run hT hl h
          exact ⟨v, by simp [execOp, hv, hz, Instr.index, asIntOf, hT.run_und hu, hz0, hz1, hT.run_size hn, h1], h2⟩
        · cases h
      · cases h
    · rename_i s hx
      split at h
      · rename_i a hu ha
        have hc := hev x
        rw [hx] at hc
        simp only [VR] at hc
        have e2 := toVal_VR (hev ix) ha
        obtain ⟨v, h1, h2⟩ := pure_case (E := E) h
        exact ⟨v, by simp only [execOp, hc.1, e2, Sem.run_bind] at h1 ⊢; rw [h1]; rfl, h2⟩
      · cases h
    · cases h
  case slice t x lo hi mx =>
    split at h
    · rename_i s hx
      split at h
      · rename_i l hh ht hl hh'
        have hc := hev x
        rw [hx] at hc
        simp only [VR] at hc
        obtain ⟨v, h1, h2⟩ := pure_case (E := E) h
        have e1 : lo.map ρ = l.head? := by
          cases lo with
          | none => simp [toValL] at hl; subst hl; rfl
          | some y =>
            have := toValL_VR (ps := [ev y]) (us := [ρ y]) (E := E) (by rw [VRl_cons]; exact ⟨hev y, VRl_nil⟩) (by simpa using hl)
            subst this; rfl
        have e2 : hi.map ρ = hh.head? := by
          cases hi with
          | none => simp [toValL] at hh'; subst hh'; rfl
          | some y =>
            have := toValL_VR (ps := [ev y]) (us := [ρ y]) (E := E) (by rw [VRl_cons]; exact ⟨hev y, VRl_nil⟩) (by simpa using hh')
            subst this; rfl
        refine ⟨v, ?_, h2⟩
        simp only [execOp, hc.1, e1, e2, Instr.sliceAt, Sem.run_bind, hT.run_und ht, Result.andThen_ok, Option.map_none]
        rw [h1]
        rfl
      · cases h
    · rename_i hx
      split at h
      · rename_i l hh mm hl hh' hm'
        have hc := hev x
        rw [hx] at hc
        simp only [VR] at hc
        obtain ⟨v, h1, h2⟩ := pure_case (E := E) h
        refine ⟨v, ?_, h2⟩
        simp only [execOp, hc.1, heads hev hl, heads hev hh', heads hev hm', Sem.run_bind]
        rw [h1]
        rfl
      · cases h
    · obtain ⟨v, h1, h2⟩ := popSlice_run hT (VR_sv (hev x)) (OVR_map hev lo) (OVR_map hev hi) (OVR_map hev mx) h
      exact ⟨v, by simp [execOp, h1], h2⟩
  case build t ps =>
    obtain ⟨v, h1, h2⟩ := popBuild_run hT (vs := ps.map fun (i, x) => (i, ρ x)) h (by simp [evParts]) (fun k p v hp hv => by
      simp only [evParts, List.getElem?_map, Option.map_eq_some_iff] at hp
      obtain ⟨q, hq, rfl⟩ := hp
      simp only [Array.getElem?_map, Option.map_eq_some_iff] at hv
      obtain ⟨q', hq', rfl⟩ := hv
      simp only [Array.getElem?_toList] at hq
      rw [hq] at hq'; cases hq'
      exact ⟨rfl, hev _⟩)
    exact ⟨v, by simp only [execOp, Sem.run_bind, h1]; rfl, h2⟩
  case makeFunc fn first caps =>
    cases fn <;> simp only at h <;> try (cases h; done)
    rename_i f
    cases hf : first.isEmpty with
    | false =>
      rw [hf] at h; simp only [cond_false] at h
      cases hc : caps.isEmpty with
      | false => rw [hc] at h; cases h
      | true =>
        rw [hc] at h; cases h
        have : caps = #[] := by simpa using hc
        subst this
        refine ⟨.func (.func f) (first.map ρ) #[], by simp [execOp, Instr.makeFunc], ?_⟩
        simp only [VR]
        refine ⟨first.toList.map ρ, ?_, VRl_map hev _⟩
        rw [fnV_f (fnLt_odd f), fnId_odd]
        congr 1; apply Array.toList_inj.1; simp
    | true =>
      rw [hf] at h; cases h
      have : first = #[] := by simpa using hf
      subst this
      refine ⟨.func (.func f) #[] (caps.map ρ), by simp [execOp, Instr.makeFunc], ?_⟩
      simp only [VR]
      refine ⟨caps.toList.map ρ, ?_, VRl_map hev _⟩
      rw [fnV_t (fnLt_even f), fnId_even]
      congr 1; apply Array.toList_inj.1; simp
  case call c =>
    obtain ⟨callee, args, ats⟩ := c
    cases callee <;> (try simp only at h) <;> try (cases h; done)
    rename_i b
    cases b <;> (try simp only at h) <;> try (cases h; done)
    case len =>
      split at h
      · rename_i t ts x xs ht hx
        obtain ⟨v, h1, h2⟩ := popLen_run hT (ts := ts) (us := xs.map ρ) (ty := ty) (VR_sv (hev x)) h
        have e1 : ats = (t :: ts).toArray := by apply Array.toList_inj.1; simpa using ht
        have e2 : args.map ρ = (ρ x :: xs.map ρ).toArray := by apply Array.toList_inj.1; simp [hx]
        refine ⟨v, ?_, h2⟩
        simp only [execOp, resolve, e1, e2, invoke, builtin, Sem.run_bind, Sem.run_pure, Result.andThen_ok, h1]
      · cases h
    case min =>
      split at h
      · cases h
      · rename_i l hl
        obtain ⟨v, h1, h2⟩ := pure_case (E := E) h
        have e := toValL_VR (VRl_map hev args.toList) hl
        have e2 : args.map ρ = l.toArray := by apply Array.toList_inj.1; simpa using e
        refine ⟨v, ?_, h2⟩
        have h1' : (Builtin.min_ ats ty l.toArray).run P E.w = .ok v E.w := h1
        simp only [execOp, resolve, e2, invoke, builtin, Sem.run_bind, Sem.run_pure, Result.andThen_ok, h1']
    case max =>
      split at h
      · cases h
      · rename_i l hl
        obtain ⟨v, h1, h2⟩ := pure_case (E := E) h
        have e := toValL_VR (VRl_map hev args.toList) hl
        have e2 : args.map ρ = l.toArray := by apply Array.toList_inj.1; simpa using e
        refine ⟨v, ?_, h2⟩
        have h1' : (Builtin.max_ ats ty l.toArray).run P E.w = .ok v E.w := h1
        simp only [execOp, resolve, e2, invoke, builtin, Sem.run_bind, Sem.run_pure, Result.andThen_ok, h1']

end

end Go.Pm

/- PM: blocks made, written, ended. -/

namespace Go.Pm
noncomputable section

def locSet : List (Nat × Nat × Nat × Option Blk) → Nat → Nat → Nat × Option Blk → List (Nat × Nat × Nat × Option Blk)
  | [], t, k, e => [(t, k, e)]
  | (t', k', e') :: r, t, k, e => bif Nat.beq t' t && Nat.beq k' k then (t, k, e) :: r else (t', k', e') :: locSet r t k e

theorem beq2 {a b c d : Nat} : (Nat.beq a b && Nat.beq c d) = true ↔ a = b ∧ c = d := by
  rw [Bool.and_eq_true]
  exact ⟨fun h => ⟨Nat.eq_of_beq_eq_true h.1, Nat.eq_of_beq_eq_true h.2⟩, fun h => by rw [h.1, h.2]; simp⟩

theorem locGet_set_eq : ∀ (l : List (Nat × Nat × Nat × Option Blk)) (t k : Nat) (e : Nat × Option Blk), locGet (locSet l t k e) t k = some e
  | [], t, k, e => by simp [locSet, locGet]
  | (t', k', e') :: r, t, k, e => by
    simp only [locSet]
    cases hb : (Nat.beq t' t && Nat.beq k' k) with
    | true => simp [locGet]
    | false => simp only [cond_false, locGet, hb]; exact locGet_set_eq r t k e
theorem locGet_set_ne : ∀ (l : List (Nat × Nat × Nat × Option Blk)) (t k t2 k2 : Nat) (e : Nat × Option Blk), ¬ (t = t2 ∧ k = k2) → locGet (locSet l t k e) t2 k2 = locGet l t2 k2
  | [], t, k, t2, k2, e, h => by
    simp only [locSet, locGet]
    cases hb : (Nat.beq t t2 && Nat.beq k k2) with
    | true => exact absurd (beq2.1 hb) h
    | false => rfl
  | (t', k', e') :: r, t, k, t2, k2, e, h => by
    simp only [locSet]
    cases hb : (Nat.beq t' t && Nat.beq k' k) with
    | true =>
      obtain ⟨rfl, rfl⟩ := beq2.1 hb
      simp only [cond_true, locGet]
      cases hc : (Nat.beq t' t2 && Nat.beq k' k2) with
      | true => exact absurd (beq2.1 hc) h
      | false => rfl
    | false =>
      simp only [cond_false, locGet]
      cases hc : (Nat.beq t' t2 && Nat.beq k' k2) with
      | true => rfl
      | false => simp only [cond_false]; exact locGet_set_ne r t k t2 k2 e h

/-- The number that the next make of (t, k) has. -/
def Bs.gen (bs : Bs) (t k : Nat) : Nat :=
  match locGet bs.loc t k with
  | none => 0
  | some (g, _) => g + 1
def Bs.mk1 (bs : Bs) (t k : Nat) (b : Blk) : Bs := { bs with loc := locSet bs.loc t k (bs.gen t k, some b) }
def Bs.upd (bs : Bs) (r : BRef) (g : Nat) (b : Option Blk) : Bs :=
  match r with
  | .loc t k => { bs with loc := locSet bs.loc t k (g, b) }
  | .glob x => { bs with glob := bs.glob.set x (GE.of b) }

theorem Bs.ent_mk1 (bs : Bs) (t k : Nat) (b : Blk) : (bs.mk1 t k b).ent (.loc t k) = some (bs.gen t k, some b) := locGet_set_eq _ _ _ _
theorem Bs.ent_mk1_ne (bs : Bs) (t k : Nat) (b : Blk) {r : BRef} (h : r ≠ .loc t k) : (bs.mk1 t k b).ent r = bs.ent r := by
  cases r with
  | loc t2 k2 => exact locGet_set_ne _ _ _ _ _ _ (by rintro ⟨rfl, rfl⟩; exact h rfl)
  | glob g => rfl
theorem Bs.gen_lt {bs : Bs} {t k g : Nat} {o : Option Blk} (h : bs.ent (.loc t k) = some (g, o)) : g < bs.gen t k := by
  have : locGet bs.loc t k = some (g, o) := h
  simp [Bs.gen, this]
theorem Bs.ent_upd {bs : Bs} {r : BRef} {g : Nat} {o : Option Blk} (h : bs.ent r = some (g, o)) (b : Option Blk) : (bs.upd r g b).ent r = some (g, b) := by
  cases r with
  | loc t k => exact locGet_set_eq _ _ _ _
  | glob x =>
    simp only [Bs.ent, Option.map_eq_some_iff] at h
    obtain ⟨y, hy, e⟩ := h
    cases e
    have hx : x < bs.glob.length := GL.lt_of_get hy
    simp only [Bs.upd, Bs.ent]
    rw [GL.get_set_self hx, Option.map_some, GE.blk_of]
theorem Bs.ent_upd_ne {bs : Bs} {r r' : BRef} {g : Nat} (b : Option Blk) (hne : r' ≠ r) : (bs.upd r g b).ent r' = bs.ent r' := by
  cases r with
  | loc t k =>
    cases r' with
    | loc t2 k2 => exact locGet_set_ne _ _ _ _ _ _ (by rintro ⟨rfl, rfl⟩; exact hne rfl)
    | glob x => rfl
  | glob x =>
    cases r' with
    | loc t2 k2 => rfl
    | glob y =>
      simp only [Bs.upd, Bs.ent]
      rw [GL.get_set_ne (by rintro rfl; exact hne rfl)]

theorem Bs.mapAt_none {bs : Bs} {x g : Nat} {b : Blk} (h : bs.ent (.glob x) = some (g, some b)) : bs.mapAt x = none := by
  simp only [Bs.ent, Option.map_eq_some_iff, Prod.mk.injEq] at h
  obtain ⟨y, hy, _, e⟩ := h
  simp only [Bs.mapAt, hy, Option.bind_some]
  cases y <;> simp_all [GE.blk?, GE.map?]

theorem Bs.mapAt_upd {bs : Bs} {r : BRef} {g : Nat} {b : Blk} (hr : bs.ent r = some (g, some b)) (o : Option Blk) (x : Nat) : (bs.upd r g o).mapAt x = bs.mapAt x := by
  cases r with
  | loc t k => rfl
  | glob y =>
    by_cases e : y = x
    · subst e
      rw [Bs.mapAt_none hr]
      simp only [Bs.upd, Bs.mapAt]
      rcases Nat.lt_or_ge y bs.glob.length with h | h
      · rw [GL.get_set_self h, Option.bind_some, GE.map_of]
      · rw [GL.get_none (show (bs.glob.set y (GE.of o)).length ≤ y by rw [GL.set_length]; exact h)]; rfl
    · simp only [Bs.upd, Bs.mapAt]
      rw [GL.get_set_ne e]

/-- Maps that nobody touched lie as they lay. -/
theorem mps_keep {E E' : Env} (hR : Rel E) (hx : Ext E E') (h1 : ∀ x, E'.bs.mapAt x = E.bs.mapAt x)
    (h3 : ∀ x, (E.bs.mapAt x).isSome = true → E.Wr (E.mu (.glob x)).1 → ∀ es c, E.w.heap[(E.mu (.glob x)).1]? = some (.map es c) → E'.Wr (E.mu (.glob x)).1 ∧ E'.w.heap[(E.mu (.glob x)).1]? = some (.map es c)) :
    (∀ x l, E'.bs.mapAt x = some l → E'.Wr (E'.mu (.glob x)).1 ∧ ∃ es clock, E'.w.heap[(E'.mu (.glob x)).1]? = some (.map es clock) ∧ (es.size = l.length ∧ MapKept.Stamped es clock) ∧
      ∀ (i : Nat) k p, l[i]? = some (k, p) → noLoc p = true ∧ ∃ e, es[i]? = some e ∧ e.key = k ∧ VR E' p e.val) ∧
    (∀ x y, (E'.bs.mapAt x).isSome = true → (E'.bs.mapAt y).isSome = true → (E'.mu (.glob x)).1 = (E'.mu (.glob y)).1 → x = y) := by
  have hmu : ∀ x, (E.bs.mapAt x).isSome = true → E'.mu (.glob x) = E.mu (.glob x) := fun x h => (hx.maps x h).2
  constructor
  · intro x l hl
    rw [h1] at hl
    have hs : (E.bs.mapAt x).isSome = true := by rw [hl]; rfl
    obtain ⟨k1, es, c, k2, k3, k4⟩ := hR.mps x l hl
    obtain ⟨q1, q2⟩ := h3 x hs k1 es c k2
    rw [hmu x hs]
    refine ⟨q1, es, c, q2, k3, fun i k p hp => ?_⟩
    obtain ⟨z1, e, z2, z3, z4⟩ := k4 i k p hp
    exact ⟨z1, e, z2, z3, VR_ext hx z4⟩
  · intro x y hx' hy he
    rw [h1] at hx' hy
    rw [hmu x hx', hmu y hy] at he
    exact hR.minj x y hx' hy he

/-- The elements p lie in the cells from base on, each n long. -/
def RowsAt (E : Env) (n base : Nat) (elems : List PV) (us : Array Value) : Prop :=
  ∀ (i : Nat) p, elems[i]? = some p → p.cells.length = n ∧ ∀ (j : Nat) c, p.cells[j]? = some c → ∃ y, us[base + (i * n + j)]? = some y ∧ VR E c y

structure WLike (w w' : World) : Prop where
  os : w'.os = w.os
  tape : w'.tape = w.tape
  output : w'.output = w.output
  size : w.heap.size ≤ w'.heap.size

/-- A block is made: a new one, or one that only (t, k) named. -/
theorem mk_ext {E : Env} (hR : Rel E) {w' : World} (hw : WLike E.w w') {t k : Nat} {b : Blk} {blk base C : Nat}
    (hkeep : ∀ x, x < E.w.heap.size → x ≠ blk → w'.heap[x]? = E.w.heap[x]?)
    (hlt : 0 < C → blk < w'.heap.size)
    (hblk : E.w.heap.size ≤ blk ∨ (E.Wr blk ∧ (∀ r g b0, E.bs.ent r = some (g, some b0) → 0 < E.cap r → (E.mu r).1 = blk → r = .loc t k) ∧ ∃ c2 t2, E.w.heap[blk]? = some (.cells c2 t2 (0, 0))))
    (hlen : b.elems.length ≤ C)
    {cs : Array Value} {ty : TypeId} (hph : 0 < C → 0 < b.esz ∧ w'.heap[blk]? = some (.cells cs ty (0, 0)) ∧ base + C * b.esz ≤ cs.size)
    (hrows : RowsAt E b.esz base b.elems cs) :
    ∃ E' : Env, E'.w = w' ∧ E'.bs = E.bs.mk1 t k b ∧ E'.mu (.loc t k) = (blk, base) ∧ E'.cap (.loc t k) = C ∧ Ext E E' ∧ Rel E' := by
  let E' : Env := { w := w', bs := E.bs.mk1 t k b, mu := fun r => if r = .loc t k then (blk, base) else E.mu r, cap := fun r => if r = .loc t k then C else E.cap r, Wr := fun x => E.Wr x ∨ (0 < C ∧ x = blk), Lent := E.Lent }
  have hext : Ext E E' := by
    refine ⟨⟨hw.os, hw.tape, hw.output, hw.size, fun x hx hx' => ?_, fun x hx hx' => ?_, fun x => Iff.rfl, fun x hm => ⟨hm, show (if BRef.glob x = BRef.loc t k then (blk, base) else E.mu (.glob x)) = E.mu (.glob x) from if_neg (by simp)⟩⟩, fun r g o hr => ?_⟩
    · by_cases e : x = blk
      · subst e
        rcases hblk with h | h
        · omega
        · exact absurd h.1 hx'
      · exact hkeep x hx e
    · rcases hx' with h | ⟨_, rfl⟩
      · exact h
      · rcases hblk with h | h
        · omega
        · exact h.1
    · by_cases e : r = .loc t k
      · subst e
        have := Bs.gen_lt hr
        exact ⟨_, _, Bs.ent_mk1 _ _ _ _, by omega, fun h => by omega⟩
      · refine ⟨g, o, by show (E.bs.mk1 t k b).ent r = _; rw [Bs.ent_mk1_ne _ _ _ _ e]; exact hr, Nat.le_refl _, fun _ b' hb' => ⟨b', hb', rfl, rfl, ?_, ?_⟩⟩
        · show (if r = .loc t k then _ else _) = _; rw [if_neg e]
        · show (if r = .loc t k then _ else _) = _; rw [if_neg e]
  have hother : ∀ r g b0, E.bs.ent r = some (g, some b0) → r ≠ .loc t k → 0 < E.cap r → (E.mu r).1 ≠ blk ∧ w'.heap[(E.mu r).1]? = E.w.heap[(E.mu r).1]? := by
    intro r g b0 hr hne hc
    have hwr := (hR.phys r g b0 hr hc).2.1
    have hl := hR.lt _ hwr
    have hnb : (E.mu r).1 ≠ blk := by
      rintro e
      rcases hblk with h | h
      · omega
      · exact hne (h.2.1 r g b0 hr hc e)
    exact ⟨hnb, hkeep _ hl hnb⟩
  refine ⟨E', rfl, rfl, by simp [E'], by simp [E'], hext, ?_⟩
  have hentne : ∀ r, r ≠ .loc t k → E'.bs.ent r = E.bs.ent r := fun r e => Bs.ent_mk1_ne _ _ _ _ e
  have hmune : ∀ r, r ≠ .loc t k → E'.mu r = E.mu r := fun r e => if_neg e
  have hcapne : ∀ r, r ≠ .loc t k → E'.cap r = E.cap r := fun r e => if_neg e
  have hmu : E'.mu (.loc t k) = (blk, base) := if_pos rfl
  have hcap : E'.cap (.loc t k) = C := if_pos rfl
  have hent : E'.bs.ent (.loc t k) = some (E.bs.gen t k, some b) := Bs.ent_mk1 _ _ _ _
  constructor
  · intro r g b1 hr
    by_cases e : r = .loc t k
    · subst e; rw [hent] at hr; cases hr; rw [hcap]; exact hlen
    · rw [hentne r e] at hr; rw [hcapne r e]; exact hR.len r g b1 hr
  · intro r g b1 hr hc
    by_cases e : r = .loc t k
    · subst e; rw [hent] at hr; cases hr; rw [hcap] at hc; rw [hmu, hcap]
      obtain ⟨h1, h2, h3⟩ := hph hc
      exact ⟨h1, .inr ⟨hc, rfl⟩, cs, ty, h2, h3⟩
    · rw [hentne r e] at hr; rw [hcapne r e] at hc; rw [hmune r e, hcapne r e]
      obtain ⟨h1, h2, cs', ty', h3, h4⟩ := hR.phys r g b1 hr hc
      exact ⟨h1, .inl h2, cs', ty', by rw [← h3]; exact (hother r g b1 hr e hc).2, h4⟩
  · intro r g b1 hr i p hp
    by_cases e : r = .loc t k
    · subst e; rw [hent] at hr; cases hr; rw [hmu]
      obtain ⟨h1, h2⟩ := hrows i p hp
      have hi : i < b.elems.length := by
        rcases Nat.lt_or_ge i b.elems.length with h | h
        · exact h
        · rw [List.getElem?_eq_none h] at hp; cases hp
      obtain ⟨_, h4, _⟩ := hph (by omega)
      exact ⟨h1, fun j c hc => by
        obtain ⟨y, hy, hv⟩ := h2 j c hc
        exact ⟨cs, ty, y, h4, hy, VR_ext hext hv⟩⟩
    · rw [hentne r e] at hr; rw [hmune r e]
      obtain ⟨h1, h2⟩ := hR.own r g b1 hr i p hp
      have hi : i < b1.elems.length := by
        rcases Nat.lt_or_ge i b1.elems.length with h | h
        · exact h
        · rw [List.getElem?_eq_none h] at hp; cases hp
      have hl := hR.len r g b1 hr
      have ho := (hother r g b1 hr e (by omega)).2
      exact ⟨h1, fun j c hc => by
        obtain ⟨cs', ty', y, h3, hy, hv⟩ := h2 j c hc
        exact ⟨cs', ty', y, ho.trans h3, hy, VR_ext hext hv⟩⟩
  · intro r r' g g' b1 b2 hr hr' hc hc' he
    by_cases e : r = .loc t k
    · by_cases e' : r' = .loc t k
      · rw [e, e']
      · rw [e, hmu, hmune r' e'] at he
        rw [hentne r' e'] at hr'; rw [hcapne r' e'] at hc'
        exact absurd he.symm (hother r' g' b2 hr' e' hc').1
    · by_cases e' : r' = .loc t k
      · rw [e', hmu, hmune r e] at he
        rw [hentne r e] at hr; rw [hcapne r e] at hc
        exact absurd he (hother r g b1 hr e hc).1
      · rw [hmune r e, hmune r' e'] at he
        rw [hentne r e] at hr; rw [hcapne r e] at hc
        rw [hentne r' e'] at hr'; rw [hcapne r' e'] at hc'
        exact hR.inj r r' g g' b1 b2 hr hr' hc hc' he
  · intro x hx
    rcases hx with h | ⟨hc, rfl⟩
    · exact Nat.lt_of_lt_of_le (hR.lt x h) hw.size
    · exact hlt hc
  · intro x hx
    exact Nat.lt_of_lt_of_le (hR.llt x hx) hw.size
  · intro x hx hl
    rcases hx with h | ⟨hc, rfl⟩
    · exact hR.apart x h hl
    · rcases hblk with h | h
      · have := hR.llt x hl; omega
      · exact hR.apart x h.1 hl
  · intro r g b1 hr
    by_cases e : r = .loc t k
    · subst e; rfl
    · rw [hentne r e] at hr; exact hR.gl r g b1 hr
  · exact (mps_keep hR hext (fun x => rfl) fun x hm hwr es c hes => by
      have hl := hR.lt _ hwr
      have hnb : (E.mu (.glob x)).1 ≠ blk := by
        intro e
        rcases hblk with h | ⟨_, _, c2, t2, h⟩
        · omega
        · rw [e] at hes; rw [h] at hes; exact absurd (Option.some.inj hes) (by simp)
      exact ⟨.inl hwr, by show w'.heap[_]? = _; rw [hkeep _ hl hnb]; exact hes⟩).1
  · exact (mps_keep hR hext (fun x => rfl) fun x hm hwr es c hes => by
      have hl := hR.lt _ hwr
      have hnb : (E.mu (.glob x)).1 ≠ blk := by
        intro e
        rcases hblk with h | ⟨_, _, c2, t2, h⟩
        · omega
        · rw [e] at hes; rw [h] at hes; exact absurd (Option.some.inj hes) (by simp)
      exact ⟨.inl hwr, by show w'.heap[_]? = _; rw [hkeep _ hl hnb]; exact hes⟩).2

/-- A block's elements are written. -/
theorem upd_ext {E : Env} (hR : Rel E) {w' : World} (hw : WLike E.w w') {r : BRef} {g : Nat} {b b' : Blk} (hr : E.bs.ent r = some (g, some b))
    (hkeep : ∀ x, x ≠ (E.mu r).1 → w'.heap[x]? = E.w.heap[x]?) (hpos : 0 < E.cap r)
    (he : b'.esz = b.esz) (hl : b'.elems.length = b.elems.length)
    {cs : Array Value} {ty : TypeId} (hh : w'.heap[(E.mu r).1]? = some (.cells cs ty (0, 0))) (hsz : (E.mu r).2 + E.cap r * b.esz ≤ cs.size)
    (hrows : RowsAt E b.esz (E.mu r).2 b'.elems cs) (hgl : okG r b'.elems = true) :
    ∃ E' : Env, E'.w = w' ∧ E'.bs = E.bs.upd r g (some b') ∧ Ext E E' ∧ Rel E' := by
  let E' : Env := { E with w := w', bs := E.bs.upd r g (some b') }
  obtain ⟨p1, p2, csO, tyO, pO, _⟩ := hR.phys r g b hr hpos
  have hent : E'.bs.ent r = some (g, some b') := Bs.ent_upd hr _
  have hentne : ∀ r', r' ≠ r → E'.bs.ent r' = E.bs.ent r' := fun r' e => Bs.ent_upd_ne _ e
  have hext : Ext E E' := by
    refine ⟨⟨hw.os, hw.tape, hw.output, hw.size, fun x _ hx' => hkeep x (by rintro rfl; exact hx' p2), fun x _ h => h, fun x => Iff.rfl, fun x hm => ⟨by rw [Bs.mapAt_upd hr]; exact hm, rfl⟩⟩, fun r' g' o hr' => ?_⟩
    by_cases e : r' = r
    · subst e
      rw [hr] at hr'; cases hr'
      exact ⟨g, _, hent, Nat.le_refl _, fun _ b2 hb2 => ⟨b, rfl, by cases hb2; exact he, by cases hb2; exact hl, rfl, rfl⟩⟩
    · exact ⟨g', o, by rw [hentne r' e]; exact hr', Nat.le_refl _, fun _ b2 hb2 => ⟨b2, hb2, rfl, rfl, rfl, rfl⟩⟩
  refine ⟨E', rfl, rfl, hext, ?_⟩
  have hother : ∀ r' g' b0, E.bs.ent r' = some (g', some b0) → r' ≠ r → 0 < E.cap r' → w'.heap[(E.mu r').1]? = E.w.heap[(E.mu r').1]? :=
    fun r' g' b0 hr' hne hc => hkeep _ fun e => hne (hR.inj r' r g' g b0 b hr' hr hc hpos e)
  constructor
  · intro r' g' b1 hr'
    by_cases e : r' = r
    · subst e; rw [hent] at hr'; cases hr'; rw [hl]; exact hR.len _ _ _ hr
    · rw [hentne r' e] at hr'; exact hR.len r' g' b1 hr'
  · intro r' g' b1 hr' hc
    by_cases e : r' = r
    · subst e; rw [hent] at hr'; cases hr'
      exact ⟨by rw [he]; exact p1, p2, cs, ty, hh, by rw [he]; exact hsz⟩
    · rw [hentne r' e] at hr'
      obtain ⟨h1, h2, cs', ty', h3, h4⟩ := hR.phys r' g' b1 hr' hc
      exact ⟨h1, h2, cs', ty', (hother r' g' b1 hr' e hc).trans h3, h4⟩
  · intro r' g' b1 hr' i p hp
    by_cases e : r' = r
    · subst e; rw [hent] at hr'; cases hr'
      obtain ⟨h1, h2⟩ := hrows i p hp
      rw [he]
      exact ⟨h1, fun j c hc => by
        obtain ⟨y, hy, hv⟩ := h2 j c hc
        exact ⟨cs, ty, y, hh, hy, VR_ext hext hv⟩⟩
    · rw [hentne r' e] at hr'
      obtain ⟨h1, h2⟩ := hR.own r' g' b1 hr' i p hp
      have hi : i < b1.elems.length := by
        rcases Nat.lt_or_ge i b1.elems.length with h | h
        · exact h
        · rw [List.getElem?_eq_none h] at hp; cases hp
      have hl := hR.len r' g' b1 hr'
      have ho := hother r' g' b1 hr' e (by omega)
      exact ⟨h1, fun j c hc => by
        obtain ⟨cs', ty', y, h3, hy, hv⟩ := h2 j c hc
        exact ⟨cs', ty', y, ho.trans h3, hy, VR_ext hext hv⟩⟩
  · intro r1 r2 g1 g2 b1 b2 h1 h2 hc1 hc2 heq
    have f : ∀ q gq bq, E'.bs.ent q = some (gq, some bq) → ∃ gq' bq', E.bs.ent q = some (gq', some bq') := by
      intro q gq bq hq
      by_cases e : q = r
      · exact ⟨g, b, by rw [e]; exact hr⟩
      · exact ⟨gq, bq, by rw [← hentne q e]; exact hq⟩
    obtain ⟨g1', b1', h1'⟩ := f _ _ _ h1
    obtain ⟨g2', b2', h2'⟩ := f _ _ _ h2
    exact hR.inj r1 r2 _ _ _ _ h1' h2' hc1 hc2 heq
  · exact fun x hx => Nat.lt_of_lt_of_le (hR.lt x hx) hw.size
  · exact fun x hx => Nat.lt_of_lt_of_le (hR.llt x hx) hw.size
  · exact hR.apart
  · intro r' g' b1 hr'
    by_cases e : r' = r
    · subst e; rw [hent] at hr'; cases hr'; exact hgl
    · rw [hentne r' e] at hr'; exact hR.gl r' g' b1 hr'
  · exact (mps_keep hR hext (fun x => Bs.mapAt_upd hr _ x) fun x hm hwr es c hes => by
      have hnb : (E.mu (.glob x)).1 ≠ (E.mu r).1 := by
        intro e
        rw [e] at hes; rw [pO] at hes; exact absurd (Option.some.inj hes) (by simp)
      exact ⟨hwr, by show w'.heap[_]? = _; rw [hkeep _ hnb]; exact hes⟩).1
  · exact (mps_keep hR hext (fun x => Bs.mapAt_upd hr _ x) fun x hm hwr es c hes => by
      have hnb : (E.mu (.glob x)).1 ≠ (E.mu r).1 := by
        intro e
        rw [e] at hes; rw [pO] at hes; exact absurd (Option.some.inj hes) (by simp)
      exact ⟨hwr, by show w'.heap[_]? = _; rw [hkeep _ hnb]; exact hes⟩).2

/-- A block is ended. -/
theorem kill_ext {E : Env} (hR : Rel E) {r : BRef} {g : Nat} {o : Blk} (hr : E.bs.ent r = some (g, some o)) :
    ∃ E' : Env, E'.w = E.w ∧ E'.bs = E.bs.upd r g none ∧ E'.mu = E.mu ∧ E'.cap = E.cap ∧ E'.Wr = E.Wr ∧ E'.Lent = E.Lent ∧ Ext E E' ∧ Rel E' := by
  let E' : Env := { E with bs := E.bs.upd r g none }
  have hent : E'.bs.ent r = some (g, none) := Bs.ent_upd hr _
  have hentne : ∀ r', r' ≠ r → E'.bs.ent r' = E.bs.ent r' := fun r' e => Bs.ent_upd_ne _ e
  have hext : Ext E E' := by
    refine ⟨⟨rfl, rfl, rfl, Nat.le_refl _, fun x _ _ => rfl, fun x _ h => h, fun x => Iff.rfl, fun x hm => ⟨by rw [Bs.mapAt_upd hr]; exact hm, rfl⟩⟩, fun r' g' o' hr' => ?_⟩
    by_cases e : r' = r
    · subst e
      rw [hr] at hr'; cases hr'
      exact ⟨g, _, hent, Nat.le_refl _, fun _ b2 hb2 => by cases hb2⟩
    · exact ⟨g', o', by rw [hentne r' e]; exact hr', Nat.le_refl _, fun _ b2 hb2 => ⟨b2, hb2, rfl, rfl, rfl, rfl⟩⟩
  have f : ∀ q gq bq, E'.bs.ent q = some (gq, some bq) → E.bs.ent q = some (gq, some bq) := by
    intro q gq bq hq
    by_cases e : q = r
    · rw [e, hent] at hq; cases hq
    · rw [← hentne q e]; exact hq
  refine ⟨E', rfl, rfl, rfl, rfl, rfl, rfl, hext, ?_⟩
  constructor
  · exact fun r' g' b1 h => hR.len _ _ _ (f _ _ _ h)
  · exact fun r' g' b1 h => hR.phys _ _ _ (f _ _ _ h)
  · intro r' g' b1 h i p hp
    obtain ⟨h1, h2⟩ := hR.own _ _ _ (f _ _ _ h) i p hp
    exact ⟨h1, fun j c hc => by
      obtain ⟨cs', ty', y, h3, hy, hv⟩ := h2 j c hc
      exact ⟨cs', ty', y, h3, hy, VR_ext hext hv⟩⟩
  · exact fun r1 r2 g1 g2 b1 b2 h1 h2 => hR.inj r1 r2 _ _ _ _ (f _ _ _ h1) (f _ _ _ h2)
  · exact hR.lt
  · exact hR.llt
  · exact hR.apart
  · exact fun r' g' b1 h => hR.gl _ _ _ (f _ _ _ h)
  · exact (mps_keep hR hext (fun x => Bs.mapAt_upd hr _ x) fun x hm hwr es c hes => ⟨hwr, hes⟩).1
  · exact (mps_keep hR hext (fun x => Bs.mapAt_upd hr _ x) fun x hm hwr es c hes => ⟨hwr, hes⟩).2

/-- The world goes on, no block is turned (a draw). -/
theorem draw_ext {E : Env} (hR : Rel E) {w' : World} (hos : w'.os = E.w.os) (ht : w'.tape = E.w.tape) (ho : w'.output = E.w.output) (hh : w'.heap = E.w.heap) :
    ∃ E' : Env, E'.w = w' ∧ E'.bs = E.bs ∧ E'.mu = E.mu ∧ E'.cap = E.cap ∧ E'.Wr = E.Wr ∧ E'.Lent = E.Lent ∧ Ext E E' ∧ Rel E' := by
  let E' : Env := { E with w := w' }
  have hext : Ext E E' := ⟨⟨hos, ht, ho, by rw [hh]; exact Nat.le_refl _, fun x _ _ => by show w'.heap[x]? = _; rw [hh], fun x _ h => h, fun x => Iff.rfl, fun x hm => ⟨hm, rfl⟩⟩,
    fun r g o hr => ⟨g, o, hr, Nat.le_refl _, fun _ b2 hb2 => ⟨b2, hb2, rfl, rfl, rfl, rfl⟩⟩⟩
  refine ⟨E', rfl, rfl, rfl, rfl, rfl, rfl, hext, ?_⟩
  constructor
  · exact hR.len
  · intro r g b h hc
    obtain ⟨h1, h2, cs, ty, h3, h4⟩ := hR.phys r g b h hc
    exact ⟨h1, h2, cs, ty, by show w'.heap[_]? = _; rw [hh]; exact h3, h4⟩
  · intro r g b h i p hp
    obtain ⟨h1, h2⟩ := hR.own r g b h i p hp
    exact ⟨h1, fun j c hc => by
      obtain ⟨cs', ty', y, h3, hy, hv⟩ := h2 j c hc
      exact ⟨cs', ty', y, by show w'.heap[_]? = _; rw [hh]; exact h3, hy, VR_ext hext hv⟩⟩
  · exact hR.inj
  · intro x hx; show x < w'.heap.size; rw [hh]; exact hR.lt x hx
  · intro x hx; show x < w'.heap.size; rw [hh]; exact hR.llt x hx
  · exact hR.apart
  · exact hR.gl
  · exact (mps_keep hR hext (fun x => rfl) fun x hm hwr es c hes => ⟨hwr, by show w'.heap[_]? = _; rw [hh]; exact hes⟩).1
  · exact (mps_keep hR hext (fun x => rfl) fun x hm hwr es c hes => ⟨hwr, by show w'.heap[_]? = _; rw [hh]; exact hes⟩).2

end

end Go.Pm

/- PM: the operations that make or write blocks: alloc, box, store, make, literals. -/

namespace Go.Pm
noncomputable section

theorem lt_len {α : Type} {l : List α} {i : Nat} {x : α} (h : l[i]? = some x) : i < l.length := by
  rcases Nat.lt_or_ge i l.length with h' | h'
  · exact h'
  · rw [List.getElem?_eq_none h'] at h; cases h

theorem row_ne {n i i' j j' : Nat} (hj : j < n) (hj' : j' < n) (h : i ≠ i') : i * n + j ≠ i' * n + j' := by
  intro e
  rcases Nat.lt_or_gt_of_ne h with h1 | h1
  · have : (i + 1) * n ≤ i' * n := Nat.mul_le_mul_right n h1
    rw [Nat.add_mul] at this; omega
  · have : (i' + 1) * n ≤ i * n := Nat.mul_le_mul_right n h1
    rw [Nat.add_mul] at this; omega

theorem row_lt {n i j m : Nat} (hj : j < n) (h : i < m) : i * n + j < m * n := by
  have : (i + 1) * n ≤ m * n := Nat.mul_le_mul_right n h
  rw [Nat.add_mul] at this; omega

/-- The cells that lie behind stores. -/
def Stored (cs cs' : Array Value) (o : Nat) (vs : List Value) : Prop :=
  cs'.size = cs.size ∧ ∀ x : Nat, cs'[x]? = if o ≤ x ∧ x < o + vs.length then vs[x - o]? else cs[x]?

theorem setCells_heap (b : Nat) (fz : Nat × Nat) (ty : TypeId) : ∀ (vs : List Value) (o : Nat) (w : World) (cs : Array Value), w.heap[b]? = some (.cells cs ty fz) → o + vs.length ≤ cs.size →
    ∃ cs', (w.setCells b o vs).heap[b]? = some (.cells cs' ty fz) ∧ Stored cs cs' o vs ∧ WLike w (w.setCells b o vs) ∧ (∀ x, x ≠ b → (w.setCells b o vs).heap[x]? = w.heap[x]?)
  | [], o, w, cs, h, _ => ⟨cs, h, ⟨rfl, fun x => by rw [if_neg (by simp only [List.length_nil]; omega)]⟩, ⟨rfl, rfl, rfl, Nat.le_refl _⟩, fun _ _ => rfl⟩
  | v :: vs, o, w, cs, h, hl => by
    have h1 : (w.setCell ⟨b, o, none⟩ v).heap[b]? = some (.cells (cs.setIfInBounds o v) ty fz) := by
      simp only [World.setCell, Array.getElem?_modify, h]
      simp
    simp only [List.length_cons] at hl
    obtain ⟨cs', g1, g2, g3, g4⟩ := setCells_heap b fz ty vs (o + 1) (w.setCell ⟨b, o, none⟩ v) _ h1 (by simp; omega)
    refine ⟨cs', g1, ⟨by rw [g2.1]; simp, fun x => ?_⟩, ⟨g3.os, g3.tape, g3.output, ?_⟩, fun x hx => ?_⟩
    · rw [g2.2 x]
      by_cases hx : o + 1 ≤ x ∧ x < o + 1 + vs.length
      · rw [if_pos hx, if_pos (by simp; omega), show x - o = (x - (o + 1)) + 1 by omega]
        rfl
      · rw [if_neg hx]
        by_cases hxo : x = o
        · subst hxo
          rw [if_pos (by simp)]
          simp [show x < cs.size by omega]
        · rw [if_neg (by simp; omega), Array.getElem?_setIfInBounds_ne (by omega)]
    · have := g3.size
      simp only [World.setCell, Array.size_modify] at this
      exact this
    · rw [World.setCells, g4 x hx]
      simp only [World.setCell, Array.getElem?_modify]
      rw [if_neg (by omega)]

theorem storeCells_run {P : Program} {w : World} {b o : Nat} {cs : Array Value} {ty : TypeId} (h : w.heap[b]? = some (.cells cs ty (0, 0))) {vs : List Value} (hl : o + vs.length ≤ cs.size)
    (h1 : ∀ v ∈ vs, v.oneCell' = true) :
    ∃ w' cs', (storeCells ⟨b, o, none⟩ vs).run P w = .ok () w' ∧ w'.heap[b]? = some (.cells cs' ty (0, 0)) ∧ Stored cs cs' o vs ∧ WLike w w' ∧ (∀ x, x ≠ b → w'.heap[x]? = w.heap[x]?) := by
  obtain ⟨cs', g1, g2, g3, g4⟩ := setCells_heap b (0, 0) ty vs o w cs h hl
  refine ⟨w.setCells b o vs, cs', ?_, g1, g2, g3, g4⟩
  have := run_storeCells_cells (P := P) b o vs 0 w (fun j hj => by
    simp only [World.cell?, h]
    simp
    omega) (fun j hj => by simp [World.frozen?, h]) h1
  simpa using this

def isCell : PV → Bool
  | .agg _ => false
  | .tup _ => false
  | .undef => false
  | _ => true

theorem isCell_VR {E : Env} {p : PV} {v : Value} (h : isCell p = true) (hv : VR E p v) : v.oneCell' = true := by
  cases p <;> simp [isCell] at h <;> simp only [VR] at hv
  case s x => rw [hv.1]; exact hv.2
  case vs => obtain ⟨_, _, _, rfl, _⟩ := hv; rfl
  case fp => obtain ⟨_, _, _, rfl, _⟩ := hv; rfl
  case lp => obtain ⟨_, _, rfl, _⟩ := hv; rfl
  case sl => obtain ⟨_, _, rfl, _⟩ := hv; rfl
  case fn => obtain ⟨_, rfl, _⟩ := hv; exact fnV_one _ _
  case ifc => obtain ⟨_, rfl, _⟩ := hv; rfl
  case mp => obtain ⟨rfl, _⟩ := hv; rfl
  case ts => obtain ⟨_, rfl, _⟩ := hv; rfl

theorem isCell_cells {p : PV} (h : isCell p = true) : p.cells = [p] := by
  cases p <;> simp [isCell] at h <;> rfl

theorem allCells_VR {E : Env} : ∀ {ps : List PV} {us : List Value}, ps.all isCell = true → VRl E ps us → ∀ v ∈ us, v.oneCell' = true
  | [], us, _, h, v, hv => by simp [VRl] at h; subst h; cases hv
  | p :: ps, us, ha, h, v, hv => by
    simp only [VRl] at h
    obtain ⟨u, us', rfl, hp, h⟩ := h
    simp only [List.all_cons, Bool.and_eq_true] at ha
    rcases List.mem_cons.1 hv with rfl | hv
    · exact isCell_VR ha.1 hp
    · exact allCells_VR ha.2 h v hv

def rebuild (e : PV) (cs : List PV) : PV :=
  match e with
  | .agg _ => .agg cs
  | _ => match cs with
    | [c] => c
    | _ => .undef

theorem rebuild_cells {e : PV} {cs : List PV} (hl : cs.length = e.cells.length) (hc : cs.all isCell = true ∨ ∃ l, e = .agg l) : (rebuild e cs).cells = cs := by
  cases e
  case agg l => rfl
  all_goals
    simp only [PV.cells, List.length_singleton] at hl
    match cs, hl with
    | [c], _ =>
      rcases hc with hc | ⟨l, h⟩
      · simp only [List.all_cons, List.all_nil, Bool.and_true] at hc
        exact isCell_cells hc
      · cases h

def popStore (T : Tbl) (bs : Bs) (t : TypeId) (a v : PV) : Option Bs :=
  match a with
  | .lp r g i j => match bs.getg r g with
    | none => none
    | some b => match b.get i with
      | none => none
      | some e => match T.size t with
        | none => none
        | some n =>
          bif Nat.beq v.cells.length n && Nat.ble (j + n) e.cells.length && v.cells.all isCell && !Nat.beq n 0 && okG r v.cells then
            some (bs.upd r g (some (b.over i [rebuild e (splice e.cells j v.cells)])))
          else none
  | _ => none

theorem popStore_run {T : Tbl} {P : Program} (hT : T.Ok P) {E : Env} (hR : Rel E) {t : TypeId} {a v : PV} {ua uv : Value} {bs' : Bs} (ha : VR E a ua) (hv : VR E v uv)
    (h : popStore T E.bs t a v = some bs') :
    ∃ E' : Env, (Instr.storeAt t ua uv).run P E.w = .ok () E'.w ∧ E'.bs = bs' ∧ Ext E E' ∧ Rel E' := by
  unfold popStore at h
  split at h
  · rename_i r g i j
    split at h
    · cases h
    · rename_i b hb
      split at h
      · cases h
      · rename_i e he
        rw [Blk.get_eq] at he
        split at h
        · cases h
        · rename_i n hn
          cases hc : (Nat.beq v.cells.length n && Nat.ble (j + n) e.cells.length && v.cells.all isCell && !Nat.beq n 0 && okG r v.cells) with
          | false => rw [hc] at h; cases h
          | true =>
            rw [hc] at h; cases h
            simp only [Bool.and_eq_true, Bool.not_eq_true'] at hc
            obtain ⟨⟨⟨⟨c1, c2⟩, c3⟩, c4⟩, c5⟩ := hc
            have hn0 : n ≠ 0 := by rintro rfl; cases c4
            have e1 : v.cells.length = n := Nat.eq_of_beq_eq_true c1
            have e2 : j + n ≤ e.cells.length := Nat.le_of_ble_eq_true c2
            have hvu : v ≠ .undef := by rintro rfl; simp [PV.cells, isCell] at c3
            have hent := Bs.getg_ent.1 hb
            simp only [VR] at ha
            obtain ⟨blk, off, rfl, _, _, _, _, ha⟩ := ha
            obtain ⟨rfl, rfl⟩ := ha b hb
            have hcv := cells_VR hv hvu
            have hlv : uv.cells.toList.length = n := by rw [← e1]; exact VRl_length hcv
            obtain ⟨el, _⟩ := hR.own r g b hent i e he
            have hi := lt_len he
            have hlen := hR.len r g b hent
            obtain ⟨p1, p2, cs, ty, p3, p4⟩ := hR.phys r g b hent (by omega)
            have hrow : i * b.esz + (j + n) ≤ E.cap r * b.esz := by
              have : (i + 1) * b.esz ≤ E.cap r * b.esz := Nat.mul_le_mul_right _ (by omega)
              rw [Nat.add_mul] at this; omega
            obtain ⟨w', cs', s1, s2, s3, s4, s5⟩ := storeCells_run (P := P) (o := (E.mu r).2 + (i * b.esz + j)) p3 (vs := uv.cells.toList) (by omega) (allCells_VR c3 hcv)
            have hnl : (splice e.cells j v.cells).length = e.cells.length := splice_length (by omega)
            have hreb : (rebuild e (splice e.cells j v.cells)).cells = splice e.cells j v.cells := by
              refine rebuild_cells hnl ?_
              by_cases hag : ∃ l, e = .agg l
              · exact .inr hag
              · left
                have hec : e.cells = [e] := by
                  cases e <;> first | rfl | exact absurd ⟨_, rfl⟩ hag
                rw [hec] at e2 ⊢
                simp only [List.length_singleton] at e2
                have hj : j = 0 := by omega
                have hn1 : n = 1 := by omega
                subst hj
                have : splice [e] 0 v.cells = v.cells := by simp [splice, e1, hn1]
                rw [this]
                exact c3
            have hov : (b.over i [rebuild e (splice e.cells j v.cells)]).elems = b.elems.set i (rebuild e (splice e.cells j v.cells)) := Blk.over1 _ _ _ (lt_len he)
            obtain ⟨E', q1, q2, q3, q4⟩ := upd_ext hR (w' := w') s4 (b' := b.over i [rebuild e (splice e.cells j v.cells)]) hent s5 (by omega) rfl (by rw [hov]; simp) s2 (by rw [s3.1]; exact p4)
              (by
                rw [hov]
                intro i' p hp
                rw [List.getElem?_set] at hp
                split at hp
                · rename_i hii
                  subst hii
                  cases hp
                  rw [hreb]
                  refine ⟨by rw [hnl, el], fun q c hq => ?_⟩
                  have hql := lt_len hq
                  rw [hnl, el] at hql
                  rw [s3.2]
                  by_cases hin : j ≤ q ∧ q < j + n
                  · rw [if_pos (by omega)]
                    have hvq : v.cells[q - j]? = some c := by
                      rw [← hq]
                      simp only [splice]
                      rw [List.append_assoc, List.getElem?_append_right (by simp; omega), List.getElem?_append_left (by simp; omega)]
                      congr 1
                      simp
                      omega
                    obtain ⟨y, hy, hr⟩ := VRl_get hcv hvq
                    refine ⟨y, ?_, hr⟩
                    rw [← hy]
                    congr 1
                    omega
                  · rw [if_neg (by omega)]
                    have heq : e.cells[q]? = some c := by
                      rw [← hq]
                      simp only [splice]
                      by_cases hqj : q < j
                      · rw [List.append_assoc, List.getElem?_append_left (by simp; omega), List.getElem?_take, if_pos hqj]
                      · rw [List.getElem?_append_right (by simp; omega), List.getElem?_drop]
                        congr 1
                        simp
                        omega
                    obtain ⟨_, ho⟩ := hR.own r g b hent i e he
                    obtain ⟨cs0, ty0, y, h1, h2, h3⟩ := ho q c heq
                    rw [p3] at h1; cases h1
                    exact ⟨y, h2, h3⟩
                · rename_i hii
                  obtain ⟨pl, ho⟩ := hR.own r g b hent i' p hp
                  refine ⟨pl, fun q c hq => ?_⟩
                  obtain ⟨cs0, ty0, y, h1, h2, h3⟩ := ho q c hq
                  rw [p3] at h1; cases h1
                  have hql := lt_len hq
                  rw [pl] at hql
                  refine ⟨y, ?_, h3⟩
                  rw [s3.2, if_neg]
                  · exact h2
                  · intro hin
                    have hx : i' * b.esz + q = i * b.esz + (i' * b.esz + q - i * b.esz) := by omega
                    exact row_ne (n := b.esz) (i := i') (i' := i) (j := q) (j' := i' * b.esz + q - i * b.esz) hql (by omega) (Ne.symm hii) hx)
              (by
                rw [hov]
                have hg0 := hR.gl r g b hent
                cases r with
                | loc t k => rfl
                | glob x =>
                  simp only [okG] at c5 hg0 ⊢
                  refine noLocL_mem.2 fun p hp => ?_
                  rcases List.mem_or_eq_of_mem_set hp with hp | rfl
                  · exact noLocL_mem.1 hg0 p hp
                  · refine noLoc_cells ?_
                    rw [hreb]
                    refine noLocL_mem.2 fun c hcm => ?_
                    have hce := noLoc_cells' (noLocL_mem.1 hg0 e (List.mem_of_getElem? he))
                    simp only [splice, List.mem_append] at hcm
                    rcases hcm with (hcm | hcm) | hcm
                    · exact noLocL_mem.1 hce c (List.mem_of_mem_take hcm)
                    · exact noLocL_mem.1 c5 c hcm
                    · exact noLocL_mem.1 hce c (List.mem_of_mem_drop hcm))
            refine ⟨E', ?_, q2, q3, q4⟩
            rw [q1]
            have hsz : uv.cells.size = n := by simpa using hlv
            simp [Instr.storeAt, Instr.sureAddr, storeVar, hT.run_size hn, hsz, s1]
  · cases h

end

end Go.Pm

/- PM: new blocks: alloc, box, make, literals. -/

namespace Go.Pm
noncomputable section

theorem getg_mk1 (bs : Bs) (t k : Nat) (b : Blk) : (bs.mk1 t k b).getg (.loc t k) (bs.gen t k) = some b := Bs.getg_ent.2 (Bs.ent_mk1 _ _ _ _)

theorem VR_lp_new {E E' : Env} {t k : Nat} {b : Blk} {blk base : Nat} (hb : E'.bs = E.bs.mk1 t k b) (hm : E'.mu (.loc t k) = (blk, base)) (i j : Nat) :
    VR E' (.lp (.loc t k) (E.bs.gen t k) i j) (.pointer (some ⟨blk, base + (i * b.esz + j), none⟩)) := by
  simp only [VR]
  refine ⟨_, _, rfl, E.bs.gen t k, some b, by rw [hb]; exact Bs.ent_mk1 _ _ _ _, Nat.le_refl _, fun b' hb' => ?_⟩
  rw [hb, getg_mk1] at hb'
  cases hb'
  rw [hm]
  exact ⟨rfl, rfl⟩

theorem VR_sl_new {E E' : Env} {t k : Nat} {b : Blk} {blk base C : Nat} (hb : E'.bs = E.bs.mk1 t k b) (hm : E'.mu (.loc t k) = (blk, base)) (hc : E'.cap (.loc t k) = C)
    {len : Nat} (h1 : len ≤ b.elems.length) (h2 : b.elems.length ≤ C) :
    VR E' (.sl (.loc t k) (E.bs.gen t k) 0 len) (.slice (some ⟨blk, base, none⟩) len C) := by
  simp only [VR]
  refine ⟨_, C, rfl, by omega, E.bs.gen t k, some b, by rw [hb]; exact Bs.ent_mk1 _ _ _ _, Nat.le_refl _, fun b' hb' => ?_⟩
  rw [hb, getg_mk1] at hb'
  cases hb'
  rw [hm, hc]
  exact ⟨by omega, by omega, by omega, fun _ => by simp, rfl⟩

/-- The world with a row more. -/
def pushed (w : World) (cells : Array Value) (ty : TypeId) : World := { w with heap := w.heap.push (.cells cells ty) }

theorem newRow_ext {P : Program} {E : Env} (hR : Rel E) (ty : TypeId) (t k : Nat) {n C : Nat} {elems : List PV} {cells : Array Value} (hn : 0 < n) (hl : elems.length ≤ C)
    (hsz : C * n ≤ cells.size) (hrows : RowsAt E n 0 elems cells) (b : Blk) (hbz : b.esz = n) (hbe : b.elems = elems) :
    (newRow ty cells).run P E.w = .ok ⟨E.w.heap.size, 0, none⟩ (pushed E.w cells ty) ∧
    ∃ E' : Env, E'.w = pushed E.w cells ty ∧ E'.bs = E.bs.mk1 t k b ∧ E'.mu (.loc t k) = (E.w.heap.size, 0) ∧ E'.cap (.loc t k) = C ∧ Ext E E' ∧ Rel E' := by
  refine ⟨by simp [newRow, pushed], ?_⟩
  subst hbz hbe
  refine mk_ext hR (w' := pushed E.w cells ty) (b := b) ⟨rfl, rfl, rfl, by simp [pushed]⟩ (fun x hx hx' => ?_) (fun _ => by simp [pushed]) (.inl (Nat.le_refl _)) hl (cs := cells) (ty := ty)
    (fun _ => ⟨hn, by show (E.w.heap.push _)[E.w.heap.size]? = _; rw [Array.getElem?_push, if_pos rfl], by simpa using hsz⟩) hrows
  simp only [pushed, Array.getElem?_push]
  rw [if_neg (by omega)]

theorem RowsAt_one {E : Env} {pv : PV} {v : Value} (h : VR E pv v) (hu : pv ≠ .undef) : RowsAt E pv.cells.length 0 [pv] v.cells := by
  intro i p hp
  cases i with
  | zero =>
    simp at hp; subst hp
    refine ⟨rfl, fun j c hc => ?_⟩
    obtain ⟨y, hy, hv⟩ := VRl_get (cells_VR h hu) hc
    exact ⟨y, by simpa using hy, hv⟩
  | succ i => simp at hp

/-- A variable that holds v. -/
def popBox (bs : Bs) (d : Nat) (v : PV) : Option (PV × Bs) :=
  match v with
  | .undef => none
  | v => bif Nat.beq v.cells.length 0 then none else some (.lp (.loc d 0) (bs.gen d 0) 0 0, bs.mk1 d 0 (.ofL v.cells.length [v]))

theorem popBox_run {P : Program} {E : Env} (hR : Rel E) (ty : TypeId) (d : Nat) {pv pv' : PV} {v : Value} {bs' : Bs} (hv : VR E pv v) (h : popBox E.bs d pv = some (pv', bs')) :
    ∃ (E' : Env) (u : Value), (do pure (.pointer (some (← newVar ty v))) : Sem Value).run P E.w = .ok u E'.w ∧ E'.bs = bs' ∧ VR E' pv' u ∧ Ext E E' ∧ Rel E' := by
  have hu : pv ≠ .undef := by rintro rfl; simp [popBox] at h
  have h' : (bif Nat.beq pv.cells.length 0 then none else some (PV.lp (.loc d 0) (E.bs.gen d 0) 0 0, E.bs.mk1 d 0 (.ofL pv.cells.length [pv]))) = some (pv', bs') := by
    cases pv <;> first | exact absurd rfl hu | exact h
  cases hb : Nat.beq pv.cells.length 0 with
  | true => rw [hb] at h'; cases h'
  | false =>
    rw [hb] at h'; cases h'
    have hn : 0 < pv.cells.length := by
      rcases Nat.eq_zero_or_pos pv.cells.length with e | e
      · rw [e] at hb; cases hb
      · exact e
    have hl : v.cells.size = pv.cells.length := by simpa using VRl_length (cells_VR hv hu)
    obtain ⟨h1, E', e1, e2, e3, e4, e5, e6⟩ := newRow_ext (P := P) hR ty d 0 (C := 1) hn (by simp) (by omega) (RowsAt_one hv hu) (.ofL _ _) rfl (Blk.ofL_elems _ _)
    refine ⟨E', .pointer (some ⟨E.w.heap.size, 0, none⟩), ?_, e2, ?_, e5, e6⟩
    · rw [e1]; simp [newVar, h1]
    · have := VR_lp_new (E := E) e2 e3 0 0
      simpa using this

def popAlloc (T : Tbl) (bs : Bs) (d : Nat) (t : TypeId) : Option (PV × Bs) :=
  match T.zero t with
  | none => none
  | some z => popBox bs d (ofVal z)

theorem popAlloc_run {T : Tbl} {P : Program} (hT : T.Ok P) {E : Env} (hR : Rel E) (t : TypeId) (d : Nat) {pv' : PV} {bs' : Bs} (h : popAlloc T E.bs d t = some (pv', bs')) :
    ∃ (E' : Env) (u : Value), (Instr.alloc t true (.tuple #[])).run P E.w = .ok u E'.w ∧ E'.bs = bs' ∧ VR E' pv' u ∧ Ext E E' ∧ Rel E' := by
  unfold popAlloc at h
  split at h
  · cases h
  · rename_i z hz
    obtain ⟨E', u, h1, h2⟩ := popBox_run (P := P) hR t d (VR_ofVal E z) h
    refine ⟨E', u, ?_, h2⟩
    simp only [Instr.alloc, Sem.run_bind, hT.run_zero hz, Result.andThen_ok]
    simpa using h1

/-- Rows of one value. -/
theorem RowsAt_replicate {E : Env} {z : PV} {v : Value} (h : VR E z v) (hu : z ≠ .undef) (m : Nat) {cells : Array Value}
    (hc : ∀ x : Nat, x < m * z.cells.length → cells[x]? = some (v.cells[x % v.cells.size]!)) : RowsAt E z.cells.length 0 (List.replicate m z) cells := by
  intro i p hp
  have hi := lt_len hp
  simp at hi
  rw [List.getElem?_replicate, if_pos hi] at hp
  cases hp
  refine ⟨rfl, fun j c hj => ?_⟩
  have hjl := lt_len hj
  have hl : v.cells.size = z.cells.length := by simpa using VRl_length (cells_VR h hu)
  obtain ⟨y, hy, hv⟩ := VRl_get (cells_VR h hu) hj
  have hx : i * z.cells.length + j < m * z.cells.length := row_lt hjl hi
  refine ⟨y, ?_, hv⟩
  rw [Nat.zero_add, hc _ hx, hl]
  have : (i * z.cells.length + j) % z.cells.length = j := by
    rw [Nat.add_comm, Nat.add_mul_mod_self_right]; exact Nat.mod_eq_of_lt hjl
  rw [this]
  have hy' : v.cells[j]? = some y := by simpa using hy
  have hjs : j < v.cells.size := by omega
  rw [getElem!_pos v.cells j hjs]
  rw [Array.getElem?_eq_getElem hjs] at hy'
  exact hy'

/-- A whole number that is not below 0. -/
def natOf (p : PV) : Option Nat :=
  match p with
  | .s (.int _ i) => bif decide (0 ≤ i) then some i.toNat else none
  | _ => none
theorem natOf_VR {E : Env} {p : PV} {i : Nat} {u : Value} (h : natOf p = some i) (hu : VR E p u) : ∃ k, u = .int k (i : Int) := by
  unfold natOf at h
  split at h
  · rename_i k z
    simp only [VR] at hu
    cases hb : decide (0 ≤ z) with
    | false => rw [hb] at h; cases h
    | true =>
      rw [hb] at h; cases h
      simp only [decide_eq_true_eq] at hb
      exact ⟨k, by rw [hu.1]; congr 1; omega⟩
  · cases h

/-- A row that nobody names. -/
theorem push_ext2 {E : Env} (hR : Rel E) (cells : Array Value) (ty : TypeId) : Ext E { E with w := pushed E.w cells ty } ∧ Rel { E with w := pushed E.w cells ty } := by
  let E' : Env := { E with w := pushed E.w cells ty }
  have hh : ∀ x, x < E.w.heap.size → (pushed E.w cells ty).heap[x]? = E.w.heap[x]? := by
    intro x hx
    show (E.w.heap.push _)[x]? = _
    rw [Array.getElem?_push, if_neg (by omega)]
  have hs : E.w.heap.size ≤ (pushed E.w cells ty).heap.size := by show _ ≤ (E.w.heap.push _).size; simp
  have hext : Ext E E' := ⟨⟨rfl, rfl, rfl, hs, fun x hx _ => hh x hx, fun x _ h => h, fun x => Iff.rfl, fun x hm => ⟨hm, rfl⟩⟩,
    fun r g o hr => ⟨g, o, hr, Nat.le_refl _, fun _ b2 hb2 => ⟨b2, hb2, rfl, rfl, rfl, rfl⟩⟩⟩
  refine ⟨hext, ?_⟩
  have hb' : ∀ r g b, E.bs.ent r = some (g, some b) → 0 < E.cap r → (pushed E.w cells ty).heap[(E.mu r).1]? = E.w.heap[(E.mu r).1]? := fun r g b hr hc => hh _ (hR.lt _ (hR.phys r g b hr hc).2.1)
  constructor
  · exact hR.len
  · intro r g b h hc
    obtain ⟨h1, h2, cs, ty, h3, h4⟩ := hR.phys r g b h hc
    exact ⟨h1, h2, cs, ty, (hb' r g b h hc).trans h3, h4⟩
  · intro r g b h i p hp
    obtain ⟨h1, h2⟩ := hR.own r g b h i p hp
    have := hR.len r g b h
    have := lt_len hp
    exact ⟨h1, fun j c hc => by
      obtain ⟨cs', ty', y, h3, hy, hv⟩ := h2 j c hc
      exact ⟨cs', ty', y, (hb' r g b h (by omega)).trans h3, hy, VR_ext hext hv⟩⟩
  · exact hR.inj
  · intro x hx; exact Nat.lt_of_lt_of_le (hR.lt x hx) hs
  · intro x hx; exact Nat.lt_of_lt_of_le (hR.llt x hx) hs
  · exact hR.apart
  · exact hR.gl
  · exact (mps_keep hR hext (fun x => rfl) fun x hm hwr es c hes => ⟨hwr, (hh _ (hR.lt _ hwr)).trans hes⟩).1
  · exact (mps_keep hR hext (fun x => rfl) fun x hm hwr es c hes => ⟨hwr, (hh _ (hR.lt _ hwr)).trans hes⟩).2

theorem push_ext {E : Env} (hR : Rel E) (cells : Array Value) (ty : TypeId) : ∃ E' : Env, E'.w = pushed E.w cells ty ∧ E'.bs = E.bs ∧ Ext E E' ∧ Rel E' :=
  ⟨{ E with w := pushed E.w cells ty }, rfl, rfl, (push_ext2 hR cells ty).1, (push_ext2 hR cells ty).2⟩

theorem VR_empty {E : Env} {A : Option Addr} (hA : A.isSome = true) : VR E (.vs true true []) (.slice A 0 0) := by
  simp only [VR]
  exact ⟨A, 0, [], rfl, by simp, by simp, by simp [VRl], by simp [frozenL], by simp [noBL], .inl ⟨trivial, fun _ => hA⟩⟩

def known : PV → Bool
  | .undef => false
  | _ => true
theorem known_ne {p : PV} (h : known p = true) : p ≠ .undef := by rintro rfl; cases h

def popMake (T : Tbl) (bs : Bs) (d : Nat) (t : TypeId) (len cap : PV) : Option (PV × Bs) :=
  match T.und t with
  | some (.slice e) => match T.info e, T.zero e, natOf len, natOf cap with
    | some i, some z, some l, some c =>
      bif (!Nat.beq i.size 0 && Nat.beq (ofVal z).cells.length i.size && known (ofVal z)) && (Nat.ble l c && Nat.ble 1 i.bytes) && Nat.ble (c * i.bytes) (2 ^ 47) then
        bif Nat.beq c 0 then some (.vs true true [], bs)
        else some (.sl (.loc d 0) (bs.gen d 0) 0 l, bs.mk1 d 0 (.rep i.size c (ofVal z)))
      else none
    | _, _, _, _ => none
  | _ => none

theorem popMake_run {T : Tbl} {P : Program} (hT : T.Ok P) {E : Env} (hR : Rel E) (t : TypeId) (d : Nat) {len cap pv' : PV} {ul uc : Value} {bs' : Bs} (hl : VR E len ul) (hc : VR E cap uc)
    (h : popMake T E.bs d t len cap = some (pv', bs')) :
    ∃ (E' : Env) (u : Value), (Instr.makeSlice t ul uc).run P E.w = .ok u E'.w ∧ E'.bs = bs' ∧ VR E' pv' u ∧ Ext E E' ∧ Rel E' := by
  unfold popMake at h
  split at h
  · rename_i e hu
    split at h
    · rename_i i z l c hi hz hl' hc'
      cases hb : ((!Nat.beq i.size 0 && Nat.beq (ofVal z).cells.length i.size && known (ofVal z)) && (Nat.ble l c && Nat.ble 1 i.bytes) && Nat.ble (c * i.bytes) (2 ^ 47)) with
      | false => rw [hb] at h; cases h
      | true =>
        rw [hb] at h; simp only [cond_true] at h
        simp only [Bool.and_eq_true, Bool.not_eq_true'] at hb
        obtain ⟨⟨⟨⟨b1, b2⟩, b6⟩, b3, b4⟩, b5⟩ := hb
        have c1 : i.size ≠ 0 := by intro e; rw [e] at b1; cases b1
        have c2 : (ofVal z).cells.length = i.size := Nat.eq_of_beq_eq_true b2
        have c3 := Nat.le_of_ble_eq_true b3
        have c4 := Nat.le_of_ble_eq_true b4
        have c5 := Nat.le_of_ble_eq_true b5
        have hzu := known_ne b6
        obtain ⟨kl, rfl⟩ := natOf_VR hl' hl
        obtain ⟨kc, rfl⟩ := natOf_VR hc' hc
        have hc47 : c ≤ 2 ^ 47 := Nat.le_trans (Nat.le_mul_of_pos_right c c4) c5
        have w1 : IntKind.i64.wrap (l : Int) = l := by
          unfold IntKind.wrap; simp only [IntKind.signed, IntKind.bits]; simp; omega
        have w2 : IntKind.i64.wrap (c : Int) = c := by
          unfold IntKind.wrap; simp only [IntKind.signed, IntKind.bits]; simp; omega
        have hbc : ((i.bytes : Int) * (c : Int)) ≤ 2 ^ 47 := by
          rw [Nat.mul_comm] at c5
          exact_mod_cast c5
        have hsz : T.size e = some i.size := by simp [Tbl.size, hi]
        have hlarge : (decide ((c : Int) < 0) || decide ((i.bytes : Int) * (c : Int) > 2 ^ 48)) = false := by
          simp only [Bool.or_eq_false_iff, decide_eq_false_iff_not]
          exact ⟨by omega, by omega⟩
        have hlt : ¬ ((l : Int) < 0) := by omega
        have hgt : ¬ ((l : Int) > (c : Int)) := by omega
        cases hc0 : Nat.beq c 0 with
        | true =>
          rw [hc0] at h; cases h
          have : c = 0 := Nat.eq_of_beq_eq_true hc0
          subst this
          have : l = 0 := by omega
          subst this
          obtain ⟨E', e1, e2, e3, e4⟩ := push_ext hR #[] e
          refine ⟨E', .slice (some ⟨E.w.heap.size, 0, none⟩) 0 0, ?_, e2, VR_empty rfl, e3, e4⟩
          rw [e1]
          have hr0 : Array.range 0 = #[] := rfl
          have w0 : IntKind.i64.wrap 0 = 0 := by decide
          simp [Instr.makeSlice, hT.run_und hu, asInt, asIntOf, hT.run_info hi, w0, hT.run_size hsz, newRow, pushed, hr0]
        | false =>
          rw [hc0] at h; cases h
          have hcpos : 0 < c := by
            rcases Nat.eq_zero_or_pos c with e | e
            · rw [e] at hc0; cases hc0
            · exact e
          have hnpos : 0 < c * i.size := Nat.mul_pos hcpos (Nat.pos_of_ne_zero c1)
          have hrows : RowsAt E i.size 0 (List.replicate c (ofVal z)) ((Array.range (c * i.size)).map (z.cells[· % z.cells.size]!)) := by
            have := RowsAt_replicate (VR_ofVal E z) hzu c (cells := (Array.range (c * i.size)).map (z.cells[· % z.cells.size]!)) (fun x hx => by
              rw [c2] at hx
              simp [hx])
            rwa [c2] at this
          obtain ⟨h1, E', e1, e2, e3, e4, e5, e6⟩ := newRow_ext (P := P) hR e d 0 (C := c) (Nat.pos_of_ne_zero c1) (by simp) (by simp) hrows (.rep i.size c (ofVal z)) (Blk.rep_esz _ _ _) (Blk.rep_elems _ _ _)
          refine ⟨E', _, ?_, e2, VR_sl_new (E := E) e2 e3 e4 (by simpa [Blk.rep_elems] using c3) (by simp [Blk.rep_elems]), e5, e6⟩
          rw [e1]
          simp only [Instr.makeSlice, Sem.run_bind, hT.run_und hu, Result.andThen_ok, asInt, asIntOf, Sem.run_pure, hT.run_info hi, w1, w2, hlarge, hlt, hgt, decide_false, Bool.or_false, Bool.false_eq_true, if_false, Int.toNat_natCast, run_askRoom, hT.run_size hsz]
          rw [if_neg (by omega)]
          simp only [Sem.run_bind, hT.run_zero hz, Result.andThen_ok, Sem.run_pure, h1]
    · cases h
  · cases h

/-- A make that nobody will write. -/
def popMakeF (T : Tbl) (t : TypeId) (len cap : PV) : Option PV :=
  match T.und t with
  | some (.slice e) => match T.info e, T.zero e, natOf len, natOf cap with
    | some i, some z, some l, some c =>
      bif ((!Nat.beq i.size 0 && Nat.beq (ofVal z).cells.length i.size && known (ofVal z)) && (frozen (ofVal z) && noB (ofVal z))) && (Nat.ble l c && Nat.ble 1 i.bytes) && (Nat.ble 1 c && Nat.ble (c * i.bytes) (2 ^ 47)) then
        some (.vs false (Nat.beq l c) (List.replicate l (ofVal z)))
      else none
    | _, _, _, _ => none
  | _ => none

theorem frozenL_replicate {p : PV} (h : frozen p = true) : ∀ n, frozenL (List.replicate n p) = true
  | 0 => rfl
  | n + 1 => by simp only [List.replicate_succ, frozenL, h, frozenL_replicate h n, Bool.and_self]
theorem noBL_replicate {p : PV} (h : noB p = true) : ∀ n, noBL (List.replicate n p) = true
  | 0 => rfl
  | n + 1 => by simp only [List.replicate_succ, noBL, h, noBL_replicate h n, Bool.and_self]
theorem VRl_replicate {E : Env} {p : PV} {v : Value} (h : VR E p v) : ∀ n, VRl E (List.replicate n p) (List.replicate n v)
  | 0 => VRl_nil
  | n + 1 => by simp only [List.replicate_succ]; exact VRl_cons.2 ⟨h, VRl_replicate h n⟩

theorem popMakeF_run {T : Tbl} {P : Program} (hT : T.Ok P) {E : Env} (hR : Rel E) (t : TypeId) {len cap pv' : PV} {ul uc : Value} (hl : VR E len ul) (hc : VR E cap uc)
    (h : popMakeF T t len cap = some pv') :
    ∃ (E' : Env) (u : Value), (Instr.makeSlice t ul uc).run P E.w = .ok u E'.w ∧ E'.bs = E.bs ∧ VR E' pv' u ∧ Ext E E' ∧ Rel E' := by
  unfold popMakeF at h
  split at h
  · rename_i e hu
    split at h
    · rename_i i z l c hi hz hl' hc'
      cases hb : (((!Nat.beq i.size 0 && Nat.beq (ofVal z).cells.length i.size && known (ofVal z)) && (frozen (ofVal z) && noB (ofVal z))) && (Nat.ble l c && Nat.ble 1 i.bytes) && (Nat.ble 1 c && Nat.ble (c * i.bytes) (2 ^ 47))) with
      | false => rw [hb] at h; cases h
      | true =>
        rw [hb] at h; simp only [cond_true] at h
        cases h
        simp only [Bool.and_eq_true, Bool.not_eq_true'] at hb
        obtain ⟨⟨⟨⟨⟨b1, b2⟩, b6⟩, b7, b8⟩, b3, b4⟩, b9, b5⟩ := hb
        have c1 : i.size ≠ 0 := by intro e; rw [e] at b1; cases b1
        have c2 : (ofVal z).cells.length = i.size := Nat.eq_of_beq_eq_true b2
        have c3 := Nat.le_of_ble_eq_true b3
        have c4 := Nat.le_of_ble_eq_true b4
        have c5 := Nat.le_of_ble_eq_true b5
        have hzu := known_ne b6
        have hcpos := Nat.le_of_ble_eq_true b9
        have hnpos : 0 < c * i.size := Nat.mul_pos hcpos (Nat.pos_of_ne_zero c1)
        obtain ⟨kl, rfl⟩ := natOf_VR hl' hl
        obtain ⟨kc, rfl⟩ := natOf_VR hc' hc
        have hc47 : c ≤ 2 ^ 47 := Nat.le_trans (Nat.le_mul_of_pos_right c c4) c5
        have w1 : IntKind.i64.wrap (l : Int) = l := by
          unfold IntKind.wrap; simp only [IntKind.signed, IntKind.bits]; simp; omega
        have w2 : IntKind.i64.wrap (c : Int) = c := by
          unfold IntKind.wrap; simp only [IntKind.signed, IntKind.bits]; simp; omega
        have hbc : ((i.bytes : Int) * (c : Int)) ≤ 2 ^ 47 := by
          rw [Nat.mul_comm] at c5
          exact_mod_cast c5
        have hsz : T.size e = some i.size := by simp [Tbl.size, hi]
        have hlarge : (decide ((c : Int) < 0) || decide ((i.bytes : Int) * (c : Int) > 2 ^ 48)) = false := by
          simp only [Bool.or_eq_false_iff, decide_eq_false_iff_not]
          exact ⟨by omega, by omega⟩
        have hlt : ¬ ((l : Int) < 0) := by omega
        have hgt : ¬ ((l : Int) > (c : Int)) := by omega
        have hzs : z.cells.size = i.size := by rw [← c2]; simpa using VRl_length (cells_VR (VR_ofVal E z) hzu)
        obtain ⟨hx, hR'⟩ := push_ext2 hR ((Array.range (c * i.size)).map (z.cells[· % z.cells.size]!)) e
        have h1 : (newRow e ((Array.range (c * i.size)).map (z.cells[· % z.cells.size]!))).run P E.w = .ok ⟨E.w.heap.size, 0, none⟩ (pushed E.w ((Array.range (c * i.size)).map (z.cells[· % z.cells.size]!)) e) := by simp [newRow, pushed]
        refine ⟨{ E with w := pushed E.w ((Array.range (c * i.size)).map (z.cells[· % z.cells.size]!)) e }, .slice (some ⟨E.w.heap.size, 0, none⟩) l c, ?_, rfl, ?_, hx, hR'⟩
        · simp only [Instr.makeSlice, Sem.run_bind, hT.run_und hu, Result.andThen_ok, asInt, asIntOf, Sem.run_pure, hT.run_info hi, w1, w2, hlarge, hlt, hgt, decide_false, Bool.or_false, Bool.false_eq_true, if_false, Int.toNat_natCast, run_askRoom, hT.run_size hsz]
          rw [if_neg (by omega)]
          simp only [Sem.run_bind, hT.run_zero hz, Result.andThen_ok, Sem.run_pure, h1]
        · simp only [VR]
          refine ⟨some ⟨E.w.heap.size, 0, none⟩, c, List.replicate l z, by simp, by simpa using c3, fun hf => by simpa using (Nat.eq_of_beq_eq_true hf).symm, VRl_replicate (VR_ofVal _ z) l, frozenL_replicate b7 l, fun _ => noBL_replicate b8 l, .inr ⟨E.w.heap.size, 0, i.size, rfl, ⟨?_, ?_, fun _ => ?_⟩, Nat.pos_of_ne_zero c1, ?_, ?_⟩⟩
          · simp [pushed]
          · intro hw; exact absurd (hR.lt _ hw) (by omega)
          · intro hw; exact absurd (hR.llt _ hw) (by omega)
          · intro x hx
            rw [List.eq_of_mem_replicate hx]; exact hzs
          · intro k x hx j y hy
            have hk := lt_len hx
            simp at hk
            rw [List.getElem?_replicate, if_pos hk] at hx
            cases hx
            have hj : j < i.size := by
              rw [← hzs]
              rcases Nat.lt_or_ge j z.cells.size with h | h
              · exact h
              · rw [Array.getElem?_eq_none h] at hy; cases hy
            have hlt : k * i.size + j < c * i.size := row_lt hj (by omega)
            have hmod : (k * i.size + j) % z.cells.size = j := by
              rw [hzs, Nat.add_comm, Nat.add_mul_mod_self_right]; exact Nat.mod_eq_of_lt hj
            have hhp : (pushed E.w ((Array.range (c * i.size)).map (z.cells[· % z.cells.size]!)) e).heap[E.w.heap.size]? = some (.cells ((Array.range (c * i.size)).map (z.cells[· % z.cells.size]!)) e) := by
              show (E.w.heap.push _)[E.w.heap.size]? = _
              rw [Array.getElem?_push, if_pos rfl]
            simp only [World.cell?, hhp]
            rw [Nat.zero_add]
            have hjz : j < z.cells.size := by omega
            rw [Array.getElem?_eq_getElem hjz] at hy
            cases hy
            simp [hlt, hmod, hjz]
    · cases h
  · cases h

/-- A literal: its elements one by one. -/
def bfill (n : Nat) (xs : List PV) : List (Nat × PV) → Option (List PV)
  | [] => some xs
  | (i, v) :: rest => bif Nat.beq v.cells.length n && known v && Nat.blt i xs.length then bfill n (xs.set i v) rest else none

theorem bfill_length {n : Nat} : ∀ {ps : List (Nat × PV)} {xs ys : List PV}, bfill n xs ps = some ys → ys.length = xs.length
  | [], xs, ys, h => by simp only [bfill] at h; cases h; rfl
  | (i, v) :: ps, xs, ys, h => by
    simp only [bfill] at h
    cases hb : (Nat.beq v.cells.length n && known v && Nat.blt i xs.length) with
    | false => rw [hb] at h; cases h
    | true => rw [hb] at h; simp only [cond_true] at h; rw [bfill_length h]; simp

theorem bfill_run {E : Env} {n : Nat} : ∀ {ps : List (Nat × PV)} {vs : List (Nat × Value)} {xs ys : List PV} {us : List Value},
    bfill n xs ps = some ys → vs.length = ps.length → (∀ (k : Nat) p v, ps[k]? = some p → vs[k]? = some v → p.1 = v.1 ∧ VR E p.2 v.2) → us.length = xs.length * n → RowsAt E n 0 xs us.toArray →
    ∃ us' : List Value, Instr.fill (fun i => some (i * n, n)) us.toArray vs = some us'.toArray ∧ us'.length = us.length ∧ RowsAt E n 0 ys us'.toArray
  | [], vs, xs, ys, us, h, hl, _, _, hr => by
    simp at hl; subst hl
    simp only [bfill] at h; cases h
    exact ⟨us, rfl, rfl, hr⟩
  | (i, p) :: ps, vs, xs, ys, us, h, hl, hv, hul, hr => by
    cases vs with
    | nil => simp at hl
    | cons v vs =>
      obtain ⟨i', v⟩ := v
      obtain ⟨e, hp⟩ := hv 0 (i, p) (i', v) rfl rfl
      simp only at e hp
      subst e
      simp only [bfill] at h
      cases hb : (Nat.beq p.cells.length n && known p && Nat.blt i xs.length) with
      | false => rw [hb] at h; cases h
      | true =>
        rw [hb] at h; simp only [cond_true] at h
        simp only [Bool.and_eq_true] at hb
        obtain ⟨⟨b1, b2⟩, b3⟩ := hb
        have e1 : p.cells.length = n := Nat.eq_of_beq_eq_true b1
        have e2 : i < xs.length := Eq.mp Nat.blt_eq b3
        have hc := cells_VR hp (known_ne b2)
        have e3 : v.cells.toList.length = n := by rw [← e1]; exact VRl_length hc
        have e5 : i * n + n ≤ us.length := by
          rw [hul]
          have : (i + 1) * n ≤ xs.length * n := Nat.mul_le_mul_right n e2
          rw [Nat.add_mul] at this; omega
        have hsplit := foldl_zipIdx_toList (i * n) v.cells.toList us (by omega)
        obtain ⟨us', hf, hl', hr'⟩ := bfill_run (vs := vs) (us := us.take (i * n) ++ v.cells.toList ++ us.drop (i * n + v.cells.toList.length)) h (by simpa using hl)
          (fun k p v hp hv' => hv (k + 1) p v (by simpa using hp) (by simpa using hv')) (by
            rw [List.length_set, ← hul]
            simp only [List.length_append, List.length_take, List.length_drop]
            omega) (by
            intro q x hx
            rw [List.getElem?_set] at hx
            split at hx
            · rename_i hiq
              subst hiq
              cases hx
              refine ⟨e1, fun j c hj => ?_⟩
              obtain ⟨y, hy, hr⟩ := VRl_get hc hj
              have hjl := lt_len hj
              refine ⟨y, ?_, hr⟩
              rw [List.getElem?_toArray, List.append_assoc, List.getElem?_append_right (by simp; omega), List.getElem?_append_left (by simp only [List.length_take]; omega)]
              rw [← hy]
              congr 1
              simp only [List.length_take]
              omega
            · rename_i hiq
              obtain ⟨x1, x2⟩ := hr q x hx
              refine ⟨x1, fun j c hj => ?_⟩
              obtain ⟨y, hy, hr⟩ := x2 j c hj
              refine ⟨y, ?_, hr⟩
              have hjl := lt_len hj
              rw [x1] at hjl
              rw [List.getElem?_toArray] at hy ⊢
              rw [← hy]
              by_cases hlt : q < i
              · have : (q + 1) * n ≤ i * n := Nat.mul_le_mul_right n hlt
                rw [Nat.add_mul] at this
                rw [List.append_assoc, List.getElem?_append_left (by simp only [List.length_take]; omega), List.getElem?_take, if_pos (by omega)]
              · have : (i + 1) * n ≤ q * n := Nat.mul_le_mul_right n (by omega)
                rw [Nat.add_mul] at this
                rw [List.getElem?_append_right (by simp only [List.length_append, List.length_take]; omega), List.getElem?_drop]
                congr 1
                simp only [List.length_append, List.length_take]
                omega)
        refine ⟨us', ?_, ?_, hr'⟩
        · simp only [Instr.fill]
          rw [if_neg (by
            have : v.cells.size = n := by simpa using e3
            simp [this]
            omega)]
          rw [← hf]
          congr 1
          apply Array.toList_inj.1
          simpa using hsplit
        · rw [hl']
          simp only [List.length_append, List.length_take, List.length_drop]
          omega

def popLit (T : Tbl) (bs : Bs) (d : Nat) (t : TypeId) (len : Nat) (ps : List (Nat × PV)) : Option (PV × Bs) :=
  match T.und t with
  | some (.slice e) => match T.size e, T.zero e with
    | some n, some z =>
      bif (!Nat.beq n 0 && Nat.beq (ofVal z).cells.length n && known (ofVal z)) && Nat.ble (len * n) (2 ^ 24) then
        match bfill n (List.replicate len (ofVal z)) ps with
        | none => none
        | some xs => bif Nat.beq len 0 then some (.vs true true [], bs) else some (.sl (.loc d 0) (bs.gen d 0) 0 len, bs.mk1 d 0 (.ofL n xs))
      else none
    | _, _ => none
  | _ => none

theorem popLit_run {T : Tbl} {P : Program} (hT : T.Ok P) {E : Env} (hR : Rel E) (t : TypeId) (d len : Nat) {ps : List (Nat × PV)} {vs : Array (Nat × Value)} {pv' : PV} {bs' : Bs}
    (h : popLit T E.bs d t len ps = some (pv', bs')) (hl : vs.size = ps.length) (hv : ∀ (k : Nat) p v, ps[k]? = some p → vs[k]? = some v → p.1 = v.1 ∧ VR E p.2 v.2) :
    ∃ (E' : Env) (u : Value), (Instr.buildSlice t len vs).run P E.w = .ok u E'.w ∧ E'.bs = bs' ∧ VR E' pv' u ∧ Ext E E' ∧ Rel E' := by
  unfold popLit at h
  split at h
  · rename_i e hu
    split at h
    · rename_i n z hn hz
      cases hb : ((!Nat.beq n 0 && Nat.beq (ofVal z).cells.length n && known (ofVal z)) && Nat.ble (len * n) (2 ^ 24)) with
      | false => rw [hb] at h; cases h
      | true =>
        rw [hb] at h; simp only [cond_true] at h
        simp only [Bool.and_eq_true, Bool.not_eq_true'] at hb
        obtain ⟨⟨⟨b1, b2⟩, b6⟩, b5⟩ := hb
        have c1 : n ≠ 0 := by intro e; rw [e] at b1; cases b1
        have c2 : (ofVal z).cells.length = n := Nat.eq_of_beq_eq_true b2
        have c5 := Nat.le_of_ble_eq_true b5
        have hzu := known_ne b6
        split at h
        · cases h
        · rename_i xs hxs
          have hxl := bfill_length hxs
          simp at hxl
          have hl' : vs.toList.length = ps.length := by simpa using hl
          have hv' : ∀ (k : Nat) p v, ps[k]? = some p → vs.toList[k]? = some v → p.1 = v.1 ∧ VR E p.2 v.2 := fun k p v hp hv'' => hv k p v hp (by simpa using hv'')
          cases hc0 : Nat.beq len 0 with
          | true =>
            rw [hc0] at h; cases h
            have : len = 0 := Nat.eq_of_beq_eq_true hc0
            subst this
            obtain ⟨us', f1, f2, f3⟩ := bfill_run (n := n) (us := []) hxs hl' hv' (by simp) (by intro i p hp; simp at hp)
            obtain ⟨E', e1, e2, e3, e4⟩ := push_ext hR us'.toArray e
            refine ⟨E', .slice (some ⟨E.w.heap.size, 0, none⟩) 0 0, ?_, e2, VR_empty rfl, e3, e4⟩
            rw [e1]
            simp only [Instr.buildSlice, Sem.run_bind, hT.run_und hu, Result.andThen_ok, hT.run_size hn]
            rw [if_neg (by omega), if_pos (by omega)]
            simp only [Sem.run_bind, Sem.run_pure, Result.andThen_ok]
            have hz0 : (Array.range (0 * n)).map ((#[] : Array Value)[· % (#[] : Array Value).size]!) = #[] := by simp
            rw [hz0, f1]
            simp [newRow, pushed]
          | false =>
            rw [hc0] at h; cases h
            have hcpos : 0 < len := by
              rcases Nat.eq_zero_or_pos len with e | e
              · rw [e] at hc0; cases hc0
              · exact e
            have hnpos : 0 < len * n := Nat.mul_pos hcpos (Nat.pos_of_ne_zero c1)
            have hrows : RowsAt E n 0 (List.replicate len (ofVal z)) ((Array.range (len * n)).map (z.cells[· % z.cells.size]!)) := by
              have := RowsAt_replicate (VR_ofVal E z) hzu len (cells := (Array.range (len * n)).map (z.cells[· % z.cells.size]!)) (fun x hx => by
                rw [c2] at hx
                simp [hx])
              rwa [c2] at this
            obtain ⟨us', f1, f2, f3⟩ := bfill_run (n := n) (us := ((Array.range (len * n)).map (z.cells[· % z.cells.size]!)).toList) hxs hl' hv' (by simp) (by rw [Array.toArray_toList]; exact hrows)
            obtain ⟨h1, E', e1, e2, e3, e4, e5, e6⟩ := newRow_ext (P := P) hR e d 0 (C := len) (Nat.pos_of_ne_zero c1) (by omega) (by simp [f2]) f3 (.ofL n xs) rfl (Blk.ofL_elems _ _)
            refine ⟨E', _, ?_, e2, VR_sl_new (E := E) e2 e3 e4 (by simp [hxl, Blk.ofL_elems]) (by simp [hxl, Blk.ofL_elems]), e5, e6⟩
            rw [e1]
            simp only [Instr.buildSlice, Sem.run_bind, hT.run_und hu, Result.andThen_ok, hT.run_size hn]
            rw [if_neg (by omega), if_neg (by omega)]
            simp only [Sem.run_bind, Sem.run_pure, Result.andThen_ok, hT.run_zero hz]
            rw [Array.toArray_toList] at f1
            rw [f1]
            simp only [Sem.run_bind, h1, Result.andThen_ok, Sem.run_pure]
    · cases h
  · cases h

end

end Go.Pm

/- PM: append, copy, clear. -/

namespace Go.Pm
noncomputable section

def okEl (n : Nat) (p : PV) : Bool := Nat.beq p.cells.length n && p.cells.all isCell

theorem okEl_spec {n : Nat} {p : PV} (h : okEl n p = true) : p.cells.length = n ∧ p.cells.all isCell = true := by
  simp only [okEl, Bool.and_eq_true] at h
  exact ⟨Nat.eq_of_beq_eq_true h.1, h.2⟩

theorem loadRows_run {P : Program} {E : Env} {n blk off : Nat} {xs : List PV} (hn : 0 < n)
    (h : ∀ (i : Nat) p, xs[i]? = some p → p.cells.length = n ∧ ∀ (j : Nat) c, p.cells[j]? = some c → ∃ y, E.w.cell? ⟨blk, off + (i * n + j), none⟩ = some y ∧ VR E c y) :
    ∃ us : Array Value, (∀ w' : World, (∀ a, w'.cell? a = E.w.cell? a) → (loadCells ⟨blk, off, none⟩ (xs.length * n)).run P w' = .ok us w') ∧ us.size = xs.length * n ∧ RowsAt E n 0 xs us := by
  have hc : ∀ q, q < xs.length * n → ∃ i j p c y, q = i * n + j ∧ xs[i]? = some p ∧ p.cells[j]? = some c ∧ E.w.cell? ⟨blk, off + q, none⟩ = some y ∧ VR E c y := by
    intro q hq
    have hi : q / n < xs.length := (Nat.div_lt_iff_lt_mul hn).2 hq
    have hj : q % n < n := Nat.mod_lt _ hn
    obtain ⟨h1, h2⟩ := h (q / n) _ (List.getElem?_eq_getElem hi)
    obtain ⟨y, hy, hv⟩ := h2 (q % n) _ (List.getElem?_eq_getElem (by rw [h1]; exact hj))
    have e : q = q / n * n + q % n := by rw [Nat.mul_comm]; exact (Nat.div_add_mod q n).symm
    exact ⟨q / n, q % n, _, _, y, e, List.getElem?_eq_getElem hi, List.getElem?_eq_getElem (by rw [h1]; exact hj), by rw [e]; exact hy, hv⟩
  let ys := (List.range (xs.length * n)).map fun q => (E.w.cell? ⟨blk, off + q, none⟩).getD undef
  have hyl : ys.length = xs.length * n := by simp [ys]
  have hys : ∀ (q : Nat), q < xs.length * n → ys[q]? = some ((E.w.cell? ⟨blk, off + q, none⟩).getD undef) := by
    intro q hq
    simp [ys, hq]
  refine ⟨ys.toArray, fun w' hw' => ?_, by simp [hyl], ?_⟩
  · have := run_loadCells_list (P := P) w' ⟨blk, off, none⟩ ys (fun j v hv => by
      have hj : j < xs.length * n := by rw [← hyl]; exact lt_len hv
      obtain ⟨_, _, _, _, y, _, _, _, hy, _⟩ := hc j hj
      rw [hys j hj, hy] at hv
      cases hv
      rw [add_plain, hw']
      exact hy)
    rw [hyl] at this
    exact this
  · intro i p hp
    obtain ⟨h1, h2⟩ := h i p hp
    refine ⟨h1, fun j c hcj => ?_⟩
    obtain ⟨y, hy, hv⟩ := h2 j c hcj
    have hjl := lt_len hcj
    rw [h1] at hjl
    refine ⟨y, ?_, hv⟩
    rw [List.getElem?_toArray, Nat.zero_add, hys _ (row_lt hjl (lt_len hp)), hy]
    rfl

theorem one_of_rows {E : Env} {n : Nat} {xs : List PV} {us : Array Value} (hn : 0 < n) (h : RowsAt E n 0 xs us) (hs : us.size = xs.length * n) (ho : xs.all (okEl n) = true) :
    ∀ v ∈ us.toList, v.oneCell' = true := by
  intro v hv
  obtain ⟨q, hq⟩ := List.mem_iff_getElem?.1 hv
  have hql : q < xs.length * n := by rw [← hs]; simpa using lt_len hq
  have hi : q / n < xs.length := (Nat.div_lt_iff_lt_mul hn).2 hql
  have hj : q % n < n := Nat.mod_lt _ hn
  have hx := List.getElem?_eq_getElem hi
  obtain ⟨h1, h2⟩ := h (q / n) _ hx
  have hc := List.getElem?_eq_getElem (l := (xs[q / n]).cells) (i := q % n) (by rw [h1]; exact hj)
  obtain ⟨y, hy, hr⟩ := h2 (q % n) _ hc
  have e : q / n * n + q % n = q := by rw [Nat.mul_comm]; exact Nat.div_add_mod q n
  rw [Nat.zero_add, e] at hy
  rw [Array.getElem?_toList, hy] at hq
  cases hq
  have hok := (okEl_spec (List.all_eq_true.1 ho _ (List.mem_of_getElem? hx))).2
  exact isCell_VR (List.all_eq_true.1 hok _ (List.mem_of_getElem? hc)) hr

/-- The elements of a slice (or bytes of a string) that is read whole. -/
def srcElems (bs : Bs) (n : Nat) (x : PV) : Option (List PV) :=
  match x with
  | .vs _ _ xs => some xs
  | .sl r g off len => match bs.getg r g with
    | none => none
    | some b => bif Nat.beq b.esz n && Nat.ble (off + len) b.len then some (b.sub off len) else none
  | .s (.string s) => bif Nat.beq n 1 then some (s.data.toList.map fun b => .s (.int .u8 b.toNat)) else none
  | .ts y g off len _ => match bs.getg (.glob y) g with
    | none => none
    | some b => bif Nat.beq b.esz n && Nat.ble (off + len) b.len then some (b.sub off len) else none
  | _ => none

theorem src_run {P : Program} {E : Env} (hR : Rel E) {n : Nat} {x : PV} {u : Value} {xs : List PV} (hn : 0 < n) (hu : VR E x u) (h : srcElems E.bs n x = some xs) (hk : ∀ p ∈ xs, p.cells.length = n) :
    (∀ w', (Builtin.lenOf u).run P w' = .ok xs.length w') ∧ ∀ m, m ≤ xs.length → ∃ us : Array Value, (∀ w' : World, (∀ a, w'.cell? a = E.w.cell? a) → (Builtin.firstCells n m u).run P w' = .ok us w') ∧ us.size = m * n ∧ RowsAt E n 0 (xs.take m) us := by
  unfold srcElems at h
  simp only [Blk.len_eq, Blk.sub_eq] at h
  split at h
  · rename_i b full ys
    cases h
    simp only [VR] at hu
    obtain ⟨A, cap, ws, rfl, g1, g2, g3, g4, g5, g6⟩ := hu
    refine ⟨fun w' => by simp [Builtin.lenOf], fun m hm => ?_⟩
    rcases g6 with ⟨rfl, _⟩ | ⟨blk, off, k, rfl, hfz, hkp, hl⟩
    · simp at hm; subst hm
      cases A with
      | none => exact ⟨#[], fun w' _ => by simp [Builtin.firstCells], by simp, by intro i p hp; simp at hp⟩
      | some a => exact ⟨#[], fun w' _ => by simp [Builtin.firstCells, loadCells, loadCellsFrom], by simp, by intro i p hp; simp at hp⟩
    · obtain ⟨us, u1, u2, u3⟩ := loadRows_run (P := P) (E := E) (blk := blk) (off := off) (xs := xs.take m) hn (fun i p hp => by
        rw [List.getElem?_take] at hp
        split at hp
        · obtain ⟨y, hy, hv⟩ := VRl_get g3 hp
          have hpf : frozen p = true := frozenL_mem.1 g4 p (List.mem_of_getElem? hp)
          have hc := cells_VR hv (frozen_ne hpf)
          have hyk : y.cells.size = k := hl.1 y (List.mem_of_getElem? hy)
          have hpn := hk p (List.mem_of_getElem? hp)
          have hkn : k = n := by rw [← hyk, ← hpn]; simpa using VRl_length hc
          subst hkn
          refine ⟨hpn, fun j c hcj => ?_⟩
          obtain ⟨z, hz, hvz⟩ := VRl_get hc hcj
          exact ⟨z, hl.2 i y hy j z (by simpa using hz), hvz⟩
        · cases hp)
      have hml : (xs.take m).length = m := by simp; omega
      rw [hml] at u1 u2
      exact ⟨us, fun w' hw' => by simpa [Builtin.firstCells] using u1 w' hw', u2, u3⟩
  · rename_i r g off len
    split at h
    · cases h
    · rename_i b hb
      cases hc : (Nat.beq b.esz n && Nat.ble (off + len) b.elems.length) with
      | false => rw [hc] at h; cases h
      | true =>
        rw [hc] at h; cases h
        simp only [Bool.and_eq_true] at hc
        have e1 : b.esz = n := Nat.eq_of_beq_eq_true hc.1
        have e2 := Nat.le_of_ble_eq_true hc.2
        have hent := Bs.getg_ent.1 hb
        simp only [VR] at hu
        obtain ⟨A, cap, rfl, hlc, g', o, hr, hg, hu⟩ := hu
        obtain ⟨h1, h2, h3, h4⟩ := hu b hb
        have hll : ((b.elems.drop off).take len).length = len := by simp; omega
        refine ⟨fun w' => by rw [hll]; simp [Builtin.lenOf], fun m hm => ?_⟩
        rw [hll] at hm
        by_cases hm0 : m = 0
        · subst hm0
          cases A with
          | none => exact ⟨#[], fun w' _ => by simp [Builtin.firstCells], by simp, by intro i p hp; simp at hp⟩
          | some a => exact ⟨#[], fun w' _ => by simp [Builtin.firstCells, loadCells, loadCellsFrom], by simp, by intro i p hp; simp at hp⟩
        · have hA := h4.1 (by omega)
          subst hA
          obtain ⟨us, u1, u2, u3⟩ := loadRows_run (P := P) (E := E) (blk := (E.mu r).1) (off := (E.mu r).2 + off * b.esz) (xs := ((b.elems.drop off).take len).take m) hn (fun i p hp => by
            rw [List.getElem?_take] at hp
            split at hp
            · rw [List.getElem?_take] at hp
              split at hp
              · rw [List.getElem?_drop] at hp
                obtain ⟨hpl, ho⟩ := hR.own r g b hent _ p hp
                refine ⟨by rw [hpl, e1], fun j c hcj => ?_⟩
                obtain ⟨cs, ty, y, hh, hy, hv⟩ := ho j c hcj
                refine ⟨y, ?_, hv⟩
                simp only [World.cell?, hh]
                rw [← hy]
                simp only [Option.isSome_none, Bool.false_eq_true, if_false]
                congr 1
                rw [e1, Nat.add_mul]
                omega
              · cases hp
            · cases hp)
          have hml : (((b.elems.drop off).take len).take m).length = m := by simp; omega
          rw [hml] at u1 u2
          exact ⟨us, fun w' hw' => by simpa [Builtin.firstCells] using u1 w' hw', u2, u3⟩
  · rename_i s
    cases hc : Nat.beq n 1 with
    | false => rw [hc] at h; cases h
    | true =>
      rw [hc] at h; cases h
      have e1 : n = 1 := Nat.eq_of_beq_eq_true hc
      subst e1
      simp only [VR] at hu
      obtain ⟨rfl, _⟩ := hu
      have hsz : s.data.toList.length = s.size := by rw [Array.length_toList]; rfl
      refine ⟨fun w' => by simp [Builtin.lenOf], fun m hm => ?_⟩
      simp only [List.length_map, hsz] at hm
      have hdat : ((s.extract 0 m).data.map fun b => Value.int .u8 b.toNat).toList = (s.data.toList.take m).map fun b => .int .u8 b.toNat := by
        rw [Array.toList_map, ByteArray.data_extract, Array.toList_extract]
        simp [List.extract]
      refine ⟨(s.extract 0 m).data.map fun b => .int .u8 b.toNat, fun w' _ => by simp [Builtin.firstCells], ?_, ?_⟩
      · have := congrArg List.length hdat
        simp only [Array.length_toList, List.length_map, List.length_take, hsz] at this
        omega
      · intro i p hp
        rw [List.getElem?_take] at hp
        split at hp
        · rename_i him
          rw [List.getElem?_map, Option.map_eq_some_iff] at hp
          obtain ⟨c, hc, rfl⟩ := hp
          refine ⟨rfl, fun j q hq => ?_⟩
          cases j with
          | zero =>
            simp [PV.cells] at hq; subst hq
            refine ⟨.int .u8 c.toNat, ?_, by simp [VR, Value.oneCell']⟩
            rw [← Array.getElem?_toList, hdat, List.getElem?_map, List.getElem?_take]
            simp [him, hc]
          | succ j => simp [PV.cells] at hq
        · cases hp
  · rename_i y0 g off len cp
    split at h
    · cases h
    · rename_i b hb
      cases hc : (Nat.beq b.esz n && Nat.ble (off + len) b.elems.length) with
      | false => rw [hc] at h; cases h
      | true =>
        rw [hc] at h; cases h
        simp only [Bool.and_eq_true] at hc
        have e1 : b.esz = n := Nat.eq_of_beq_eq_true hc.1
        have e2 := Nat.le_of_ble_eq_true hc.2
        have hent := Bs.getg_ent.1 hb
        simp only [VR] at hu
        obtain ⟨A, rfl, hlc, g', o, hr, hg, hu⟩ := hu
        obtain ⟨h1, h2, h4⟩ := hu b hb
        have hll : ((b.elems.drop off).take len).length = len := by simp; omega
        refine ⟨fun w' => by rw [hll]; simp [Builtin.lenOf], fun m hm => ?_⟩
        rw [hll] at hm
        by_cases hm0 : m = 0
        · subst hm0
          cases A with
          | none => exact ⟨#[], fun w' _ => by simp [Builtin.firstCells], by simp, by intro i p hp; simp at hp⟩
          | some a => exact ⟨#[], fun w' _ => by simp [Builtin.firstCells, loadCells, loadCellsFrom], by simp, by intro i p hp; simp at hp⟩
        · have hA := h4.1 (by omega)
          subst hA
          obtain ⟨us, u1, u2, u3⟩ := loadRows_run (P := P) (E := E) (blk := (E.mu (.glob y0)).1) (off := (E.mu (.glob y0)).2 + off * b.esz) (xs := ((b.elems.drop off).take len).take m) hn (fun i p hp => by
            rw [List.getElem?_take] at hp
            split at hp
            · rw [List.getElem?_take] at hp
              split at hp
              · rw [List.getElem?_drop] at hp
                obtain ⟨hpl, ho⟩ := hR.own (.glob y0) g b hent _ p hp
                refine ⟨by rw [hpl, e1], fun j c hcj => ?_⟩
                obtain ⟨cs, ty, y, hh, hy, hv⟩ := ho j c hcj
                refine ⟨y, ?_, hv⟩
                simp only [World.cell?, hh]
                rw [← hy]
                simp only [Option.isSome_none, Bool.false_eq_true, if_false]
                congr 1
                rw [e1, Nat.add_mul]
                omega
              · cases hp
            · cases hp)
          have hml : (((b.elems.drop off).take len).take m).length = m := by simp; omega
          rw [hml] at u1 u2
          exact ⟨us, fun w' hw' => by simpa [Builtin.firstCells] using u1 w' hw', u2, u3⟩
  · cases h

end

end Go.Pm

/- PM: append. -/

namespace Go.Pm
noncomputable section

theorem nextslicecap_le {need c : Nat} (h : c < need) : Builtin.nextslicecap need c ≤ 3 * need + 1200 := by
  unfold Builtin.nextslicecap
  split
  · omega
  · split
    · omega
    · simp only [Builtin.growBy]
      split
      · omega
      · split
        · omega
        · split
          · omega
          · split <;> omega


/-- 2^47. -/
def room47 : Nat := 140737488355328

/-- Is a row of so many elements, of so many bytes each, none too great (three times as many would be made at most)? -/
def roomFor (n bytes : Nat) : Bool := Nat.ble ((3 * n + 1200) * (bytes + 1)) room47

def sliceOrString : TypeDesc → Bool
  | .slice _ => true
  | .string => true
  | _ => false

theorem src_Src {T : Tbl} {P : Program} (hT : T.Ok P) {E : Env} (hR : Rel E) {n : Nat} {tx : TypeId} {d : TypeDesc} {x : PV} {u : Value} {xs : List PV} (hn : 0 < n) (ht : T.und tx = some d)
    (hd : sliceOrString d = true) (hu : VR E x u) (h : srcElems E.bs n x = some xs) (ho : xs.all (okEl n) = true) :
    ∃ news : List Value, Src P n tx u xs.length news E.w ∧ RowsAt E n 0 xs news.toArray := by
  have hk : ∀ p ∈ xs, p.cells.length = n := fun p hp => (okEl_spec (List.all_eq_true.1 ho p hp)).1
  obtain ⟨s1, s2⟩ := src_run (P := P) hR hn hu h hk
  obtain ⟨us, u1, u2, u3⟩ := s2 xs.length (Nat.le_refl _)
  rw [List.take_length] at u3
  refine ⟨us.toList, ⟨?_, s1, u1 _ (fun _ => rfl), u1 _ (fun _ => rfl), by simpa using u2, one_of_rows hn u3 u2 ho⟩, u3⟩
  have := hT.und tx d ht
  cases d <;> simp [sliceOrString] at hd
  · exact .inr this
  · exact .inl ⟨_, this⟩

/-- The key under which what an append made is named. -/
def keyOf (r : BRef) (d : Nat) : Nat × Nat :=
  match r with
  | .loc t k => (t, k)
  | .glob _ => (d, 0)

/-- What was there, and more behind it. -/
def growB (b : Blk) (off len : Nat) (ys : List PV) : Blk := bif Nat.beq off 0 && Nat.beq len b.len then b.over len ys else .ofL b.esz (b.sub off len ++ ys)
theorem growB_esz (b : Blk) (off len : Nat) (ys : List PV) : (growB b off len ys).esz = b.esz := by unfold growB; cases (Nat.beq off 0 && Nat.beq len b.len) <;> rfl
theorem growB_elems (b : Blk) (off len : Nat) (ys : List PV) : (growB b off len ys).elems = (b.elems.drop off).take len ++ ys := by
  unfold growB
  cases h : (Nat.beq off 0 && Nat.beq len b.len) with
  | false => simp only [cond_false, Blk.ofL_elems, Blk.sub_eq]
  | true =>
    simp only [Bool.and_eq_true] at h
    have h1 := Nat.eq_of_beq_eq_true h.1
    have h2 := Nat.eq_of_beq_eq_true h.2
    rw [Blk.len_eq] at h2
    subst h1
    simp only [cond_true, Blk.over_elems, List.drop_zero]
    rw [List.drop_eq_nil_of_le (by omega)]
    simp

def popAppend (T : Tbl) (bs : Bs) (d : Nat) (sT xT : TypeId) (s x : PV) : Option (PV × Bs) :=
  match T.und sT, T.und xT with
  | some (.slice e), some dx => match T.info e with
    | none => none
    | some i => match i.zero with
      | none => none
      | some z => match srcElems bs i.size x with
        | none => none
        | some ys =>
          bif sliceOrString dx && !Nat.beq i.size 0 && Nat.beq (ofVal z).cells.length i.size && known (ofVal z) && ys.all (okEl i.size) then
            bif ys.isEmpty then
              match s with
              | .vs b full xs => some (.vs b full xs, bs)
              | .sl r g off len => some (.sl r g off len, bs)
              | _ => none
            else match s with
            | .vs _ full xs =>
              bif full && xs.all (okEl i.size) && roomFor (xs.length + ys.length) i.bytes then
                some (.sl (.loc d 0) (bs.gen d 0) 0 (xs.length + ys.length), bs.mk1 d 0 (.ofL i.size (xs ++ ys)))
              else none
            | .sl r g off len => match bs.getg r g with
              | none => none
              | some b =>
                bif Nat.beq b.esz i.size && Nat.ble (off + len) b.len && roomFor (len + ys.length) i.bytes then
                  bif Nat.ble (off + len + ys.length) b.len && okG r ys then
                    some (.sl r g off (len + ys.length), bs.upd r g (some (b.over (off + len) ys)))
                  else
                    some (.sl (.loc (keyOf r d).1 (keyOf r d).2) ((bs.upd r g none).gen (keyOf r d).1 (keyOf r d).2) 0 (len + ys.length),
                      (bs.upd r g none).mk1 (keyOf r d).1 (keyOf r d).2 (growB b off len ys))
                else none
            | _ => none
          else none
  | _, _ => none

theorem grownCap_le (w : World) (need old : Nat) (e : TypeId) : need ≤ grownCap w need old e := by
  exact Nat.le_add_right _ _

theorem RowsAt_append {E : Env} {n : Nat} {xs ys : List PV} {us vs : Array Value} (h : RowsAt E n 0 xs us) (k : RowsAt E n 0 ys vs) (hs : us.size = xs.length * n) (rest : Array Value) :
    RowsAt E n 0 (xs ++ ys) (us ++ vs ++ rest) := by
  intro i p hp
  by_cases hi : i < xs.length
  · rw [List.getElem?_append_left hi] at hp
    obtain ⟨h1, h2⟩ := h i p hp
    refine ⟨h1, fun j c hc => ?_⟩
    obtain ⟨y, hy, hv⟩ := h2 j c hc
    refine ⟨y, ?_, hv⟩
    have hjl := lt_len hc
    rw [h1] at hjl
    have := row_lt hjl hi
    rw [Array.append_assoc, Array.getElem?_append_left (by omega)]
    exact hy
  · rw [List.getElem?_append_right (by omega)] at hp
    obtain ⟨h1, h2⟩ := k _ p hp
    refine ⟨h1, fun j c hc => ?_⟩
    obtain ⟨y, hy, hv⟩ := h2 j c hc
    refine ⟨y, ?_, hv⟩
    have e : i * n = xs.length * n + (i - xs.length) * n := by
      rw [← Nat.add_mul]; congr 1; omega
    have hlt : 0 + ((i - xs.length) * n + j) < vs.size := by
      rcases Nat.lt_or_ge (0 + ((i - xs.length) * n + j)) vs.size with h | h
      · exact h
      · rw [Array.getElem?_eq_none h] at hy; cases hy
    rw [Array.append_assoc, Array.getElem?_append_right (by omega), Array.getElem?_append_left (by omega), ← hy]
    congr 1
    omega

theorem RowsAt_ext {E E' : Env} (hx : Ext E E') {n base : Nat} {xs : List PV} {us : Array Value} (h : RowsAt E n base xs us) : RowsAt E' n base xs us := fun i p hp => by
  obtain ⟨h1, h2⟩ := h i p hp
  exact ⟨h1, fun j c hc => by obtain ⟨y, hy, hv⟩ := h2 j c hc; exact ⟨y, hy, VR_ext hx hv⟩⟩

/-- The arm that grows. -/
theorem append_grow {T : Tbl} {P : Program} (hT : T.Ok P) {E : Env} (hR : Rel E) {sT xT ty e : TypeId} {i : TypeInfo} {z : Value} {s x : Value} {t k : Nat} {xs ys : List PV}
    (ht : T.und sT = some (.slice e)) (hi : T.info e = some i) (hz : i.zero = some z) (hn : 0 < i.size) (hzl : z.cells.size = i.size)
    {base : Option Addr} {cap : Nat} (hs : s = .slice base xs.length cap) {olds : Array Value}
    (hold : ∀ w' : World, (∀ a, w'.cell? a = E.w.cell? a) → (Builtin.firstCells i.size xs.length s).run P w' = .ok olds w') (hol : olds.size = xs.length * i.size) (hor : RowsAt E i.size 0 xs olds)
    {news : List Value} (hsrc : Src P i.size xT x ys.length news E.w) (hnr : RowsAt E i.size 0 ys news.toArray)
    (hg : cap < xs.length + ys.length) (hrf : roomFor (xs.length + ys.length) i.bytes = true) (b : Blk) (hbz : b.esz = i.size) (hbe : b.elems = xs ++ ys) :
    ∃ (E' : Env) (v : Value), (Builtin.append_ #[sT, xT] ty #[s, x]).run P E.w = .ok v E'.w ∧ E'.bs = E.bs.mk1 t k b ∧
      VR E' (.sl (.loc t k) (E.bs.gen t k) 0 (xs.length + ys.length)) v ∧ Ext E E' ∧ Rel E' := by
  subst hs
  have hnc := nextslicecap_le hg
  have hsz := Nat.le_of_ble_eq_true hrf
  clear hrf
  generalize hK : 3 * (xs.length + ys.length) + 1200 = K at hnc hsz
  have hKl : xs.length + ys.length ≤ K := by omega
  have hfit : Builtin.nextslicecap (xs.length + ys.length) cap * i.bytes ≤ 281474976710656 := by
    have h1 : Builtin.nextslicecap (xs.length + ys.length) cap * i.bytes ≤ K * (i.bytes + 1) := Nat.mul_le_mul hnc (Nat.le_succ _)
    unfold room47 at hsz
    omega
  have h63 : ((xs.length + ys.length : Nat) : Int) ≤ 9223372036854775807 := by
    have h1 : K * 1 ≤ K * (i.bytes + 1) := Nat.mul_le_mul_left _ (Nat.succ_le_succ (Nat.zero_le _))
    unfold room47 at hsz
    omega
  clear hK hsz hKl hnc
  have hrun := run_append_grow_src (P := P) E.w sT xT ty e i z (hT.und _ _ ht) (hT.info _ _ hi) hz base xs.length cap olds.toList (by simpa using hold E.w.drew (fun _ => rfl)) x ys.length news hsrc hg h63 hfit
  have hgc := grownCap_le E.w (xs.length + ys.length) cap e
  generalize hG : grownCap E.w (xs.length + ys.length) cap e = G at hrun hgc
  obtain ⟨E1, a1, a2, a3, a4, a5, a6, a7, a8⟩ := draw_ext hR (w' := E.w.drew) rfl rfl rfl rfl
  have hrows : RowsAt E1 i.size 0 (xs ++ ys) (olds ++ news.toArray ++ Builtin.zeroCells z.cells (G - (xs.length + ys.length))) := RowsAt_ext a7 (RowsAt_append hor hnr hol _)
  have hsize : G * i.size ≤ (olds ++ news.toArray ++ Builtin.zeroCells z.cells (G - (xs.length + ys.length))).size := by
    simp only [Array.size_append, hol, List.size_toArray, hsrc.newsLen, Builtin.zeroCells, Array.size_map, Array.size_range, hzl]
    rw [← Nat.add_mul, ← Nat.add_mul]
    exact Nat.mul_le_mul_right _ (by omega)
  obtain ⟨n1, E2, b1, b2, b3, b4, b5, b6⟩ := newRow_ext (P := P) a8 e t k (n := i.size) (C := G) (elems := xs ++ ys) hn (by simpa using hgc) hsize hrows b hbz hbe
  have e1 : (olds.toList ++ news).toArray = olds ++ news.toArray := by
    apply Array.toList_inj.1
    simp
  refine ⟨E2, .slice (some ⟨E.w.heap.size, 0, none⟩) (xs.length + ys.length) G, ?_, by rw [b2, a2], ?_, a7.trans b5, b6⟩
  · rw [hrun, b1, a1, e1]
    clear hrun hfit h63
    unfold pushed World.alloc
    rfl
  · have := VR_sl_new (E := E1) b2 b3 b4 (len := xs.length + ys.length) (by rw [hbe]; simp) (by rw [hbe]; simpa using hgc)
    rw [a2, a1] at this
    exact this

end

end Go.Pm
