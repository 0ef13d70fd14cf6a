/- Abstract values: types, pure values, and what it means that memory represents a pure value. Abstract values: laws of representation; abstract values and states. Abstract values, abstract states, what each operation does to them, and the weakest precondition over them. The table of the program's types. What it means that a world bears an abstract state. The parts of a value, and typed values, are borne by the cells that bear the value. Typed values out of abstract values. -/
import Derived.Orders
import Derived.Tactics
import Derived.KernelRfl
namespace Go.Proofs.Ythgnjimpakpkjaa
namespace A

/-- the recursive struct types of the program -/
inductive RN | arr | node | stmt
deriving DecidableEq

inductive Ty
  | int (k : IntKind) | bool | str | sl (t : Ty) | unit | pair (a b : Ty) | rc (r : RN) | arn (n : Nat) (t : Ty)
deriving DecidableEq

/-- api.Array as a tree -/
inductive Arr
  | mk (kind : Int) (shape nums : List Int) (items : List Arr)

mutual
/-- api.Node as a tree -/
inductive Node
  | mk (kind at_ cls : Int) (text : List UInt8) (prim op : Int) (value : Arr) (kids : List Node) (body : List Stmt) (depth slot slots : Int)
/-- api.Stmt as a tree -/
inductive Stmt
  | mk (kind at_ : Int) (name : List UInt8) (slot : Int) (test node : Node)
end

namespace Arr
def kind : Arr → Int | .mk k _ _ _ => k
def shape : Arr → List Int | .mk _ s _ _ => s
def nums : Arr → List Int | .mk _ _ n _ => n
def items : Arr → List Arr | .mk _ _ _ i => i
end Arr
namespace Node
def kind : Node → Int | .mk k _ _ _ _ _ _ _ _ _ _ _ => k
def at_ : Node → Int | .mk _ a _ _ _ _ _ _ _ _ _ _ => a
def cls : Node → Int | .mk _ _ c _ _ _ _ _ _ _ _ _ => c
def text : Node → List UInt8 | .mk _ _ _ t _ _ _ _ _ _ _ _ => t
def prim : Node → Int | .mk _ _ _ _ p _ _ _ _ _ _ _ => p
def op : Node → Int | .mk _ _ _ _ _ o _ _ _ _ _ _ => o
def value : Node → Arr | .mk _ _ _ _ _ _ v _ _ _ _ _ => v
def kids : Node → List Node | .mk _ _ _ _ _ _ _ k _ _ _ _ => k
def body : Node → List Stmt | .mk _ _ _ _ _ _ _ _ b _ _ _ => b
def depth : Node → Int | .mk _ _ _ _ _ _ _ _ _ d _ _ => d
def slot : Node → Int | .mk _ _ _ _ _ _ _ _ _ _ s _ => s
def slots : Node → Int | .mk _ _ _ _ _ _ _ _ _ _ _ s => s
end Node
namespace Stmt
def kind : Stmt → Int | .mk k _ _ _ _ _ => k
def at_ : Stmt → Int | .mk _ a _ _ _ _ => a
def name : Stmt → List UInt8 | .mk _ _ n _ _ _ => n
def slot : Stmt → Int | .mk _ _ _ s _ _ => s
def test : Stmt → Node | .mk _ _ _ _ t _ => t
def node : Stmt → Node | .mk _ _ _ _ _ n => n
end Stmt

instance : Inhabited Arr := ⟨.mk 0 [] [] []⟩
instance : Inhabited Node := ⟨.mk 0 0 0 [] 0 0 default [] [] 0 0 0⟩
instance : Inhabited Stmt := ⟨.mk 0 0 [] 0 default default⟩

def RN.Car : RN → Type
  | .arr => Arr
  | .node => Node
  | .stmt => Stmt

def El : Ty → Type
  | .int _ => Int
  | .bool => Bool
  | .str => List UInt8
  | .sl t => List (El t)
  | .unit => Unit
  | .pair a b => El a × El b
  | .rc r => r.Car
  | .arn _ t => List (El t)

def RN.dflt : (r : RN) → r.Car
  | .arr => Arr.mk 0 [] [] []
  | .node => Node.mk 0 0 0 [] 0 0 (Arr.mk 0 [] [] []) [] [] 0 0 0
  | .stmt => Stmt.mk 0 0 [] 0 (Node.mk 0 0 0 [] 0 0 (Arr.mk 0 [] [] []) [] [] 0 0 0) (Node.mk 0 0 0 [] 0 0 (Arr.mk 0 [] [] []) [] [] 0 0 0)

/-- the zero value -/
def dflt : (t : Ty) → El t
  | .int _ => (0 : Int)
  | .bool => false
  | .str => ([] : List UInt8)
  | .sl _ => []
  | .unit => ()
  | .pair a b => (dflt a, dflt b)
  | .rc r => r.dflt
  | .arn n t => List.replicate n (dflt t)

abbrev I64 : Ty := .int .i64

def RN.size : RN → Nat
  | .arr => 4
  | .node => 15
  | .stmt => 34

/-- the number of cells -/
def csize : Ty → Nat
  | .int _ => 1
  | .bool => 1
  | .str => 1
  | .sl _ => 1
  | .unit => 0
  | .pair a b => csize a + csize b
  | .rc r => r.size
  | .arn n t => n * csize t

/-- is a value of the type an aggregate? -/
def isSt : Ty → Bool
  | .unit | .pair _ _ | .rc _ | .arn _ _ => true
  | _ => false

/-- the fields of a recursive struct type -/
def RN.fields : RN → Ty
  | .arr => .pair I64 (.pair (.sl I64) (.pair (.sl I64) (.sl (.rc .arr))))
  | .node => .pair I64 (.pair I64 (.pair I64 (.pair .str (.pair I64 (.pair I64 (.pair (.rc .arr) (.pair (.sl (.rc .node)) (.pair (.sl (.rc .stmt)) (.pair I64 (.pair I64 I64))))))))))
  | .stmt => .pair I64 (.pair I64 (.pair .str (.pair I64 (.pair (.rc .node) (.rc .node)))))

def RN.out : (r : RN) → r.Car → A.El (RN.fields r)
  | .arr, a => (Arr.kind a, Arr.shape a, Arr.nums a, Arr.items a)
  | .node, n => (Node.kind n, Node.at_ n, Node.cls n, Node.text n, Node.prim n, Node.op n, Node.value n, Node.kids n, Node.body n, Node.depth n, Node.slot n, Node.slots n)
  | .stmt, s => (Stmt.kind s, Stmt.at_ s, Stmt.name s, Stmt.slot s, Stmt.test s, Stmt.node s)

def RN.into : (r : RN) → A.El (RN.fields r) → r.Car
  | .arr, x => Arr.mk x.1 x.2.1 x.2.2.1 x.2.2.2
  | .node, x => Node.mk x.1 x.2.1 x.2.2.1 x.2.2.2.1 x.2.2.2.2.1 x.2.2.2.2.2.1 x.2.2.2.2.2.2.1 x.2.2.2.2.2.2.2.1 x.2.2.2.2.2.2.2.2.1 x.2.2.2.2.2.2.2.2.2.1 x.2.2.2.2.2.2.2.2.2.2.1 x.2.2.2.2.2.2.2.2.2.2.2
  | .stmt, x => Stmt.mk x.1 x.2.1 x.2.2.1 x.2.2.2.1 x.2.2.2.2.1 x.2.2.2.2.2

theorem RN.out_into (r : RN) (x : A.El (RN.fields r)) : r.out (r.into x) = x := by
  cases r <;> rfl
theorem RN.into_out (r : RN) (x : r.Car) : r.into (r.out x) = x := by
  cases r <;> (cases x; rfl)
theorem csize_fields (r : RN) : csize r.fields = r.size := by cases r <;> rfl
theorem isSt_fields (r : RN) : isSt r.fields = true := by cases r <;> rfl

/-- the bound on lengths -/
def LIM : Nat := 2 ^ 32
theorem LIM_eq : LIM = 4294967296 := rfl

def inR (k : IntKind) (n : Int) : Prop := k.min ≤ n ∧ n ≤ k.max
instance (k : IntKind) (n : Int) : Decidable (inR k n) := inferInstanceAs (Decidable (_ ∧ _))

/-- the cells of a block, if it is a row of cells -/
def blk (w : World) (b : Nat) : Option (Array Value) :=
  match w.heap[b]? with
  | some (.cells c _ _) => some c
  | _ => none

section
variable (w : World) (Z : Nat → Prop)
/-- 'cells of the world represent the value', within the blocks Z; n: how deep -/
def Rep : Nat → (t : Ty) → El t → List Value → Prop
  | 0, _, _, _ => False
  | _ + 1, .int k, x, vs => vs = [.int k x] ∧ inR k x
  | _ + 1, .bool, x, vs => vs = [.bool x]
  | _ + 1, .str, x, vs => vs = [.string ⟨List.toArray x⟩] ∧ List.length (α := UInt8) x < LIM
  | n + 1, .sl t, l, vs => ∃ a cap, vs = [.slice a (List.length (α := El t) l) cap] ∧ List.length (α := El t) l ≤ cap ∧ List.length (α := El t) l < LIM ∧
      (List.length (α := El t) l = 0 ∨ ∃ b off c, a = some ⟨b, off, none⟩ ∧ Z b ∧ blk w b = some c ∧
        ∀ i (x : El t), (show List (El t) from l)[i]? = some x → ∃ us, us.length = csize t ∧ (∀ j, j < csize t → c[off + i * csize t + j]? = us[j]?) ∧ Rep n t x us)
  | _ + 1, .unit, _, vs => vs = []
  | n + 1, .pair a b, x, vs => ∃ u v, vs = u ++ v ∧ Rep n a x.1 u ∧ Rep n b x.2 v
  | n + 1, .rc r, x, vs => Rep n r.fields (r.out x) vs
  | n + 1, .arn m t, l, vs => List.length (α := El t) l = m ∧ vs.length = m * csize t ∧
      ∀ i (x : El t), (show List (El t) from l)[i]? = some x → Rep n t x ((vs.drop (i * csize t)).take (csize t))
end
end A
end Go.Proofs.Ythgnjimpakpkjaa
namespace Go.Proofs.Ythgnjimpakpkjaa
namespace A

theorem Rep.mono {w w' : World} {Z Z' : Nat → Prop} (h : ∀ b, Z b → Z' b ∧ blk w' b = blk w b) :
    ∀ n t (x : El t) vs, Rep w Z n t x vs → Rep w' Z' n t x vs := by
  intro n
  induction n with
  | zero => intro t x vs h; exact h.elim
  | succ n ih =>
    intro t x vs hr
    cases t with
    | int k => exact hr
    | bool => exact hr
    | str => exact hr
    | unit => exact hr
    | sl t =>
      obtain ⟨a, cap, hv, hc, hl, hb⟩ := hr
      refine ⟨a, cap, hv, hc, hl, ?_⟩
      rcases hb with hb | ⟨b, off, c, ha, hz, hk, hi⟩
      · exact .inl hb
      · refine .inr ⟨b, off, c, ha, (h b hz).1, (h b hz).2.trans hk, fun i x hx => ?_⟩
        obtain ⟨us, h1, h2, h3⟩ := hi i x hx
        exact ⟨us, h1, h2, ih _ _ _ h3⟩
    | pair a b =>
      obtain ⟨u, v, hv, h1, h2⟩ := hr
      exact ⟨u, v, hv, ih _ _ _ h1, ih _ _ _ h2⟩
    | rc r => exact ih _ _ _ hr
    | arn m t =>
      obtain ⟨h1, h2, h3⟩ := hr
      exact ⟨h1, h2, fun i x hx => ih _ _ _ (h3 i x hx)⟩

theorem Rep.fuel {w : World} {Z : Nat → Prop} : ∀ n m t (x : El t) vs, n ≤ m → Rep w Z n t x vs → Rep w Z m t x vs := by
  intro n
  induction n with
  | zero => intro m t x vs _ h; exact h.elim
  | succ n ih =>
    intro m t x vs hm hr
    obtain ⟨m, rfl⟩ : ∃ k, m = k + 1 := ⟨m - 1, by omega⟩
    have hm : n ≤ m := by omega
    cases t with
    | int k => exact hr
    | bool => exact hr
    | str => exact hr
    | unit => exact hr
    | sl t =>
      obtain ⟨a, cap, hv, hc, hl, hb⟩ := hr
      refine ⟨a, cap, hv, hc, hl, ?_⟩
      rcases hb with hb | ⟨b, off, c, ha, hz, hk, hi⟩
      · exact .inl hb
      · refine .inr ⟨b, off, c, ha, hz, hk, fun i x hx => ?_⟩
        obtain ⟨us, h1, h2, h3⟩ := hi i x hx
        exact ⟨us, h1, h2, ih m _ _ _ hm h3⟩
    | pair a b =>
      obtain ⟨u, v, hv, h1, h2⟩ := hr
      exact ⟨u, v, hv, ih m _ _ _ hm h1, ih m _ _ _ hm h2⟩
    | rc r => exact ih m _ _ _ hm hr
    | arn k t =>
      obtain ⟨h1, h2, h3⟩ := hr
      exact ⟨h1, h2, fun i x hx => ih m _ _ _ hm (h3 i x hx)⟩

theorem Rep.length {w : World} {Z : Nat → Prop} : ∀ n t (x : El t) vs, Rep w Z n t x vs → vs.length = csize t := by
  intro n
  induction n with
  | zero => intro t x vs h; exact h.elim
  | succ n ih =>
    intro t x vs hr
    cases t with
    | int k => rw [hr.1]; rfl
    | bool => rw [hr]; rfl
    | str => rw [hr.1]; rfl
    | unit => rw [hr]; rfl
    | sl t => obtain ⟨a, cap, hv, _⟩ := hr; rw [hv]; rfl
    | pair a b =>
      obtain ⟨u, v, hv, h1, h2⟩ := hr
      rw [hv, List.length_append, ih _ _ _ h1, ih _ _ _ h2]; rfl
    | rc r => rw [ih _ _ _ hr, csize_fields]; rfl
    | arn k t => exact hr.2.1

/-- 'represents', however deep -/
def Reps (w : World) (Z : Nat → Prop) (t : Ty) (x : El t) (vs : List Value) : Prop := ∃ n, Rep w Z n t x vs

theorem Reps.mono {w w' : World} {Z Z' : Nat → Prop} (h : ∀ b, Z b → Z' b ∧ blk w' b = blk w b) {t : Ty} {x : El t} {vs : List Value} :
    Reps w Z t x vs → Reps w' Z' t x vs := fun ⟨n, hr⟩ => ⟨n, hr.mono h⟩
theorem Reps.length {w : World} {Z : Nat → Prop} {t : Ty} {x : El t} {vs : List Value} (h : Reps w Z t x vs) : vs.length = csize t :=
  let ⟨n, hr⟩ := h; hr.length
theorem Reps.pair {w : World} {Z : Nat → Prop} {a b : Ty} {x : El (.pair a b)} {u v : List Value} (h1 : Reps w Z a x.1 u) (h2 : Reps w Z b x.2 v) :
    Reps w Z (.pair a b) x (u ++ v) := by
  obtain ⟨n, h1⟩ := h1
  obtain ⟨m, h2⟩ := h2
  exact ⟨max n m + 1, u, v, rfl, h1.fuel _ _ _ _ _ (Nat.le_max_left ..), h2.fuel _ _ _ _ _ (Nat.le_max_right ..)⟩
theorem Reps.of_pair {w : World} {Z : Nat → Prop} {a b : Ty} {x : El (.pair a b)} {vs : List Value} (h : Reps w Z (.pair a b) x vs) :
    ∃ u v, vs = u ++ v ∧ Reps w Z a x.1 u ∧ Reps w Z b x.2 v := by
  obtain ⟨n, h⟩ := h
  cases n with
  | zero => exact h.elim
  | succ n => obtain ⟨u, v, hv, h1, h2⟩ := h; exact ⟨u, v, hv, ⟨n, h1⟩, ⟨n, h2⟩⟩
theorem Reps.rc_iff {w : World} {Z : Nat → Prop} {r : RN} {x : r.Car} {vs : List Value} : Reps w Z (.rc r) x vs ↔ Reps w Z r.fields (r.out x) vs := by
  constructor
  · rintro ⟨n, h⟩
    cases n with
    | zero => exact h.elim
    | succ n => exact ⟨n, h⟩
  · rintro ⟨n, h⟩
    exact ⟨n + 1, h⟩
theorem Reps.int_iff {w : World} {Z : Nat → Prop} {k : IntKind} {x : Int} {vs : List Value} : Reps w Z (.int k) x vs ↔ vs = [.int k x] ∧ inR k x := by
  constructor
  · rintro ⟨n, h⟩
    cases n with
    | zero => exact h.elim
    | succ n => exact h
  · intro h; exact ⟨1, h⟩
theorem Reps.bool_iff {w : World} {Z : Nat → Prop} {x : Bool} {vs : List Value} : Reps w Z .bool x vs ↔ vs = [.bool x] := by
  constructor
  · rintro ⟨n, h⟩
    cases n with
    | zero => exact h.elim
    | succ n => exact h
  · intro h; exact ⟨1, h⟩
theorem Reps.str_iff {w : World} {Z : Nat → Prop} {x : List UInt8} {vs : List Value} : Reps w Z .str x vs ↔ vs = [.string ⟨x.toArray⟩] ∧ x.length < LIM := by
  constructor
  · rintro ⟨n, h⟩
    cases n with
    | zero => exact h.elim
    | succ n => exact h
  · intro h; exact ⟨1, h⟩
theorem Reps.unit_iff {w : World} {Z : Nat → Prop} {x : Unit} {vs : List Value} : Reps w Z .unit x vs ↔ vs = [] := by
  constructor
  · rintro ⟨n, h⟩
    cases n with
    | zero => exact h.elim
    | succ n => exact h
  · intro h; exact ⟨1, h⟩

/-- the elements of a list lie in a row of cells, from a place on -/
def Elts (w : World) (Z : Nat → Prop) (t : Ty) (l : List (El t)) (c : Array Value) (off : Nat) : Prop :=
  ∀ i (x : El t), l[i]? = some x → ∃ us, us.length = csize t ∧ (∀ j, j < csize t → c[off + i * csize t + j]? = us[j]?) ∧ Reps w Z t x us

/-- finitely many depths have a bound -/
theorem fuel_bound {α : Type} (l : List α) (R : Nat → Nat → α → Prop) (hm : ∀ i n m x, n ≤ m → R i n x → R i m x)
    (h : ∀ i x, l[i]? = some x → ∃ n, R i n x) : ∃ n, ∀ i x, l[i]? = some x → R i n x := by
  have key : ∀ k, k ≤ l.length → ∃ n, ∀ i x, i < k → l[i]? = some x → R i n x := by
    intro k
    induction k with
    | zero => intro _; exact ⟨0, fun i x hi => by omega⟩
    | succ k ih =>
      intro hk
      obtain ⟨n, hn⟩ := ih (by omega)
      have hlt : k < l.length := by omega
      obtain ⟨m, hm'⟩ := h k l[k] (by simp [hlt])
      refine ⟨max n m, fun i x hi hx => ?_⟩
      by_cases e : i = k
      · subst e
        have : x = l[i] := by simp [hlt] at hx; exact hx.symm
        subst this
        exact hm i m _ _ (Nat.le_max_right ..) hm'
      · exact hm i n _ _ (Nat.le_max_left ..) (hn i x (by omega) hx)
  obtain ⟨n, hn⟩ := key l.length (Nat.le_refl _)
  refine ⟨n, fun i x hx => hn i x ?_ hx⟩
  by_cases h : i < l.length
  · exact h
  · simp [h] at hx

theorem Elts.bound {w : World} {Z : Nat → Prop} {t : Ty} {l : List (El t)} {c : Array Value} {off : Nat} (h : Elts w Z t l c off) :
    ∃ n, ∀ i (x : El t), l[i]? = some x → ∃ us, us.length = csize t ∧ (∀ j, j < csize t → c[off + i * csize t + j]? = us[j]?) ∧ Rep w Z n t x us := by
  refine fuel_bound l (fun i n x => ∃ us, us.length = csize t ∧ (∀ j, j < csize t → c[off + i * csize t + j]? = us[j]?) ∧ Rep w Z n t x us) ?_ ?_
  · rintro i n m x hnm ⟨us, h1, h2, h3⟩
    exact ⟨us, h1, h2, h3.fuel _ _ _ _ _ hnm⟩
  · intro i x hx
    obtain ⟨us, h1, h2, n, h3⟩ := h i x hx
    exact ⟨n, us, h1, h2, h3⟩

theorem Reps.sl_iff {w : World} {Z : Nat → Prop} {t : Ty} {l : List (El t)} {vs : List Value} : Reps w Z (.sl t) l vs ↔
    ∃ a cap, vs = [.slice a l.length cap] ∧ l.length ≤ cap ∧ l.length < LIM ∧
      (l.length = 0 ∨ ∃ b off c, a = some ⟨b, off, none⟩ ∧ Z b ∧ blk w b = some c ∧ Elts w Z t l c off) := by
  constructor
  · rintro ⟨n, h⟩
    cases n with
    | zero => exact h.elim
    | succ n =>
      obtain ⟨a, cap, hv, hc, hl, hb⟩ := h
      refine ⟨a, cap, hv, hc, hl, ?_⟩
      rcases hb with hb | ⟨b, off, c, ha, hz, hk, hi⟩
      · exact .inl hb
      · refine .inr ⟨b, off, c, ha, hz, hk, fun i x hx => ?_⟩
        obtain ⟨us, h1, h2, h3⟩ := hi i x hx
        exact ⟨us, h1, h2, n, h3⟩
  · rintro ⟨a, cap, hv, hc, hl, hb⟩
    rcases hb with hb | ⟨b, off, c, ha, hz, hk, hi⟩
    · exact ⟨1, a, cap, hv, hc, hl, .inl hb⟩
    · obtain ⟨n, hn⟩ := hi.bound
      exact ⟨n + 1, a, cap, hv, hc, hl, .inr ⟨b, off, c, ha, hz, hk, hn⟩⟩

theorem Elts.mono {w w' : World} {Z Z' : Nat → Prop} (h : ∀ b, Z b → Z' b ∧ blk w' b = blk w b) {t : Ty} {l : List (El t)} {c : Array Value} {off : Nat} :
    Elts w Z t l c off → Elts w' Z' t l c off := fun he i x hx =>
  let ⟨us, h1, h2, h3⟩ := he i x hx
  ⟨us, h1, h2, h3.mono h⟩

theorem Reps.arn_iff {w : World} {Z : Nat → Prop} {t : Ty} {m : Nat} {l : List (El t)} {vs : List Value} : Reps w Z (.arn m t) l vs ↔
    l.length = m ∧ vs.length = m * csize t ∧ ∀ i (x : El t), l[i]? = some x → Reps w Z t x ((vs.drop (i * csize t)).take (csize t)) := by
  constructor
  · rintro ⟨n, h⟩
    cases n with
    | zero => exact h.elim
    | succ n =>
      obtain ⟨h1, h2, h3⟩ := h
      exact ⟨h1, h2, fun i x hx => ⟨n, h3 i x hx⟩⟩
  · rintro ⟨h1, h2, h3⟩
    obtain ⟨n, hn⟩ := fuel_bound l (fun i n x => Rep w Z n t x ((vs.drop (i * csize t)).take (csize t))) (fun i n m x hnm h => h.fuel _ _ _ _ _ hnm) h3
    exact ⟨n + 1, h1, h2, hn⟩

/-- a single-cell type's value takes one cell -/
theorem csize_of_not_isSt {t : Ty} (h : isSt t = false) : csize t = 1 := by cases t <;> simp_all [isSt, csize]

/-- well-formed pure values: what every represented value satisfies -/
def Wf : Nat → (t : Ty) → El t → Prop
  | 0, _, _ => True
  | _ + 1, .int k, x => inR k x
  | _ + 1, .bool, _ => True
  | _ + 1, .str, x => List.length (α := UInt8) x < LIM
  | n + 1, .sl t, l => List.length (α := El t) l < LIM ∧ ∀ x, x ∈ (show List (El t) from l) → Wf n t x
  | _ + 1, .unit, _ => True
  | n + 1, .pair a b, x => Wf n a x.1 ∧ Wf n b x.2
  | n + 1, .rc r, x => Wf n r.fields (r.out x)
  | n + 1, .arn m t, l => List.length (α := El t) l = m ∧ ∀ x, x ∈ (show List (El t) from l) → Wf n t x

/-- well-formed, to any depth -/
def WF (t : Ty) (x : El t) : Prop := ∀ n, Wf n t x

theorem Reps.wf {w : World} {Z : Nat → Prop} : ∀ m n t (x : El t) vs, Rep w Z n t x vs → Wf m t x := by
  intro m
  induction m with
  | zero => intros; trivial
  | succ m ih =>
    intro n t x vs hr
    cases n with
    | zero => exact hr.elim
    | succ n =>
      cases t with
      | int k => exact hr.2
      | bool => trivial
      | str => exact hr.2
      | unit => trivial
      | sl t =>
        obtain ⟨a, cap, hv, hc, hl, hb⟩ := hr
        refine ⟨hl, fun x hx => ?_⟩
        rcases hb with hb | ⟨b, off, c, ha, hz, hk, hi⟩
        · have : (x : El t) ∈ ([] : List (El t)) := by rw [← List.length_eq_zero_iff.1 hb]; exact hx
          cases this
        · obtain ⟨i, hi'⟩ := List.mem_iff_getElem?.1 hx
          obtain ⟨us, h1, h2, h3⟩ := hi i x hi'
          exact ih _ _ _ _ h3
      | pair a b => obtain ⟨u, v, hv, h1, h2⟩ := hr; exact ⟨ih _ _ _ _ h1, ih _ _ _ _ h2⟩
      | rc r => exact ih _ _ _ _ hr
      | arn k t =>
        obtain ⟨h1, h2, h3⟩ := hr
        refine ⟨h1, fun x hx => ?_⟩
        obtain ⟨i, hi'⟩ := List.mem_iff_getElem?.1 hx
        exact ih _ _ _ _ (h3 i x hi')
theorem Reps.WF {w : World} {Z : Nat → Prop} {t : Ty} {x : El t} {vs : List Value} (h : Reps w Z t x vs) : WF t x :=
  let ⟨_, hr⟩ := h; fun m => Reps.wf m _ _ _ _ hr

theorem WF.int {k : IntKind} {x : Int} (h : WF (.int k) x) : inR k x := h 1
theorem WF.str {x : List UInt8} (h : WF .str x) : x.length < LIM := h 1
theorem WF.len {t : Ty} {l : List (El t)} (h : WF (.sl t) l) : l.length < LIM := (h 1).1
theorem WF.mem {t : Ty} {l : List (El t)} (h : WF (.sl t) l) {x : El t} (hx : x ∈ l) : WF t x := fun n => (h (n + 1)).2 x hx
theorem WF.fst {a b : Ty} {x : El (.pair a b)} (h : WF (.pair a b) x) : WF a x.1 := fun n => (h (n + 1)).1
theorem WF.snd {a b : Ty} {x : El (.pair a b)} (h : WF (.pair a b) x) : WF b x.2 := fun n => (h (n + 1)).2
theorem WF.rc {r : RN} {x : r.Car} (h : WF (.rc r) x) : WF r.fields (r.out x) := fun n => h (n + 1)
theorem WF.arn_len {m : Nat} {t : Ty} {l : List (El t)} (h : WF (.arn m t) l) : l.length = m := (h 1).1
theorem WF.arn_mem {m : Nat} {t : Ty} {l : List (El t)} (h : WF (.arn m t) l) {x : El t} (hx : x ∈ l) : WF t x := fun n => (h (n + 1)).2 x hx
theorem WF.of_int {k : IntKind} {x : Int} (h : inR k x) : WF (.int k) x := fun n => by cases n <;> first | trivial | exact h
theorem WF.of_sl {t : Ty} {l : List (El t)} (h : l.length < LIM) (h' : ∀ x ∈ l, WF t x) : WF (.sl t) l := fun n => by
  cases n with
  | zero => trivial
  | succ n => exact ⟨h, fun x hx => h' x hx n⟩
theorem WF.of_pair {a b : Ty} {x : El (.pair a b)} (h : WF a x.1) (h' : WF b x.2) : WF (.pair a b) x := fun n => by
  cases n with
  | zero => trivial
  | succ n => exact ⟨h n, h' n⟩
theorem WF.of_rc {r : RN} {x : r.Car} (h : WF r.fields (r.out x)) : WF (.rc r) x := fun n => by
  cases n with
  | zero => trivial
  | succ n => exact h n
end A
end Go.Proofs.Ythgnjimpakpkjaa
namespace Go.Proofs.Ythgnjimpakpkjaa
namespace A

/-- abstract values. 'ref o off': a pointer to cell off of object o; 'vec o': the slice that owns object o;
'refi': a pointer to element i (and cell so in it) of the list that object o is (an array of m; a vector, if m is 0); 'rop': a pointer to immutable memory;
'view': a slice of the list that object o is (an array of m; a vector, if m is 0), from lo, of n elements; 'whn g b v': v, if temporary g holds b -/
inductive AV
  | undef | unit
  | val (t : Ty) (x : El t)
  | valc (t : Ty) (l : List (El t))
  | nils
  | vec (o : Nat)
  | view (o m : Nat) (t : Ty) (lo n : Nat)
  | ref (o off : Nat)
  | refi (o m : Nat) (t : Ty) (i so : Nat)
  | rop (t : Ty) (x : El t)
  | nilp | nilf | nili
  | fn (f : Nat) (caps : AV)
  | fnp1 (a b : Ty) (pre : El a → Prop) (F : El a → El b)
  | fnp2 (a b c : Ty) (pre : El a → El b → Prop) (F : El a → El b → El c)
  | cons (a b : AV)
  | st (l : AV)
  | tup (l : AV)
  | iface (T : Nat) (v : AV)
  | whn (g : Nat) (b : Bool) (v : AV)
  | own (t : Ty) (l : List (El t))

def AV.toL : AV → List AV
  | .cons a b => a :: b.toL
  | _ => []
def AV.ofL : List AV → AV
  | [] => .unit
  | a :: l => .cons a (AV.ofL l)

/-- is the value of an abstract value an aggregate? -/
def AV.isSt : AV → Bool
  | .val t _ => A.isSt t
  | .st _ => true
  | _ => false

/-- the number of cells; 0: not to be kept in cells -/
def AV.size : AV → Nat
  | .val t _ => csize t
  | .valc _ _ | .nils | .vec _ | .view _ _ _ _ _ | .ref _ _ | .refi _ _ _ _ _ | .rop _ _ | .nilp | .nilf | .nili | .fn _ _ | .fnp1 _ _ _ _ | .fnp2 _ _ _ _ _ | .iface _ _ => 1
  | .cons a b => a.size + b.size
  | .st l => l.size
  | .undef | .unit | .tup _ | .whn _ _ _ | .own _ _ => 0

/-- can it be kept in cells? -/
def AV.cellular : AV → Bool
  | .val _ _ | .valc _ _ | .nils | .vec _ | .view _ _ _ _ _ | .ref _ _ | .refi _ _ _ _ _ | .rop _ _ | .nilp | .nilf | .nili | .fnp1 _ _ _ _ | .fnp2 _ _ _ _ _ | .unit => true
  | .fn _ c => c.cellular
  | .iface _ v => v.cellular
  | .cons a b => a.cellular && b.cellular
  | .st l => l.cellular
  | .undef | .tup _ | .whn _ _ _ | .own _ _ => false

/-- objects of the abstract heap -/
inductive Obj
  | free | dead | live (c : AV)

/-- a type's row in the table -/
inductive TK
  | int (k : IntKind) | bool | str | slice (e : Nat) | struct (fs : List (Nat × Nat)) | array (n e : Nat) | ptr (e : Nat) | fn (ps rs : List Nat) | ifc | other
/-- a zero value's leaf -/
inductive ZL | tz (t : Ty) | nils | nilp | nilf | nili
structure TI where
  k : TK
  ty : Option Ty
  size : Nat
  bytes : Nat
  zs : List ZL
def ZL.av : ZL → AV
  | .tz t => .val t (dflt t)
  | .nils => .nils
  | .nilp => .nilp
  | .nilf => .nilf
  | .nili => .nili
abbrev Tab := List (Nat × TI)
def Tab.get (tb : Tab) (t : Nat) : Option TI := tb.lookup t
def Tab.ty (tb : Tab) (t : Nat) : Option Ty := (tb.lookup t).bind (·.ty)
def Tab.k (tb : Tab) (t : Nat) : Option TK := (tb.lookup t).map (·.k)
def TI.agg (i : TI) : Bool := match i.k with | .struct _ | .array _ _ => true | _ => false

/-- the zero value -/
def TI.zero (i : TI) : AV :=
  match i.agg, i.zs with
  | false, [z] => z.av
  | _, zs => .st (.ofL (zs.map ZL.av))

/-- one step inside a typed value -/
def explode1 : AV → List AV
  | .val (.pair a b) x => [.val a x.1, .val b x.2]
  | .val (.rc r) x => [.val r.fields (r.out x)]
  | .val .unit _ => []
  | .st l => l.toL
  | .unit => []
  | _ => []
/-- can it be exploded? -/
def splits : AV → Bool
  | .val (.pair _ _) _ | .val (.rc _) _ | .val .unit _ | .st _ | .unit => true
  | _ => false

/-- the leaves that fill the first n cells, and the rest -/
def takeL : Nat → Nat → List AV → Option (List AV × List AV)
  | _, 0, l => some ([], l)
  | 0, _, _ => none
  | _ + 1, _, [] => none
  | f + 1, n + 1, a :: r =>
    if a.size ≤ n + 1 && 0 < a.size then (takeL f (n + 1 - a.size) r).map fun (x, y) => (a :: x, y)
    else if splits a then takeL f (n + 1) (explode1 a ++ r) else none

/-- the part at cell off, of sz cells -/
def navL : Nat → List AV → Nat → Nat → Bool → Option AV
  | 0, _, _, _, _ => none
  | _ + 1, [], _, _, _ => none
  | f + 1, a :: r, off, sz, agg =>
    if off = 0 then
      if a.size = sz && a.isSt == agg then some a
      else if agg && a.size < sz then (takeL f sz (a :: r)).map fun (x, _) => .st (.ofL x)
      else if splits a then navL f (explode1 a ++ r) off sz agg else none
    else if a.size ≤ off then navL f r (off - a.size) sz agg
    else if splits a then navL f (explode1 a ++ r) off sz agg else none

/-- the part at cell off, of sz cells, is put in the place -/
def setL : Nat → List AV → Nat → Nat → AV → Option (List AV)
  | 0, _, _, _, _ => none
  | _ + 1, [], _, _, _ => none
  | f + 1, a :: r, off, sz, v =>
    if off = 0 then (takeL f sz (a :: r)).map fun (_, y) => v :: y
    else if a.size ≤ off then (setL f r (off - a.size) sz v).map (a :: ·)
    else if splits a then setL f (explode1 a ++ r) off sz v else none

/-- an object's content as leaves -/
def AV.leaves : AV → List AV
  | .st l => l.toL
  | v => [v]
/-- and back: an aggregate of leaves, or the one leaf -/
def relv (old : AV) (l : List AV) : AV :=
  match l with
  | [v] => if v.isSt == old.isSt then v else .st (.ofL l)
  | l => .st (.ofL l)

def FUEL : Nat := 60
def nav (c : AV) (off sz : Nat) (agg : Bool) : Option AV := navL FUEL [c] off sz agg
def setAt (c : AV) (off sz : Nat) (v : AV) : Option AV := (setL FUEL [c] off sz v).map (relv c)

abbrev Heap := Nat → Obj

/-- casts between types -/
def castT {a : Ty} (b : Ty) (x : El a) : Option (El b) := if h : a = b then some (h ▸ x) else none
def castL {a : Ty} (b : Ty) (x : List (El a)) : Option (List (El b)) := if h : a = b then some (h ▸ x) else none

/-- the list behind a slice -/
def listOf (H : Heap) (t : Ty) : AV → Option (List (El t))
  | .val (.sl a) l => castL (a := a) t l
  | .valc a l => castL t l
  | .nils => some []
  | .vec o => match H o with
    | .live (.val (.sl a) l) => castL (a := a) t l
    | _ => none
  | .view o m a lo n => match H o with
    | .live (.val (.sl b) l) => if a = b && m = 0 then (castL (a := b) t l).map fun l => (l.drop lo).take n else none
    | .live (.val (.arn k b) l) => if a = b && m = k && 0 < m && m < 1000 then (castL (a := b) t l).map fun l => (l.drop lo).take n else none
    | _ => none
  | _ => none

/-- a typed value out of leaves -/
def typed (H : Heap) : Nat → (t : Ty) → List AV → Option (El t × List AV)
  | 0, _, _ => none
  | f + 1, t, l =>
    match t, l with
    | .unit, l => some ((), l)
    | _, [] => none
    | t, .st s :: r => typed H f t (s.toL ++ r)
    | .int k, .val (.int k') x :: r => if k = k' then some (x, r) else none
    | .bool, .val .bool x :: r => some (x, r)
    | .str, .val .str x :: r => some (x, r)
    | .sl t, v :: r => (listOf H t v).map fun l => (l, r)
    | .rc c, .val (.rc c') x :: r =>
      match castT (a := .rc c') (.rc c) x with
      | some y => some (y, r)
      | none => none
    | .rc c, l => (typed H f c.fields l).map fun (x, r) => (c.into x, r)
    | .pair a b, .val (.pair a' b') x :: r =>
      match castT (a := .pair a' b') (.pair a b) x with
      | some y => some (y, r)
      | none => (typed H f a (.val a' (Prod.fst x) :: .val b' (Prod.snd x) :: r)).bind fun (x, r) => (typed H f b r).map fun (y, r) => ((x, y), r)
    | .pair a b, l => (typed H f a l).bind fun (x, r) => (typed H f b r).map fun (y, r) => ((x, y), r)
    | .arn n t, v :: r =>
      match v with
      | .val (.arn n' t') x => match castT (a := .arn n' t') (.arn n t) x with
        | some y => some (y, r)
        | none => none
      | _ => none
    | _, _ => none

/-- a typed value -/
def asTy (H : Heap) (t : Ty) (v : AV) : Option (El t) :=
  if A.isSt t == v.isSt then
    match typed H FUEL t [v] with
    | some (x, []) => some x
    | _ => none
  else none

/-- the vectors inside -/
def AV.vecs : AV → List Nat
  | .vec o => [o]
  | .view o _ _ _ _ => [o]
  | .cons a b => a.vecs ++ b.vecs
  | .st l => l.vecs
  | .tup l => l.vecs
  | .iface _ v => v.vecs
  | .whn _ _ v => v.vecs
  | _ => []
/-- the objects that a value refers to -/
def AV.refs : AV → List Nat
  | .vec o | .view o _ _ _ _ | .ref o _ | .refi o _ _ _ _ => [o]
  | .fn _ c => c.refs
  | .cons a b => a.refs ++ b.refs
  | .st l | .tup l => l.refs
  | .iface _ v | .whn _ _ v => v.refs
  | _ => []
/-- renamed objects -/
def AV.ren (m : Nat → Nat) : AV → AV
  | .vec o => .vec (m o)
  | .view o off t lo n => .view (m o) off t lo n
  | .ref o off => .ref (m o) off
  | .refi o off t i so => .refi (m o) off t i so
  | .fn f c => .fn f (c.ren m)
  | .cons a b => .cons (a.ren m) (b.ren m)
  | .st l => .st (l.ren m)
  | .tup l => .tup (l.ren m)
  | .iface T v => .iface T (v.ren m)
  | .whn g b v => .whn g b (v.ren m)
  | v => v
def Obj.ren (m : Nat → Nat) : Obj → Obj
  | .live c => .live (c.ren m)
  | o => o
/-- no memory is referred to -/
def Ty.flat : Ty → Bool
  | .int _ | .bool | .str | .unit => true
  | .sl _ | .rc _ => false
  | .pair a b => a.flat && b.flat
  | .arn _ t => t.flat

/-- what an operation comes to -/
structure Eff where
  pre : List Prop
  dst : AV
  wr : List (Nat × Obj) := []

/-- the specification of a function: what is asked, the result, what becomes of the objects -/
abbrev Spec := List AV → Heap → Option Eff
abbrev Specs := List (Nat × Spec)

structure AState where
  T : Nat → AV
  H : Heap
  lt : List Nat
  lh : List Nat

def fam (d : Nat) : Nat → Nat := fun k => d + 1000 * k
/-- a number for a new object, made by the operation with destination d -/
def fresh (H : Heap) (d : Nat) : Nat → Nat → Option Nat
  | 0, _ => none
  | f + 1, k => match H (fam d k) with
    | .free => some (fam d k)
    | _ => fresh H d f (k + 1)
def newId (H : Heap) (d : Nat) : Option Nat := fresh H d 8 0

/-- the value of a constant -/
def cAV : Value → AV
  | .bool b => .val .bool b
  | .int k n => if inR k n then .val (.int k) n else .undef
  | .string s => if s.data.toList.length < LIM then .val .str s.data.toList else .undef
  | .pointer none => .nilp
  | .slice none 0 0 => .nils
  | .nilFunc => .nilf
  | .nilIface => .nili
  | _ => .undef

/-- an operand, read under a guard -/
def ev (T : Nat → AV) (g : Option (Nat × Bool)) : Operand → AV
  | .tmp t => match T t with
    | .whn g' b v => match g with
      | some (j, c) => if g' = j && b == c then v else .undef
      | none => .undef
    | v => v
  | .const v => cAV v
  | .func f => .fn f .unit
  | .global _ => .undef

/-- an operand of 'pick': what is picked if temporary g holds b -/
def evPick (T : Nat → AV) (g : Nat) (b : Bool) : Operand → AV
  | .tmp t => match T t with
    | .whn g' b' v => if g' = g && b == b' then v else .undef
    | v => v
  | .const v => cAV v
  | _ => .undef

@[reducible] def iadd (a b : Int) : Int := a + b
@[reducible] def isub (a b : Int) : Int := a - b
@[reducible] def imul (a b : Int) : Int := a * b
@[reducible] def ineg (a : Int) : Int := -a
@[reducible] def imax (a b : Int) : Int := max a b
@[reducible] def imin (a b : Int) : Int := min a b
@[reducible] def ieq (a b : Int) : Bool := decide (a = b)
@[reducible] def ine (a b : Int) : Bool := !decide (a = b)
@[reducible] def ilt (a b : Int) : Bool := decide (a < b)
@[reducible] def ile (a b : Int) : Bool := decide (a ≤ b)
@[reducible] def beq2 (a b : Bool) : Bool := decide (a = b)
@[reducible] def bne2 (a b : Bool) : Bool := !decide (a = b)
@[reducible] def bnot (a : Bool) : Bool := !a
@[reducible] def seq2 (a b : List UInt8) : Bool := decide (a = b)
@[reducible] def sne2 (a b : List UInt8) : Bool := !decide (a = b)
@[reducible] def sadd (a b : List UInt8) : List UInt8 := a ++ b
@[reducible] def slt2 (a b : List UInt8) : Prop := (a ++ b).length < LIM
@[reducible] def ine0 (b : Int) : Prop := b ≠ 0
@[reducible] def ige0 (b : Int) : Prop := 0 ≤ b
@[reducible] def icast (n : Nat) : Int := (n : Int)
@[reducible] def mkok (n m : Int) : Prop := 0 ≤ n ∧ n ≤ m ∧ m < LIM

def arith (wrap : Bool) (k : IntKind) (n : Int) : Option Eff :=
  if wrap then some ⟨[], .val (.int k) (k.wrap n), []⟩ else some ⟨[inR k n], .val (.int k) n, []⟩

def isBoolK : Option TK → Bool | some .bool => true | _ => false
def isPtrK : Option TK → Bool | some (.ptr _) => true | _ => false
def binEff (wrap : Bool) (tk : Option TK) : BinOp → AV → AV → Option Eff
  | .shl, .val (.int k) a, .val (.int _) b => some ⟨[ige0 b], .val (.int k) (k.wrap (imul a (2 ^ (min (Int.toNat b) k.bits)))), []⟩
  | .shr, .val (.int k) a, .val (.int _) b => some ⟨[ige0 b], .val (.int k) (Int.fdiv a (2 ^ (min (Int.toNat b) k.bits))), []⟩
  | op, .val (.int k) a, .val (.int k') b =>
    if k = k' then
      match op with
      | .add => arith wrap k (iadd a b)
      | .sub => arith wrap k (isub a b)
      | .mul => arith wrap k (imul a b)
      | .quo => some ⟨[ine0 b, inR k (Int.tdiv a b)], .val (.int k) (Int.tdiv a b), []⟩
      | .rem => some ⟨[ine0 b], .val (.int k) (Int.tmod a b), []⟩
      | .and => some ⟨[], .val (.int k) (k.wrap ((BitVec.ofInt k.bits a &&& BitVec.ofInt k.bits b).toNat : Int)), []⟩
      | .or => some ⟨[], .val (.int k) (k.wrap ((BitVec.ofInt k.bits a ||| BitVec.ofInt k.bits b).toNat : Int)), []⟩
      | .xor => some ⟨[], .val (.int k) (k.wrap ((BitVec.ofInt k.bits a ^^^ BitVec.ofInt k.bits b).toNat : Int)), []⟩
      | .eql => some ⟨[], .val .bool (ieq a b), []⟩
      | .neq => some ⟨[], .val .bool (ine a b), []⟩
      | .lss => some ⟨[], .val .bool (ilt a b), []⟩
      | .leq => some ⟨[], .val .bool (ile a b), []⟩
      | .gtr => some ⟨[], .val .bool (ilt b a), []⟩
      | .geq => some ⟨[], .val .bool (ile b a), []⟩
      | _ => none
    else none
  | .eql, .val .bool a, .val .bool b => if isBoolK tk then some ⟨[], .val .bool (beq2 a b), []⟩ else none
  | .neq, .val .bool a, .val .bool b => if isBoolK tk then some ⟨[], .val .bool (bne2 a b), []⟩ else none
  | .add, .val .str a, .val .str b => some ⟨[slt2 a b], .val .str (sadd a b), []⟩
  | .eql, .val .str a, .val .str b => some ⟨[], .val .bool (seq2 a b), []⟩
  | .neq, .val .str a, .val .str b => some ⟨[], .val .bool (sne2 a b), []⟩
  | .eql, .nilp, .nilp => if isPtrK tk then some ⟨[], .val .bool true, []⟩ else none
  | .neq, .nilp, .nilp => if isPtrK tk then some ⟨[], .val .bool false, []⟩ else none
  | .eql, .ref _ _, .nilp => if isPtrK tk then some ⟨[], .val .bool false, []⟩ else none
  | .neq, .ref _ _, .nilp => if isPtrK tk then some ⟨[], .val .bool true, []⟩ else none
  | _, _, _ => none

def unEff (wrap : Bool) : UnOp → AV → Option Eff
  | .not, .val .bool b => some ⟨[], .val .bool (bnot b), []⟩
  | .neg, .val (.int k) n => arith wrap k (ineg n)
  | _, _ => none

def aPure (v : AV) : Option Eff := some ⟨[], v, []⟩
/-- a new object -/
def aNew (H : Heap) (d : Nat) (c : AV) (mk : Nat → AV) : Option Eff := (newId H d).map fun i => ⟨[], mk i, [(i, .live c)]⟩

/-- parts of a struct or of a slice, put into leaves -/
def fillL (place : Nat → Option (Nat × Nat)) : List AV → List (Nat × AV) → Option (List AV)
  | l, [] => some l
  | l, (i, v) :: r => match place i with
    | none => none
    | some (off, sz) => if v.size = sz && v.cellular then (setL FUEL l off sz v).bind fun l => fillL place l r else none

def partsEv (T : Nat → AV) (g : Option (Nat × Bool)) (ps : Array (Nat × Operand)) : List (Nat × AV) := ps.toList.map fun (i, x) => (i, ev T g x)

/-- the elements of a slice literal, from element n on -/
def litL (H : Heap) (t : Ty) : Nat → List (Nat × AV) → Option (List (El t))
  | _, [] => some []
  | n, (i, v) :: r => if i = n then (asTy H t v).bind fun x => (litL H t (n + 1) r).map (x :: ·) else none

/-- what an element of a list at a place is -/
def eltAt (H : Heap) (o m : Nat) (t : Ty) (i : Nat) : Option (El t) :=
  match H o with
  | .live (.val (.sl a) l) => if m = 0 then (castL (a := a) t l).map fun l => l.getD i (dflt t) else none
  | .live (.val (.arn k a) l) => if m = k && 0 < m then (castL (a := a) t l).map fun l => l.getD i (dflt t) else none
  | _ => none

def idxRange (i : Int) (n : Nat) : Prop := 0 ≤ i ∧ i < n

/-- bounds of a slice expression: low, high -/
def loOf : Option AV → Option Int
  | none => some 0
  | some (.val (.int _) i) => some i
  | _ => none
def hiOf (n : Nat) : Option AV → Option Int
  | none => some n
  | some (.val (.int _) i) => some i
  | _ => none

def sliceL {α : Type} (l : List α) (lo hi : Int) : List α := (l.take hi.toNat).drop lo.toNat

def sliceM {α : Type} (lo hi : Option AV) (l : List α) (a b : Int) : List α :=
  match lo, hi with
  | none, none => l
  | none, some _ => l.take b.toNat
  | some _, none => l.drop a.toNat
  | _, _ => sliceL l a b

def sliceEff (H : Heap) (d : Nat) (x : AV) (lo hi mx : Option AV) : Option Eff :=
  match x with
  | .val (.sl t) l =>
    match loOf lo, hiOf (List.length (α := El t) l) hi with
    | some a, some b =>
      match mx with
      | none => some ⟨[0 ≤ a ∧ a ≤ b ∧ b ≤ (List.length (α := El t) l : Int)], .val (.sl t) (sliceM (α := El t) lo hi l a b), []⟩
      | some (.val (.int _) m) =>
        if hi.isSome then some ⟨[0 ≤ a ∧ a ≤ b ∧ b = m ∧ b ≤ (List.length (α := El t) l : Int)], .valc t (sliceL (α := El t) l a b), []⟩ else none
      | _ => none
    | _, _ => none
  | .val .str s =>
    match loOf lo, hiOf (List.length (α := UInt8) s) hi, mx with
    | some a, some b, none => some ⟨[0 ≤ a ∧ a ≤ b ∧ b ≤ (List.length (α := UInt8) s : Int)], .val .str (sliceM (α := UInt8) lo hi s a b), []⟩
    | _, _, _ => none
  | .nils =>
    match loOf lo, hiOf 0 hi, mx with
    | some a, some b, none => some ⟨[a = 0 ∧ b = 0], .nils, []⟩
    | _, _, _ => none
  | .vec o =>
    match H o with
    | .live (.val (.sl t) l) =>
      match loOf lo, hiOf (List.length (α := El t) l) hi, mx with
      | some a, some b, none => if lo.isNone then (newId H d).map fun i => ⟨[0 ≤ b ∧ b ≤ (List.length (α := El t) l : Int)], .vec i, [(o, .dead), (i, .live (.val (.sl t) (List.take (α := El t) b.toNat l)))]⟩
        else some ⟨[0 ≤ a ∧ a ≤ b ∧ b ≤ (List.length (α := El t) l : Int)], .view o 0 t a.toNat (b - a).toNat, []⟩
      | _, _, _ => none
    | _ => none
  | .ref o 0 =>
    match H o with
    | .live (.val (.arn n t) _) =>
      match loOf lo, hiOf n hi, mx with
      | some a, some b, none => if n = 0 then none else some ⟨[0 ≤ a ∧ a ≤ b ∧ b ≤ (n : Int)], .view o n t a.toNat (b - a).toNat, []⟩
      | _, _, _ => none
    | _ => none
  | _ => none

/-- the length of a slice or a string -/
def lenEff (H : Heap) : AV → Option Eff
  | .val (.sl t) l => aPure (.val I64 (List.length (α := El t) l : Int))
  | .valc t l => aPure (.val I64 (List.length (α := El t) l : Int))
  | .val .str s => aPure (.val I64 (List.length (α := UInt8) s : Int))
  | .nils => aPure (.val I64 (0 : Int))
  | .vec o => match H o with
    | .live (.val (.sl t) l) => aPure (.val I64 (List.length (α := El t) l : Int))
    | _ => none
  | .view o m _ _ n => if 0 < m then (if m < 1000 then aPure (.val I64 (n : Int)) else none) else match H o with
    | .live (.val (.sl _) _) => aPure (.val I64 (n : Int))
    | _ => none
  | _ => none

/-- append -/
def appEff (H : Heap) (d : Nat) (t : Ty) (a b : AV) : Option Eff :=
  match listOf H t b with
  | none => none
  | some m =>
    match a with
    | .nils => (newId H d).map fun i => ⟨[m.length < LIM], .vec i, [(i, .live (.val (.sl t) m))]⟩
    | .vec o => match H o with
      | .live (.val (.sl t') l) => match castL (a := t') t l with
        | some l => (newId H d).map fun i => ⟨[(l ++ m).length < LIM], .vec i, [(o, .dead), (i, .live (.val (.sl t) (l ++ m)))]⟩
        | none => none
      | _ => none
    | .valc t' l => match castL t l with
      | some l => some ⟨[(l ++ m).length < LIM], .val (.sl t) (l ++ m), []⟩
      | none => none
    | _ => none

/-- copy -/
def copyEff (H : Heap) (t : Ty) (a b : AV) : Option Eff :=
  match listOf H t b with
  | none => none
  | some m =>
    match a with
    | .vec o => match H o with
      | .live (.val (.sl t') l) => match castL (a := t') t l with
        | some l => some ⟨[], .val I64 (icast (min m.length l.length)), [(o, .live (.val (.sl t) (m.take l.length ++ l.drop m.length)))]⟩
        | none => none
      | _ => none
    | .view o k a lo n => match H o with
      | .live (.val (.sl t') l) => match castL (a := t') t l with
        | some l => if k = 0 && a = t then some ⟨[], .val I64 (icast (min m.length n)), [(o, .live (.val (.sl t) (l.take lo ++ (m.take n ++ l.drop (lo + min m.length n)))))]⟩ else none
        | none => none
      | _ => none
    | _ => none

/-- the element of a slice's or an array's type -/
def isSl (tb : Tab) (k : TK) (t : Ty) : Bool := match k with | .slice e => decide (tb.ty e = some t) | _ => false
def isAr (tb : Tab) (k : TK) (n : Nat) (t : Ty) : Bool := match k with | .array m e => decide (m = n) && decide (tb.ty e = some t) | _ => false
def isStr (k : TK) : Bool := match k with | .str => true | _ => false
/-- is it of that slice type (or a string, or a pointer to an array)? -/
def seqOK (tb : Tab) (k : TK) (H : Heap) : AV → Bool
  | .val .str _ => isStr k
  | .val (.sl t) _ => isSl tb k t
  | .valc t _ => isSl tb k t
  | .nils => match k with | .slice e => (tb.ty e).isSome | _ => false
  | .vec o => match H o with
    | .live (.val (.sl t) _) => isSl tb k t
    | _ => false
  | .view _ _ t _ _ => isSl tb k t
  | .ref o _ => match H o with
    | .live (.val (.arn n t) _) => isAr tb k n t
    | _ => false
  | _ => false
def seqT (tb : Tab) (t : Nat) (H : Heap) (v : AV) : Bool := match tb.get t with | some ti => seqOK tb ti.k H v | none => false

def minMax (mx : Bool) : List AV → Option Eff
  | .val (.int k) x :: r => go k x r
  | _ => none
where
  go (k : IntKind) (x : Int) : List AV → Option Eff
    | [] => aPure (.val (.int k) x)
    | .val (.int k') y :: r => if k = k' then go k (if mx then imax x y else imin x y) r else none
    | _ => none

def builtinEff (tb : Tab) (H : Heap) (d : Nat) (b : Builtin) (tys : List TypeId) (args : List AV) : Option Eff :=
  match b, args, tys with
  | .len, [x], [t] => if seqT tb t H x then lenEff H x else none
  | .cap, [.nils], [t] => if seqT tb t H .nils then aPure (.val I64 (0 : Int)) else none
  | .append, [.nils, .val (.int .i64) n], [t, u] => match tb.get t, tb.k u with
    | some ti, some (.int _) => match ti.k with
      | .slice e => (tb.ty e).bind fun t => if csize t = 0 then none else (newId H d).map fun i => ⟨[mkok n n], .vec i, [(i, .live (.val (.sl t) (List.replicate (Int.toNat n) (dflt t))))]⟩
      | _ => none
    | _, _ => none
  | .append, [x, y], [t, u] => match tb.get t with
    | some ti => match ti.k with
      | .slice e => if seqT tb u H y then (tb.ty e).bind fun t => appEff H d t x y else none
      | _ => none
    | none => none
  | .copy, [x, y], [t, u] => match tb.get t with
    | some ti => match ti.k with
      | .slice e => if seqT tb u H y then (tb.ty e).bind fun t => if csize t = 1 then copyEff H t x y else none else none
      | _ => none
    | none => none
  | .max, l, _ => minMax true l
  | .min, l, _ => minMax false l
  | _, _, _ => none

/-- the objects that values reach -/
def reach (H : Heap) : Nat → List Nat → List Nat → List Nat
  | 0, _, done => done
  | _ + 1, [], done => done
  | f + 1, o :: r, done =>
    if done.contains o then reach H f r done
    else match H o with
      | .live c => reach H f (c.refs ++ r) (done ++ [o])
      | _ => reach H f r (done ++ [o])
/-- the numbers under which a called function knows the objects handed to it -/
def OBJB : Nat := 500000
def toC (L : List Nat) (o : Nat) : Nat := OBJB + L.idxOf o
def ofC (L : List Nat) (i : Nat) : Nat := L.getD (i - OBJB) 0
def heapC (H : Heap) (L : List Nat) : Heap := fun i => if OBJB ≤ i && i < OBJB + L.length then (H (ofC L i)).ren (toC L) else .free

/-- 'own' in an annotation's value stands for a vector of its own -/
def openA : Nat → AV → (AV × List (Nat × Obj) × Nat)
  | n, .own t l => (.vec n, [(n, .live (.val (.sl t) l))], n + 1)
  | n, .cons a b =>
    let (a', wa, n) := openA n a
    let (b', wb, n) := openA n b
    (.cons a' b', wa ++ wb, n)
  | n, .st l => let (l', w, n) := openA n l; (.st l', w, n)
  | n, .tup l => let (l', w, n) := openA n l; (.tup l', w, n)
  | n, v => (v, [], n)
/-- results are numbered from here on -/
def RESB : Nat := 300000
def openW : Nat → List (Nat × Obj) → (List (Nat × Obj) × List (Nat × Obj) × Nat)
  | n, [] => ([], [], n)
  | n, (o, .live c) :: r =>
    let (c', w, n) := openA n c
    let (r', wr, n) := openW n r
    ((o, .live c') :: r', w ++ wr, n)
  | n, x :: r => let (r', wr, n) := openW n r; (x :: r', wr, n)
/-- what is owned becomes an object -/
def openE (e : Eff) : Eff :=
  let (v, w1, n) := openA RESB e.dst
  let (wr, w2, _) := openW n e.wr
  ⟨e.pre, v, wr ++ (w1 ++ w2)⟩
def AV.hasF : AV → Bool
  | .fnp1 _ _ _ _ | .fnp2 _ _ _ _ _ => true
  | .fn _ c => c.hasF
  | .cons a b => a.hasF || b.hasF
  | .st l | .tup l => l.hasF
  | .iface _ v | .whn _ _ v => v.hasF
  | _ => false
def dupFree : List Nat → Bool
  | [] => true
  | a :: l => !l.contains a && dupFree l
def isFree : Obj → Bool | .free => true | _ => false
def isLive : Obj → Bool | .live _ => true | _ => false
/-- objects that are handed on are closed under reference -/
def closedL (H : Heap) (L : List Nat) (refs : List Nat) : Bool :=
  dupFree L && decide (L.length < 1000) && refs.all L.contains && L.all fun o => match H o with
    | .live c => !c.hasF && c.refs.all L.contains
    | .dead => true
    | .free => false
/-- a specification, called on the caller's objects L under the called function's numbers -/
def callSp (sp : Spec) (H : Heap) (args : List AV) : Option Eff :=
  let L := reach H FUEL (args.flatMap AV.refs) []
  if closedL H L (args.flatMap AV.refs) then sp (args.map (AV.ren (toC L))) (heapC H L) else none
def ofR (L F : List Nat) (i : Nat) : Nat := if OBJB ≤ i then L.getD (i - OBJB) 0 else F.getD (i - RESB) 0
def freeIds (H : Heap) (d : Nat) : List Nat := ((List.range 16).map (fam d)).filter fun i => isFree (H i)
/-- an effect under the caller's numbers -/
def landE (L F : List Nat) (e : Eff) : Option Eff :=
  let e' := openE e
  if e.wr.all (fun (i, o) => OBJB ≤ i && decide (i < OBJB + L.length) && (match o with | .live c => !c.hasF | .dead => true | .free => false)) && dupFree (e.wr.map (·.1)) && decide (e'.wr.length ≤ e.wr.length + F.length) && !e'.dst.hasF then
    some ⟨e.pre, e'.dst.ren (ofR L F), e'.wr.map fun (i, o) => (ofR L F i, o.ren (ofR L F))⟩
  else none

/-- what a specification's result is, as a typed value -/
def resTy (t : Ty) (e : Option Eff) : El t :=
  match e with
  | some ⟨_, .val t' x, _⟩ => (castT (a := t') t x).getD (dflt t)
  | some ⟨_, .own t' l, _⟩ => (castT (a := .sl t') t l).getD (dflt t)
  | _ => dflt t
def conjL : List Prop → Prop
  | [] => True
  | p :: l => p ∧ conjL l
def withL : List Prop → Prop → Prop
  | [], K => K
  | p :: l, K => p ∧ withL l K
def withG (c b : Bool) : List Prop → Prop → Prop
  | [], K => K
  | p :: l, K => (c = b → p) ∧ withG c b l K
def resOk (t : Ty) (e : Option Eff) : Prop :=
  match e with
  | some ⟨p, .val t' _, []⟩ => if t' = t then conjL p else False
  | _ => False

/-- values in one cell each -/
def capsOK (caps : AV) : Bool := caps.toL.all fun v => v.size == 1 && !v.isSt && !v.hasF
/-- an argument of a call, in the form in which specifications take it -/
def argAV (tb : Tab) (G : Specs) (H : Heap) (kn : Bool) (ty : Nat) (v : AV) : Option AV :=
  match v with
  | .val _ _ | .ref _ _ | .nilp | .rop _ _ | .fnp1 _ _ _ _ | .fnp2 _ _ _ _ _ | .nilf | .nili => some v
  | .iface _ u => if u.hasF then none else some v
  | .fn f caps => if !capsOK caps then none else
    match tb.k ty with
    | some (.fn [a] [b]) => match tb.ty a, tb.ty b, G.lookup f with
      | some a, some b, some sp => some (.fnp1 a b (fun x => resOk b (callSp sp H (.val a x :: caps.toL))) (fun x => resTy b (callSp sp H (.val a x :: caps.toL))))
      | _, _, _ => none
    | some (.fn [a, b] [c]) => match tb.ty a, tb.ty b, tb.ty c, G.lookup f with
      | some a, some b, some c, some sp =>
        some (.fnp2 a b c (fun x y => resOk c (callSp sp H (.val a x :: .val b y :: caps.toL))) (fun x y => resTy c (callSp sp H (.val a x :: .val b y :: caps.toL))))
      | _, _, _, _ => none
    | _ => none
  | .nils => if kn then some .nils else match tb.ty ty with
    | some t => (asTy H t .nils).map fun x => .val t x
    | none => none
  | v => match tb.ty ty with
    | some t => (asTy H t v).map fun x => .val t x
    | none => none

def argsAV (tb : Tab) (G : Specs) (H : Heap) (kn : Bool) : List Nat → List AV → Option (List AV)
  | t :: ts, v :: vs => (argAV tb G H kn t v).bind fun a => (argsAV tb G H kn ts vs).map (a :: ·)
  | [], [] => some []
  | _, _ => none

/-- is a result free of references? -/
def flatAV : AV → Bool
  | .val t _ => t.flat
  | .tup l => flatAV l
  | .cons a b => flatAV a && flatAV b
  | .unit => true
  | .own t _ => t.flat
  | _ => false

/-- what a closure handed on reaches -/
def closR (H : Heap) (v : AV) : List Nat := match v with | .fn _ c => reach H FUEL (c.toL.flatMap AV.refs) [] | _ => []
def callEff (tb : Tab) (G : Specs) (H : Heap) (d f : Nat) (tys : List Nat) (args : List AV) (caps : AV) : Option Eff :=
  match G.lookup f, argsAV tb G H (G.lookup (f + 100000)).isSome tys args with
  | some sp, some avl =>
    let V := args.flatMap AV.vecs
    let L := reach H FUEL ((avl ++ caps.toL).flatMap AV.refs) []
    match callSp sp H (avl ++ caps.toL) with
    | some e =>
      if capsOK caps && V.all (fun o => !L.contains o && !(args.flatMap (closR H)).contains o && isLive (H o)) &&
          (avl.all (fun v => !v.hasF) || (e.wr.isEmpty && V.all fun o => !(Nat.ble OBJB o && Nat.blt o (OBJB + 1000)))) then
        (landE L (freeIds H d) e).map fun e' => ⟨e'.pre, e'.dst, e'.wr ++ (if flatAV e.dst && e.wr.isEmpty then [] else V).map fun o => (o, .dead)⟩
      else none
    | none => none
  | _, _ => none

def loadEff (tb : Tab) (H : Heap) (t : Nat) (a : AV) : Option Eff :=
  match tb.get t with
  | none => none
  | some ti =>
    match a with
    | .ref o off => match H o with
      | .live c => (nav c off ti.size ti.agg).bind fun v =>
        match v, ti.ty with
        | .st l, some ty => match asTy H ty (.st l) with
          | some x => if l.vecs.isEmpty then aPure (.val ty x) else aPure (.st l)
          | none => aPure (.st l)
        | v, _ => aPure v
      | _ => none
    | .refi o m e i so => (eltAt H o m e i).bind fun x => (nav (.val e x) so ti.size ti.agg).bind aPure
    | .rop e x => (nav (.val e x) 0 ti.size ti.agg).bind aPure
    | _ => none

def storeEff (tb : Tab) (H : Heap) (t : Nat) (a v : AV) : Option Eff :=
  match tb.get t with
  | none => none
  | some ti =>
    if v.size = ti.size && v.cellular && v.isSt == ti.agg then
      match a with
      | .ref o off => match H o with
        | .live c => (setAt c off ti.size v).map fun c' => ⟨[], .undef, [(o, .live c')]⟩
        | _ => none
      | .refi o m e i so => match H o with
        | .live (.val (.sl e') l) => match (if m = 0 then castL (a := e') e l else none) with
          | some l => (setAt (.val e (l.getD i (dflt e))) so ti.size v).bind fun c' => if c'.vecs.contains o then none else (asTy H e c').map fun x =>
              ⟨[], .undef, c'.vecs.map (fun o => (o, .dead)) ++ [(o, .live (.val (.sl e) (l.set i x)))]⟩
          | none => none
        | .live (.val (.arn n e') l) => match (if m = n && 0 < m then castL (a := e') e l else none) with
          | some l => (setAt (.val e (l.getD i (dflt e))) so ti.size v).bind fun c' => if c'.vecs.contains o then none else (asTy H e c').map fun x =>
              ⟨[], .undef, c'.vecs.map (fun o => (o, .dead)) ++ [(o, .live (.val (.arn n e) (l.set i x)))]⟩
          | none => none
        | _ => none
      | _ => none
    else none

def fieldEff (tb : Tab) (s : Nat) (a : AV) (f : Nat) : Option Eff :=
  match tb.get s with
  | none => none
  | some ti => match ti.k with
    | .struct fs => match fs[f]? with
      | some (off, ft) => match tb.get ft with
        | some fi =>
          if fi.size = 0 then none else
          match a with
          | .ref o o' => aPure (.ref o (o' + off))
          | .refi o o' t i so => aPure (.refi o o' t i (so + off))
          | .rop t x => match nav (.val t x) off fi.size fi.agg with
            | some (.val t' y) => aPure (.rop t' y)
            | _ => none
          | _ => none
        | none => none
      | none => none
    | _ => none

def indexAddrEff (tb : Tab) (H : Heap) (t : Nat) (x ix : AV) : Option Eff :=
  match tb.get t, ix with
  | some ti, .val (.int _) i =>
    match ti.k, x with
    | .slice _, .val (.sl e) l => some ⟨[idxRange i (List.length (α := El e) l)], .rop e (List.getD (α := El e) l (Int.toNat i) (dflt e)), []⟩
    | .slice _, .valc e l => some ⟨[idxRange i (List.length (α := El e) l)], .rop e (List.getD (α := El e) l (Int.toNat i) (dflt e)), []⟩
    | .slice _, .vec o => match H o with
      | .live (.val (.sl e) l) => some ⟨[idxRange i (List.length (α := El e) l)], .refi o 0 e (Int.toNat i) 0, []⟩
      | _ => none
    | .slice _, .view o m e lo n => some ⟨[idxRange i n], .refi o m e (lo + Int.toNat i) 0, []⟩
    | .slice _, .nils => some ⟨[False], .undef, []⟩
    | .array n _, .ref o 0 => match H o with
      | .live (.val (.arn m e) _) => if n = m && 0 < n then some ⟨[idxRange i n], .refi o n e (Int.toNat i) 0, []⟩ else none
      | _ => none
    | _, _ => none
  | _, _ => none

/-- operands' values -/
def effOp (tb : Tab) (G : Specs) (wrap : Bool) (H : Heap) (T : Nat → AV) (g : Option (Nat × Bool)) (d : Nat) (ty : Nat) : Op → Option Eff
  | .move x | .assign x => match ev T g x with
    | .undef => none
    | v => aPure v
  | .pick (.tmp c) a b => match ev T g (.tmp c) with
    | .val .bool v => match evPick T c true a, evPick T c false b with
      | .val .bool x, .val .bool y => aPure (.val .bool (bif v then x else y))
      | _, _ => none
    | _ => none
  | .alloc e => match tb.get e with
    | some ti => aNew H d ti.zero (.ref · 0)
    | none => none
  | .box e x => match tb.get e with
    | some ti => let v := ev T g x
      if v.size = ti.size && v.cellular && v.isSt == ti.agg then aNew H d v (.ref · 0) else none
    | none => none
  | .build t ps => match tb.get t with
    | some ti => match ti.k with
      | .struct fs => if !fs.all (fun (_, ft) => (tb.get ft).isSome) then none else
          (fillL (fun i => (fs[i]?).bind fun (off, ft) => (tb.get ft).map fun fi => (off, fi.size)) ti.zero.leaves (partsEv T g ps)).map fun l =>
          let v := AV.st (.ofL l)
          match ti.ty with
          | some t => if v.vecs.isEmpty then (match asTy H t v with
            | some x => ⟨[], .val t x, []⟩
            | none => ⟨[], v, []⟩) else ⟨[], v, []⟩
          | none => ⟨[], v, []⟩
      | .array n e => (tb.ty e).bind fun t => (litL H t 0 (partsEv T g ps)).bind fun l =>
          if l.length = n && ti.size = n * csize t && (partsEv T g ps).all (fun (_, v) => v.vecs.isEmpty) then aPure (.val (.arn n t) l) else none
      | _ => none
    | none => none
  | .buildSlice t n ps => match tb.get t with
    | some ti => match ti.k with
      | .slice e => (tb.ty e).bind fun t => (litL H t 0 (partsEv T g ps)).bind fun l =>
        if l.length = n && l.length < 1000 && n * csize t ≤ 16777216 then (match g with
          | none => (newId H d).map fun i => ⟨[], .vec i, (partsEv T g ps).flatMap (fun (_, v) => v.vecs.map fun o => (o, .dead)) ++ [(i, .live (.val (.sl t) l))]⟩
          | some _ => if (partsEv T g ps).all (fun (_, v) => v.vecs.isEmpty) then aPure (.val (.sl t) l) else none) else none
      | _ => none
    | none => none
  | .load t a => loadEff tb H t (ev T g a)
  | .store t a v => storeEff tb H t (ev T g a) (ev T g v)
  | .nilCheck x => match ev T g x with
    | .ref o f => aPure (.ref o f)
    | .refi o f t i s => aPure (.refi o f t i s)
    | .rop t x => aPure (.rop t x)
    | _ => none
  | .binOp op t x y _ => binEff wrap (tb.k t) op (ev T g x) (ev T g y)
  | .unOp op _ x => unEff wrap op (ev T g x)
  | .convert s t x => match tb.k s, tb.k t, ev T g x with
    | some (.int _), some (.int k), .val (.int k') n => if k = k' then aPure (.val (.int k) n) else if wrap then aPure (.val (.int k) (k.wrap n)) else some ⟨[inR k n], .val (.int k) n, []⟩
    | some .str, some .str, .val .str s => aPure (.val .str s)
    | _, _, _ => none
  | .makeSlice t l c => match tb.get t, ev T g l, ev T g c with
    | some ti, .val (.int .i64) n, .val (.int .i64) m => match ti.k with
      | .slice e => (tb.ty e).bind fun t => (newId H d).map fun i =>
          ⟨[mkok n m], .vec i, [(i, .live (.val (.sl t) (List.replicate (Int.toNat n) (dflt t))))]⟩
      | _ => none
    | _, _, _ => none
  | .slice t x lo hi mx => if !seqT tb t H (ev T g x) then none else sliceEff H d (ev T g x) (lo.map (ev T g)) (hi.map (ev T g)) (mx.map (ev T g))
  | .fieldAddr s x f => fieldEff tb s (ev T g x) f
  | .indexAddr t x i => if !seqT tb t H (ev T g x) then none else indexAddrEff tb H t (ev T g x) (ev T g i)
  | .index t x i => match ev T g x, ev T g i with
    | .val .str s, .val (.int _) i => if !(match tb.get t with | some ti => isStr ti.k | none => false) then none else some ⟨[idxRange i (List.length (α := UInt8) s)], .val (.int .u8) (icast (List.getD (α := UInt8) s (Int.toNat i) 0).toNat), []⟩
    | .val (.arn n e) l, .val (.int _) i => if !(match tb.get t with | some ti => isAr tb ti.k n e | none => false) then none else some ⟨[idxRange i n], .val e (List.getD (α := El e) l (Int.toNat i) (dflt e)), []⟩
    | _, _ => none
  | .extract t i => match ev T g t with
    | .tup l => (l.toL[i]?).bind aPure
    | _ => none
  | .makeInterface t x => match tb.get t with
    | some ti => match ti.k with
      | .ifc => none
      | _ => if (ev T g x).cellular then aPure (.iface t (ev T g x)) else none
    | none => none
  | .makeFunc (.func f) first caps => let l := caps.toList.map (ev T g)
    if first.isEmpty && l.all (fun v => v.cellular && v.size == 1 && !v.isSt) then aPure (.fn f (.ofL l)) else none
  | .call c =>
    let args := c.args.toList.map (ev T g)
    match c.callee with
    | .builtin b => builtinEff tb H d b c.argTypes.toList args
    | .value f => match ev T g f with
      | .fn f caps => callEff tb G H d f c.argTypes.toList args caps
      | .fnp1 a b pre F => match c.argTypes.toList, args with
        | [t], [v] => match tb.ty t with
          | some t' => if t' = a && v.vecs.isEmpty then (asTy H a v).map fun x => ⟨[pre x], .val b (F x), []⟩ else none
          | none => none
        | _, _ => none
      | .fnp2 a b r pre F => match c.argTypes.toList, args with
        | [t, u], [v, w] => match tb.ty t, tb.ty u with
          | some t', some u' => if t' = a && u' = b && v.vecs.isEmpty && w.vecs.isEmpty then (asTy H a v).bind fun x => (asTy H b w).map fun y => ⟨[pre x y], .val r (F x y), []⟩ else none
          | _, _ => none
        | _, _ => none
      | _ => none
    | .invoke _ _ => none
  | .panic _ => some ⟨[False], .undef, []⟩
  | _ => none

/-- a temporary is set: what hung on it is gone -/
def unW (d : Nat) : AV → AV
  | .whn g b v => if g = d then .undef else .whn g b v
  | v => v
def setT (T : Nat → AV) (d : Option Nat) (v : AV) : Nat → AV :=
  match d with
  | none => T
  | some d => fun t => if t = d then v else unW d (T t)
def setH (H : Heap) : List (Nat × Obj) → Heap
  | [] => H
  | (o, c) :: r => setH (fun i => if i = o then c else H i) r

/-- the next state -/
def AState.next (s : AState) (d : Option Nat) (e : Eff) : AState :=
  { T := setT s.T d e.dst, H := setH s.H e.wr, lt := d.toList ++ s.lt, lh := e.wr.map (·.1) ++ s.lh }

/-- a value is brought into the form of a constructor before it is handed on -/
def frc {α : Type} : AV → (AV → α) → α
  | .undef, k => k .undef
  | .unit, k => k .unit
  | .val t x, k => k (.val t x)
  | .valc t l, k => k (.valc t l)
  | .nils, k => k .nils
  | .vec o, k => k (.vec o)
  | .view o off t lo n, k => k (.view o off t lo n)
  | .ref o off, k => k (.ref o off)
  | .refi o off t i so, k => k (.refi o off t i so)
  | .rop t x, k => k (.rop t x)
  | .nilp, k => k .nilp
  | .nilf, k => k .nilf
  | .nili, k => k .nili
  | .fn f c, k => frc c fun c => k (.fn f c)
  | .fnp1 a b p F, k => k (.fnp1 a b p F)
  | .fnp2 a b c p F, k => k (.fnp2 a b c p F)
  | .cons a b, k => frc a fun a => frc b fun b => k (.cons a b)
  | .st l, k => frc l fun l => k (.st l)
  | .tup l, k => frc l fun l => k (.tup l)
  | .iface T v, k => frc v fun v => k (.iface T v)
  | .whn g b v, k => frc v fun v => k (.whn g b v)
  | .own t l, k => k (.own t l)
theorem frc_eq {α : Type} : ∀ (v : AV) (k : AV → α), frc v k = k v
  | .undef, _ | .unit, _ | .val _ _, _ | .valc _ _, _ | .nils, _ | .vec _, _ | .view _ _ _ _ _, _ | .ref _ _, _ | .refi _ _ _ _ _, _ | .rop _ _, _
  | .nilp, _ | .nilf, _ | .nili, _ | .fnp1 _ _ _ _, _ | .fnp2 _ _ _ _ _, _ | .own _ _, _ => rfl
  | .fn f c, k => by simp only [frc, frc_eq c]
  | .cons a b, k => by simp only [frc, frc_eq a, frc_eq b]
  | .st l, k => by simp only [frc, frc_eq l]
  | .tup l, k => by simp only [frc, frc_eq l]
  | .iface T v, k => by simp only [frc, frc_eq v]
  | .whn g b v, k => by simp only [frc, frc_eq v]
def frcW {α : Type} : List (Nat × Obj) → (List (Nat × Obj) → α) → α
  | [], k => k []
  | (o, .live c) :: r, k => frc c fun c => frcW r fun r => k ((o, .live c) :: r)
  | (o, .dead) :: r, k => frcW r fun r => k ((o, .dead) :: r)
  | (o, .free) :: r, k => frcW r fun r => k ((o, .free) :: r)
theorem frcW_eq {α : Type} : ∀ (w : List (Nat × Obj)) (k : List (Nat × Obj) → α), frcW w k = k w
  | [], _ => rfl
  | (o, .live c) :: r, k => by simp only [frcW, frc_eq, frcW_eq r]
  | (o, .dead) :: r, k => by simp only [frcW, frcW_eq r]
  | (o, .free) :: r, k => by simp only [frcW, frcW_eq r]

/-- an operation must not change what is read-only: wk are the objects that may be changed of those handed in -/
def roOf (wk : List Nat) (o : Nat) : Bool := Nat.ble OBJB o && Nat.blt o (OBJB + 1000) && !wk.contains o
def roOK (wk : List Nat) (w : List (Nat × Obj)) : Bool := w.all fun p => !roOf wk p.1
def notW : AV → Bool | .whn _ _ _ => false | _ => true
/-- a value under a guard -/
def wh (g : Nat) (b : Bool) : AV → AV
  | .undef | .tup _ | .whn _ _ _ => .undef
  | v => .whn g b v
/-- under guards that hold, what hangs on them is there -/
def strip (l : List (Nat × Bool)) (T : Nat → AV) : Nat → AV := fun t => match T t with
  | .whn g b v => if l.any (fun p => Nat.beq p.1 g && p.2 == b) then v else .whn g b v
  | v => v
/-- a guard's value: the guards that it hangs on, whether they all hold, its value if they do -/
def gchain : Nat → (Nat → AV) → Nat → Option (List (Nat × Bool) × Bool × Bool)
  | 0, _, _ => none
  | f + 1, T, g => match T g with
    | .val .bool c => some ([], true, c)
    | .whn g0 b0 (.val .bool c) => match gchain f T g0 with
      | some (l, act, c0) => some ((g0, b0) :: l, act && (c0 == b0), c)
      | none => none
    | _ => none
def gpair (l : List (Nat × Bool)) (act c b : Bool) : Bool × Bool := match l with
  | [] => (c, b)
  | _ => (act && (c == b), true)
/-- one operation of a region: its guard's value, and its effect -/
def gEff (tb : Tab) (G : Specs) (wrap : Bool) (wk : List Nat) (ops : Array Oper) (o : Oper) (T : Nat → AV) (H : Heap) : Option (Option (Bool × Bool) × Eff) :=
  match o.guard with
  | none => (effOp tb G wrap H T none (o.dst.getD 9999) o.type o.op).bind fun e => if roOK wk e.wr && notW e.dst then some (none, e) else none
  | some (j, b) => match (ops[j]?).bind (·.dst) with
    | none => none
    | some g => match gchain 4 T g with
      | some (l, act, c) =>
        match effOp tb G wrap H (strip l T) (some (g, b)) (o.dst.getD 9999) o.type o.op, o.dst with
        | some ⟨p, v, []⟩, some d => if v.refs.all (fun o => !isFree (H o)) && !Nat.beq d g then some (some (gpair l act c b), ⟨p, wh g b v, []⟩) else none
        | _, _ => none
      | none => none
def withE : Option (Bool × Bool) → List Prop → Prop → Prop
  | none, p, K => withL p K
  | some (c, b), p, K => withG c b p K

def isSliceK : Option TK → Bool | some (.slice _) => true | _ => false
/-- is a slice nil? Only if it is empty -/
def nilT (tb : Tab) (s : AState) (o : Oper) : Option (Bool × Nat) :=
  match o.guard, o.op with
  | none, .binOp op t x (.const (.slice none 0 0)) _ =>
    match (match op with | .eql => some true | .neq => some false | _ => none), isSliceK (tb.k t) with
    | some p, true => match ev s.T none x with
      | .val (.sl t') l => some (p, List.length (α := El t') l)
      | .valc t' l => some (p, List.length (α := El t') l)
      | .nils => some (p, 0)
      | .vec o => match s.H o with
        | .live (.val (.sl t') l) => some (p, List.length (α := El t') l)
        | _ => none
      | _ => none
    | _, _ => none
  | _, _ => none
def stepA (tb : Tab) (G : Specs) (wrap : Bool) (wk : List Nat) (ops : Array Oper) (o : Oper) (s : AState) (K : AState → Prop) : Prop :=
  match nilT tb s o with
  | some (p, n) => (n = 0 → K (s.next o.dst ⟨[], .val .bool p, []⟩)) ∧ K (s.next o.dst ⟨[], .val .bool (!p), []⟩)
  | none =>
  match gEff tb G wrap wk ops o s.T s.H with
  | some (g, ⟨p, v, w⟩) => frc v fun v => frcW w fun w => withE g p (K (s.next o.dst ⟨p, v, w⟩))
  | none => False

/-- what hung on a guard is gone at a region's end -/
def clearT (ops : Array Oper) (T : Nat → AV) : Nat → AV :=
  if ops.any (·.guard.isSome) then fun t => match T t with | .whn _ _ _ => .undef | v => v else T

def regA (tb : Tab) (G : Specs) (wrap : Bool) (wk : List Nat) (ops : Array Oper) : List Oper → AState → (AState → Prop) → Prop
  | [], s, K => K { s with T := clearT ops s.T }
  | o :: r, s, K => stepA tb G wrap wk ops o s fun s => regA tb G wrap wk ops r s K

/-- the objects that an operation may look at: those that it names, and those that are reached -/
def footRefs (o : Oper) (T : Nat → AV) : List Nat × List Nat :=
  let rf : Operand → List Nat := fun | .tmp t => (T t).refs | _ => []
  match o.guard with
  | some _ => ([], o.op.operands.toList.flatMap rf)
  | none => match o.op with
    | .fieldAddr _ _ _ | .nilCheck _ | .move _ | .assign _ | .binOp _ _ _ _ _ | .unOp _ _ _ | .convert _ _ _ | .alloc _ | .box _ _ | .extract _ _ | .makeFunc _ _ _ => ([], [])
    | .load _ a => (rf a, [])
    | .store _ a v => (rf a, rf v)
    | op => ([], op.operands.toList.flatMap rf)
def footOf (ops : Array Oper) (o : Oper) (T : Nat → AV) (H : Heap) : List Nat :=
  ((footRefs o T).1 ++ reach H FUEL (footRefs o T).2 []) ++ (List.range 16).map (fam (o.dst.getD 9999))
def restr (H : Heap) (l : List Nat) : Heap := fun o => if l.contains o then H o else .free

/-- what an operation sees of the temporaries: those that it looks at, and what hangs on one of them -/
def restT (T : Nat → AV) (l : List Nat) : Nat → AV := fun t => if l.contains t then (match T t with | .whn g b v => if l.contains g then .whn g b v else .undef | v => v) else .undef
/-- a region that draws its order: the lexical order, with what each operation looks at and writes -/
def drawA (tb : Tab) (G : Specs) (wrap : Bool) (wk : List Nat) (ops : Array Oper) : List Oper → (Nat → AV) → Heap → List (List Nat × List Nat) → (List (List Nat × List Nat) → (Nat → AV) → Heap → Prop) → Prop
  | [], T, H, acc, K => K acc T H
  | o :: r, T, H, acc, K =>
    match gEff tb G wrap wk ops o (restT T (o.looksAt ops)) (restr H (footOf ops o (restT T (o.looksAt ops)) H)) with
    | some (g, ⟨p, v, w⟩) => frc v fun v => frcW w fun w => withE g p (drawA tb G wrap wk ops r (setT T o.dst v) (setH H w) (acc ++ [(footOf ops o (restT T (o.looksAt ops)) H, w.map (·.1))]) K)
    | none => False

def disj (a b : List Nat) : Bool := a.all fun x => !b.contains x
def direct (y : Oper) : List Nat := (y.after.toList.filter fun e => Region.binds .any e).map (·.on)
/-- what each operation waits for, directly or not -/
def clA : List Oper → List (List Nat) → List (List Nat)
  | [], acc => acc
  | y :: r, acc => clA r (acc ++ [(direct y ++ (direct y).flatMap fun d => acc.getD d []).eraseDups])
/-- two operations of which neither waits for the other don't meet -/
def pairOK (ops : Array Oper) (cl : List (List Nat)) (fp : List (List Nat × List Nat)) (i j : Nat) : Bool :=
  match ops[i]?, ops[j]?, fp[i]?, fp[j]? with
  | some x, some y, some (ri, wi), some (rj, wj) =>
    (cl.getD j []).contains i || (x.apart ops y && disj wi rj && disj wi wj && disj wj ri)
  | _, _, _, _ => false
def drawOK (ops : Array Oper) (fp : List (List Nat × List Nat)) : Bool :=
  let cl := clA ops.toList []
  (List.range ops.size).all fun j =>
    (match ops[j]? with
      | some y => y.after.all fun e => !Region.binds .any e || e.on < j
      | none => false) && (List.range j).all fun i => pairOK ops cl fp i j

def regD (tb : Tab) (G : Specs) (wrap : Bool) (wk : List Nat) (ops : Array Oper) (s : AState) (K : AState → Prop) : Prop :=
  drawA tb G wrap wk ops ops.toList s.T s.H [] fun fp T H =>
    if drawOK ops fp then K { T := clearT ops T, H := H, lt := ops.toList.filterMap (·.dst) ++ s.lt, lh := fp.flatMap (·.2) ++ s.lh } else False

/-- an annotation: the values of some temporaries and objects, as functions of a ghost; gone: objects that are let go -/
structure Ann where
  P : Type
  vars : P → List (Nat × AV)
  objs : P → List (Nat × AV)
  inv : P → Prop
  mea : P → Nat
  gone : List Nat := []

/-- the temporaries that a code writes -/
def dsts : Code → List Nat
  | .region _ ops _ => ops.toList.filterMap (·.dst)
  | .seq a b => dsts a ++ dsts b
  | .cond _ a b => dsts a ++ dsts b
  | .block _ b => dsts b
  | .loop b => dsts b
  | .scope b => dsts b
  | _ => []
/-- the first region's number -/
def firstR : Code → Nat
  | .region id _ _ => id
  | .seq a _ => firstR a
  | .cond _ a _ => firstR a
  | .block _ b => firstR b
  | .loop b => firstR b
  | .scope b => firstR b
  | _ => 9999

/-- vectors in an annotation are numbered from here on -/
def OWNB (r : Nat) : Nat := 1000000 * (r + 1)
def openList : Nat → List AV → List AV × List (Nat × Obj) × Nat
  | n, [] => ([], [], n)
  | n, v :: r =>
    let (v', w, n) := openA n v
    let (r', wr, n) := openList n r
    (v' :: r', w ++ wr, n)

/-- how a value fits an annotation's: the equations; where the vectors come from; the vectors that are made immutable -/
structure FitR where
  eqs : List Prop
  src : List (Option Nat)
  pu : List Nat
def FitR.nil : FitR := ⟨[], [], []⟩
def FitR.app (x y : FitR) : FitR := ⟨x.eqs ++ y.eqs, x.src ++ y.src, x.pu ++ y.pu⟩
def FitR.taken (r : FitR) : List Nat := r.src.filterMap id ++ r.pu
def AV.noOwn : AV → Bool
  | .own _ _ => false
  | .cons a b => a.noOwn && b.noOwn
  | .st l | .tup l => l.noOwn
  | _ => true
def AV.isOwn : AV → Bool
  | .own _ _ => true
  | _ => false
def AV.isL : AV → Bool
  | .unit => true
  | .cons _ b => b.isL
  | _ => false

mutual
/-- does a value fit an annotation's? -/
def fitA (H : Heap) : Nat → AV → AV → Option FitR
  | 0, _, _ => none
  | f + 1, v, a =>
    match a with
    | .val t x => match asTy H t v with
      | some y => some ⟨[y = x], [], v.vecs⟩
      | none => none
    | .own t l => match v with
      | .vec o => (listOf H t (.vec o)).map fun m => ⟨[m = l], [some o], []⟩
      | .nils => some ⟨[[] = l], [none], []⟩
      | _ => none
    | .st l => if v.isSt && l.isL then fitL H f v.leaves l.toL else none
    | .ref o off => match v with
      | .ref o' off' => if o = o' && off = off' then some .nil else none
      | _ => none
    | .nils => match v with
      | .nils => some .nil
      | _ => none
    | .nilp => match v with
      | .nilp => some .nil
      | _ => none
    | .nilf => match v with
      | .nilf => some .nil
      | _ => none
    | .fn g c => match v with
      | .fn g' c' => if g = g' && c.isL && c'.isL && c.noOwn then fitL H f c'.toL c.toL else none
      | _ => none
    | _ => none
def fitL (H : Heap) : Nat → List AV → List AV → Option FitR
  | _, [], [] => some .nil
  | 0, _, _ => none
  | f + 1, v :: vs, a :: avl =>
    if v.size = a.size || a.isOwn then
      (fitA H f v a).bind fun x => (fitL H f vs avl).map fun y => x.app y
    else if splits v then fitL H f (explode1 v ++ vs) (a :: avl)
    else none
  | _ + 1, _, _ => none
end
/-- each value fits its annotation's -/
def fitList (H : Heap) : List AV → List AV → Option FitR
  | [], [] => some .nil
  | v :: vs, a :: avl => (fitA H FUEL v a).bind fun x => (fitList H vs avl).map fun y => x.app y
  | _, _ => none

def cont : Obj → AV
  | .live c => c
  | _ => .undef
def Ann.vals (A : Ann) (s : AState) (p : A.P) : List AV := (A.vars p).map (fun x => s.T x.1) ++ (A.objs p).map (fun x => cont (s.H x.1))
def Ann.avs (A : Ann) (p : A.P) : List AV := (A.vars p).map (·.2) ++ (A.objs p).map (·.2)
def Ann.vk (A : Ann) (p : A.P) : List Nat := (A.vars p).map (·.1)
def Ann.ok (A : Ann) (p : A.P) : List Nat := (A.objs p).map (·.1)
def Ann.fit (A : Ann) (s : AState) (p : A.P) : Option FitR := fitList s.H (A.vals s p) (A.avs p)
/-- the vectors of a state that an annotation takes -/
def Ann.taken (A : Ann) (s : AState) (p : A.P) : List Nat :=
  match A.fit s p with
  | some r => r.taken
  | none => []
def Ann.opn (A : Ann) (n : Nat) (p : A.P) : List AV × List (Nat × Obj) × Nat := openList n (A.avs p)
def Ann.ids (A : Ann) (n : Nat) (p : A.P) : List Nat := (A.opn n p).2.1.map (·.1)
/-- the temporaries at an annotation's head -/
def Ann.tv (A : Ann) (n : Nat) (p : A.P) : List (Nat × AV) := (A.vk p).zip (A.opn n p).1
def Ann.ov (A : Ann) (n : Nat) (p : A.P) : List (Nat × Obj) := (A.ok p).zip (((A.opn n p).1.drop (A.vk p).length).map .live)
/-- the heap at an annotation's head; s: the state before; tk: the vectors of s that are taken -/
def Ann.heap (A : Ann) (n : Nat) (s : AState) (tk : List Nat) (p : A.P) : Heap :=
  setH s.H ((A.gone ++ tk).map (fun o => (o, .dead)) ++ (A.ov n p ++ (A.opn n p).2.1))
/-- the state at an annotation's head -/
def Ann.state (A : Ann) (n : Nat) (s : AState) (tk : List Nat) (ds : List Nat) (p : A.P) : AState :=
  { T := fun t => match (A.tv n p).lookup t with
      | some v => v
      | none => if ds.contains t then .undef else s.T t
    H := A.heap n s tk p
    lt := [], lh := [] }
/-- what an annotation changes, for the log -/
def Ann.lts (A : Ann) (ds : List Nat) (p : A.P) : List Nat := ds ++ A.vk p
def Ann.lhs (A : Ann) (n : Nat) (tk : List Nat) (p : A.P) : List Nat := A.gone ++ (tk ++ (A.ok p ++ A.ids n p))

/-- is the value of a temporary one that can be taken? -/
def AV.plain : AV → Bool
  | .undef | .tup _ | .whn _ _ _ | .own _ _ => false
  | _ => true
/-- is an annotation in order at the state before? -/
def Ann.sane (A : Ann) (n : Nat) (s : AState) (p : A.P) : Bool :=
  (A.ids n p).all (fun o => isFree (s.H o)) && dupFree (A.ok p) && (A.ok p).all (fun o => !(A.ids n p).contains o) &&
    (A.avs p).all (fun a => a.refs.all fun o => (A.ok p).contains o || !isFree (s.H o))
/-- a variable (no vector) -/
def isBoxy : Obj → Bool | .live (.val (.sl _) _) => false | .live _ => true | _ => false
/-- is what is taken in order? -/
def Ann.takes (A : Ann) (n : Nat) (wk : List Nat) (s' : AState) (p : A.P) (r : FitR) : Bool :=
  dupFree r.taken && r.taken.all (fun o => !roOf wk o && !(A.ok p).contains o) && (A.ok p).all (fun o => isBoxy (s'.H o)) &&
    (A.vk p).all (fun t => (s'.T t).plain) && r.src.length == (A.opn n p).2.1.length

/-- a state fits an annotation at its head -/
def Ann.fits1 (A : Ann) (n : Nat) (wk : List Nat) (s : AState) (p : A.P) : Prop :=
  match A.fit s p with
  | some r => if A.sane n s p && A.takes n wk s p r then conjL r.eqs else False
  | none => False
/-- a state fits an annotation later; s: the state before; tk: what was taken of it -/
def Ann.fits2 (A : Ann) (n : Nat) (wk : List Nat) (s : AState) (tk : List Nat) (ds : List Nat) (s' : AState) (p : A.P) : Prop :=
  match A.fit s' p with
  | some r =>
    if A.sane n s p && A.takes n wk s' p r && s'.lt.all (fun t => ds.contains t || (A.vk p).contains t) &&
        s'.lh.all (fun o => (A.ok p).contains o || (A.ids n p).contains o || !isLive (A.heap n s tk p o)) &&
        r.taken.all (fun o => (A.ids n p).contains o || !isLive (A.heap n s tk p o))
    then conjL r.eqs else False
  | none => False
/-- two ghosts have annotations of one shape -/
def Ann.alike (A : Ann) (n : Nat) (s : AState) (p p' : A.P) : Bool :=
  A.vk p == A.vk p' && A.ok p == A.ok p' && A.ids n p == A.ids n p' && A.taken s p == A.taken s p'

/-- weakest preconditions over abstract states -/
def wpA (tb : Tab) (G : Specs) (wrap : Bool) (wk : List Nat) (LA : Nat → Option (AState → Ann)) (CA : Nat → Option (AState → Ann)) :
    Code → (Exit → AState → Prop) → AState → Prop
  | .skip, Q, s => Q .normal s
  | .region _ ops draw, Q, s => if draw then regD tb G wrap wk ops s (Q .normal) else regA tb G wrap wk ops ops.toList s (Q .normal)
  | .seq a b, Q, s =>
    match CA (firstR b) with
    | none => wpA tb G wrap wk LA CA a (fun e s' => match e with | .normal => wpA tb G wrap wk LA CA b Q s' | e => Q e s') s
    | some A =>
      wpA tb G wrap wk LA CA a (fun e s' => match e with
        | .normal => ∃ p, (A s).inv p ∧ (A s).fits2 (OWNB (2 * firstR b + 1)) wk s [] (dsts a) s' p
        | e => Q e { s' with lt := s'.lt ++ s.lt, lh := s'.lh ++ s.lh }) { s with lt := [], lh := [] } ∧
      ∀ p, (A s).inv p → wpA tb G wrap wk LA CA b Q { (A s).state (OWNB (2 * firstR b + 1)) s [] (dsts a) p with
        lt := (A s).lts (dsts a) p ++ s.lt, lh := (A s).lhs (OWNB (2 * firstR b + 1)) [] p ++ s.lh }
  | .cond c a b, Q, s => match ev s.T none c with
    | .val .bool v => (v = true → wpA tb G wrap wk LA CA a Q s) ∧ (v = false → wpA tb G wrap wk LA CA b Q s)
    | _ => False
  | .block id b, Q, s => wpA tb G wrap wk LA CA b (fun e s' => match e with | .exit i => if i = id then Q .normal s' else Q (.exit i) s' | e => Q e s') s
  | .loop b, Q, s =>
    match LA (firstR b) with
    | none => False
    | some A =>
      (∃ p, (A s).inv p ∧ (A s).fits1 (OWNB (2 * firstR b)) wk s p) ∧
      ∀ p, (A s).inv p → wpA tb G wrap wk LA CA b (fun e s' => match e with
        | .normal => ∃ p', (A s).inv p' ∧ (A s).mea p' < (A s).mea p ∧ (if (A s).alike (OWNB (2 * firstR b)) s p p' then
            (A s).fits2 (OWNB (2 * firstR b)) wk s ((A s).taken s p) (dsts b) s' p' else False)
        | e => Q e { s' with lt := s'.lt ++ ((A s).lts (dsts b) p ++ s.lt), lh := s'.lh ++ ((A s).lhs (OWNB (2 * firstR b)) ((A s).taken s p) p ++ s.lh) })
          ((A s).state (OWNB (2 * firstR b)) s ((A s).taken s p) (dsts b) p)
  | .exit i, Q, s => Q (.exit i) s
  | .ret, Q, s => Q .ret s
  | .label _, Q, s => Q .normal s
  | .rangeFunc _ _ _ _, _, _ => False
  | .scope (.seq c1 (.seq c2 (.seq (.label l) rest))), Q, s =>
    wpA tb G wrap wk LA CA c1 (fun e s1 => match e with
      | .normal => wpA tb G wrap wk LA CA c2 (fun e s2 => match e with
        | .normal => (match LA (firstR rest) with
          | none => wpA tb G wrap wk LA CA rest (fun e s' => match e with | .goto _ => False | e => Q e s') s2
          | some A => if (findLabel c1 l).isNone && (findLabel c2 l).isNone then
            (∃ p, (A s2).inv p ∧ (A s2).fits1 (OWNB (2 * firstR rest)) wk s2 p) ∧
            ∀ p, (A s2).inv p → wpA tb G wrap wk LA CA rest (fun e s' => match e with
              | .goto l' => if l' = l then ∃ p', (A s2).inv p' ∧ (A s2).mea p' < (A s2).mea p ∧ (if (A s2).alike (OWNB (2 * firstR rest)) s2 p p' then
                  (A s2).fits2 (OWNB (2 * firstR rest)) wk s2 ((A s2).taken s2 p) (dsts rest) s' p' else False) else False
              | e => Q e { s' with lt := s'.lt ++ ((A s2).lts (dsts rest) p ++ s2.lt), lh := s'.lh ++ ((A s2).lhs (OWNB (2 * firstR rest)) ((A s2).taken s2 p) p ++ s2.lh) })
                ((A s2).state (OWNB (2 * firstR rest)) s2 ((A s2).taken s2 p) (dsts rest) p)
            else False)
        | .goto _ => False
        | e => Q e s2) s1
      | .goto _ => False
      | e => Q e s1) s
  | .scope b, Q, s => wpA tb G wrap wk LA CA b (fun e s' => match e with | .goto _ => False | e => Q e s') s
  | .goto l, Q, s => Q (.goto l) s
  | .refuse _, _, _ => False
end A
end Go.Proofs.Ythgnjimpakpkjaa
namespace Go.Proofs.Ythgnjimpakpkjaa
namespace A
def tb : Tab := [
  (1, { k := .fn [] [], ty := none, size := 1, bytes := 8, zs := [.nilf] }),
  (2, { k := .int .i64, ty := some (.int .i64), size := 1, bytes := 8, zs := [.tz (.int .i64)] }),
  (3, { k := .int .i64, ty := some (.int .i64), size := 1, bytes := 8, zs := [.tz (.int .i64)] }),
  (4, { k := .bool, ty := some .bool, size := 1, bytes := 1, zs := [.tz .bool] }),
  (5, { k := .int .u8, ty := some (.int .u8), size := 1, bytes := 1, zs := [.tz (.int .u8)] }),
  (9, { k := .str, ty := some .str, size := 1, bytes := 16, zs := [.tz .str] }),
  (12, { k := .int .u64, ty := some (.int .u64), size := 1, bytes := 8, zs := [.tz (.int .u64)] }),
  (13, { k := .struct [(0, 9), (1, 12)], ty := some (.pair .str (.int .u64)), size := 2, bytes := 24, zs := [.tz .str, .tz (.int .u64)] }),
  (20, { k := .ifc, ty := none, size := 1, bytes := 16, zs := [.nili] }),
  (21, { k := .int .i32, ty := some (.int .i32), size := 1, bytes := 4, zs := [.tz (.int .i32)] }),
  (22, { k := .int .i64, ty := some (.int .i64), size := 1, bytes := 8, zs := [.tz (.int .i64)] }),
  (23, { k := .slice 3, ty := some (.sl (.int .i64)), size := 1, bytes := 24, zs := [.nils] }),
  (24, { k := .slice 26, ty := some (.sl (.rc .arr)), size := 1, bytes := 24, zs := [.nils] }),
  (25, { k := .struct [(0, 22), (1, 23), (2, 23), (3, 24)], ty := some (.pair (.int .i64) (.pair (.sl (.int .i64)) (.pair (.sl (.int .i64)) (.sl (.rc .arr))))), size := 4, bytes := 80, zs := [.tz (.int .i64), .nils, .nils, .nils] }),
  (26, { k := .struct [(0, 22), (1, 23), (2, 23), (3, 24)], ty := some (.rc .arr), size := 4, bytes := 80, zs := [.tz (.int .i64), .nils, .nils, .nils] }),
  (27, { k := .fn [26, 3] [4], ty := none, size := 1, bytes := 8, zs := [.nilf] }),
  (28, { k := .fn [] [4], ty := none, size := 1, bytes := 8, zs := [.nilf] }),
  (29, { k := .int .i64, ty := some (.int .i64), size := 1, bytes := 8, zs := [.tz (.int .i64)] }),
  (31, { k := .fn [26] [26, 29], ty := none, size := 1, bytes := 8, zs := [.nilf] }),
  (32, { k := .fn [26, 26] [26, 29], ty := none, size := 1, bytes := 8, zs := [.nilf] }),
  (33, { k := .fn [3] [26], ty := none, size := 1, bytes := 8, zs := [.nilf] }),
  (34, { k := .fn [26] [3], ty := none, size := 1, bytes := 8, zs := [.nilf] }),
  (35, { k := .fn [26, 26] [4], ty := none, size := 1, bytes := 8, zs := [.nilf] }),
  (36, { k := .fn [26] [4], ty := none, size := 1, bytes := 8, zs := [.nilf] }),
  (37, { k := .fn [26] [26], ty := none, size := 1, bytes := 8, zs := [.nilf] }),
  (38, { k := .fn [23] [26], ty := none, size := 1, bytes := 8, zs := [.nilf] }),
  (39, { k := .fn [3, 26] [4], ty := none, size := 1, bytes := 8, zs := [.nilf] }),
  (40, { k := .fn [26] [29], ty := none, size := 1, bytes := 8, zs := [.nilf] }),
  (41, { k := .slice 47, ty := some (.sl (.pair (.int .i64) (.rc .arr))), size := 1, bytes := 24, zs := [.nils] }),
  (43, { k := .fn [26] [41, 29], ty := none, size := 1, bytes := 8, zs := [.nilf] }),
  (44, { k := .fn [41] [26], ty := none, size := 1, bytes := 8, zs := [.nilf] }),
  (45, { k := .fn [41, 49] [41], ty := none, size := 1, bytes := 8, zs := [.nilf] }),
  (46, { k := .struct [(0, 3), (1, 26)], ty := some (.pair (.int .i64) (.rc .arr)), size := 5, bytes := 88, zs := [.tz (.int .i64), .tz (.int .i64), .nils, .nils, .nils] }),
  (47, { k := .struct [(0, 3), (1, 26)], ty := some (.pair (.int .i64) (.rc .arr)), size := 5, bytes := 88, zs := [.tz (.int .i64), .tz (.int .i64), .nils, .nils, .nils] }),
  (48, { k := .fn [26, 26] [3], ty := none, size := 1, bytes := 8, zs := [.nilf] }),
  (49, { k := .fn [47, 47] [3], ty := none, size := 1, bytes := 8, zs := [.nilf] }),
  (50, { k := .fn [23] [23], ty := none, size := 1, bytes := 8, zs := [.nilf] }),
  (52, { k := .fn [26] [3, 23], ty := none, size := 1, bytes := 8, zs := [.nilf] }),
  (53, { k := .fn [69] [23], ty := none, size := 1, bytes := 8, zs := [.nilf] }),
  (54, { k := .fn [24] [4], ty := none, size := 1, bytes := 8, zs := [.nilf] }),
  (55, { k := .fn [23] [4], ty := none, size := 1, bytes := 8, zs := [.nilf] }),
  (56, { k := .fn [23, 3] [4], ty := none, size := 1, bytes := 8, zs := [.nilf] }),
  (57, { k := .fn [23] [3], ty := none, size := 1, bytes := 8, zs := [.nilf] }),
  (58, { k := .fn [26, 23, 23] [26, 29], ty := none, size := 1, bytes := 8, zs := [.nilf] }),
  (59, { k := .fn [23, 60] [4], ty := none, size := 1, bytes := 8, zs := [.nilf] }),
  (60, { k := .fn [3] [4], ty := none, size := 1, bytes := 8, zs := [.nilf] }),
  (61, { k := .fn [23, 23] [4], ty := none, size := 1, bytes := 8, zs := [.nilf] }),
  (62, { k := .fn [24, 24, 35] [4], ty := none, size := 1, bytes := 8, zs := [.nilf] }),
  (63, { k := .fn [26, 26, 4] [26, 29], ty := none, size := 1, bytes := 8, zs := [.nilf] }),
  (64, { k := .fn [26, 65] [26], ty := none, size := 1, bytes := 8, zs := [.nilf] }),
  (65, { k := .fn [3, 3] [3], ty := none, size := 1, bytes := 8, zs := [.nilf] }),
  (66, { k := .fn [23, 26, 23] [26], ty := none, size := 1, bytes := 8, zs := [.nilf] }),
  (67, { k := .fn [23, 23] [23], ty := none, size := 1, bytes := 8, zs := [.nilf] }),
  (68, { k := .fn [26, 26] [29], ty := none, size := 1, bytes := 8, zs := [.nilf] }),
  (69, { k := .slice 23, ty := some (.sl (.sl (.int .i64))), size := 1, bytes := 24, zs := [.nils] }),
  (70, { k := .fn [23, 3] [23], ty := none, size := 1, bytes := 8, zs := [.nilf] }),
  (72, { k := .fn [23, 23, 3, 3, 3] [3, 29], ty := none, size := 1, bytes := 8, zs := [.nilf] }),
  (74, { k := .fn [26, 26] [23, 26, 29], ty := none, size := 1, bytes := 8, zs := [.nilf] }),
  (75, { k := .fn [3] [3], ty := none, size := 1, bytes := 8, zs := [.nilf] }),
  (76, { k := .fn [26, 23, 65] [26, 29], ty := none, size := 1, bytes := 8, zs := [.nilf] }),
  (78, { k := .fn [26] [29, 3], ty := none, size := 1, bytes := 8, zs := [.nilf] }),
  (79, { k := .fn [26, 3] [24], ty := none, size := 1, bytes := 8, zs := [.nilf] }),
  (80, { k := .fn [24, 36] [4], ty := none, size := 1, bytes := 8, zs := [.nilf] }),
  (81, { k := .fn [23, 60] [3], ty := none, size := 1, bytes := 8, zs := [.nilf] }),
  (82, { k := .struct [(0, 26), (4, 23)], ty := some (.pair (.rc .arr) (.sl (.int .i64))), size := 5, bytes := 104, zs := [.tz (.int .i64), .nils, .nils, .nils, .nils] }),
  (83, { k := .struct [(0, 26), (4, 23)], ty := some (.pair (.rc .arr) (.sl (.int .i64))), size := 5, bytes := 104, zs := [.tz (.int .i64), .nils, .nils, .nils, .nils] }),
  (84, { k := .fn [26, 23, 3, 3] [83], ty := none, size := 1, bytes := 8, zs := [.nilf] }),
  (85, { k := .fn [] [3], ty := none, size := 1, bytes := 8, zs := [.nilf] }),
  (87, { k := .fn [23, 3] [3, 3], ty := none, size := 1, bytes := 8, zs := [.nilf] }),
  (88, { k := .array 2 3, ty := some (.arn 2 (.int .i64)), size := 2, bytes := 16, zs := [.tz (.arn 2 (.int .i64))] }),
  (89, { k := .fn [90, 3, 3] [], ty := none, size := 1, bytes := 8, zs := [.nilf] }),
  (90, { k := .ptr 26, ty := none, size := 1, bytes := 8, zs := [.nilp] }),
  (91, { k := .fn [26] [29, 3, 3], ty := none, size := 1, bytes := 8, zs := [.nilf] }),
  (94, { k := .fn [23, 3] [23, 4], ty := none, size := 1, bytes := 8, zs := [.nilf] }),
  (96, { k := .fn [23, 23] [3, 4], ty := none, size := 1, bytes := 8, zs := [.nilf] }),
  (97, { k := .fn [3, 3] [3, 29], ty := none, size := 1, bytes := 8, zs := [.nilf] }),
  (98, { k := .array 8 3, ty := some (.arn 8 (.int .i64)), size := 8, bytes := 64, zs := [.tz (.arn 8 (.int .i64))] }),
  (99, { k := .fn [23] [29], ty := none, size := 1, bytes := 8, zs := [.nilf] }),
  (100, { k := .fn [26, 3, 3, 23] [26], ty := none, size := 1, bytes := 8, zs := [.nilf] }),
  (101, { k := .fn [23] [3], ty := none, size := 1, bytes := 8, zs := [.nilf] }),
  (102, { k := .fn [22, 22] [3], ty := none, size := 1, bytes := 8, zs := [.nilf] }),
  (103, { k := .fn [23, 23] [3], ty := none, size := 1, bytes := 8, zs := [.nilf] }),
  (104, { k := .fn [24, 36] [3], ty := none, size := 1, bytes := 8, zs := [.nilf] }),
  (105, { k := .fn [23, 3, 23] [23], ty := none, size := 1, bytes := 8, zs := [.nilf] }),
  (107, { k := .fn [3, 3] [3, 3, 29], ty := none, size := 1, bytes := 8, zs := [.nilf] }),
  (108, { k := .fn [3, 3] [29], ty := none, size := 1, bytes := 8, zs := [.nilf] }),
  (109, { k := .fn [3] [3, 29], ty := none, size := 1, bytes := 8, zs := [.nilf] }),
  (110, { k := .int .u64, ty := some (.int .u64), size := 1, bytes := 8, zs := [.tz (.int .u64)] }),
  (112, { k := .fn [110, 110] [110, 110], ty := none, size := 1, bytes := 8, zs := [.nilf] }),
  (113, { k := .fn [22] [4], ty := none, size := 1, bytes := 8, zs := [.nilf] }),
  (114, { k := .fn [3, 3, 3] [3], ty := none, size := 1, bytes := 8, zs := [.nilf] }),
  (115, { k := .fn [23, 3] [3], ty := none, size := 1, bytes := 8, zs := [.nilf] }),
  (116, { k := .fn [23, 3] [], ty := none, size := 1, bytes := 8, zs := [.nilf] }),
  (117, { k := .int .u32, ty := some (.int .u32), size := 1, bytes := 4, zs := [.tz (.int .u32)] }),
  (119, { k := .fn [117, 117] [117, 117], ty := none, size := 1, bytes := 8, zs := [.nilf] }),
  (120, { k := .int .u64, ty := some (.int .u64), size := 1, bytes := 8, zs := [.tz (.int .u64)] }),
  (122, { k := .fn [120, 120] [120, 120], ty := none, size := 1, bytes := 8, zs := [.nilf] }),
  (123, { k := .fn [23] [], ty := none, size := 1, bytes := 8, zs := [.nilf] }),
  (124, { k := .fn [] [9], ty := none, size := 1, bytes := 8, zs := [.nilf] }),
  (132, { k := .fn [138, 138] [4], ty := none, size := 1, bytes := 8, zs := [.nilf] }),
  (133, { k := .ptr 5, ty := none, size := 1, bytes := 8, zs := [.nilp] })]
end A
end Go.Proofs.Ythgnjimpakpkjaa
namespace Go.Proofs.Ythgnjimpakpkjaa
namespace A

/-- where an object lies: a block of its own, or behind a slice's value -/
inductive Place
  | box (b : Nat)
  | slc (a : Option Addr) (n cap : Nat)
def Place.block : Place → Option Nat
  | .box b => some b
  | .slc (some a) _ cap => if cap = 0 then none else some a.block
  | .slc none _ _ => none

/-- a vector of at least k elements (m is 0), or an array variable of m, at least k -/
def Place.room : Place → Nat → Nat → Prop
  | .box _, m, k => 0 < m ∧ k ≤ m
  | .slc _ n _, m, k => m = 0 ∧ k ≤ n

/-- the world in which a call began, what was immutable then, and which old blocks may change -/
structure Base where
  w : World
  Z : Nat → Prop
  X : Nat → Prop
  ro : Nat → Bool

/-- the same system, and nothing written out -/
def Io (w0 w : World) : Prop := w.os = w0.os ∧ w.output = w0.output
theorem Io.refl (w : World) : Io w w := ⟨rfl, rfl⟩
theorem Io.trans {w0 w1 w2 : World} (h1 : Io w0 w1) (h2 : Io w1 w2) : Io w0 w2 := ⟨h2.1.trans h1.1, h2.2.trans h1.2⟩
/-- a later world -/
structure Ext (w0 : World) (Z0 : Nat → Prop) (w : World) (Z : Nat → Prop) : Prop where
  size : w0.heap.size ≤ w.heap.size
  io : Io w0 w
  old : ∀ b, b < w0.heap.size → w.heap[b]? = w0.heap[b]?
  zz : ∀ b, Z0 b → Z b
  zn : ∀ b, Z b → Z0 b ∨ w0.heap.size ≤ b
theorem Ext.refl (w : World) (Z : Nat → Prop) : Ext w Z w Z := ⟨Nat.le_refl _, Io.refl _, fun _ _ => rfl, fun _ h => h, fun _ h => .inl h⟩
theorem Ext.trans {w0 w1 w2 : World} {Z0 Z1 Z2 : Nat → Prop} (h1 : Ext w0 Z0 w1 Z1) (h2 : Ext w1 Z1 w2 Z2) : Ext w0 Z0 w2 Z2 where
  size := Nat.le_trans h1.size h2.size
  io := h1.io.trans h2.io
  old b hb := (h2.old b (Nat.lt_of_lt_of_le hb h1.size)).trans (h1.old b hb)
  zz b hb := h2.zz b (h1.zz b hb)
  zn b hb := (h2.zn b hb).elim (fun h => h1.zn b h) (fun h => .inr (Nat.le_trans h1.size h))

/-- a typed value in one temporary -/
def R1v (w : World) (Z : Nat → Prop) (t : Ty) (x : El t) (v : Value) : Prop :=
  if isSt t then ∃ us : List Value, v = .agg us.toArray ∧ Reps w Z t x us else Reps w Z t x [v]

def Fnp1OK (P : Program) (w0 : World) (Z0 : Nat → Prop) (a b : Ty) (pre : El a → Prop) (F : El a → El b) (v : Value) : Prop :=
  ∃ f caps, v = .func (.func f) #[] caps ∧ ∀ w Z x u, Ext w0 Z0 w Z → (∀ b, Z b → b < w.heap.size) → pre x → R1v w Z a x u →
    (callFunc f (#[u] ++ caps)).run P w = .ok (.enter f (#[u] ++ caps)) w ∧
    Calls P f (#[u] ++ caps) w (fun e w' => ∃ r Z', e = .returned r ∧ Ext w Z w' Z' ∧ (∀ b, Z' b → b < w'.heap.size) ∧ R1v w' Z' b (F x) r)
def Fnp2OK (P : Program) (w0 : World) (Z0 : Nat → Prop) (a b c : Ty) (pre : El a → El b → Prop) (F : El a → El b → El c) (v : Value) : Prop :=
  ∃ f caps, v = .func (.func f) #[] caps ∧ ∀ w Z x y u u', Ext w0 Z0 w Z → (∀ b, Z b → b < w.heap.size) → pre x y → R1v w Z a x u → R1v w Z b y u' →
    (callFunc f (#[u, u'] ++ caps)).run P w = .ok (.enter f (#[u, u'] ++ caps)) w ∧
    Calls P f (#[u, u'] ++ caps) w (fun e w' => ∃ r Z', e = .returned r ∧ Ext w Z w' Z' ∧ (∀ b, Z' b → b < w'.heap.size) ∧ R1v w' Z' c (F x y) r)

/-- is it a list of parts? -/
def AV.isList : AV → Bool
  | .unit => true
  | .cons _ b => b.isList
  | _ => false
section
variable (P : Program) (B : Base) (pl : Nat → Place) (Z : Nat → Prop) (w : World)
/-- cells bear an abstract value -/
def AVs : AV → List Value → Prop
  | .val t x, cs => Reps w Z t x cs
  | .valc t l, cs => ∃ a, cs = [.slice a l.length l.length] ∧ Reps w Z (.sl t) l cs
  | .nils, cs => ∃ a, cs = [.slice a 0 0]
  | .vec o, cs => ∃ a n cap, pl o = .slc a n cap ∧ cs = [.slice a n cap]
  | .view o m t lo n, cs => ∃ a cap, cs = [.slice a n cap] ∧ n ≤ cap ∧ (pl o).room m (lo + n) ∧ (n = 0 ∨ ∃ b, (pl o).block = some b ∧ a = some ⟨b, lo * csize t, none⟩)
  | .ref o off, cs => ∃ b, pl o = .box b ∧ cs = [.pointer (some ⟨b, off, none⟩)]
  | .refi o m t i so, cs => ∃ b, (pl o).block = some b ∧ (pl o).room m (i + 1) ∧ cs = [.pointer (some ⟨b, i * csize t + so, none⟩)]
  | .rop t x, cs => ∃ b off c us, Z b ∧ blk w b = some c ∧ us.length = csize t ∧ (∀ j, j < csize t → c[off + j]? = us[j]?) ∧ Reps w Z t x us ∧
      cs = [.pointer (some ⟨b, off, none⟩)]
  | .nilp, cs => cs = [.pointer none]
  | .nilf, cs => cs = [.nilFunc]
  | .nili, cs => cs = [.nilIface]
  | .fn f c, cs => ∃ us : List Value, cs = [.func (.func f) #[] us.toArray] ∧ c.isList = true ∧ AVs c us
  | .fnp1 a b pre F, cs => ∃ v, cs = [v] ∧ (∀ b, ¬ B.X b) ∧ Fnp1OK P B.w B.Z a b pre F v
  | .fnp2 a b c pre F, cs => ∃ v, cs = [v] ∧ (∀ b, ¬ B.X b) ∧ Fnp2OK P B.w B.Z a b c pre F v
  | .cons a b, cs => ∃ u v, cs = u ++ v ∧ AVs a u ∧ AVs b v
  | .st l, cs => l.isList = true ∧ AVs l cs
  | .iface T v, cs => ∃ x, cs = [.iface T x] ∧ (if v.isSt then ∃ us : List Value, x = .agg us.toArray ∧ AVs v us else AVs v [x])
  | .unit, cs => cs = []
  | .undef, _ | .tup _, _ | .whn _ _ _, _ | .own _ _, _ => False

/-- one value bears an abstract value -/
def AV1 (v : AV) (x : Value) : Prop := if v.isSt then ∃ us : List Value, x = .agg us.toArray ∧ AVs P B pl Z w v us else AVs P B pl Z w v [x]
/-- a tuple's parts -/
def AVt : AV → List Value → Prop
  | .unit, us => us = []
  | .cons a b, us => ∃ u r, us = u :: r ∧ AV1 P B pl Z w a u ∧ AVt b r
  | _, _ => False
/-- a temporary bears an abstract value -/
def AVr (tm : Nat → Value) : AV → Value → Prop
  | .undef, _ => True
  | .whn g b v, x => (tm g = .bool b → AV1 P B pl Z w v x) ∧ (tm g ≠ .bool b → x = undef)
  | .tup l, x => ∃ us : List Value, x = .tuple us.toArray ∧ AVt P B pl Z w l us
  | v, x => AV1 P B pl Z w v x

/-- an object lies at its place -/
def OB : Place → AV → Prop
  | .box b, c => ¬ Z b ∧ ∃ (cs : List Value) (T : TypeId), w.heap[b]? = some (.cells cs.toArray T (0, 0)) ∧ AVs P B pl Z w c cs
  | .slc a n cap, .val (.sl t) l => List.length (α := El t) l = n ∧ n ≤ cap ∧ n < LIM ∧ (cap = 0 ∨ ∃ b arr, ∃ T : TypeId, a = some ⟨b, 0, none⟩ ∧ ¬ Z b ∧
      w.heap[b]? = some (.cells arr T (0, 0)) ∧ arr.size = cap * csize t ∧ Elts w Z t l arr 0)
  | _, _ => False

/-- a world bears a heap -/
structure GR (H : Heap) : Prop where
  z : ∀ b, Z b → b < w.heap.size
  ob : ∀ o c, H o = .live c → OB P B pl Z w (pl o) c
  dj : ∀ o o' c c', H o = .live c → H o' = .live c' → o ≠ o' → ∀ b, (pl o).block = some b → (pl o').block ≠ some b
  ba : ∀ o c, H o = .live c → ∀ b, (pl o).block = some b → B.w.heap.size ≤ b ∨ B.X b ∨ B.ro o = true
  si : B.w.heap.size ≤ w.heap.size
  io : Io B.w w
  old : ∀ b, b < B.w.heap.size → ¬ B.X b → w.heap[b]? = B.w.heap[b]?
  zz : ∀ b, B.Z b → Z b
  zn : ∀ b, Z b → B.Z b ∨ B.w.heap.size ≤ b ∨ B.X b
  kn : ∀ o c, H o = .live c → ∀ o', o' ∈ c.refs → isFree (H o') = false
end

variable {P : Program} {B : Base}

theorem blk_of {w w' : World} {b : Nat} (h : w'.heap[b]? = w.heap[b]?) : blk w' b = blk w b := by unfold blk; rw [h]

theorem Reps.mono' {w w' : World} {Z Z' : Nat → Prop} (h : ∀ b, Z b → Z' b ∧ w'.heap[b]? = w.heap[b]?) {t : Ty} {x : El t} {vs : List Value} :
    Reps w Z t x vs → Reps w' Z' t x vs := Reps.mono fun b hb => ⟨(h b hb).1, blk_of (h b hb).2⟩
theorem Elts.mono' {w w' : World} {Z Z' : Nat → Prop} (h : ∀ b, Z b → Z' b ∧ w'.heap[b]? = w.heap[b]?) {t : Ty} {l : List (El t)} {c : Array Value} {off : Nat} :
    Elts w Z t l c off → Elts w' Z' t l c off := Elts.mono fun b hb => ⟨(h b hb).1, blk_of (h b hb).2⟩

/-- what was borne is borne later, as far as places are kept -/
theorem AVs.mono {pl pl' : Nat → Place} {Z Z' : Nat → Prop} {w w' : World} (hz : ∀ b, Z b → Z' b ∧ w'.heap[b]? = w.heap[b]?) :
    ∀ (v : AV) (cs : List Value), (∀ o, o ∈ v.refs → pl' o = pl o) → AVs P B pl Z w v cs → AVs P B pl' Z' w' v cs
  | .val t x, cs, _, h => Reps.mono' hz h
  | .valc t l, cs, _, ⟨a, h1, h2⟩ => ⟨a, h1, Reps.mono' hz h2⟩
  | .nils, cs, _, h => h
  | .vec o, cs, hp, ⟨a, n, cap, h1, h2⟩ => ⟨a, n, cap, (hp o (by simp [AV.refs])).trans h1, h2⟩
  | .view o m t lo n, cs, hp, ⟨a, cap, h1, h2, h0, h3⟩ => ⟨a, cap, h1, h2, by rw [hp o (by simp [AV.refs])]; exact h0, h3.imp id fun ⟨b, hb, ha⟩ => ⟨b, by rw [hp o (by simp [AV.refs])]; exact hb, ha⟩⟩
  | .ref o off, cs, hp, ⟨b, h1, h2⟩ => ⟨b, (hp o (by simp [AV.refs])).trans h1, h2⟩
  | .refi o m t i so, cs, hp, ⟨b, h1, h0, h2⟩ => ⟨b, by rw [hp o (by simp [AV.refs])]; exact h1, by rw [hp o (by simp [AV.refs])]; exact h0, h2⟩
  | .rop t x, cs, _, ⟨b, off, c, us, h1, h2, h3, h4, h5, h6⟩ => ⟨b, off, c, us, (hz b h1).1, (blk_of (hz b h1).2).trans h2, h3, h4, Reps.mono' hz h5, h6⟩
  | .nilp, cs, _, h => h
  | .nilf, cs, _, h => h
  | .nili, cs, _, h => h
  | .fn f c, cs, hp, ⟨us, h1, hl, h2⟩ => ⟨us, h1, hl, AVs.mono hz c us (fun o ho => hp o ho) h2⟩
  | .fnp1 a b pre F, cs, _, h => h
  | .fnp2 a b c pre F, cs, _, h => h
  | .cons a b, cs, hp, ⟨u, v, h1, h2, h3⟩ => ⟨u, v, h1, AVs.mono hz a u (fun o ho => hp o (by simp [AV.refs, ho])) h2, AVs.mono hz b v (fun o ho => hp o (by simp [AV.refs, ho])) h3⟩
  | .st l, cs, hp, h => ⟨h.1, AVs.mono hz l cs (fun o ho => hp o ho) h.2⟩
  | .iface T v, cs, hp, ⟨x, h1, h2⟩ => ⟨x, h1, by
      have hp' : ∀ o, o ∈ v.refs → pl' o = pl o := fun o ho => hp o ho
      split
      · rename_i hs; rw [if_pos hs] at h2; obtain ⟨us, h3, h4⟩ := h2; exact ⟨us, h3, AVs.mono hz v us hp' h4⟩
      · rename_i hs; rw [if_neg hs] at h2; exact AVs.mono hz v [x] hp' h2⟩
  | .unit, cs, _, h => h

theorem AV1.mono {pl pl' : Nat → Place} {Z Z' : Nat → Prop} {w w' : World} (hz : ∀ b, Z b → Z' b ∧ w'.heap[b]? = w.heap[b]?)
    (v : AV) (x : Value) (hp : ∀ o, o ∈ v.refs → pl' o = pl o) (h : AV1 P B pl Z w v x) : AV1 P B pl' Z' w' v x := by
  unfold AV1 at *
  split
  · rename_i hs; rw [if_pos hs] at h; obtain ⟨us, h3, h4⟩ := h; exact ⟨us, h3, AVs.mono hz v us hp h4⟩
  · rename_i hs; rw [if_neg hs] at h; exact AVs.mono hz v [x] hp h

theorem AVt.mono {pl pl' : Nat → Place} {Z Z' : Nat → Prop} {w w' : World} (hz : ∀ b, Z b → Z' b ∧ w'.heap[b]? = w.heap[b]?) :
    ∀ (v : AV) (us : List Value), (∀ o, o ∈ v.refs → pl' o = pl o) → AVt P B pl Z w v us → AVt P B pl' Z' w' v us
  | .unit, us, _, h => h
  | .cons a b, us, hp, ⟨u, r, h1, h2, h3⟩ => ⟨u, r, h1, AV1.mono hz a u (fun o ho => hp o (by simp [AV.refs, ho])) h2, AVt.mono hz b r (fun o ho => hp o (by simp [AV.refs, ho])) h3⟩

theorem AVr.mono {pl pl' : Nat → Place} {Z Z' : Nat → Prop} {w w' : World} (hz : ∀ b, Z b → Z' b ∧ w'.heap[b]? = w.heap[b]?) (tm : Nat → Value)
    (v : AV) (x : Value) (hp : ∀ o, o ∈ v.refs → pl' o = pl o) (h : AVr P B pl Z w tm v x) : AVr P B pl' Z' w' tm v x := by
  cases v <;> try exact AV1.mono hz _ x hp h
  case undef => trivial
  case whn g b v => exact ⟨fun hg => AV1.mono hz v x hp (h.1 hg), h.2⟩
  case tup l => obtain ⟨us, h1, h2⟩ := h; exact ⟨us, h1, AVt.mono hz l us hp h2⟩

theorem Reps.len {w : World} {Z : Nat → Prop} {t : Ty} {x : El t} {vs : List Value} (h : Reps w Z t x vs) : vs.length = csize t := h.length

/-- the number of cells -/
theorem AVs.length {pl : Nat → Place} {Z : Nat → Prop} {w : World} : ∀ (v : AV) (cs : List Value), AVs P B pl Z w v cs → cs.length = v.size
  | .val t x, cs, h => h.len
  | .valc t l, cs, ⟨a, h1, _⟩ => by rw [h1]; rfl
  | .nils, cs, ⟨a, h⟩ => by rw [h]; rfl
  | .vec o, cs, ⟨a, n, cap, _, h⟩ => by rw [h]; rfl
  | .view o off t lo n, cs, ⟨a, cap, h, _⟩ => by rw [h]; rfl
  | .ref o off, cs, ⟨b, _, h⟩ => by rw [h]; rfl
  | .refi o m t i so, cs, ⟨b, _, _, h⟩ => by rw [h]; rfl
  | .rop t x, cs, ⟨b, off, c, us, _, _, _, _, _, h⟩ => by rw [h]; rfl
  | .nilp, cs, h => by rw [show cs = [.pointer none] from h]; rfl
  | .nilf, cs, h => by rw [show cs = [.nilFunc] from h]; rfl
  | .nili, cs, h => by rw [show cs = [.nilIface] from h]; rfl
  | .fn f c, cs, ⟨us, h, _⟩ => by rw [h]; rfl
  | .fnp1 a b pre F, cs, ⟨v, h, _⟩ => by rw [h]; rfl
  | .fnp2 a b c pre F, cs, ⟨v, h, _⟩ => by rw [h]; rfl
  | .cons a b, cs, ⟨u, v, h1, h2, h3⟩ => by rw [h1, List.length_append, AVs.length a u h2, AVs.length b v h3]; rfl
  | .st l, cs, h => AVs.length l cs h.2
  | .iface T v, cs, ⟨x, h, _⟩ => by rw [h]; rfl
  | .unit, cs, h => by rw [show cs = [] from h]; rfl

/-- cells bear a list of leaves -/
def AVl (P : Program) (B : Base) (pl : Nat → Place) (Z : Nat → Prop) (w : World) : List AV → List Value → Prop
  | [], cs => cs = []
  | a :: l, cs => ∃ u v, cs = u ++ v ∧ AVs P B pl Z w a u ∧ AVl P B pl Z w l v

section
variable {pl : Nat → Place} {Z : Nat → Prop} {w : World}
theorem AVl.append : ∀ (l m : List AV) (cs : List Value), AVl P B pl Z w (l ++ m) cs ↔ ∃ u v, cs = u ++ v ∧ AVl P B pl Z w l u ∧ AVl P B pl Z w m v
  | [], m, cs => ⟨fun h => ⟨[], cs, rfl, rfl, h⟩, fun ⟨u, v, h1, h2, h3⟩ => by rw [h1, show u = [] from h2]; exact h3⟩
  | a :: l, m, cs => by
    constructor
    · rintro ⟨u, v, h1, h2, h3⟩
      obtain ⟨u', v', h4, h5, h6⟩ := (AVl.append l m v).1 h3
      exact ⟨u ++ u', v', by rw [h1, h4, List.append_assoc], ⟨u, u', rfl, h2, h5⟩, h6⟩
    · rintro ⟨u, v, h1, ⟨u1, u2, h2, h3, h4⟩, h5⟩
      exact ⟨u1, u2 ++ v, by rw [h1, h2, List.append_assoc], h3, (AVl.append l m _).2 ⟨u2, v, rfl, h4, h5⟩⟩
theorem AVl.one {a : AV} {cs : List Value} : AVl P B pl Z w [a] cs ↔ AVs P B pl Z w a cs := by
  constructor
  · rintro ⟨u, v, h1, h2, h3⟩; rw [h1, show v = [] from h3, List.append_nil]; exact h2
  · intro h; exact ⟨cs, [], by simp, h, rfl⟩
theorem AVl.length : ∀ (l : List AV) (cs : List Value), AVl P B pl Z w l cs → cs.length = (l.map AV.size).sum
  | [], cs, h => by rw [show cs = [] from h]; rfl
  | a :: l, cs, ⟨u, v, h1, h2, h3⟩ => by rw [h1, List.length_append, AVs.length a u h2, AVl.length l v h3]; rfl
theorem AVs.ofL : ∀ (l : List AV) (cs : List Value), AVs P B pl Z w (.ofL l) cs ↔ AVl P B pl Z w l cs
  | [], cs => Iff.rfl
  | a :: l, cs => by
    constructor
    · rintro ⟨u, v, h1, h2, h3⟩; exact ⟨u, v, h1, h2, (AVs.ofL l v).1 h3⟩
    · rintro ⟨u, v, h1, h2, h3⟩; exact ⟨u, v, h1, h2, (AVs.ofL l v).2 h3⟩

theorem AV.ofL_toL : ∀ (v : AV), v.isList = true → AV.ofL v.toL = v
  | .unit, _ => rfl
  | .cons a b, h => by simp only [AV.toL, AV.ofL]; rw [AV.ofL_toL b h]
theorem AV.isList_ofL : ∀ (l : List AV), (AV.ofL l).isList = true
  | [] => rfl
  | _ :: l => AV.isList_ofL l
theorem AV.toL_ofL : ∀ (l : List AV), (AV.ofL l).toL = l
  | [] => rfl
  | a :: l => by simp only [AV.ofL, AV.toL, AV.toL_ofL l]
end
end A
end Go.Proofs.Ythgnjimpakpkjaa
namespace Go.Proofs.Ythgnjimpakpkjaa
namespace A
section
variable {P : Program} {B : Base} {pl : Nat → Place} {Z : Nat → Prop} {w : World}

def refsL (l : List AV) : List Nat := l.flatMap AV.refs
def vecsL (l : List AV) : List Nat := l.flatMap AV.vecs

theorem AV.refs_toL : ∀ (v : AV) (o : Nat), o ∈ refsL v.toL → o ∈ v.refs
  | .cons a b, o, h => by
    simp only [refsL, AV.toL, List.flatMap_cons, List.mem_append] at h
    rcases h with h | h
    · simp [AV.refs, h]
    · have := AV.refs_toL b o h; simp [AV.refs, this]
  | .undef, _, h | .unit, _, h | .val _ _, _, h | .valc _ _, _, h | .nils, _, h | .vec _, _, h | .view _ _ _ _ _, _, h | .ref _ _, _, h | .refi _ _ _ _ _, _, h
  | .rop _ _, _, h | .nilp, _, h | .nilf, _, h | .nili, _, h | .fn _ _, _, h | .fnp1 _ _ _ _, _, h | .fnp2 _ _ _ _ _, _, h | .st _, _, h | .tup _, _, h
  | .iface _ _, _, h | .whn _ _ _, _, h | .own _ _, _, h => by simp [refsL, AV.toL] at h
theorem AV.vecs_toL : ∀ (v : AV) (o : Nat), o ∈ vecsL v.toL → o ∈ v.vecs
  | .cons a b, o, h => by
    simp only [vecsL, AV.toL, List.flatMap_cons, List.mem_append] at h
    rcases h with h | h
    · simp [AV.vecs, h]
    · have := AV.vecs_toL b o h; simp [AV.vecs, this]
  | .undef, _, h | .unit, _, h | .val _ _, _, h | .valc _ _, _, h | .nils, _, h | .vec _, _, h | .view _ _ _ _ _, _, h | .ref _ _, _, h | .refi _ _ _ _ _, _, h
  | .rop _ _, _, h | .nilp, _, h | .nilf, _, h | .nili, _, h | .fn _ _, _, h | .fnp1 _ _ _ _, _, h | .fnp2 _ _ _ _ _, _, h | .st _, _, h | .tup _, _, h
  | .iface _ _, _, h | .whn _ _ _, _, h | .own _ _, _, h => by simp [vecsL, AV.toL] at h

/-- a value taken apart -/
theorem explode1_sound {a : AV} {cs : List Value} (hs : splits a = true) (h : AVs P B pl Z w a cs) : AVl P B pl Z w (explode1 a) cs := by
  cases a with
  | val t x =>
    cases t with
    | pair a b =>
      obtain ⟨u, v, h1, h2, h3⟩ := Reps.of_pair (show Reps w Z (.pair a b) x cs from h)
      exact ⟨u, v, h1, h2, v, [], by simp, h3, rfl⟩
    | rc r => exact AVl.one.2 (Reps.rc_iff.1 h)
    | unit => exact Reps.unit_iff.1 h
    | _ => simp [splits] at hs
  | st l => have := h.2; rw [← AV.ofL_toL l h.1] at this; exact (AVs.ofL _ _).1 this
  | unit => exact h
  | _ => simp [splits] at hs
theorem explode1_refs {a : AV} {o : Nat} (h : o ∈ refsL (explode1 a)) : o ∈ a.refs := by
  cases a with
  | val t x => cases t <;> simp [explode1, refsL, AV.refs] at h
  | st l => exact AV.refs_toL l o h
  | _ => simp [explode1, refsL] at h
theorem explode1_vecs {a : AV} {o : Nat} (h : o ∈ vecsL (explode1 a)) : o ∈ a.vecs := by
  cases a with
  | val t x => cases t <;> simp [explode1, vecsL, AV.vecs] at h
  | st l => exact AV.vecs_toL l o h
  | _ => simp [explode1, vecsL] at h

theorem refsL_cons (a : AV) (l : List AV) : refsL (a :: l) = a.refs ++ refsL l := by simp [refsL]
theorem refsL_append (a l : List AV) : refsL (a ++ l) = refsL a ++ refsL l := by simp [refsL]
theorem vecsL_cons (a : AV) (l : List AV) : vecsL (a :: l) = a.vecs ++ vecsL l := by simp [vecsL]
theorem vecsL_append (a l : List AV) : vecsL (a ++ l) = vecsL a ++ vecsL l := by simp [vecsL]

theorem takeL_sound : ∀ (f n : Nat) (l : List AV) (x y : List AV) (cs : List Value), takeL f n l = some (x, y) → AVl P B pl Z w l cs →
    n ≤ cs.length ∧ AVl P B pl Z w x (cs.take n) ∧ AVl P B pl Z w y (cs.drop n) ∧ (∀ o, o ∈ refsL x ∨ o ∈ refsL y → o ∈ refsL l) := by
  intro f
  induction f with
  | zero =>
    intro n l x y cs h hl
    cases n with
    | zero => simp [takeL] at h; obtain ⟨rfl, rfl⟩ := h; exact ⟨by omega, by simp [AVl], by simpa using hl, fun o ho => by simpa [refsL] using ho⟩
    | succ n => simp [takeL] at h
  | succ f ih =>
    intro n l x y cs h hl
    cases n with
    | zero => simp [takeL] at h; obtain ⟨rfl, rfl⟩ := h; exact ⟨by omega, by simp [AVl], by simpa using hl, fun o ho => by simpa [refsL] using ho⟩
    | succ n =>
      cases l with
      | nil => simp [takeL] at h
      | cons a r =>
        simp only [takeL] at h
        split at h
        · rename_i hc
          simp only [Bool.and_eq_true, decide_eq_true_eq] at hc
          rw [Option.map_eq_some_iff] at h
          obtain ⟨⟨x', y'⟩, h1, h2⟩ := h
          simp only [Prod.mk.injEq] at h2
          obtain ⟨rfl, rfl⟩ := h2
          obtain ⟨u, v, hu, ha, hr⟩ := hl
          have hlen := AVs.length a u ha
          obtain ⟨g1, g2, g3, g4⟩ := ih _ _ _ _ _ h1 hr
          subst hu
          refine ⟨by rw [List.length_append]; omega, ?_, ?_, ?_⟩
          · refine ⟨u, v.take (n + 1 - a.size), ?_, ha, g2⟩
            rw [List.take_append, List.take_of_length_le (by omega), hlen]
          · rw [List.drop_append, List.drop_of_length_le (by omega), hlen, List.nil_append]; exact g3
          · intro o ho
            rw [refsL_cons] at ho ⊢
            rcases ho with ho | ho
            · rcases List.mem_append.1 ho with ho | ho
              · exact List.mem_append_left _ ho
              · exact List.mem_append_right _ (g4 o (.inl ho))
            · exact List.mem_append_right _ (g4 o (.inr ho))
        · split at h
          · rename_i hs
            obtain ⟨u, v, hu, ha, hr⟩ := hl
            obtain ⟨g1, g2, g3, g4⟩ := ih _ _ _ _ cs h ((AVl.append _ _ _).2 ⟨u, v, hu, explode1_sound hs ha, hr⟩)
            refine ⟨g1, g2, g3, fun o ho => ?_⟩
            have := g4 o ho
            rw [refsL_append] at this
            rw [refsL_cons]
            rcases List.mem_append.1 this with h | h
            · exact List.mem_append_left _ (explode1_refs h)
            · exact List.mem_append_right _ h
          · simp at h

theorem navL_sound : ∀ (f : Nat) (l : List AV) (off sz : Nat) (agg : Bool) (v : AV) (cs : List Value), navL f l off sz agg = some v → AVl P B pl Z w l cs →
    off + sz ≤ cs.length ∧ AVs P B pl Z w v ((cs.drop off).take sz) ∧ v.isSt = agg ∧ (∀ o, o ∈ v.refs → o ∈ refsL l) := by
  intro f
  induction f with
  | zero => intro l off sz agg v cs h; simp [navL] at h
  | succ f ih =>
    intro l off sz agg v cs h hl
    cases l with
    | nil => simp [navL] at h
    | cons a r =>
      have hsub : ∀ (hs : splits a = true), AVl P B pl Z w (explode1 a ++ r) cs := fun hs => by
        obtain ⟨u, v', hu, ha, hr⟩ := hl
        exact (AVl.append _ _ _).2 ⟨u, v', hu, explode1_sound hs ha, hr⟩
      have hrefs : ∀ o, o ∈ refsL (explode1 a ++ r) → o ∈ refsL (a :: r) := fun o ho => by
        rw [refsL_append] at ho
        rw [refsL_cons]
        rcases List.mem_append.1 ho with h | h
        · exact List.mem_append_left _ (explode1_refs h)
        · exact List.mem_append_right _ h
      obtain ⟨u, v', hu, ha, hr⟩ := hl
      have hlen := AVs.length a u ha
      simp only [navL] at h
      split at h
      · rename_i h0
        subst h0
        split at h
        · rename_i hc
          simp only [Bool.and_eq_true, decide_eq_true_eq, beq_iff_eq] at hc
          simp only [Option.some.injEq] at h
          subst h
          refine ⟨by rw [hu, List.length_append]; omega, ?_, hc.2, fun o ho => by rw [refsL_cons]; exact List.mem_append_left _ ho⟩
          rw [List.drop_zero, hu, List.take_append, List.take_of_length_le (by omega), show sz - u.length = 0 by omega]
          simpa using ha
        · split at h
          · rename_i hc
            simp only [Bool.and_eq_true, decide_eq_true_eq] at hc
            rw [Option.map_eq_some_iff] at h
            obtain ⟨⟨x, y⟩, h1, h2⟩ := h
            simp only at h2
            subst h2
            obtain ⟨g1, g2, g3, g4⟩ := takeL_sound _ _ _ _ _ cs h1 ⟨u, v', hu, ha, hr⟩
            refine ⟨by omega, ⟨AV.isList_ofL x, (AVs.ofL x _).2 (by simpa using g2)⟩, hc.1.symm, fun o ho => ?_⟩
            have hofL : ∀ (l : List AV), (AV.ofL l).refs = refsL l := by
              intro l
              induction l with
              | nil => rfl
              | cons a l ih => simp [AV.ofL, AV.refs, refsL_cons, ih]
            have : o ∈ refsL x := by rw [← hofL]; exact ho
            exact g4 o (.inl this)
          · split at h
            · rename_i hs
              obtain ⟨g1, g2, g3, g4⟩ := ih _ _ _ _ _ _ h (hsub hs)
              exact ⟨g1, g2, g3, fun o ho => hrefs o (g4 o ho)⟩
            · simp at h
      · split at h
        · rename_i h0 hc
          obtain ⟨g1, g2, g3, g4⟩ := ih _ _ _ _ _ _ h hr
          refine ⟨by rw [hu, List.length_append]; omega, ?_, g3, fun o ho => by rw [refsL_cons]; exact List.mem_append_right _ (g4 o ho)⟩
          rw [hu, List.drop_append, List.drop_of_length_le (by omega), List.nil_append, hlen]
          exact g2
        · split at h
          · rename_i hs
            obtain ⟨g1, g2, g3, g4⟩ := ih _ _ _ _ _ _ h (hsub hs)
            exact ⟨g1, g2, g3, fun o ho => hrefs o (g4 o ho)⟩
          · simp at h

theorem refs_ofL (l : List AV) : (AV.ofL l).refs = refsL l := by
  induction l with
  | nil => rfl
  | cons a l ih => simp [AV.ofL, AV.refs, refsL_cons, ih]
theorem vecs_ofL (l : List AV) : (AV.ofL l).vecs = vecsL l := by
  induction l with
  | nil => rfl
  | cons a l ih => simp [AV.ofL, AV.vecs, vecsL_cons, ih]

theorem setL_sound : ∀ (f : Nat) (l : List AV) (off sz : Nat) (v : AV) (l' : List AV) (cs vs : List Value), setL f l off sz v = some l' → AVl P B pl Z w l cs →
    AVs P B pl Z w v vs → vs.length = sz → off + sz ≤ cs.length ∧ AVl P B pl Z w l' (cs.take off ++ vs ++ cs.drop (off + sz)) ∧ (∀ o, o ∈ refsL l' → o ∈ v.refs ∨ o ∈ refsL l) := by
  intro f
  induction f with
  | zero => intro l off sz v l' cs vs h; simp [setL] at h
  | succ f ih =>
    intro l off sz v l' cs vs h hl hv hvs
    cases l with
    | nil => simp [setL] at h
    | cons a r =>
      have hsub : ∀ (hs : splits a = true), AVl P B pl Z w (explode1 a ++ r) cs := fun hs => by
        obtain ⟨u, v', hu, ha, hr⟩ := hl
        exact (AVl.append _ _ _).2 ⟨u, v', hu, explode1_sound hs ha, hr⟩
      have hrefs : ∀ o, o ∈ refsL (explode1 a ++ r) → o ∈ refsL (a :: r) := fun o ho => by
        rw [refsL_append] at ho
        rw [refsL_cons]
        rcases List.mem_append.1 ho with h | h
        · exact List.mem_append_left _ (explode1_refs h)
        · exact List.mem_append_right _ h
      simp only [setL] at h
      split at h
      · rename_i h0
        subst h0
        rw [Option.map_eq_some_iff] at h
        obtain ⟨⟨x, y⟩, h1, h2⟩ := h
        simp only at h2
        subst h2
        obtain ⟨g1, g2, g3, g4⟩ := takeL_sound _ _ _ _ _ cs h1 hl
        refine ⟨by omega, ?_, fun o ho => ?_⟩
        · simp only [List.take_zero, List.nil_append, Nat.zero_add]
          exact ⟨vs, cs.drop sz, rfl, hv, g3⟩
        · rw [refsL_cons] at ho
          rcases List.mem_append.1 ho with h | h
          · exact .inl h
          · exact .inr (g4 o (.inr h))
      · split at h
        · rename_i h0 hc
          rw [Option.map_eq_some_iff] at h
          obtain ⟨l2, h1, h2⟩ := h
          subst h2
          obtain ⟨u, v', hu, ha, hr⟩ := hl
          have hlen := AVs.length a u ha
          obtain ⟨g1, g2, g3⟩ := ih _ _ _ _ _ _ _ h1 hr hv hvs
          refine ⟨by rw [hu, List.length_append]; omega, ⟨u, v'.take (off - a.size) ++ vs ++ v'.drop (off - a.size + sz), ?_, ha, g2⟩, fun o ho => ?_⟩
          · subst hu
            rw [List.take_append, List.drop_append, List.take_of_length_le (by omega), List.drop_of_length_le (by omega), hlen, List.nil_append]
            rw [show off + sz - a.size = off - a.size + sz by omega]
            simp [List.append_assoc]
          · rw [refsL_cons] at ho ⊢
            rcases List.mem_append.1 ho with h | h
            · exact .inr (List.mem_append_left _ h)
            · exact (g3 o h).imp id (fun h => List.mem_append_right _ h)
        · split at h
          · rename_i hs
            obtain ⟨g1, g2, g3⟩ := ih _ _ _ _ _ _ _ h (hsub hs) hv hvs
            exact ⟨g1, g2, fun o ho => (g3 o ho).imp id (hrefs o)⟩
          · simp at h

theorem nav_sound {c : AV} {off sz : Nat} {agg : Bool} {v : AV} {cs : List Value} (h : nav c off sz agg = some v) (hc : AVs P B pl Z w c cs) :
    off + sz ≤ cs.length ∧ AVs P B pl Z w v ((cs.drop off).take sz) ∧ v.isSt = agg ∧ (∀ o, o ∈ v.refs → o ∈ c.refs) := by
  obtain ⟨g1, g2, g3, g4⟩ := navL_sound _ _ _ _ _ _ cs h (AVl.one.2 hc)
  exact ⟨g1, g2, g3, fun o ho => by simpa [refsL] using g4 o ho⟩

theorem relv_sound {c : AV} {l : List AV} {cs : List Value} (h : AVl P B pl Z w l cs) : AVs P B pl Z w (relv c l) cs := by
  unfold relv
  split
  · rename_i v
    split
    · exact AVl.one.1 h
    · exact ⟨AV.isList_ofL _, (AVs.ofL _ _).2 h⟩
  · exact ⟨AV.isList_ofL _, (AVs.ofL _ _).2 h⟩
theorem relv_refs {c : AV} {l : List AV} {o : Nat} (h : o ∈ (relv c l).refs) : o ∈ refsL l := by
  unfold relv at h
  split at h
  · split at h
    · simpa [refsL] using h
    · have : (AV.st (AV.ofL [‹AV›])).refs = refsL [‹AV›] := refs_ofL _
      rw [this] at h; exact h
  · have : ∀ l : List AV, (AV.st (AV.ofL l)).refs = refsL l := fun l => refs_ofL l
    rw [this] at h; exact h

theorem setAt_sound {c c' : AV} {off sz : Nat} {v : AV} {cs vs : List Value} (h : setAt c off sz v = some c') (hc : AVs P B pl Z w c cs)
    (hv : AVs P B pl Z w v vs) (hl : vs.length = sz) :
    off + sz ≤ cs.length ∧ AVs P B pl Z w c' (cs.take off ++ vs ++ cs.drop (off + sz)) ∧ (∀ o, o ∈ c'.refs → o ∈ v.refs ∨ o ∈ c.refs) := by
  unfold setAt at h
  rw [Option.map_eq_some_iff] at h
  obtain ⟨l, h1, h2⟩ := h
  subst h2
  obtain ⟨g1, g2, g3⟩ := setL_sound _ _ _ _ _ _ cs vs h1 (AVl.one.2 hc) hv hl
  exact ⟨g1, relv_sound g2, fun o ho => (g3 o (relv_refs ho)).imp id (fun h => by simpa [refsL] using h)⟩

theorem castT_eq {a b : Ty} {x : El a} {y : El b} (h : castT b x = some y) : ∃ e : a = b, y = e ▸ x := by
  unfold castT at h
  split at h
  · rename_i e; exact ⟨e, (Option.some.inj h).symm⟩
  · cases h
theorem castL_eq {a b : Ty} {x : List (El a)} {y : List (El b)} (h : castL b x = some y) : ∃ e : a = b, y = e ▸ x := by
  unfold castL at h
  split at h
  · rename_i e; exact ⟨e, (Option.some.inj h).symm⟩
  · cases h

/-- more may be immutable -/
theorem Reps.zmono {Z' : Nat → Prop} (h : ∀ b, Z b → Z' b) {t : Ty} {x : El t} {vs : List Value} : Reps w Z t x vs → Reps w Z' t x vs :=
  Reps.mono fun b hb => ⟨h b hb, rfl⟩

/-- an owned row, read as a slice of immutable memory -/
theorem OB.reps {H : Heap} {Z' : Nat → Prop} {o : Nat} {a : Option Addr} {n cap : Nat} {t : Ty} {l : List (El t)} (hg : ∀ o c, H o = .live c → OB P B pl Z w (pl o) c) (ho : H o = .live (.val (.sl t) l))
    (hp : pl o = .slc a n cap) (hz : ∀ b, Z b → Z' b) (hb : ∀ b, (pl o).block = some b → Z' b) : Reps w Z' (.sl t) l [.slice a n cap] := by
  have h := hg o _ ho
  rw [hp] at h
  obtain ⟨h1, h2, h3, h4⟩ := h
  refine Reps.sl_iff.2 ⟨a, cap, by rw [h1], by omega, by omega, ?_⟩
  rcases h4 with h4 | ⟨b, arr, T, h5, h6, h7, h8, h9⟩
  · exact .inl (by omega)
  · by_cases hc : cap = 0
    · exact .inl (by omega)
    · refine .inr ⟨b, 0, arr, h5, hb b (by rw [hp, h5]; simp [Place.block, hc]), by unfold blk; rw [h7], ?_⟩
      exact h9.mono fun b hb => ⟨hz b hb, rfl⟩

theorem Elts.drop {t : Ty} {l : List (El t)} {c : Array Value} {off k : Nat} (h : Elts w Z t l c off) : Elts w Z t (l.drop k) c (off + k * csize t) := by
  intro i x hx
  rw [List.getElem?_drop] at hx
  obtain ⟨us, h1, h2, h3⟩ := h _ _ hx
  refine ⟨us, h1, fun j hj => ?_, h3⟩
  rw [← h2 j hj, Nat.add_mul]
  congr 1
  omega
theorem Elts.take {t : Ty} {l : List (El t)} {c : Array Value} {off k : Nat} (h : Elts w Z t l c off) : Elts w Z t (l.take k) c off := by
  intro i x hx
  by_cases hk : i < k
  · rw [List.getElem?_take_of_lt hk] at hx; exact h i x hx
  · rw [List.getElem?_take_eq_none (by omega)] at hx; cases hx

/-- an array variable's cells bear its elements -/
theorem Reps.arn_elts {t : Ty} {m : Nat} {l : List (El t)} {cs pre post : List Value} (h : Reps w Z (.arn m t) l cs) :
    Elts w Z t l (pre ++ cs ++ post).toArray pre.length := by
  obtain ⟨h1, h2, h3⟩ := Reps.arn_iff.1 h
  intro i x hx
  have hi : i < l.length := by
    by_cases h : i < l.length
    · exact h
    · simp [h] at hx
  have hle : (i + 1) * csize t ≤ cs.length := by rw [h2]; exact Nat.mul_le_mul_right _ (by omega)
  rw [Nat.add_mul, Nat.one_mul] at hle
  refine ⟨(cs.drop (i * csize t)).take (csize t), ?_, fun j hj => ?_, h3 i x hx⟩
  · rw [List.length_take, List.length_drop]; omega
  · rw [List.getElem?_take_of_lt hj, List.getElem?_drop]
    simp only [List.getElem?_toArray]
    rw [List.append_assoc, List.getElem?_append_right (by omega), List.getElem?_append_left (by omega)]
    congr 1
    omega
end
end A
end Go.Proofs.Ythgnjimpakpkjaa
namespace Go.Proofs.Ythgnjimpakpkjaa
namespace A
section
variable {P : Program} {B : Base} {pl : Nat → Place} {Z : Nat → Prop} {w : World}

/-- the immutable blocks, and those of some vectors -/
def Zup (pl : Nat → Place) (Z : Nat → Prop) (H : Heap) (l : List Nat) : Nat → Prop := fun b => Z b ∨ ∃ o, o ∈ l ∧ (∃ c, H o = .live c) ∧ (pl o).block = some b
theorem Zup.of {H : Heap} (l : List Nat) {b : Nat} (h : Z b) : Zup pl Z H l b := .inl h
theorem Zup.sub {H : Heap} {l m : List Nat} (h : ∀ o, o ∈ l → o ∈ m) {b : Nat} (hb : Zup pl Z H l b) : Zup pl Z H m b := hb.imp id fun ⟨o, ho, hp⟩ => ⟨o, h o ho, hp⟩
theorem Zup.nil {H : Heap} : Zup pl Z H [] = Z := by funext b; simp [Zup]

theorem listOf_sound {H : Heap} {t : Ty} {v : AV} {l : List (El t)} {x : Value} (hg : ∀ o c, H o = .live c → OB P B pl Z w (pl o) c) (h : listOf H t v = some l) (hv : AVs P B pl Z w v [x]) :
    Reps w (Zup pl Z H v.vecs) (.sl t) l [x] := by
  unfold listOf at h
  split at h
  · rename_i a l0
    obtain ⟨rfl, rfl⟩ := castL_eq h
    exact Reps.zmono (fun b hb => .inl hb) hv
  · rename_i a l0
    obtain ⟨rfl, rfl⟩ := castL_eq h
    obtain ⟨a', h1, h2⟩ := hv
    exact Reps.zmono (fun b hb => .inl hb) h2
  · simp only [Option.some.injEq] at h
    subst h
    obtain ⟨a, ha⟩ := hv
    exact Reps.sl_iff.2 ⟨a, 0, ha, Nat.le_refl _, by simp [LIM], .inl rfl⟩
  · rename_i o
    split at h
    · rename_i a l0 ho
      obtain ⟨rfl, rfl⟩ := castL_eq h
      obtain ⟨a, n, cap, h1, h2⟩ := hv
      rw [h2]
      exact OB.reps hg ho h1 (fun b hb => .inl hb) (fun b hb => .inr ⟨o, by simp [AV.vecs], ⟨_, ho⟩, hb⟩)
    · cases h
  · rename_i o m a lo n
    obtain ⟨ad, cap, h1, h2, h0, h3⟩ := hv
    rw [h1]
    split at h
    · rename_i b l0 ho
      split at h
      · rename_i hab
        simp only [Bool.and_eq_true, decide_eq_true_eq] at hab
        obtain ⟨rfl, rfl⟩ := hab
        rw [Option.map_eq_some_iff] at h
        obtain ⟨l1, h4, h5⟩ := h
        obtain ⟨rfl, rfl⟩ := castL_eq h4
        subst h5
        have hob := hg o _ ho
        cases hp : pl o with
        | box b => rw [hp] at h0; exact absurd h0.1 (Nat.lt_irrefl _)
        | slc a' n' cap' =>
          rw [hp] at h0 h3 hob
          obtain ⟨_, h0⟩ := h0
          obtain ⟨g1, g2, g3, g4⟩ := hob
          have hlen : (List.take n (List.drop lo (show List (El a) from l1))).length = n := by
            rw [List.length_take, List.length_drop]
            have : (show List (El a) from l1).length = n' := g1
            omega
          refine Reps.sl_iff.2 ⟨ad, cap, by rw [show (List.take n (List.drop lo (show List (El a) from l1))).length = n from hlen], ?_, ?_, ?_⟩
          · exact Nat.le_trans (Nat.le_of_eq hlen) h2
          · exact Nat.lt_of_le_of_lt (Nat.le_of_eq hlen) (by omega)
          · rcases h3 with h3 | ⟨b, hb, ha⟩
            · exact .inl (hlen.trans h3)
            · rcases g4 with g4 | ⟨b', arr, T, e1, e2, e3, e4, e5⟩
              · exfalso
                cases a' <;> simp only [Place.block] at hb
                · cases hb
                · rw [if_pos g4] at hb; cases hb
              · have hbb : b' = b := by
                  rw [e1] at hb
                  simp only [Place.block] at hb
                  split at hb
                  · cases hb
                  · exact Option.some.inj hb
                subst hbb
                refine .inr ⟨b', lo * csize a, arr, ha, .inr ⟨o, by simp [AV.vecs], ⟨_, ho⟩, by rw [hp]; exact hb⟩, by unfold blk; rw [e3], ?_⟩
                have := (e5.drop (k := lo)).take (k := n)
                rw [Nat.zero_add] at this
                exact this.mono fun b hb => ⟨.inl hb, rfl⟩
      · cases h
    · rename_i k b l0 ho
      split at h
      · rename_i hab
        simp only [Bool.and_eq_true, decide_eq_true_eq] at hab
        obtain ⟨⟨⟨rfl, rfl⟩, hm⟩, hm2⟩ := hab
        rw [Option.map_eq_some_iff] at h
        obtain ⟨l1, h4, h5⟩ := h
        obtain ⟨rfl, rfl⟩ := castL_eq h4
        subst h5
        have hob := hg o _ ho
        cases hp : pl o with
        | slc a' n' cap' => rw [hp] at h0; exact absurd h0.1 (by omega)
        | box b =>
          rw [hp] at h0 h3 hob
          obtain ⟨_, h0⟩ := h0
          obtain ⟨g1, cs, T, g2, g3⟩ := hob
          have g3 : Reps w Z (.arn m a) l1 cs := g3
          have harn := Reps.arn_iff.1 g3
          have hlen : (List.take n (List.drop lo (show List (El a) from l1))).length = n := by
            rw [List.length_take, List.length_drop]
            have : (show List (El a) from l1).length = m := harn.1
            omega
          have hlim : n < LIM := by have : LIM = 4294967296 := rfl; omega
          by_cases hn : n = 0
          · refine Reps.sl_iff.2 ⟨ad, cap, by rw [show (List.take n (List.drop lo (show List (El a) from l1))).length = n from hlen], ?_, ?_, .inl (hlen.trans hn)⟩
            · exact Nat.le_trans (Nat.le_of_eq hlen) h2
            · exact Nat.lt_of_le_of_lt (Nat.le_of_eq hlen) hlim
          · rcases h3 with h3 | ⟨b', hb, ha⟩
            · exact absurd h3 hn
            · simp only [Place.block, Option.some.injEq] at hb
              subst hb
              refine Reps.sl_iff.2 ⟨ad, cap, by rw [show (List.take n (List.drop lo (show List (El a) from l1))).length = n from hlen], Nat.le_trans (Nat.le_of_eq hlen) h2,
                Nat.lt_of_le_of_lt (Nat.le_of_eq hlen) hlim, .inr ⟨b, lo * csize a, cs.toArray, ha, .inr ⟨o, by simp [AV.vecs], ⟨_, ho⟩, by rw [hp]; rfl⟩, by unfold blk; rw [g2], ?_⟩⟩
              have h6 := Reps.arn_elts (pre := []) (post := []) g3
              have h7 := (h6.drop (k := lo)).take (k := n)
              simp only [List.nil_append, List.append_nil, List.length_nil, Nat.zero_add] at h7
              exact h7.mono fun b hb => ⟨.inl hb, rfl⟩
      · cases h
    · cases h
  · cases h

theorem listOf_size {H : Heap} {t : Ty} {v : AV} {l : List (El t)} (h : listOf H t v = some l) : v.size = 1 ∧ v.isSt = false := by
  unfold listOf at h
  split at h <;> first | exact ⟨rfl, rfl⟩ | cases h

theorem opt_map {α β : Type} {f : α → β} {o : Option α} {b : β} (h : o.map f = some b) : ∃ a, o = some a ∧ f a = b := Option.map_eq_some_iff.1 h

theorem one_cell {v : AV} {cs : List Value} (h : AVs P B pl Z w v cs) (hs : v.size = 1) : ∃ x, cs = [x] := by
  have := AVs.length v cs h
  rw [hs] at this
  match cs, this with
  | [x], _ => exact ⟨x, rfl⟩

theorem typed_sound {H : Heap} (hg : ∀ o c, H o = .live c → OB P B pl Z w (pl o) c) : ∀ (f : Nat) (t : Ty) (l : List AV) (x : El t) (r : List AV) (cs : List Value), typed H f t l = some (x, r) →
    AVl P B pl Z w l cs → ∃ u v, cs = u ++ v ∧ Reps w (Zup pl Z H (vecsL l)) t x u ∧ AVl P B pl Z w r v ∧ (∀ o, o ∈ vecsL r → o ∈ vecsL l) := by
  intro f
  induction f with
  | zero => intro t l x r cs h; simp [typed] at h
  | succ f ih =>
    intro t l x r cs h hl
    -- the cases in which the first leaf is of the very type
    have hleaf : ∀ (a : AV) (r : List AV) (u v : List Value), cs = u ++ v → AVl P B pl Z w r v → Reps w Z t x u →
        ∃ u v, cs = u ++ v ∧ Reps w (Zup pl Z H (vecsL (a :: r))) t x u ∧ AVl P B pl Z w r v ∧ (∀ o, o ∈ vecsL r → o ∈ vecsL (a :: r)) :=
      fun a r u v h1 h2 h3 => ⟨u, v, h1, h3.zmono fun b hb => .inl hb, h2, fun o ho => by rw [vecsL_cons]; exact List.mem_append_right _ ho⟩
    have hzu : ∀ {l m : List AV} (_ : ∀ o, o ∈ vecsL l → o ∈ vecsL m) {t : Ty} {x : El t} {u : List Value}, Reps w (Zup pl Z H (vecsL l)) t x u → Reps w (Zup pl Z H (vecsL m)) t x u :=
      fun hs _ _ _ hr => hr.zmono fun b hb => hb.sub hs
    unfold typed at h
    split at h
    · cases h
      exact ⟨[], cs, rfl, Reps.unit_iff.2 rfl, hl, fun o ho => ho⟩
    · cases h
    · rename_i s r0 _
      obtain ⟨u, v, hu, hs, hr⟩ := hl
      have hs2 := hs.2
      rw [← AV.ofL_toL s hs.1] at hs2
      obtain ⟨u', v', g1, g2, g3, g4⟩ := ih _ _ _ _ cs h ((AVl.append _ _ _).2 ⟨u, v, hu, (AVs.ofL _ _).1 hs2, hr⟩)
      have hsub : ∀ o, o ∈ vecsL (s.toL ++ r0) → o ∈ vecsL (.st s :: r0) := fun o ho => by
        rw [vecsL_append] at ho
        rw [vecsL_cons]
        rcases List.mem_append.1 ho with h | h
        · exact List.mem_append_left _ (AV.vecs_toL s o h)
        · exact List.mem_append_right _ h
      exact ⟨u', v', g1, hzu hsub g2, g3, fun o ho => hsub o (g4 o ho)⟩
    · rename_i k k' y r0 _ _
      obtain ⟨u, v, hu, ha, hr⟩ := hl
      split at h
      · rename_i hk
        subst hk
        cases h
        exact hleaf _ _ u v hu hr ha
      · cases h
    · rename_i y r0 _ _
      obtain ⟨u, v, hu, ha, hr⟩ := hl
      cases h
      exact hleaf _ _ u v hu hr ha
    · rename_i y r0 _ _
      obtain ⟨u, v, hu, ha, hr⟩ := hl
      cases h
      exact hleaf _ _ u v hu hr ha
    · rename_i t a r0 _
      obtain ⟨u, v, hu, ha, hr⟩ := hl
      obtain ⟨l1, h1, h2⟩ := opt_map (α := List (El t)) (β := El (.sl t) × List AV) h
      cases h2
      obtain ⟨y, rfl⟩ := one_cell ha (listOf_size h1).1
      exact ⟨[y], v, hu, (listOf_sound hg h1 ha).zmono fun b hb => hb.sub fun o ho => by rw [vecsL_cons]; exact List.mem_append_left _ ho, hr,
        fun o ho => by rw [vecsL_cons]; exact List.mem_append_right _ ho⟩
    · rename_i c c' y r0 _ _
      obtain ⟨u, v, hu, ha, hr⟩ := hl
      split at h
      · rename_i z hz
        cases h
        obtain ⟨e, rfl⟩ := castT_eq hz
        cases e
        exact hleaf _ _ u v hu hr ha
      · cases h
    · rename_i c l0 _ _ _
      rw [Option.map_eq_some_iff] at h
      obtain ⟨⟨y, r'⟩, h1, h2⟩ := h
      cases h2
      obtain ⟨u, v, g1, g2, g3, g4⟩ := ih _ _ _ _ cs h1 hl
      exact ⟨u, v, g1, Reps.rc_iff.2 (by rw [RN.out_into]; exact g2), g3, g4⟩
    · rename_i a b a' b' y r0
      split at h
      · rename_i z hz
        obtain ⟨u, v, hu, ha, hr⟩ := hl
        cases h
        obtain ⟨e, rfl⟩ := castT_eq hz
        cases e
        exact hleaf _ _ u v hu hr ha
      · rw [Option.bind_eq_some_iff] at h
        obtain ⟨⟨x1, r1⟩, h1, h2⟩ := h
        simp only [Option.map_eq_some_iff] at h2
        obtain ⟨⟨x2, r2⟩, h2, h3⟩ := h2
        cases h3
        obtain ⟨u, v, hu, ha, hr⟩ := hl
        obtain ⟨u1, u2, e1, e2, e3⟩ := Reps.of_pair (show Reps w Z (.pair a' b') y u from ha)
        have hvs : ∀ (q : List AV), vecsL (AV.val a' y.1 :: AV.val b' y.2 :: q) = vecsL (AV.val (.pair a' b') y :: q) := fun q => by simp [vecsL, AV.vecs]
        obtain ⟨v1, v2, g1, g2, g3, g4⟩ := ih _ _ _ _ cs h1 ⟨u1, u2 ++ v, by rw [hu, e1, List.append_assoc], e2, u2, v, rfl, e3, hr⟩
        obtain ⟨w1, w2, k1, k2, k3, k4⟩ := ih _ _ _ _ v2 h2 g3
        rw [hvs] at g2 g4
        exact ⟨v1 ++ w1, w2, by rw [g1, k1, List.append_assoc], Reps.pair g2 (hzu g4 k2), k3, fun o ho => g4 o (k4 o ho)⟩
    · rename_i a b l0 _ _ _
      rw [Option.bind_eq_some_iff] at h
      obtain ⟨⟨x1, r1⟩, h1, h2⟩ := h
      simp only [Option.map_eq_some_iff] at h2
      obtain ⟨⟨x2, r2⟩, h2, h3⟩ := h2
      cases h3
      obtain ⟨v1, v2, g1, g2, g3, g4⟩ := ih _ _ _ _ cs h1 hl
      obtain ⟨w1, w2, k1, k2, k3, k4⟩ := ih _ _ _ _ v2 h2 g3
      exact ⟨v1 ++ w1, w2, by rw [g1, k1, List.append_assoc], Reps.pair g2 (hzu g4 k2), k3, fun o ho => g4 o (k4 o ho)⟩
    · rename_i n t a r0 _ _
      obtain ⟨u, v, hu, ha, hr⟩ := hl
      split at h
      · rename_i n' t' y
        split at h
        · rename_i z hz
          cases h
          obtain ⟨e, rfl⟩ := castT_eq hz
          cases e
          exact hleaf _ _ u v hu hr ha
        · cases h
      · cases h
    · cases h

theorem asTy_sound {H : Heap} (hg : ∀ o c, H o = .live c → OB P B pl Z w (pl o) c) {t : Ty} {v : AV} {x : El t} {cs : List Value} (h : asTy H t v = some x) (hv : AVs P B pl Z w v cs) :
    Reps w (Zup pl Z H v.vecs) t x cs ∧ A.isSt t = v.isSt := by
  unfold asTy at h
  split at h
  · rename_i hs
    split at h
    · rename_i y hy
      simp only [Option.some.injEq] at h
      subst h
      obtain ⟨u, v', g1, g2, g3, g4⟩ := typed_sound hg _ _ _ _ _ cs hy (AVl.one.2 hv)
      have : v' = [] := g3
      subst this
      rw [List.append_nil] at g1
      subst g1
      have e : vecsL [v] = v.vecs := by simp [vecsL]
      rw [e] at g2
      exact ⟨g2, by simpa using hs⟩
    · cases h
  · cases h

theorem asTy_1 {H : Heap} (hg : ∀ o c, H o = .live c → OB P B pl Z w (pl o) c) {t : Ty} {v : AV} {x : El t} {a : Value} (h : asTy H t v = some x) (hv : AV1 P B pl Z w v a) :
    R1v w (Zup pl Z H v.vecs) t x a := by
  unfold AV1 at hv
  unfold R1v
  split at hv
  · rename_i hs
    obtain ⟨us, h1, h2⟩ := hv
    obtain ⟨g1, g2⟩ := asTy_sound hg h h2
    rw [if_pos (by rw [g2]; exact hs)]
    exact ⟨us, h1, g1⟩
  · rename_i hs
    obtain ⟨g1, g2⟩ := asTy_sound hg h hv
    rw [if_neg (by rw [g2]; exact hs)]
    exact g1
end
end A
end Go.Proofs.Ythgnjimpakpkjaa
