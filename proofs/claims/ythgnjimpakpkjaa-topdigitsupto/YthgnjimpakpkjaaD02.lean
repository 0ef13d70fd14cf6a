/- The table of types holds of the program; loads and stores. The table of types holds of the program. How a world goes on bearing a heap. Operations without memory do what their abstract ones say. More operations: slices, lengths, addresses, loads. Stores and new objects. New objects, and values made of parts. Literals. Literals: the operations. Structs and arrays made of parts. Lengths, slices, places. Slice expressions. -/
import Derived.Test.YthgnjimpakpkjaaD01
import Derived.Laws.MakeOwn
import Derived.Laws.Tables
import Derived.Great.BuildSlice
import Derived.Test.YthgnjimpakpkjaaProg
import Derived.Laws.Strings
import Derived.Laws.Small
import Derived.Laws.Slices
import Derived.Lib.MinMax
namespace Go.Proofs.Ythgnjimpakpkjaa
namespace A

/-- the cells of a zero value -/
def zcells : Ty → List Value
  | .int k => [.int k 0]
  | .bool => [.bool false]
  | .str => [.string ⟨#[]⟩]
  | .sl _ => [.slice none 0 0]
  | .unit => []
  | .pair a b => zcells a ++ zcells b
  | .rc .arr => [.int .i64 0, .slice none 0 0, .slice none 0 0, .slice none 0 0]
  | .rc .node => [.int .i64 0, .int .i64 0, .int .i64 0, .string ⟨#[]⟩, .int .i64 0, .int .i64 0, .int .i64 0, .slice none 0 0, .slice none 0 0, .slice none 0 0, .slice none 0 0, .slice none 0 0, .int .i64 0, .int .i64 0, .int .i64 0]
  | .rc .stmt => [.int .i64 0, .int .i64 0, .string ⟨#[]⟩, .int .i64 0,
      .int .i64 0, .int .i64 0, .int .i64 0, .string ⟨#[]⟩, .int .i64 0, .int .i64 0, .int .i64 0, .slice none 0 0, .slice none 0 0, .slice none 0 0, .slice none 0 0, .slice none 0 0, .int .i64 0, .int .i64 0, .int .i64 0,
      .int .i64 0, .int .i64 0, .int .i64 0, .string ⟨#[]⟩, .int .i64 0, .int .i64 0, .int .i64 0, .slice none 0 0, .slice none 0 0, .slice none 0 0, .slice none 0 0, .slice none 0 0, .int .i64 0, .int .i64 0, .int .i64 0]
  | .arn n t => (List.replicate n (zcells t)).flatten

section
variable {w : World} {Z : Nat → Prop}
theorem inR_zero (k : IntKind) : inR k 0 := by cases k <;> decide
theorem Reps.int0 (k : IntKind) : Reps w Z (.int k) (0 : Int) [.int k 0] := Reps.int_iff.2 ⟨rfl, inR_zero k⟩
theorem Reps.str0 : Reps w Z .str ([] : List UInt8) [.string ⟨#[]⟩] := Reps.str_iff.2 ⟨rfl, by simp [LIM]⟩
theorem Reps.sl0 (t : Ty) : Reps w Z (.sl t) ([] : List (El t)) [.slice none 0 0] := Reps.sl_iff.2 ⟨none, 0, rfl, Nat.le_refl _, by simp [LIM], .inl rfl⟩
theorem Reps.pair' {a b : Ty} {x : El a} {y : El b} {u v : List Value} (h1 : Reps w Z a x u) (h2 : Reps w Z b y v) : Reps w Z (.pair a b) (x, y) (u ++ v) := Reps.pair h1 h2
theorem Reps.arr0 : Reps w Z (.rc .arr) (Arr.mk 0 [] [] []) (zcells (.rc .arr)) := by
  refine Reps.rc_iff.2 ?_
  exact Reps.pair' (Reps.int0 _) (Reps.pair' (Reps.sl0 _) (Reps.pair' (Reps.sl0 _) (Reps.sl0 _)))
theorem Reps.node0 : Reps w Z (.rc .node) (RN.dflt .node) (zcells (.rc .node)) := by
  refine Reps.rc_iff.2 ?_
  exact Reps.pair' (Reps.int0 _) (Reps.pair' (Reps.int0 _) (Reps.pair' (Reps.int0 _) (Reps.pair' Reps.str0 (Reps.pair' (Reps.int0 _) (Reps.pair' (Reps.int0 _) (Reps.pair' Reps.arr0 (Reps.pair' (Reps.sl0 _) (Reps.pair' (Reps.sl0 _)
    (Reps.pair' (Reps.int0 _) (Reps.pair' (Reps.int0 _) (Reps.int0 _)))))))))))
theorem Reps.stmt0 : Reps w Z (.rc .stmt) (RN.dflt .stmt) (zcells (.rc .stmt)) := by
  refine Reps.rc_iff.2 ?_
  exact Reps.pair' (Reps.int0 _) (Reps.pair' (Reps.int0 _) (Reps.pair' Reps.str0 (Reps.pair' (Reps.int0 _) (Reps.pair' Reps.node0 Reps.node0))))
theorem flatten_part {α : Type} (l : List α) : ∀ (n i : Nat), i < n → ((List.replicate n l).flatten.drop (i * l.length)).take l.length = l
  | 0, i, h => by omega
  | n + 1, 0, _ => by simp [List.replicate_succ]
  | n + 1, i + 1, h => by
    have ih := flatten_part l n i (by omega)
    rw [List.replicate_succ, List.flatten_cons, List.drop_append, List.drop_of_length_le (by rw [Nat.add_mul]; omega), List.nil_append]
    rw [show (i + 1) * l.length - l.length = i * l.length by rw [Nat.add_mul]; omega]
    exact ih
theorem length_zcells : ∀ (t : Ty), (zcells t).length = csize t
  | .int _ | .bool | .str | .sl _ | .unit => rfl
  | .pair a b => by simp only [zcells, csize, List.length_append, length_zcells a, length_zcells b]
  | .rc r => by cases r <;> rfl
  | .arn n t => by simp [zcells, csize, length_zcells t]
theorem Reps.zero : ∀ (t : Ty), Reps w Z t (dflt t) (zcells t)
  | .int k => Reps.int0 k
  | .bool => Reps.bool_iff.2 rfl
  | .str => Reps.str0
  | .sl t => Reps.sl0 t
  | .unit => Reps.unit_iff.2 rfl
  | .pair a b => Reps.pair (Reps.zero a) (Reps.zero b)
  | .rc .arr => Reps.arr0
  | .rc .node => Reps.node0
  | .rc .stmt => Reps.stmt0
  | .arn n t => by
    refine Reps.arn_iff.2 ⟨by simp [dflt], by simp [zcells, length_zcells], fun i x hx => ?_⟩
    have hx : (List.replicate n (dflt t))[i]? = some x := hx
    rw [List.getElem?_replicate] at hx
    split at hx
    · rename_i hi
      cases hx
      have := flatten_part (zcells t) n i hi
      rw [length_zcells] at this
      rw [show zcells (.arn n t) = (List.replicate n (zcells t)).flatten from rfl, this]
      exact Reps.zero t
    · cases hx
end

/-- the zero value's cells, by its leaves -/
def ZL.cells : ZL → List Value
  | .tz t => zcells t
  | .nils => [.slice none 0 0]
  | .nilp => [.pointer none]
  | .nilf => [.nilFunc]
  | .nili => [.nilIface]
def TI.zcell (i : TI) : List Value := i.zs.flatMap ZL.cells
def TI.zval (i : TI) : Value := if i.agg then .agg i.zcell.toArray else i.zcell.headD undef

def tkOf : Option TypeDesc → TK
  | some .bool => .bool
  | some (.int k) => .int k
  | some .string => .str
  | some (.slice e) => .slice e
  | some (.struct fs) => .struct (fs.toList.map fun f => (f.offset, f.type))
  | some (.array n e) => .array n e
  | some (.pointer e) => .ptr e
  | some (.func ps rs _) => .fn ps.toList rs.toList
  | some (.interface _) => .ifc
  | _ => .other

/-- one row of the table is in order -/
def TI.good (i : TI) : Bool :=
  (match i.ty with
    | some t => isSt t == i.agg && csize t == i.size
    | none => true) &&
  (i.agg || (match i.zs with | [z] => z.cells.length == 1 && (match z with | .tz t => !isSt t | _ => true) | _ => false)) &&
  (i.zcell.length == i.size) && (i.bytes ≤ 32768) && (match i.k with | .other => false | _ => true)

/-- the table holds of the program -/
structure TOK (P : Program) (tb : Tab) : Prop where
  info : ∀ t i, tb.lookup t = some i → ∃ f, P.info? t = some f ∧ f.size = i.size ∧ f.bytes = i.bytes ∧ f.zero = some i.zval
  und : ∀ t i, tb.lookup t = some i → tkOf (P.underlying t) = i.k
  zty : ∀ t i t', tb.lookup t = some i → i.ty = some t' → i.zcell = zcells t'
  good : ∀ t i, tb.lookup t = some i → i.good = true

theorem lookup_mem {β : Type} : ∀ (l : List (Nat × β)) (t : Nat) (i : β), l.lookup t = some i → (t, i) ∈ l
  | [], _, _, h => by simp at h
  | (k, v) :: l, t, i, h => by
    rw [List.lookup_cons] at h
    split at h
    · rename_i he
      simp only [beq_iff_eq] at he
      subst he
      cases h
      exact List.mem_cons_self
    · exact List.mem_cons_of_mem _ (lookup_mem l t i h)

theorem TOK.of {P : Program} {tb : Tab}
    (h1 : (tb.map fun (t, _) => (P.info? t).map fun f => (f.size, f.bytes, f.zero)) = tb.map fun (_, i) => some (i.size, i.bytes, some i.zval))
    (h2 : (tb.map fun (t, _) => tkOf (P.underlying t)) = tb.map fun (_, i) => i.k)
    (h3 : (tb.map fun (_, i) => i.ty.map fun _ => i.zcell) = tb.map fun (_, i) => i.ty.map zcells)
    (h4 : (tb.all fun (_, i) => i.good) = true) : TOK P tb := by
  have mem : ∀ t i, tb.lookup t = some i → (t, i) ∈ tb := fun t i h => lookup_mem tb t i h
  have eqs : ∀ {α : Type} (f g : Nat × TI → α), tb.map f = tb.map g → ∀ x ∈ tb, f x = g x := by
    intro α f g h x hx
    exact List.map_inj_left.1 h x hx
  refine ⟨fun t i h => ?_, fun t i h => ?_, fun t i t' h ht => ?_, fun t i h => ?_⟩
  · have := eqs _ _ h1 _ (mem t i h)
    simp only [Option.map_eq_some_iff, Prod.mk.injEq] at this
    obtain ⟨f, h5, h6, h7, h8⟩ := this
    exact ⟨f, h5, h6, h7, h8⟩
  · exact eqs _ _ h2 _ (mem t i h)
  · have := eqs _ _ h3 _ (mem t i h)
    simp only [ht, Option.map_some, Option.some.injEq] at this
    exact this
  · exact List.all_eq_true.1 h4 _ (mem t i h)

section
variable {P : Program} {B : Base} {pl : Nat → Place} {Z : Nat → Prop} {w : World}
theorem ZL.avs (z : ZL) : AVs P B pl Z w z.av z.cells := by
  cases z with
  | tz t => exact Reps.zero t
  | nils => exact ⟨none, rfl⟩
  | nilp => exact rfl
  | nilf => exact rfl
  | nili => exact rfl
theorem ZL.avl : ∀ (l : List ZL), AVl P B pl Z w (l.map ZL.av) (l.flatMap ZL.cells)
  | [] => rfl
  | z :: l => ⟨z.cells, l.flatMap ZL.cells, by simp, z.avs, ZL.avl l⟩
theorem ZL.refs (z : ZL) : z.av.refs = [] := by cases z <;> rfl
theorem ZL.refsL : ∀ (l : List ZL), A.refsL (l.map ZL.av) = []
  | [] => rfl
  | z :: l => by rw [List.map_cons, refsL_cons, ZL.refs, ZL.refsL l]; rfl
theorem ZL.isSt (z : ZL) (h : (match z with | .tz t => !A.isSt t | _ => true) = true) : z.av.isSt = false := by
  cases z <;> simp_all [ZL.av, AV.isSt]

theorem TI.zero_sound {i : TI} (hg : i.good = true) : AVs P B pl Z w i.zero i.zcell ∧ i.zero.isSt = i.agg ∧ i.zero.refs = [] ∧ i.zcell.length = i.size ∧
    AV1 P B pl Z w i.zero i.zval ∧ i.zval.cells.toList = i.zcell := by
  unfold TI.good at hg
  simp only [Bool.and_eq_true, beq_iff_eq, Bool.or_eq_true] at hg
  obtain ⟨⟨⟨⟨h1, h2⟩, h3⟩, h4⟩, h5⟩ := hg
  by_cases ha : i.agg = true
  · have hz : i.zero = .st (.ofL (i.zs.map ZL.av)) := by unfold TI.zero; rw [ha]
    have hs : AVs P B pl Z w i.zero i.zcell := by rw [hz]; exact ⟨AV.isList_ofL _, (AVs.ofL _ _).2 (ZL.avl _)⟩
    refine ⟨hs, by rw [hz, ha]; rfl, ?_, h3, ?_, ?_⟩
    · rw [hz]; show (AV.ofL _).refs = []; rw [refs_ofL, ZL.refsL]
    · unfold AV1 TI.zval
      rw [if_pos (by rw [hz]; rfl), if_pos ha]
      exact ⟨_, rfl, hs⟩
    · unfold TI.zval; rw [if_pos ha]; simp [Value.cells]
  · have ha : i.agg = false := by simpa using ha
    rcases h2 with h2 | h2
    · rw [ha] at h2; cases h2
    · split at h2
      · rename_i z hzs
        have hz : i.zero = z.av := by unfold TI.zero; rw [ha, hzs]
        simp only [Bool.and_eq_true, beq_iff_eq] at h2
        obtain ⟨g1, g2⟩ := h2
        have hc : i.zcell = z.cells := by unfold TI.zcell; rw [hzs]; simp
        have hst := ZL.isSt z g2
        obtain ⟨v, hv⟩ : ∃ v, z.cells = [v] := by
          match z.cells, g1 with
          | [v], _ => exact ⟨v, rfl⟩
        have hval : i.zval = v := by unfold TI.zval; rw [ha, hc, hv]; rfl
        refine ⟨by rw [hz, hc]; exact z.avs, by rw [hz, ha]; exact hst, by rw [hz]; exact ZL.refs z, h3, ?_, ?_⟩
        · unfold AV1
          rw [hz, if_neg (by rw [hst]; simp), hval]
          have := z.avs (P := P) (B := B) (pl := pl) (Z := Z) (w := w)
          rw [hv] at this; exact this
        · rw [hval, hc, hv]
          have hv' : ∀ (z : ZL), (match z with | .tz t => !A.isSt t | _ => true) = true → ∀ v, z.cells = [v] → v.cells.toList = [v] := by
            intro z hz v h
            cases z with
            | tz t => cases t <;> simp_all [ZL.cells, zcells, A.isSt] <;> (subst h; rfl)
            | _ => simp [ZL.cells] at h; subst h; rfl
          exact hv' z g2 v hv
      · cases h2
end
end A
end Go.Proofs.Ythgnjimpakpkjaa
namespace Go.Proofs.Ythgnjimpakpkjaa
namespace A
theorem tk1 : (tb.map fun (t, _) => (Try.prog.info? t).map fun f => (f.size, f.bytes, f.zero)) = tb.map fun (_, i) => some (i.size, i.bytes, some i.zval) := by kernel_rfl
theorem tk2 : (tb.map fun (t, _) => tkOf (Try.prog.underlying t)) = tb.map fun (_, i) => i.k := by kernel_rfl
theorem tk3 : (tb.map fun (_, i) => i.ty.map fun _ => i.zcell) = tb.map fun (_, i) => i.ty.map zcells := by kernel_rfl
theorem tk4 : (tb.all fun (_, i) => i.good) = true := by kernel_rfl
theorem tok : TOK Try.prog tb := TOK.of tk1 tk2 tk3 tk4
end A
end Go.Proofs.Ythgnjimpakpkjaa
namespace Go.Proofs.Ythgnjimpakpkjaa
namespace A

def put (H : Heap) (o : Nat) (c : Obj) : Heap := fun i => if i = o then c else H i
theorem put_self (H : Heap) (o : Nat) (c : Obj) : put H o c o = c := by simp [put]
theorem put_other (H : Heap) {o i : Nat} (c : Obj) (h : i ≠ o) : put H o c i = H i := by simp [put, h]
theorem setH_cons (H : Heap) (o : Nat) (c : Obj) (r : List (Nat × Obj)) : setH H ((o, c) :: r) = setH (put H o c) r := rfl
theorem setH_nil (H : Heap) : setH H [] = H := rfl
theorem put_put (H : Heap) (o : Nat) (c d : Obj) : put (put H o c) o d = put H o d := by
  funext i; by_cases h : i = o <;> simp [put, h]
theorem put_comm (H : Heap) {o i : Nat} (c d : Obj) (h : o ≠ i) : put (put H o c) i d = put (put H i d) o c := by
  funext j
  simp only [put]
  by_cases h1 : j = i
  · subst h1; rw [if_pos rfl, if_neg (Ne.symm h), if_pos rfl]
  · by_cases h2 : j = o
    · subst h2; rw [if_neg h1, if_pos rfl, if_pos rfl]
    · rw [if_neg h1, if_neg h2, if_neg h2, if_neg h1]
theorem Place.block_slc {a : Option Addr} {n cap b : Nat} (h : (Place.slc a n cap).block = some b) : cap ≠ 0 ∧ ∃ ad, a = some ad ∧ ad.block = b := by
  cases a with
  | none => cases h
  | some ad =>
    simp only [Place.block] at h
    split at h
    · cases h
    · rename_i hc; cases h; exact ⟨hc, ad, rfl, rfl⟩
theorem setH_append (H : Heap) : ∀ (a b : List (Nat × Obj)), setH H (a ++ b) = setH (setH H a) b
  | [], _ => rfl
  | (o, c) :: a, b => setH_append (put H o c) a b

section
variable {P : Program} {B : Base} {pl pl' : Nat → Place} {Z Z' : Nat → Prop} {w w' : World} {H : Heap}

theorem heap_lt {b : Nat} {o : Go.Obj} (h : w.heap[b]? = some o) : b < w.heap.size := (Array.getElem?_eq_some_iff.1 h).1

/-- an object goes on lying at its place -/
theorem OB.mono {p : Place} {c : AV} (hz : ∀ b, Z b → Z' b ∧ w'.heap[b]? = w.heap[b]?) (hp : ∀ o, o ∈ c.refs → pl' o = pl o)
    (hb : ∀ b, p.block = some b → w'.heap[b]? = w.heap[b]? ∧ (¬ Z b → ¬ Z' b)) (h : OB P B pl Z w p c) : OB P B pl' Z' w' p c := by
  unfold OB at *
  split at h
  · obtain ⟨h1, cs, T, h2, h3⟩ := h
    obtain ⟨g1, g2⟩ := hb _ rfl
    exact ⟨g2 h1, cs, T, g1.trans h2, AVs.mono hz c cs hp h3⟩
  · obtain ⟨h1, h2, h3, h4⟩ := h
    refine ⟨h1, h2, h3, ?_⟩
    rcases h4 with h4 | ⟨b, arr, T, e1, e2, e3, e4, e5⟩
    · exact .inl h4
    · rename_i a n cap t l
      by_cases hc : cap = 0
      · exact .inl hc
      · obtain ⟨g1, g2⟩ := hb b (by rw [e1]; simp [Place.block, hc])
        exact .inr ⟨b, arr, T, e1, g2 e2, g1.trans e3, e4, e5.mono' hz⟩
  · exact h.elim

/-- the block of an object is there -/
theorem OB.lt {p : Place} {c : AV} (h : OB P B pl Z w p c) {b : Nat} (hb : p.block = some b) : b < w.heap.size ∧ ¬ Z b := by
  unfold OB at h
  split at h
  · obtain ⟨h1, cs, T, h2, _⟩ := h
    simp only [Place.block, Option.some.injEq] at hb
    subst hb
    exact ⟨heap_lt h2, h1⟩
  · obtain ⟨_, _, _, h4⟩ := h
    obtain ⟨hc, ad, g1, g2⟩ := Place.block_slc hb
    rcases h4 with h4 | ⟨b', arr, T, e1, e2, e3, _, _⟩
    · exact absurd h4 hc
    · rw [e1] at g1
      cases g1
      subst g2
      exact ⟨heap_lt e3, e2⟩
  · exact h.elim

/-- a later world in which nothing that was there has changed -/
theorem GR.later (h : GR P B pl Z w H) (hs : w.heap.size ≤ w'.heap.size) (hio : Io w w') (hb : ∀ b, b < w.heap.size → w'.heap[b]? = w.heap[b]?)
    (hz : ∀ b, Z b → Z' b) (hn : ∀ b, Z' b → Z b ∨ w.heap.size ≤ b) (hl : ∀ b, Z' b → b < w'.heap.size) : GR P B pl Z' w' H where
  z := hl
  ob o c ho := OB.mono (fun b hb' => ⟨hz b hb', hb b (h.z b hb')⟩) (fun _ _ => rfl) (fun b hb' => by
    have := (h.ob o c ho).lt hb'
    exact ⟨hb b this.1, fun g g' => (hn b g').elim g (fun g'' => by omega)⟩) (h.ob o c ho)
  dj := h.dj
  ba := h.ba
  si := Nat.le_trans h.si hs
  io := h.io.trans hio
  old b hb' hx := (hb b (Nat.lt_of_lt_of_le hb' h.si)).trans (h.old b hb' hx)
  zz b hb' := hz b (h.zz b hb')
  zn b hb' := (hn b hb').elim (h.zn b) (fun g => .inr (.inl (Nat.le_trans h.si g)))
  kn := h.kn

/-- other places for what is free -/
theorem GR.place (h : GR P B pl Z w H) (hp : ∀ o, isFree (H o) = false → pl' o = pl o) : GR P B pl' Z w H := by
  have live : ∀ o c, H o = .live c → pl' o = pl o := fun o c ho => hp o (by rw [ho]; rfl)
  refine ⟨h.z, fun o c ho => ?_, fun o o' c c' ho ho' => ?_, fun o c ho => ?_, h.si, h.io, h.old, h.zz, h.zn, h.kn⟩
  · rw [live o c ho]
    exact OB.mono (fun b hb => ⟨hb, rfl⟩) (fun o' ho' => hp o' (h.kn o c ho o' ho')) (fun b _ => ⟨rfl, id⟩) (h.ob o c ho)
  · rw [live o c ho, live o' c' ho']; exact h.dj o o' c c' ho ho'
  · rw [live o c ho]; exact h.ba o c ho

theorem GR.baw (h : GR P B pl Z w H) {o : Nat} {c : AV} (ho : H o = .live c) (hro : B.ro o = false) {b : Nat} (hb : (pl o).block = some b) : B.w.heap.size ≤ b ∨ B.X b := by
  rcases h.ba o c ho b hb with g | g | g
  · exact .inl g
  · exact .inr g
  · rw [hro] at g; cases g

/-- objects may be let go -/
theorem GR.kill (h : GR P B pl Z w H) (o : Nat) : GR P B pl Z w (put H o .dead) := by
  have live : ∀ i c, put H o .dead i = .live c → H i = .live c := fun i c hi => by
    by_cases e : i = o
    · subst e; rw [put_self] at hi; cases hi
    · rwa [put_other _ _ e] at hi
  refine ⟨h.z, fun i c hi => h.ob i c (live i c hi), fun i j c c' hi hj => h.dj i j c c' (live i c hi) (live j c' hj), fun i c hi => h.ba i c (live i c hi), h.si, h.io, h.old, h.zz, h.zn, fun i c hi o' ho' => ?_⟩
  by_cases e : o' = o
  · subst e; rw [put_self]; rfl
  · rw [put_other _ _ e]; exact h.kn i c (live i c hi) o' ho'

/-- a block in which no object lies is changed -/
theorem GR.touch (h : GR P B pl Z w H) {b : Nat} (hs : w'.heap.size = w.heap.size) (hio : Io w w') (hb : ∀ k, k ≠ b → w'.heap[k]? = w.heap[k]?) (hz : ¬ Z b)
    (hno : ∀ o c, H o = .live c → (pl o).block ≠ some b) (hba : B.w.heap.size ≤ b ∨ B.X b) : GR P B pl Z w' H where
  z k hk := by rw [hs]; exact h.z k hk
  ob o c ho := OB.mono (fun k hk => ⟨hk, hb k (fun e => hz (e ▸ hk))⟩) (fun _ _ => rfl) (fun k hk => ⟨hb k (fun e => hno o c ho (e ▸ hk)), id⟩) (h.ob o c ho)
  dj := h.dj
  ba := h.ba
  si := by rw [hs]; exact h.si
  io := h.io.trans hio
  old k hk hx := by
    refine (hb k (fun e => ?_)).trans (h.old k hk hx)
    subst e
    exact hba.elim (fun g => by omega) hx
  zz := h.zz
  zn := h.zn
  kn := h.kn

/-- an object is put -/
theorem GR.put (h : GR P B pl Z w H) {o : Nat} {c : AV} (hob : OB P B pl Z w (pl o) c) (hd : ∀ i c', H i = .live c' → i ≠ o → ∀ b, (pl o).block = some b → (pl i).block ≠ some b)
    (hba : ∀ b, (pl o).block = some b → B.w.heap.size ≤ b ∨ B.X b ∨ B.ro o = true) (hkn : ∀ i, i ∈ c.refs → i = o ∨ isFree (H i) = false) : GR P B pl Z w (A.put H o (.live c)) := by
  have cases' : ∀ i c', A.put H o (.live c) i = .live c' → (i = o ∧ c' = c) ∨ (i ≠ o ∧ H i = .live c') := fun i c' hi => by
    by_cases e : i = o
    · subst e; rw [put_self] at hi; cases hi; exact .inl ⟨rfl, rfl⟩
    · rw [put_other _ _ e] at hi; exact .inr ⟨e, hi⟩
  refine ⟨h.z, fun i c' hi => ?_, fun i j c1 c2 hi hj hne b hb => ?_, fun i c' hi => ?_, h.si, h.io, h.old, h.zz, h.zn, fun i c' hi o' ho' => ?_⟩
  · rcases cases' i c' hi with ⟨rfl, rfl⟩ | ⟨_, hi⟩
    · exact hob
    · exact h.ob i c' hi
  · rcases cases' i c1 hi with ⟨rfl, rfl⟩ | ⟨e1, hi1⟩
    · rcases cases' j c2 hj with ⟨rfl, rfl⟩ | ⟨e2, hj2⟩
      · exact absurd rfl hne
      · exact hd j c2 hj2 e2 b hb
    · rcases cases' j c2 hj with ⟨rfl, rfl⟩ | ⟨e2, hj2⟩
      · intro hb'; exact hd i c1 hi1 e1 b hb' hb
      · exact h.dj i j c1 c2 hi1 hj2 hne b hb
  · rcases cases' i c' hi with ⟨rfl, rfl⟩ | ⟨_, hi⟩
    · exact hba
    · exact h.ba i c' hi
  · have : o' = o ∨ isFree (H o') = false := by
      rcases cases' i c' hi with ⟨rfl, rfl⟩ | ⟨_, hi⟩
      · exact hkn o' ho'
      · exact .inr (h.kn i c' hi o' ho')
    by_cases e : o' = o
    · subst e; rw [put_self]; rfl
    · rw [put_other _ _ e]; exact this.resolve_left e
end

def killL (H : Heap) (L : List Nat) : Heap := setH H (L.map fun o => (o, .dead))
theorem killL_cons (H : Heap) (o : Nat) (L : List Nat) : killL H (o :: L) = killL (put H o .dead) L := rfl
theorem killL_get (H : Heap) : ∀ (L : List Nat) (i : Nat), killL H L i = if i ∈ L then .dead else H i := by
  intro L
  induction L generalizing H with
  | nil => intro i; rfl
  | cons o L ih =>
    intro i
    rw [killL_cons, ih]
    by_cases h1 : i ∈ L
    · simp [h1]
    · by_cases h2 : i = o
      · subst h2; simp [h1, put]
      · simp [h1, h2, put]
theorem GR.killL {P : Program} {B : Base} {pl : Nat → Place} {Z : Nat → Prop} {w : World} : ∀ (L : List Nat) {H : Heap}, GR P B pl Z w H → GR P B pl Z w (A.killL H L)
  | [], _, h => h
  | o :: L, _, h => GR.killL L (h.kill o)
theorem free_kill {H : Heap} (L : List Nat) {i : Nat} (h : isFree (H i) = false) : isFree (killL H L i) = false := by
  rw [killL_get]; split
  · rfl
  · exact h
/-- vectors are made immutable, and let go -/
theorem GR.publish {P : Program} {B : Base} {pl : Nat → Place} {Z : Nat → Prop} {w : World} {H Hr : Heap} (h : GR P B pl Z w H) (hr : ∀ o v, Hr o = .live v → H o = .live v) (L : List Nat) (hro : ∀ o, o ∈ L → B.ro o = false) :
    GR P B pl (Zup pl Z Hr L) w (A.killL H L) := by
  have hk := h.killL L
  have live : ∀ i c, A.killL H L i = .live c → i ∉ L ∧ H i = .live c := fun i c hi => by
    rw [killL_get] at hi
    split at hi
    · cases hi
    · rename_i hn; exact ⟨hn, hi⟩
  refine ⟨fun b hb => ?_, fun o c ho => ?_, hk.dj, hk.ba, h.si, h.io, h.old, fun b hb => .inl (h.zz b hb), fun b hb => ?_, hk.kn⟩
  · rcases hb with hb | ⟨o, _, ⟨c, ho⟩, hp⟩
    · exact h.z b hb
    · exact ((h.ob o c (hr o c ho)).lt hp).1
  · obtain ⟨hn, ho'⟩ := live o c ho
    refine OB.mono (fun b hb => ⟨.inl hb, rfl⟩) (fun _ _ => rfl) (fun b hb => ⟨rfl, fun hnz hz => ?_⟩) (h.ob o c ho')
    rcases hz with hz | ⟨i, hi, ⟨c', hc'⟩, hp⟩
    · exact hnz hz
    · exact h.dj o i c c' ho' (hr i c' hc') (fun e => hn (e ▸ hi)) b hb hp
  · rcases hb with hb | ⟨o, hoL, ⟨c, ho⟩, hp⟩
    · exact h.zn b hb
    · rcases h.baw (hr o c ho) (hro o hoL) hp with g | g
      · exact .inr (.inl g)
      · exact .inr (.inr g)

/-- what an operation is to come to -/
def AVn (P : Program) (B : Base) (pl : Nat → Place) (Z : Nat → Prop) (w : World) : AV → Value → Prop
  | .undef, _ => True
  | .tup l, x => ∃ us : List Value, x = .tuple us.toArray ∧ AVt P B pl Z w l us
  | v, x => AV1 P B pl Z w v x

def Post (P : Program) (B : Base) (H : Heap) (pl : Nat → Place) (Z : Nat → Prop) (w : World) (wr : List (Nat × Obj)) (dst : AV) (v : Value) (w' : World) : Prop :=
  ∃ pl' Z', GR P B pl' Z' w' (setH H wr) ∧ (∀ o, isFree (H o) = false → pl' o = pl o) ∧ (∀ b, Z b → Z' b ∧ w'.heap[b]? = w.heap[b]?) ∧
    AVn P B pl' Z' w' dst v ∧ (∀ o, o ∈ dst.refs → isFree (setH H wr o) = false) ∧ (∀ o, isFree (H o) = false → isFree (setH H wr o) = false)

def Gives (P : Program) (m : Sem Next) (w : World) (Φ : Value → World → Prop) : Prop :=
  (∃ v w', m.run P w = .ok (.value v) w' ∧ Φ v w') ∨ (∃ w', m.run P w = .ok .skip w' ∧ Φ undef w') ∨
  (∃ f args w1, m.run P w = .ok (.enter f args) w1 ∧ Calls P f args w1 (fun e w' => ∃ v, e = .returned v ∧ Φ v w'))

theorem Gives.wp {P : Program} {o : Oper} {a : Act} {w : World} {K : Act → World → Prop} {Q : Exit → Act → World → Prop} {Φ : Value → World → Prop}
    (h : Gives P (execOp a.eval o) w Φ) (hK : ∀ v w', Φ v w' → K (a.put o.dst v) w') : o.wp P a w K Q := by
  unfold Oper.wp
  rcases h with ⟨v, w', h1, h2⟩ | ⟨w', h1, h2⟩ | ⟨f, args, w1, h1, h2⟩
  · rw [h1]; exact hK v w' h2
  · rw [h1]; exact hK undef w' h2
  · rw [h1]
    refine h2.mono ?_
    rintro e w' ⟨v, rfl, hv⟩
    exact hK v w' hv

section
variable {P : Program} {B : Base} {pl : Nat → Place} {Z : Nat → Prop} {w : World} {H : Heap}
theorem AVn.of1 {v : AV} {x : Value} (h : AV1 P B pl Z w v x) : AVn P B pl Z w v x := by
  cases v <;> first | exact h | trivial | (simp [AV1, AVs, AV.isSt] at h)
theorem AVn.to1 {v : AV} {x : Value} (h : AVn P B pl Z w v x) (h1 : v ≠ .undef) (h2 : ∀ l, v ≠ .tup l) : AV1 P B pl Z w v x := by
  cases v <;> first | exact h | exact absurd rfl h1 | exact absurd rfl (h2 _)

/-- nothing but a value -/
theorem Post.pure (hg : GR P B pl Z w H) {dst : AV} {v : Value} (h : AVn P B pl Z w dst v) (hr : ∀ o, o ∈ dst.refs → isFree (H o) = false) : Post P B H pl Z w [] dst v w :=
  ⟨pl, Z, hg, fun _ _ => rfl, fun _ hb => ⟨hb, rfl⟩, h, hr, fun _ h => h⟩
theorem Gives.value {m : Sem Next} {Φ : Value → World → Prop} {v : Value} {w' : World} (h : m.run P w = .ok (.value v) w') (hΦ : Φ v w') : Gives P m w Φ := .inl ⟨v, w', h, hΦ⟩

/-- an operand's value -/
theorem cAV_sound (v : Value) : AVn P B pl Z w (cAV v) v ∧ (cAV v).refs = [] := by
  unfold cAV
  split
  · exact ⟨AVn.of1 (by unfold AV1; rw [if_neg (by simp [AV.isSt, isSt])]; exact Reps.bool_iff.2 rfl), rfl⟩
  · split
    · rename_i h
      exact ⟨AVn.of1 (by unfold AV1; rw [if_neg (by simp [AV.isSt, isSt])]; exact Reps.int_iff.2 ⟨rfl, h⟩), rfl⟩
    · exact ⟨trivial, rfl⟩
  · split
    · rename_i s h
      exact ⟨AVn.of1 (by unfold AV1; rw [if_neg (by simp [AV.isSt, isSt])]; exact Reps.str_iff.2 ⟨by simp, h⟩), rfl⟩
    · exact ⟨trivial, rfl⟩
  · exact ⟨AVn.of1 (by unfold AV1; rw [if_neg (by simp [AV.isSt])]; rfl), rfl⟩
  · exact ⟨AVn.of1 (by unfold AV1; rw [if_neg (by simp [AV.isSt])]; exact ⟨none, rfl⟩), rfl⟩
  · exact ⟨AVn.of1 (by unfold AV1; rw [if_neg (by simp [AV.isSt])]; rfl), rfl⟩
  · exact ⟨AVn.of1 (by unfold AV1; rw [if_neg (by simp [AV.isSt])]; rfl), rfl⟩
  · exact ⟨trivial, rfl⟩

theorem cAV_refs (v : Value) : (cAV v).refs = [] := by
  unfold cAV
  split <;> first | rfl | (split <;> rfl)

theorem AVr.toN {tm : Nat → Value} {v : AV} {x : Value} (h : AVr P B pl Z w tm v x) (hw : ∀ g b u, v ≠ .whn g b u) : AVn P B pl Z w v x := by
  cases v <;> first | exact h | exact absurd rfl (hw _ _ _)

theorem ev_sound {T : Nat → AV} {a : Act} (hav : ∀ t, AVr P B pl Z w (fun t => a.tmps.getD t undef) (T t) (a.tmps.getD t undef)) {g : Option (Nat × Bool)}
    (hg : ∀ j b, g = some (j, b) → a.tmps.getD j undef = .bool b) (x : Operand) : AVn P B pl Z w (ev T g x) (a.eval x) := by
  cases x with
  | tmp t =>
    have h := hav t
    simp only [ev, Act.eval]
    split
    · rename_i g' b v ht
      rw [ht] at h
      split
      · rename_i j c
        split
        · rename_i hc
          simp only [Bool.and_eq_true, decide_eq_true_eq, beq_iff_eq] at hc
          obtain ⟨rfl, rfl⟩ := hc
          exact AVn.of1 (h.1 (hg _ _ rfl))
        · trivial
      · trivial
    · rename_i hne
      exact AVr.toN h (fun g b u e => hne g b u e)
  | const v => exact (cAV_sound v).1
  | func f => exact AVn.of1 (by unfold AV1; rw [if_neg (by simp [ev, AV.isSt])]; exact ⟨[], rfl, rfl, rfl⟩)
  | global g => trivial

theorem ev_refs {T : Nat → AV} {g : Option (Nat × Bool)} (hk : ∀ t o, o ∈ (T t).refs → isFree (H o) = false) (x : Operand) : ∀ o, o ∈ (ev T g x).refs → isFree (H o) = false := by
  intro o ho
  cases x with
  | tmp t =>
    have h := hk t o
    simp only [ev] at ho
    split at ho
    · rename_i g' b v ht
      rw [ht] at h
      split at ho
      · split at ho
        · exact h ho
        · simp [AV.refs] at ho
      · simp [AV.refs] at ho
    · exact h ho
  | const v => simp only [ev] at ho; rw [cAV_refs] at ho; cases ho
  | func f => simp [ev, AV.refs] at ho
  | global g => simp [ev, AV.refs] at ho

theorem evPick_sound {T : Nat → AV} {a : Act} (hav : ∀ t, AVr P B pl Z w (fun t => a.tmps.getD t undef) (T t) (a.tmps.getD t undef)) {j : Nat} {b : Bool}
    (hg : a.tmps.getD j undef = .bool b) (x : Operand) : AVn P B pl Z w (evPick T j b x) (a.eval x) := by
  cases x with
  | tmp t =>
    have h := hav t
    simp only [evPick, Act.eval]
    split
    · rename_i g' b' v ht
      rw [ht] at h
      split
      · rename_i hc
        simp only [Bool.and_eq_true, decide_eq_true_eq, beq_iff_eq] at hc
        obtain ⟨rfl, rfl⟩ := hc
        exact AVn.of1 (h.1 hg)
      · trivial
    · rename_i hne
      exact AVr.toN h (fun g b u e => hne g b u e)
  | const v => exact (cAV_sound v).1
  | func f => trivial
  | global g => trivial
end
end A
end Go.Proofs.Ythgnjimpakpkjaa
namespace Go.Proofs.Ythgnjimpakpkjaa
namespace A

structure Ctx (P : Program) (B : Base) (tb : Tab) (H Hr : Heap) (pl : Nat → Place) (Z : Nat → Prop) (w : World) (T : Nat → AV) (a : Act) (g : Option (Nat × Bool)) (d : Nat) : Prop where
  tok : TOK P tb
  gr : GR P B pl Z w H
  hr : ∀ o, Hr o = H o ∨ Hr o = .free
  fr : ∀ k, k < 16 → Hr (fam d k) = H (fam d k)
  av : ∀ t, AVr P B pl Z w (fun t => a.tmps.getD t undef) (T t) (a.tmps.getD t undef)
  kn : ∀ t o, o ∈ (T t).refs → isFree (H o) = false
  gd : ∀ j b, g = some (j, b) → a.tmps.getD j undef = .bool b

section
variable {P : Program} {B : Base} {tb : Tab} {H Hr : Heap} {pl : Nat → Place} {Z : Nat → Prop} {w : World} {T : Nat → AV} {a : Act} {g : Option (Nat × Bool)} {d : Nat}

theorem AV1.s {v : AV} {x : Value} (h : v.isSt = false) : AV1 P B pl Z w v x ↔ AVs P B pl Z w v [x] := by unfold AV1; rw [if_neg (by rw [h]; simp)]
theorem AVn.s {v : AV} {x : Value} (h : v.isSt = false) (h1 : v ≠ .undef) (h2 : ∀ l, v ≠ .tup l) : AVn P B pl Z w v x ↔ AVs P B pl Z w v [x] :=
  ⟨fun hh => (AV1.s h).1 (hh.to1 h1 h2), fun hh => AVn.of1 ((AV1.s h).2 hh)⟩

theorem Ctx.ev (c : Ctx P B tb H Hr pl Z w T a g d) (x : Operand) : AVn P B pl Z w (A.ev T g x) (a.eval x) := ev_sound c.av c.gd x
theorem Ctx.evr (c : Ctx P B tb H Hr pl Z w T a g d) (x : Operand) : ∀ o, o ∈ (A.ev T g x).refs → isFree (H o) = false := ev_refs c.kn x
theorem Ctx.live (c : Ctx P B tb H Hr pl Z w T a g d) {o : Nat} {v : AV} (h : Hr o = .live v) : H o = .live v := by
  rcases c.hr o with h' | h'
  · rw [← h']; exact h
  · rw [h] at h'; cases h'

theorem AVn.int {k : IntKind} {n : Int} {x : Value} (h : AVn P B pl Z w (.val (.int k) n) x) : x = .int k n ∧ inR k n := by
  have h := (AVn.s rfl (by simp) (by simp)).1 h
  obtain ⟨h1, h2⟩ := Reps.int_iff.1 h
  cases h1
  exact ⟨rfl, h2⟩
theorem AVn.bool {b : Bool} {x : Value} (h : AVn P B pl Z w (.val .bool b) x) : x = .bool b := by
  have h := (AVn.s rfl (by simp) (by simp)).1 h
  have h1 := Reps.bool_iff.1 h
  cases h1
  rfl
theorem AVn.str {s : List UInt8} {x : Value} (h : AVn P B pl Z w (.val .str s) x) : x = .string ⟨s.toArray⟩ ∧ s.length < LIM := by
  have h := (AVn.s rfl (by simp) (by simp)).1 h
  obtain ⟨h1, h2⟩ := Reps.str_iff.1 h
  cases h1
  exact ⟨rfl, h2⟩
theorem AVn.mkInt {k : IntKind} {n : Int} (h : inR k n) : AVn P B pl Z w (.val (.int k) n) (.int k n) := (AVn.s rfl (by simp) (by simp)).2 (Reps.int_iff.2 ⟨rfl, h⟩)
theorem AVn.mkBool (b : Bool) : AVn P B pl Z w (.val .bool b) (.bool b) := (AVn.s rfl (by simp) (by simp)).2 (Reps.bool_iff.2 rfl)
theorem AVn.mkStr {s : List UInt8} (h : s.length < LIM) : AVn P B pl Z w (.val .str s) (.string ⟨s.toArray⟩) := (AVn.s rfl (by simp) (by simp)).2 (Reps.str_iff.2 ⟨rfl, h⟩)

theorem wrap_inR {k : IntKind} {n : Int} (h : inR k n) : k.wrap n = n := by
  obtain ⟨h1, h2⟩ := h
  cases k <;> simp only [IntKind.min, IntKind.max, IntKind.signed, IntKind.bits, IntKind.wrap] at * <;> simp at * <;> omega
theorem inR_wrap (k : IntKind) (n : Int) : inR k (k.wrap n) := by
  unfold inR
  cases k <;> simp only [IntKind.min, IntKind.max, IntKind.signed, IntKind.bits, IntKind.wrap] <;> simp <;> omega
theorem inR_mod {k : IntKind} {a b : Int} (ha : inR k a) (hb : b ≠ 0) : inR k (a.tmod b) := by
  obtain ⟨h1, h2⟩ := ha
  have h3 := Int.natAbs_tmod_le a b
  have h4 : a.tmod b = 0 ∨ (0 < a ∧ 0 ≤ a.tmod b) ∨ (a < 0 ∧ a.tmod b ≤ 0) := by
    rcases Int.lt_trichotomy a 0 with h | h | h
    · refine .inr (.inr ⟨h, ?_⟩)
      have := Int.tmod_nonneg b (show 0 ≤ -a by omega)
      rw [Int.neg_tmod] at this
      omega
    · subst h; left; simp
    · exact .inr (.inl ⟨h, Int.tmod_nonneg b (by omega)⟩)
  have h0 : inR k 0 := inR_zero k
  obtain ⟨h5, h6⟩ := h0
  refine ⟨?_, ?_⟩ <;> omega
  where
  Int.natAbs_tmod_le (a b : Int) : (a.tmod b).natAbs ≤ a.natAbs := by
    rw [Int.natAbs_tmod]; exact Nat.mod_le _ _
theorem inR_fdiv {k : IntKind} {a : Int} (ha : inR k a) (n : Nat) : inR k (Int.fdiv a (2 ^ n)) := by
  obtain ⟨h1, h2⟩ := ha
  obtain ⟨h5, h6⟩ := inR_zero k
  have hp : (0 : Int) < 2 ^ n := Int.pow_pos (by omega)
  have e : Int.fdiv a (2 ^ n) = a / (2 ^ n) := Int.fdiv_eq_ediv_of_nonneg a (by omega)
  have h3 : (2 : Int) ^ n * (a / 2 ^ n) ≤ a := Int.mul_ediv_self_le (by omega)
  have h4 : a < 2 ^ n * (a / 2 ^ n) + 2 ^ n := Int.lt_mul_ediv_self_add hp
  unfold inR
  rw [e]
  generalize a / 2 ^ n = q at *
  generalize (2 : Int) ^ n = m at *
  have hm : 1 ≤ m := hp
  rcases Int.lt_or_le q 0 with hq | hq
  · have : m * q ≤ q := by
      have := Int.mul_le_mul_of_nonpos_right hm (show q ≤ 0 by omega)
      omega
    constructor
    · -- a ≥ min; q ≥ a when a < 0
      have : a < m * (q + 1) := by rw [Int.mul_add]; omega
      have h9 : m * (q + 1) ≤ q + 1 := by
        have := Int.mul_le_mul_of_nonpos_right hm (show q + 1 ≤ 0 by omega)
        omega
      omega
    · omega
  · have : q ≤ m * q := by
      have := Int.mul_le_mul_of_nonneg_right hm hq
      omega
    omega

/-- arithmetic -/
theorem arith_sound {wrap : Bool} {k : IntKind} {n : Int} {e : Eff} (hg : GR P B pl Z w H) (h : arith wrap k n = some e) (hp : ∀ p, p ∈ e.pre → p) :
    Post P B H pl Z w e.wr e.dst (.int k (k.wrap n)) w := by
  unfold arith at h
  split at h
  · cases h; exact Post.pure hg (AVn.mkInt (inR_wrap k n)) (by simp [AV.refs])
  · cases h
    have hr : inR k n := hp _ (by simp)
    rw [wrap_inR hr]
    exact Post.pure hg (AVn.mkInt hr) (by simp [AV.refs])

theorem run_eqGuard_int (op : BinOp) (t : TypeId) (x y : Operand) (k k' : IntKind) (m n : Int) : (eqGuard op t x y (.int k m) (.int k' n)).run P w = .ok () w := by
  cases op <;> rfl
theorem run_eqGuard_bool (op : BinOp) (t : TypeId) (x y : Operand) (m n : Bool) : (eqGuard op t x y (.bool m) (.bool n)).run P w = .ok () w := by
  cases op <;> rfl
theorem run_eqGuard_str (op : BinOp) (t : TypeId) (x y : Operand) (m n : ByteArray) : (eqGuard op t x y (.string m) (.string n)).run P w = .ok () w := by
  cases op <;> rfl
theorem run_eqGuard_ptr (op : BinOp) (t : TypeId) (x y : Operand) (m n : Option Addr) : (eqGuard op t x y (.pointer m) (.pointer n)).run P w = .ok () w := by
  cases op <;> rfl

theorem beq_decide (a b : Int) : (a == b) = decide (a = b) := by
  by_cases h : a = b <;> simp [h]
theorem bne_decide (a b : Int) : (a != b) = !decide (a = b) := by
  by_cases h : a = b <;> simp [h]

theorem ba_toList (s : List UInt8) : (⟨s.toArray⟩ : ByteArray).toList = s := by
  exact ByteArray.toList_mk s

theorem bin_int {wrap : Bool} {tk : Option TK} {op : BinOp} {t : TypeId} {ox oy : Operand} {k k' : IntKind} {m n : Int} {e : Eff} (hg : GR P B pl Z w H)
    (h : binEff wrap tk op (.val (.int k) m) (.val (.int k') n) = some e) (hp : ∀ p, p ∈ e.pre → p) (hm : inR k m) :
    ∃ v, (do eqGuard op t ox oy (.int k m) (.int k' n); binOp op t (.int k m) (.int k' n) : Sem Value).run P w = .ok v w ∧ Post P B H pl Z w e.wr e.dst v w := by
  cases op
  case shl =>
    cases h
    have h0 : (0 : Int) ≤ n := hp _ (by simp)
    refine ⟨_, ?_, Post.pure hg (AVn.mkInt (inR_wrap _ _)) (by simp [AV.refs])⟩
    simp [run_eqGuard_int, binOp, Op.shift, show ¬ n < 0 by omega, imul]
  case shr =>
    cases h
    have h0 : (0 : Int) ≤ n := hp _ (by simp)
    refine ⟨_, ?_, Post.pure hg (AVn.mkInt (inR_fdiv hm _)) (by simp [AV.refs])⟩
    simp [run_eqGuard_int, binOp, Op.shift, show ¬ n < 0 by omega]
  all_goals
    simp only [binEff] at h
    split at h
    case isFalse => cases h
    rename_i hk
    subst hk
  case add =>
    refine ⟨_, ?_, arith_sound hg h hp⟩
    simp [run_eqGuard_int, binOp, Op.intArith, iadd]
  case sub =>
    refine ⟨_, ?_, arith_sound hg h hp⟩
    simp [run_eqGuard_int, binOp, Op.intArith, isub]
  case mul =>
    refine ⟨_, ?_, arith_sound hg h hp⟩
    simp [run_eqGuard_int, binOp, Op.intArith, imul]
  case quo =>
    cases h
    have h0 : n ≠ 0 := hp _ (by simp [ine0])
    have h1 : inR k (Int.tdiv m n) := hp _ (by simp)
    refine ⟨_, ?_, Post.pure hg (AVn.mkInt h1) (by simp [AV.refs])⟩
    simp [run_eqGuard_int, binOp, Op.intDiv, h0, wrap_inR h1]
  case rem =>
    cases h
    have h0 : n ≠ 0 := hp _ (by simp [ine0])
    refine ⟨_, ?_, Post.pure hg (AVn.mkInt (inR_mod hm h0)) (by simp [AV.refs])⟩
    simp [run_eqGuard_int, binOp, Op.intDiv, h0]
  case and | or | xor =>
    cases h
    refine ⟨_, ?_, Post.pure hg (AVn.mkInt (inR_wrap _ _)) (by simp [AV.refs])⟩
    simp [run_eqGuard_int, binOp, Op.intBits]
  case eql =>
    cases h
    refine ⟨_, ?_, Post.pure hg (AVn.mkBool _) (by simp [AV.refs])⟩
    simp [run_eqGuard_int, binOp, Op.intCmp, beq_decide, ieq]
  case neq =>
    cases h
    refine ⟨_, ?_, Post.pure hg (AVn.mkBool _) (by simp [AV.refs])⟩
    simp [run_eqGuard_int, binOp, Op.intCmp, bne_decide, ine]
  case lss | gtr =>
    cases h
    refine ⟨_, ?_, Post.pure hg (AVn.mkBool _) (by simp [AV.refs])⟩
    simp [run_eqGuard_int, binOp, Op.intCmp, ilt]
  case leq | geq =>
    cases h
    refine ⟨_, ?_, Post.pure hg (AVn.mkBool _) (by simp [AV.refs])⟩
    simp [run_eqGuard_int, binOp, Op.intCmp, ile]
  all_goals cases h

theorem und_bool {tb : Tab} (hT : TOK P tb) {t : Nat} (h : isBoolK (tb.k t) = true) : P.underlying t = some .bool := by
  unfold Tab.k at h
  cases hl : tb.lookup t with
  | none => rw [hl] at h; cases h
  | some i =>
    have := hT.und t i hl
    rw [hl] at h
    cases hk : i.k <;> simp only [Option.map_some, hk, isBoolK] at h <;> try cases h
    rw [hk] at this
    unfold tkOf at this
    split at this <;> first | assumption | cases this
theorem und_ptr {tb : Tab} (hT : TOK P tb) {t : Nat} (h : isPtrK (tb.k t) = true) : ∃ e, P.underlying t = some (.pointer e) := by
  unfold Tab.k at h
  cases hl : tb.lookup t with
  | none => rw [hl] at h; cases h
  | some i =>
    have := hT.und t i hl
    rw [hl] at h
    cases hk : i.k <;> simp only [Option.map_some, hk, isPtrK] at h <;> try cases h
    rw [hk] at this
    unfold tkOf at this
    split at this <;> first | exact ⟨_, by assumption⟩ | cases this

theorem run_equal_ptr {t e : TypeId} (h : P.underlying t = some (.pointer e)) (a : Option Addr) : (Op.equal t (.pointer a) (.pointer none)).run P w = .ok a.isNone w := by
  have : ∀ d, (Op.equalIn (d + 1) t (.pointer a) (.pointer none)).run P w = .ok a.isNone w := fun d => by cases a <;> simp [Op.equalIn, run_underlying h]
  exact this 9999

theorem bin_bool {tb : Tab} (hT : TOK P tb) {wrap : Bool} {op : BinOp} {t : TypeId} {ox oy : Operand} {m n : Bool} {e : Eff} (hg : GR P B pl Z w H)
    (h : binEff wrap (tb.k t) op (.val .bool m) (.val .bool n) = some e) :
    ∃ v, (do eqGuard op t ox oy (.bool m) (.bool n); binOp op t (.bool m) (.bool n) : Sem Value).run P w = .ok v w ∧ Post P B H pl Z w e.wr e.dst v w := by
  cases op
  case eql =>
    simp only [binEff] at h
    split at h
    case isFalse => cases h
    rename_i hk
    cases h
    refine ⟨_, ?_, Post.pure hg (AVn.mkBool _) (by simp [AV.refs])⟩
    simp [run_eqGuard_bool, binOp, run_equal_bool w t m n (und_bool hT hk), beq2, Bool.beq_eq_decide_eq]
  case neq =>
    simp only [binEff] at h
    split at h
    case isFalse => cases h
    rename_i hk
    cases h
    refine ⟨_, ?_, Post.pure hg (AVn.mkBool _) (by simp [AV.refs])⟩
    simp [run_eqGuard_bool, binOp, run_equal_bool w t m n (und_bool hT hk), bne2, Bool.beq_eq_decide_eq]
  all_goals cases h

theorem bin_str {tk : Option TK} {wrap : Bool} {op : BinOp} {t : TypeId} {ox oy : Operand} {m n : List UInt8} {e : Eff} (hg : GR P B pl Z w H)
    (h : binEff wrap tk op (.val .str m) (.val .str n) = some e) (hp : ∀ p, p ∈ e.pre → p) :
    ∃ v, (do eqGuard op t ox oy (.string ⟨m.toArray⟩) (.string ⟨n.toArray⟩); binOp op t (.string ⟨m.toArray⟩) (.string ⟨n.toArray⟩) : Sem Value).run P w = .ok v w ∧ Post P B H pl Z w e.wr e.dst v w := by
  cases op
  case eql =>
    cases h
    refine ⟨_, ?_, Post.pure hg (AVn.mkBool _) (by simp [AV.refs])⟩
    simp [run_eqGuard_str, binOp, Op.stringOp, seq2]
    by_cases hmn : m = n <;> simp [hmn]
  case neq =>
    cases h
    refine ⟨_, ?_, Post.pure hg (AVn.mkBool _) (by simp [AV.refs])⟩
    simp [run_eqGuard_str, binOp, Op.stringOp, sne2]
    by_cases hmn : m = n <;> simp [hmn]
  case add =>
    cases h
    have h1 : slt2 m n := hp _ (by simp)
    refine ⟨_, ?_, Post.pure hg (AVn.mkStr h1) (by simp [AV.refs])⟩
    unfold slt2 at h1
    rw [List.length_append, LIM_eq] at h1
    have h2 : ¬ ((((⟨List.toArray m⟩ : ByteArray).size + (⟨List.toArray n⟩ : ByteArray).size : Nat) : Int) > IntKind.i64.max) := by
      simp only [IntKind.max, IntKind.signed, IntKind.bits]
      simp [ByteArray.size]
      omega
    simp only [run_eqGuard_str, binOp, Op.stringOp, Sem.run_bind, Result.andThen_ok, if_neg h2, Sem.run_pure]
    congr 2
    first | done | (apply ByteArray.ext; simp [sadd])
  all_goals cases h

theorem bin_sound {tb : Tab} (hT : TOK P tb) {wrap : Bool} {op : BinOp} {t : TypeId} {ox oy : Operand} {x y : AV} {vx vy : Value} {e : Eff} (hg : GR P B pl Z w H)
    (h : binEff wrap (tb.k t) op x y = some e) (hp : ∀ p, p ∈ e.pre → p) (hx : AVn P B pl Z w x vx) (hy : AVn P B pl Z w y vy) :
    ∃ v, (do eqGuard op t ox oy vx vy; binOp op t vx vy : Sem Value).run P w = .ok v w ∧ Post P B H pl Z w e.wr e.dst v w := by
  have hint : ∀ (k k' : IntKind) (m n : Int), x = .val (.int k) m → y = .val (.int k') n →
      ∃ v, (do eqGuard op t ox oy vx vy; binOp op t vx vy : Sem Value).run P w = .ok v w ∧ Post P B H pl Z w e.wr e.dst v w := by
    intro k k' m n e1 e2
    subst e1 e2
    obtain ⟨rfl, hm⟩ := hx.int
    obtain ⟨rfl, _⟩ := hy.int
    exact bin_int hg h hp hm
  have hbool : ∀ (m n : Bool), x = .val .bool m → y = .val .bool n →
      ∃ v, (do eqGuard op t ox oy vx vy; binOp op t vx vy : Sem Value).run P w = .ok v w ∧ Post P B H pl Z w e.wr e.dst v w := by
    intro m n e1 e2
    subst e1 e2
    obtain rfl := hx.bool
    obtain rfl := hy.bool
    exact bin_bool hT hg h
  have hstr : ∀ (m n : List UInt8), x = .val .str m → y = .val .str n →
      ∃ v, (do eqGuard op t ox oy vx vy; binOp op t vx vy : Sem Value).run P w = .ok v w ∧ Post P B H pl Z w e.wr e.dst v w := by
    intro m n e1 e2
    subst e1 e2
    obtain ⟨rfl, _⟩ := hx.str
    obtain ⟨rfl, _⟩ := hy.str
    exact bin_str hg h hp
  have h0 := h
  unfold binEff at h
  split at h
  · exact hint _ _ _ _ rfl rfl
  · exact hint _ _ _ _ rfl rfl
  · exact hint _ _ _ _ rfl rfl
  · exact hbool _ _ rfl rfl
  · exact hbool _ _ rfl rfl
  · exact hstr _ _ rfl rfl
  · exact hstr _ _ rfl rfl
  · exact hstr _ _ rfl rfl
  all_goals try (split at h; case isFalse => cases h)
  · rename_i hk
    obtain ⟨el, hu⟩ := und_ptr hT hk
    have hx := (AVn.s rfl (by simp) (by simp)).1 hx
    have hy := (AVn.s rfl (by simp) (by simp)).1 hy
    cases hx; cases hy; cases h
    refine ⟨_, ?_, Post.pure hg (AVn.mkBool _) (by simp [AV.refs])⟩
    simp [run_eqGuard_ptr, binOp, run_equal_ptr hu]
  · rename_i hk
    obtain ⟨el, hu⟩ := und_ptr hT hk
    have hx := (AVn.s rfl (by simp) (by simp)).1 hx
    have hy := (AVn.s rfl (by simp) (by simp)).1 hy
    cases hx; cases hy; cases h
    refine ⟨_, ?_, Post.pure hg (AVn.mkBool _) (by simp [AV.refs])⟩
    simp [run_eqGuard_ptr, binOp, run_equal_ptr hu]
  · rename_i hk
    obtain ⟨el, hu⟩ := und_ptr hT hk
    have hx := (AVn.s rfl (by simp) (by simp)).1 hx
    have hy := (AVn.s rfl (by simp) (by simp)).1 hy
    obtain ⟨b, _, hx⟩ := hx
    cases hx; cases hy; cases h
    refine ⟨_, ?_, Post.pure hg (AVn.mkBool _) (by simp [AV.refs])⟩
    simp [run_eqGuard_ptr, binOp, run_equal_ptr hu]
  · rename_i hk
    obtain ⟨el, hu⟩ := und_ptr hT hk
    have hx := (AVn.s rfl (by simp) (by simp)).1 hx
    have hy := (AVn.s rfl (by simp) (by simp)).1 hy
    obtain ⟨b, _, hx⟩ := hx
    cases hx; cases hy; cases h
    refine ⟨_, ?_, Post.pure hg (AVn.mkBool _) (by simp [AV.refs])⟩
    simp [run_eqGuard_ptr, binOp, run_equal_ptr hu]
  · cases h
end
end A
end Go.Proofs.Ythgnjimpakpkjaa
namespace Go.Proofs.Ythgnjimpakpkjaa
namespace A
section
variable {P : Program} {B : Base} {tb : Tab} {H Hr : Heap} {pl : Nat → Place} {Z : Nat → Prop} {w : World} {T : Nat → AV} {a : Act} {g : Option (Nat × Bool)} {d : Nat}

/-- what the table says of a type -/
theorem und_of (hT : TOK P tb) {t : Nat} {i : TI} (h : tb.get t = some i) :
    match i.k with
    | .int k => P.underlying t = some (.int k)
    | .bool => P.underlying t = some .bool
    | .str => P.underlying t = some .string
    | .slice e => P.underlying t = some (.slice e)
    | .struct fs => ∃ fl : Array Field, P.underlying t = some (.struct fl) ∧ fl.toList.map (fun f => (f.offset, f.type)) = fs
    | .array n e => P.underlying t = some (.array n e)
    | .ptr e => P.underlying t = some (.pointer e)
    | .ifc => ∃ ms, P.underlying t = some (.interface ms)
    | _ => True := by
  have h1 := hT.und t i h
  unfold tkOf at h1
  split at h1 <;> rw [← h1] <;> simp_all

theorem und_agg (hT : TOK P tb) {t : Nat} {i : TI} (h : tb.get t = some i) : (isAgg t).run P w = .ok i.agg w := by
  have h1 := hT.und t i h
  have h2 := hT.good t i h
  unfold TI.good at h2
  simp only [Bool.and_eq_true] at h2
  have h2 := h2.2
  unfold TI.agg
  rw [← h1] at h2 ⊢
  cases hu : P.underlying t with
  | none => rw [hu] at h2; simp [tkOf] at h2
  | some d =>
    rw [hu] at h2
    have : (isAgg t).run P w = .ok (match d with | .struct _ | .array _ _ => true | _ => false) w := by
      unfold isAgg
      rw [Sem.run_bind, run_underlying hu]
      cases d <;> rfl
    rw [this]
    cases d <;> first | rfl | (simp [tkOf] at h2)

theorem run_sizeOf' (hT : TOK P tb) {t : Nat} {i : TI} (h : tb.get t = some i) : (sizeOf t).run P w = .ok i.size w := by
  obtain ⟨f, hf, h1, _⟩ := hT.info t i h
  simp [sizeOf, typeInfo, hf, h1]

/-- a scalar takes one cell -/
theorem size_of_agg (hT : TOK P tb) {t : Nat} {i : TI} (h : tb.get t = some i) (ha : i.agg = false) : i.size = 1 := by
  have h2 := hT.good t i h
  unfold TI.good at h2
  simp only [Bool.and_eq_true, beq_iff_eq, Bool.or_eq_true] at h2
  obtain ⟨⟨⟨⟨_, h3⟩, h4⟩, _⟩, _⟩ := h2
  rcases h3 with h3 | h3
  · rw [ha] at h3; cases h3
  · split at h3
    · rename_i z hz
      simp only [Bool.and_eq_true, beq_iff_eq] at h3
      rw [← h4]
      unfold TI.zcell
      rw [hz]
      simp [h3.1]
    · cases h3

/-- cells of a block -/
theorem cell_of_blk {b off : Nat} {c : Array Value} (h : blk w b = some c) : w.cell? ⟨b, off, none⟩ = c[off]? := by
  unfold blk at h
  unfold World.cell?
  split at h
  · rename_i c' e f hh
    cases h
    simp [hh]
  · cases h
theorem blk_of_heap {b : Nat} {c : Array Value} {T : TypeId} {fz : Nat × Nat} (h : w.heap[b]? = some (.cells c T fz)) : blk w b = some c := by unfold blk; rw [h]
theorem add_none (b off i : Nat) : (⟨b, off, none⟩ : Addr).add i = ⟨b, off + i, none⟩ := by unfold Addr.add; split <;> simp_all

/-- reading a variable -/
theorem run_loadVar' (hT : TOK P tb) {t : Nat} {i : TI} (h : tb.get t = some i) {b off : Nat} {us : List Value} (hl : us.length = i.size)
    (hc : ∀ j u, us[j]? = some u → w.cell? ⟨b, off + j, none⟩ = some u) :
    ∃ v, (loadVar t ⟨b, off, none⟩).run P w = .ok v w ∧ (if i.agg then v = .agg us.toArray else us = [v]) := by
  have ha := und_agg (w := w) hT h
  by_cases hag : i.agg = true
  · refine ⟨.agg us.toArray, ?_, by rw [if_pos hag]⟩
    unfold loadVar
    rw [Sem.run_bind, ha, Result.andThen_ok, hag]
    have := run_loadCells_list (P := P) w ⟨b, off, none⟩ us (fun j v hv => by rw [add_none]; exact hc j v hv)
    simp only [if_true, Sem.run_bind, run_sizeOf' hT h, Result.andThen_ok, ← hl, this, Sem.run_pure]
  · have hag : i.agg = false := by simpa using hag
    have h1 := size_of_agg hT h hag
    rw [h1] at hl
    match us, hl with
    | [v], _ =>
      refine ⟨v, ?_, by rw [hag]; rfl⟩
      unfold loadVar
      rw [Sem.run_bind, ha, Result.andThen_ok, hag]
      have := hc 0 v rfl
      simp only [Nat.add_zero] at this
      simp [this]

theorem AV1_of_cells {v : AV} {i : TI} {us : List Value} {x : Value} (hs : v.isSt = i.agg) (h : AVs P B pl Z w v us) (hx : if i.agg then x = .agg us.toArray else us = [x]) : AV1 P B pl Z w v x := by
  unfold AV1
  rw [hs]
  split
  · rename_i ha; rw [if_pos ha] at hx; exact ⟨us, hx, h⟩
  · rename_i ha; rw [if_neg ha] at hx; rw [hx] at h; exact h

theorem drop_take_getElem? {α : Type} (l : List α) (off sz j : Nat) (u : α) (h : ((l.drop off).take sz)[j]? = some u) : l[off + j]? = some u := by
  by_cases hj : j < sz
  · rw [List.getElem?_take_of_lt hj, List.getElem?_drop] at h; exact h
  · rw [List.getElem?_take_eq_none (by omega)] at h; cases h

/-- an element of a list object -/
theorem elt_sound {o m : Nat} {e : Ty} {i : Nat} {x : El e} (hg : ∀ o c, H o = .live c → OB P B pl Z w (pl o) c) (h : eltAt H o m e i = some x) {b : Nat} (hb : (pl o).block = some b) (hr : (pl o).room m (i + 1)) :
    ∃ c us, blk w b = some c ∧ us.length = csize e ∧ (∀ j, j < csize e → c[i * csize e + j]? = us[j]?) ∧ Reps w Z e x us := by
  unfold eltAt at h
  split at h
  · rename_i a l ho
    split at h
    case isFalse => cases h
    rename_i hm
    subst hm
    obtain ⟨l1, h4, h5⟩ := opt_map h
    obtain ⟨rfl, rfl⟩ := castL_eq h4
    have hob := hg o _ ho
    cases hp : pl o with
    | box b' => rw [hp] at hr; exact absurd hr.1 (by omega)
    | slc a' n' cap' =>
      rw [hp] at hob hb hr
      obtain ⟨hc, ad, e1, e2⟩ := Place.block_slc hb
      obtain ⟨g1, g2, g3, g4⟩ := hob
      have g1 : List.length (α := El a) l1 = n' := g1
      rcases g4 with g4 | ⟨b', arr, T, k1, k2, k3, k4, k5⟩
      · exact absurd g4 hc
      · rw [k1] at e1
        cases e1
        subst e2
        have hx : l1[i]? = some x := by
          rw [← h5, List.getD_eq_getElem?_getD]
          have := hr.2
          simp [show i < l1.length by omega]
        obtain ⟨us, q1, q2, q3⟩ := k5 i x hx
        exact ⟨arr, us, blk_of_heap k3, q1, fun j hj => by have := q2 j hj; rwa [Nat.zero_add] at this, q3⟩
  · rename_i k a l ho
    split at h
    case isFalse => cases h
    rename_i hm
    simp only [Bool.and_eq_true, decide_eq_true_eq] at hm
    obtain ⟨rfl, hm⟩ := hm
    obtain ⟨l1, h4, h5⟩ := opt_map h
    obtain ⟨rfl, rfl⟩ := castL_eq h4
    have hob := hg o _ ho
    cases hp : pl o with
    | slc a' n' cap' => rw [hp] at hr; exact absurd hr.1 (by omega)
    | box b' =>
      rw [hp] at hob hb hr
      obtain ⟨_, cs, T, g1, g2⟩ := hob
      simp only [Place.block, Option.some.injEq] at hb
      subst hb
      have g2 : Reps w Z (.arn m a) l1 cs := g2
      have hlen := (Reps.arn_iff.1 g2).1
      have hx : l1[i]? = some x := by
        rw [← h5, List.getD_eq_getElem?_getD]
        have := hr.2
        simp [show i < l1.length by omega]
      obtain ⟨us, q1, q2, q3⟩ := Reps.arn_elts (pre := []) (post := []) g2 i x hx
      refine ⟨cs.toArray, us, blk_of_heap g1, q1, fun j hj => ?_, q3⟩
      have := q2 j hj
      simpa using this
  · cases h

/-- a load -/
theorem load_sound {t : Nat} {av : AV} {e : Eff} {x : Value} (hT : TOK P tb) (hg : GR P B pl Z w H) (hr : ∀ o v, Hr o = .live v → H o = .live v) (h : loadEff tb Hr t av = some e)
    (hx : AVn P B pl Z w av x) : ∃ v, (Instr.loadAt t x).run P w = .ok v w ∧ Post P B H pl Z w e.wr e.dst v w := by
  have hkn : ∀ {o : Nat} {c : AV} {v : AV}, H o = .live c → (∀ i, i ∈ v.refs → i ∈ c.refs) → ∀ i, i ∈ v.refs → isFree (H i) = false := fun ho hs i hi => hg.kn _ _ ho i (hs i hi)
  unfold loadEff at h
  split at h
  · cases h
  · rename_i ti hti
    split at h
    · -- an object's part
      rename_i o off
      have hx := (AVn.s rfl (by simp) (by simp)).1 hx
      obtain ⟨b, hp, hx⟩ := hx
      cases hx
      split at h
      · rename_i c ho
        have ho := hr _ _ ho
        obtain ⟨v, h1, h2⟩ := Option.bind_eq_some_iff.1 h
        have hob := hg.ob o c ho
        rw [hp] at hob
        obtain ⟨_, cs, Tc, g1, g2⟩ := hob
        obtain ⟨k1, k2, k3, k4⟩ := nav_sound h1 g2
        have hlen : ((cs.drop off).take ti.size).length = ti.size := by rw [List.length_take, List.length_drop]; omega
        obtain ⟨val, r1, r2⟩ := run_loadVar' (w := w) hT hti hlen (b := b) (off := off) (fun j u hu => by
          rw [cell_of_blk (blk_of_heap g1)]
          have := drop_take_getElem? _ _ _ _ _ hu
          simpa using this)
        have hrun : (Instr.loadAt t (.pointer (some ⟨b, off, none⟩))).run P w = .ok val w := by
          unfold Instr.loadAt Instr.sureAddr
          simpa using r1
        refine ⟨val, hrun, ?_⟩
        have hv1 : AV1 P B pl Z w v val := AV1_of_cells k3 k2 r2
        have hv : AVn P B pl Z w v val := AVn.of1 hv1
        split at h2
        · rename_i l ty hty
          split at h2
          · rename_i y hy
            split at h2
            · rename_i hvec
              cases h2
              have hz : Zup pl Z Hr (AV.st l).vecs = Z := by
                have : (AV.st l).vecs = [] := by simpa [AV.vecs] using hvec
                rw [this, Zup.nil]
              have hy1 := asTy_1 (fun o c ho => hg.ob o c (hr o c ho)) hy hv1
              rw [hz] at hy1
              refine Post.pure hg (AVn.of1 ?_) (by simp [AV.refs])
              unfold AV1
              unfold R1v at hy1
              exact hy1
            · cases h2; exact Post.pure hg hv (hkn ho k4)
          · cases h2; exact Post.pure hg hv (hkn ho k4)
        · cases h2; exact Post.pure hg hv (hkn ho k4)
      · cases h
    · -- an element's part
      rename_i o m e' i so
      have hx := (AVn.s rfl (by simp) (by simp)).1 hx
      obtain ⟨b, hp, hrm, hx⟩ := hx
      cases hx
      obtain ⟨y, h1, h2⟩ := Option.bind_eq_some_iff.1 h
      obtain ⟨v, h3, h4⟩ := Option.bind_eq_some_iff.1 h2
      obtain ⟨c, us, g1, g2, g3, g4⟩ := elt_sound (fun o c ho => hg.ob o c (hr o c ho)) h1 hp hrm
      obtain ⟨k1, k2, k3, k4⟩ := nav_sound (P := P) (B := B) (pl := pl) (cs := us) h3 g4
      have hlen : ((us.drop so).take ti.size).length = ti.size := by rw [List.length_take, List.length_drop]; omega
      obtain ⟨val, r1, r2⟩ := run_loadVar' (w := w) hT hti hlen (b := b) (off := i * csize e' + so) (fun j u hu => by
        rw [cell_of_blk g1]
        have := drop_take_getElem? _ _ _ _ _ hu
        have hj : so + j < csize e' := by
          rw [← g2]
          by_cases hh : so + j < us.length
          · exact hh
          · rw [List.getElem?_eq_none (by omega)] at this; cases this
        rw [Nat.add_assoc, g3 _ hj, this])
      have hrun : (Instr.loadAt t (.pointer (some ⟨b, i * csize e' + so, none⟩))).run P w = .ok val w := by
        unfold Instr.loadAt Instr.sureAddr
        simpa using r1
      cases h4
      exact ⟨val, hrun, Post.pure hg (AVn.of1 (AV1_of_cells k3 k2 r2)) (fun o' ho' => by have := k4 o' ho'; simp [AV.refs] at this)⟩
    · -- immutable memory
      rename_i e' y
      have hx := (AVn.s rfl (by simp) (by simp)).1 hx
      obtain ⟨b, off, c, us, hz, g1, g2, g3, g4, hx⟩ := hx
      cases hx
      obtain ⟨v, h3, h4⟩ := Option.bind_eq_some_iff.1 h
      obtain ⟨k1, k2, k3, k4⟩ := nav_sound (P := P) (B := B) (pl := pl) (cs := us) h3 g4
      have hlen : ((us.drop 0).take ti.size).length = ti.size := by rw [List.length_take, List.length_drop]; omega
      obtain ⟨val, r1, r2⟩ := run_loadVar' (w := w) hT hti hlen (b := b) (off := off) (fun j u hu => by
        rw [cell_of_blk g1]
        have := drop_take_getElem? _ _ _ _ _ hu
        have hj : 0 + j < csize e' := by
          rw [← g2]
          by_cases hh : 0 + j < us.length
          · exact hh
          · rw [List.getElem?_eq_none (by omega)] at this; cases this
        have h5 := g3 _ hj
        rw [Nat.zero_add] at h5 this
        rw [h5, this])
      have hrun : (Instr.loadAt t (.pointer (some ⟨b, off, none⟩))).run P w = .ok val w := by
        unfold Instr.loadAt Instr.sureAddr
        simpa using r1
      cases h4
      exact ⟨val, hrun, Post.pure hg (AVn.of1 (AV1_of_cells k3 k2 r2)) (fun o' ho' => by have := k4 o' ho'; simp [AV.refs] at this)⟩
    · cases h
end
end A
end Go.Proofs.Ythgnjimpakpkjaa
namespace Go.Proofs.Ythgnjimpakpkjaa
namespace A
section
variable {P : Program} {B : Base} {tb : Tab} {H Hr : Heap} {pl : Nat → Place} {Z : Nat → Prop} {w : World}

theorem Rep.one : ∀ n t (x : El t) vs, Rep w Z n t x vs → ∀ u, u ∈ vs → u.oneCell' = true := by
  intro n
  induction n with
  | zero => intro t x vs h; exact h.elim
  | succ n ih =>
    intro t x vs hr u hu
    cases t with
    | int k => rw [hr.1] at hu; simp at hu; subst hu; rfl
    | bool => rw [hr] at hu; simp at hu; subst hu; rfl
    | str => rw [hr.1] at hu; simp at hu; subst hu; rfl
    | unit => rw [hr] at hu; cases hu
    | sl t => obtain ⟨a, cap, hv, _⟩ := hr; rw [hv] at hu; simp at hu; subst hu; rfl
    | pair a b =>
      obtain ⟨p, q, hv, h1, h2⟩ := hr
      rw [hv] at hu
      rcases List.mem_append.1 hu with h | h
      · exact ih _ _ _ h1 u h
      · exact ih _ _ _ h2 u h
    | rc r => exact ih _ _ _ hr u hu
    | arn m t =>
      obtain ⟨h1, h2, h3⟩ := hr
      obtain ⟨j, hj, rfl⟩ := List.mem_iff_getElem.1 hu
      have hpos : 0 < csize t := by
        rcases Nat.eq_zero_or_pos (csize t) with h | h
        · rw [h2, h, Nat.mul_zero] at hj; omega
        · exact h
      have hm : j / csize t < m := by rw [h2] at hj; exact Nat.div_lt_of_lt_mul (by rwa [Nat.mul_comm])
      have hl : j / csize t < List.length (α := El t) x := by rw [h1]; exact hm
      obtain ⟨y, hy⟩ : ∃ y, (show List (El t) from x)[j / csize t]? = some y := ⟨_, List.getElem?_eq_getElem hl⟩
      have h4 := h3 (j / csize t) y hy
      refine ih _ _ _ h4 _ ?_
      rw [List.mem_iff_getElem?]
      refine ⟨j % csize t, ?_⟩
      rw [List.getElem?_take_of_lt (Nat.mod_lt _ hpos), List.getElem?_drop, Nat.mul_comm, Nat.div_add_mod]
      simp [hj]
theorem Reps.one {t : Ty} {x : El t} {vs : List Value} (h : Reps w Z t x vs) : ∀ u, u ∈ vs → u.oneCell' = true := let ⟨_, hr⟩ := h; hr.one

theorem AVs.one : ∀ (v : AV) (cs : List Value), AVs P B pl Z w v cs → ∀ u, u ∈ cs → u.oneCell' = true
  | .val t x, cs, h, u, hu => Reps.one (show Reps w Z t x cs from h) u hu
  | .valc t l, cs, ⟨a, h1, _⟩, u, hu => by rw [h1] at hu; simp at hu; subst hu; rfl
  | .nils, cs, ⟨a, h⟩, u, hu => by rw [h] at hu; simp at hu; subst hu; rfl
  | .vec o, cs, ⟨a, n, cap, _, h⟩, u, hu => by rw [h] at hu; simp at hu; subst hu; rfl
  | .view o m t lo n, cs, ⟨a, cap, h, _⟩, u, hu => by rw [h] at hu; simp at hu; subst hu; rfl
  | .ref o off, cs, ⟨b, _, h⟩, u, hu => by rw [h] at hu; simp at hu; subst hu; rfl
  | .refi o m t i so, cs, ⟨b, _, _, h⟩, u, hu => by rw [h] at hu; simp at hu; subst hu; rfl
  | .rop t x, cs, ⟨b, off, c, us, _, _, _, _, _, h⟩, u, hu => by rw [h] at hu; simp at hu; subst hu; rfl
  | .nilp, cs, h, u, hu => by rw [show cs = [.pointer none] from h] at hu; simp at hu; subst hu; rfl
  | .nilf, cs, h, u, hu => by rw [show cs = [.nilFunc] from h] at hu; simp at hu; subst hu; rfl
  | .nili, cs, h, u, hu => by rw [show cs = [.nilIface] from h] at hu; simp at hu; subst hu; rfl
  | .fn f c, cs, ⟨us, h, _⟩, u, hu => by rw [h] at hu; simp at hu; subst hu; rfl
  | .fnp1 a b pre F, cs, ⟨v, h, _, f, caps, hv, _⟩, u, hu => by rw [h] at hu; simp at hu; subst hu; rw [hv]; rfl
  | .fnp2 a b c pre F, cs, ⟨v, h, _, f, caps, hv, _⟩, u, hu => by rw [h] at hu; simp at hu; subst hu; rw [hv]; rfl
  | .cons a b, cs, ⟨p, q, h1, h2, h3⟩, u, hu => by
    rw [h1] at hu
    rcases List.mem_append.1 hu with h | h
    · exact AVs.one a p h2 u h
    · exact AVs.one b q h3 u h
  | .st l, cs, h, u, hu => AVs.one l cs h.2 u hu
  | .iface T v, cs, ⟨x, h, _⟩, u, hu => by rw [h] at hu; simp at hu; subst hu; rfl
  | .unit, cs, h, u, hu => by rw [show cs = [] from h] at hu; cases hu

/-- the cells of a value -/
theorem AV1.cells {v : AV} {x : Value} (h : AV1 P B pl Z w v x) : AVs P B pl Z w v x.cells.toList := by
  unfold AV1 at h
  split at h
  · obtain ⟨us, rfl, h⟩ := h; simpa [Value.cells] using h
  · have := AVs.one v [x] h x (by simp)
    have e : x.cells.toList = [x] := by cases x <;> first | rfl | (simp [Value.oneCell'] at this)
    rw [e]; exact h

/-- storing a variable -/
theorem run_storeVar' (hT : TOK P tb) {t : Nat} {i : TI} (h : tb.get t = some i) {b off : Nat} {x : Value} (hl : x.cells.toList.length = i.size) (h1 : ∀ u, u ∈ x.cells.toList → u.oneCell' = true)
    {cur : Array Value} {Tc : TypeId} (hg : w.heap[b]? = some (.cells cur Tc (0, 0))) (hfit : off + i.size ≤ cur.size) :
    (storeVar t ⟨b, off, none⟩ x).run P w = .ok () (w.setRow b (cur.toList.take off ++ x.cells.toList ++ cur.toList.drop (off + i.size)).toArray) := by
  have hs := run_storeCells_at P b off Tc x.cells.toList 0 cur w hg (by rw [hl]; simpa using hfit) h1
  have hsz : x.cells.size = i.size := by simpa using hl
  unfold storeVar
  simp only [Sem.run_bind, run_sizeOf' hT h, Result.andThen_ok, hsz, ne_eq, not_true_eq_false, if_false]
  rw [Nat.add_zero, hl] at hs
  exact hs

theorem setRow_ne {b k : Nat} {cs : Array Value} (h : k ≠ b) : (w.setRow b cs).heap[k]? = w.heap[k]? := setRow_other w b k cs h

/-- a live object's content is changed in its block -/
theorem GR.change (hg : GR P B pl Z w H) {o b : Nat} {c c' : AV} (ho : H o = .live c) (hro : B.ro o = false) (hb : (pl o).block = some b) {cur new : Array Value} {Tc : TypeId} (hh : w.heap[b]? = some (.cells cur Tc (0, 0)))
    (hob : OB P B pl Z (w.setRow b new) (pl o) c') (hkn : ∀ i, i ∈ c'.refs → i = o ∨ isFree (H i) = false) :
    GR P B pl Z (w.setRow b new) (A.put H o (.live c')) := by
  have hlt := (hg.ob o c ho).lt hb
  have hk := hg.kill o
  have ht : GR P B pl Z (w.setRow b new) (A.put H o .dead) := by
    refine hk.touch (b := b) (by simp) ⟨rfl, rfl⟩ (fun k hk => setRow_ne hk) hlt.2 (fun i c2 hi => ?_) (hg.baw ho hro hb)
    by_cases e : i = o
    · subst e; rw [put_self] at hi; cases hi
    · rw [put_other _ _ e] at hi
      intro hb'
      exact hg.dj o i c c2 ho hi (Ne.symm e) b hb hb'
  have := ht.put hob (fun i c2 hi hne b' hb' => by
    rw [put_other _ _ hne] at hi
    exact hg.dj o i c c2 ho hi (Ne.symm hne) b' hb') (hg.ba o c ho) (fun i hi => by
    rcases hkn i hi with h | h
    · exact .inl h
    · by_cases e : i = o
      · exact .inl e
      · exact .inr (by rw [put_other _ _ e]; exact h))
  rwa [put_put] at this

theorem setRow_keeps {Z : Nat → Prop} {b : Nat} {new : Array Value} (hz : ¬ Z b) : ∀ k, Z k → Z k ∧ (w.setRow b new).heap[k]? = w.heap[k]? :=
  fun _ hk => ⟨hk, setRow_ne (fun e => hz (e ▸ hk))⟩

theorem free_put {o : Nat} {c : Obj} (hc : isFree c = false) : ∀ i, isFree (H i) = false → isFree (A.put H o c i) = false := fun i hi => by
  by_cases e : i = o
  · subst e; rw [put_self]; exact hc
  · rw [put_other _ _ e]; exact hi

theorem splice_get (cur vs : List Value) (off : Nat) (hfit : off + vs.length ≤ cur.length) (p : Nat) :
    (cur.take off ++ vs ++ cur.drop (off + vs.length))[p]? = if p < off then cur[p]? else if p < off + vs.length then vs[p - off]? else cur[p]? := by
  have ht : (cur.take off).length = off := by rw [List.length_take]; omega
  rw [List.append_assoc]
  split
  · rename_i h
    rw [List.getElem?_append_left (by omega), List.getElem?_take_of_lt h]
  · rename_i h
    rw [List.getElem?_append_right (by omega), ht]
    split
    · rename_i h2
      rw [List.getElem?_append_left (by omega)]
    · rename_i h2
      rw [List.getElem?_append_right (by omega), List.getElem?_drop]
      congr 1
      omega

/-- one element of a row of elements is changed -/
theorem Elts.set {w' : World} {Z' : Nat → Prop} {t : Ty} {l : List (El t)} {arr : Array Value} {i so : Nat} {us vs : List Value} {x y : El t} (h : Elts w Z t l arr 0) (hx : l[i]? = some y)
    (hus : us.length = csize t) (hcells : ∀ j, j < csize t → arr[i * csize t + j]? = us[j]?) (hfit : so + vs.length ≤ csize t) (hsz : i * csize t + csize t ≤ arr.size)
    (hr : Reps w' Z' t x (us.take so ++ vs ++ us.drop (so + vs.length))) (hz : ∀ b, Z b → Z' b ∧ w'.heap[b]? = w.heap[b]?) :
    Elts w' Z' t (l.set i x) (arr.toList.take (i * csize t + so) ++ vs ++ arr.toList.drop (i * csize t + so + vs.length)).toArray 0 := by
  have hil : i < l.length := by
    by_cases hi : i < l.length
    · exact hi
    · simp [hi] at hx
  intro k z hk
  have hsp : ∀ p, (arr.toList.take (i * csize t + so) ++ vs ++ arr.toList.drop (i * csize t + so + vs.length)).toArray[p]? =
      if p < i * csize t + so then arr[p]? else if p < i * csize t + so + vs.length then vs[p - (i * csize t + so)]? else arr[p]? := by
    intro p
    rw [List.getElem?_toArray, splice_get _ _ _ (by simp; omega)]
    simp
  by_cases hki : k = i
  · subst hki
    rw [List.getElem?_set_self hil] at hk
    cases hk
    refine ⟨us.take so ++ vs ++ us.drop (so + vs.length), ?_, fun j hj => ?_, hr⟩
    · simp only [List.length_append, List.length_take, List.length_drop]; omega
    · rw [hsp, splice_get us vs so (by omega)]
      have := hcells j hj
      simp only [Nat.zero_add]
      by_cases c1 : j < so
      · rw [if_pos (by omega), if_pos c1]; exact this
      · rw [if_neg (by omega), if_neg c1]
        by_cases c2 : j < so + vs.length
        · rw [if_pos (by omega), if_pos c2]; congr 1; omega
        · rw [if_neg (by omega), if_neg c2]; exact this
  · rw [List.getElem?_set_ne (Ne.symm hki)] at hk
    obtain ⟨us', h1, h2, h3⟩ := h k z hk
    refine ⟨us', h1, fun j hj => ?_, h3.mono' hz⟩
    rw [← h2 j hj, hsp]
    simp only [Nat.zero_add]
    rcases Nat.lt_or_gt_of_ne hki with hlt | hgt
    · have : (k + 1) * csize t ≤ i * csize t := Nat.mul_le_mul_right _ (by omega)
      rw [Nat.add_mul, Nat.one_mul] at this
      rw [if_pos (by omega)]
    · have : (i + 1) * csize t ≤ k * csize t := Nat.mul_le_mul_right _ (by omega)
      rw [Nat.add_mul, Nat.one_mul] at this
      rw [if_neg (by omega), if_neg (by omega)]

/-- a store -/
theorem store_sound {t : Nat} {av vv : AV} {e : Eff} {x y : Value} (hT : TOK P tb) (hg : GR P B pl Z w H) (hr : ∀ o v, Hr o = .live v → H o = .live v) (h : storeEff tb Hr t av vv = some e)
    (hx : AVn P B pl Z w av x) (hy : AVn P B pl Z w vv y) (hkn : ∀ o, o ∈ vv.refs → isFree (H o) = false) (hrw : ∀ p, p ∈ e.wr → B.ro p.1 = false) :
    ∃ w', (Instr.storeAt t x y).run P w = .ok () w' ∧ Post P B H pl Z w e.wr e.dst undef w' := by
  unfold storeEff at h
  split at h
  · cases h
  · rename_i ti hti
    split at h
    case isFalse => cases h
    rename_i hc
    simp only [Bool.and_eq_true, decide_eq_true_eq, beq_iff_eq] at hc
    obtain ⟨⟨hc1, hc2⟩, hc3⟩ := hc
    have hy1 : AV1 P B pl Z w vv y := hy.to1 (by rintro rfl; simp [AV.cellular] at hc2) (by rintro l rfl; simp [AV.cellular] at hc2)
    have hys := hy1.cells
    have hyl : y.cells.toList.length = ti.size := by rw [AVs.length _ _ hys, hc1]
    have hy1c := AVs.one _ _ hys
    split at h
    · -- a part of an object
      rename_i o off
      have hx := (AVn.s rfl (by simp) (by simp)).1 hx
      obtain ⟨b, hp, hx⟩ := hx
      cases hx
      split at h
      case h_2 => cases h
      rename_i c ho
      have ho := hr _ _ ho
      obtain ⟨c', h1, h2⟩ := opt_map h
      cases h2
      have hob := hg.ob o c ho
      rw [hp] at hob
      obtain ⟨hnz, cs, Tc, g1, g2⟩ := hob
      obtain ⟨k1, k2, k3⟩ := setAt_sound h1 g2 hys hyl
      have hst := run_storeVar' (w := w) hT hti hyl hy1c g1 (off := off) (by simpa using k1)
      rw [List.toList_toArray] at hst
      have hrun : (Instr.storeAt t (.pointer (some ⟨b, off, none⟩)) y).run P w = .ok () (w.setRow b (cs.take off ++ y.cells.toList ++ cs.drop (off + ti.size)).toArray) := by
        unfold Instr.storeAt Instr.sureAddr
        simpa using hst
      refine ⟨_, hrun, pl, Z, ?_, fun _ _ => rfl, setRow_keeps hnz, trivial, by simp [AV.refs], free_put rfl⟩
      · refine hg.change ho (hrw _ (List.mem_singleton.2 rfl)) (by rw [hp]; rfl) g1 ?_ (fun i hi => ?_)
        · rw [hp]
          refine ⟨hnz, _, Tc, setRow_heap w b _ _ Tc _ g1, ?_⟩
          exact AVs.mono (setRow_keeps hnz) _ _ (fun _ _ => rfl) k2
        · rcases k3 i hi with h | h
          · exact .inr (hkn i h)
          · exact .inr (hg.kn o c ho i h)
    · -- an element of a list object
      rename_i o m e0 i so
      have hx := (AVn.s rfl (by simp) (by simp)).1 hx
      obtain ⟨b, hp, hrm, hx⟩ := hx
      cases hx
      have hro : ∀ o c, Hr o = .live c → OB P B pl Z w (pl o) c := fun o c ho => hg.ob o c (hr o c ho)
      split at h
      · -- a vector
        rename_i e2 l ho
        have ho := hr _ _ ho
        split at h
        case h_2 => cases h
        rename_i l1 hl1
        split at hl1
        case isFalse => cases hl1
        rename_i hm
        subst hm
        obtain ⟨rfl, rfl⟩ := castL_eq hl1
        obtain ⟨c', h3, h1⟩ := Option.bind_eq_some_iff.1 h
        split at h1
        case isTrue => cases h1
        rename_i hself
        have hself : o ∉ c'.vecs := by simpa using hself
        obtain ⟨z, h4, h2⟩ := opt_map h1
        cases h2
        have hg1 := hg.publish hr c'.vecs (fun i hi => hrw (i, .dead) (by simp [hi]))
        have ho1 : A.killL H c'.vecs o = .live (.val (.sl e2) l1) := by rw [killL_get, if_neg hself]; exact ho
        have hob := hg1.ob o _ ho1
        cases hpo : pl o with
        | box b' => rw [hpo] at hrm; exact absurd hrm.1 (by omega)
        | slc a' n' cap' =>
          rw [hpo] at hrm
          have hp0 := hp
          rw [hpo] at hp hob
          obtain ⟨hcp, ad, f1, f2⟩ := Place.block_slc hp
          obtain ⟨q1, q2, q3, q4⟩ := hob
          have q1 : List.length (α := El e2) l1 = n' := q1
          rcases q4 with q4 | ⟨b', arr, T, r1, r2, r3, r4, r5⟩
          · exact absurd q4 hcp
          · rw [r1] at f1
            cases f1
            subst f2
            have hi : i < l1.length := by have := hrm.2; omega
            have hget : l1[i]? = some l1[i] := by simp [hi]
            obtain ⟨us, u1, u2, u3⟩ := r5 i l1[i] hget
            have hgetD : List.getD (α := El e2) l1 i (dflt e2) = l1[i] := by rw [List.getD_eq_getElem?_getD]; simp [hi]
            rw [hgetD] at h3
            -- the element's own cells lie in Z: nothing of what is published
            obtain ⟨b0, arr0, T0, s1, s2, s3, s4, s5⟩ : ∃ b0 arr0, ∃ T0 : TypeId, some (⟨b', 0, none⟩ : Addr) = some ⟨b0, 0, none⟩ ∧ ¬ Z b0 ∧ w.heap[b0]? = some (.cells arr0 T0 (0, 0)) ∧ arr0.size = cap' * csize e2 ∧ Elts w Z e2 l1 arr0 0 := by
              have := hg.ob o _ ho
              rw [hpo, r1] at this
              obtain ⟨_, _, _, h4⟩ := this
              exact h4.resolve_left hcp
            cases s1
            rw [s3] at r3
            cases r3
            obtain ⟨us0, w1, w2, w3⟩ := s5 i l1[i] hget
            have hus : us0 = us := by
              apply List.ext_getElem?
              intro j
              by_cases hj : j < csize e2
              · rw [← w2 j hj, ← u2 j hj]
              · rw [List.getElem?_eq_none (by omega), List.getElem?_eq_none (by omega)]
            subst hus
            obtain ⟨k1, k2, k3⟩ := setAt_sound (P := P) (B := B) (pl := pl) (cs := us0) h3 w3 hys hyl
            have hsz : i * csize e2 + csize e2 ≤ arr.size := by
              rw [r4]
              have : (i + 1) * csize e2 ≤ cap' * csize e2 := Nat.mul_le_mul_right _ (by omega)
              rwa [Nat.add_mul, Nat.one_mul] at this
            have hfit : so + y.cells.toList.length ≤ csize e2 := by rw [hyl, ← u1]; exact k1
            have hst := run_storeVar' (w := w) hT hti hyl hy1c s3 (off := i * csize e2 + so) (by omega)
            obtain ⟨v1, v2⟩ := asTy_sound hro h4 k2
            have hrun : (Instr.storeAt t (.pointer (some ⟨b', i * csize e2 + so, none⟩)) y).run P w = .ok () (w.setRow b' (arr.toList.take (i * csize e2 + so) ++ y.cells.toList ++ arr.toList.drop (i * csize e2 + so + ti.size)).toArray) := by
              unfold Instr.storeAt Instr.sureAddr
              simpa using hst
            have hkeep := setRow_keeps (w := w) (new := (arr.toList.take (i * csize e2 + so) ++ y.cells.toList ++ arr.toList.drop (i * csize e2 + so + ti.size)).toArray) r2
            refine ⟨_, hrun, pl, Zup pl Z Hr c'.vecs, ?_, fun _ _ => rfl, fun b hb => ⟨.inl hb, (hkeep b (.inl hb)).2⟩, trivial, by simp [AV.refs], fun i hi => ?_⟩
            · show GR P B pl _ _ (setH H (c'.vecs.map (fun o => (o, .dead)) ++ [(o, .live (.val (.sl e2) (l1.set i z)))]))
              rw [setH_append]
              refine hg1.change ho1 (hrw (o, .live (.val (.sl e2) (l1.set i z))) (by simp)) hp0 s3 ?_ (fun i hi => by simp [AV.refs] at hi)
              rw [hpo]
              refine ⟨by show List.length (List.set l1 i z) = n'; rw [List.length_set]; exact q1, q2, q3, .inr ⟨b', _, T, r1, r2, setRow_heap w b' _ _ T _ s3, ?_, ?_⟩⟩
              · have hy2 := hyl
                simp only [Array.length_toList] at hy2 hfit
                simp only [List.size_toArray, List.length_append, List.length_take, List.length_drop, Array.length_toList]
                rw [← r4]; omega
              · have hset := Elts.set r5 hget u1 (fun j hj => by have := u2 j hj; rwa [Nat.zero_add] at this) hfit hsz (by rw [hyl]; exact v1.mono' hkeep) hkeep
                rw [hyl] at hset
                exact hset
            · show isFree (setH H (c'.vecs.map (fun o => (o, .dead)) ++ [(o, .live (.val (.sl e2) (l1.set _ z)))]) i) = false
              rw [setH_append]
              exact free_put (H := A.killL H c'.vecs) rfl i (free_kill _ hi)
      · -- an array variable
        rename_i n e2 l ho
        have ho := hr _ _ ho
        split at h
        case h_2 => cases h
        rename_i l1 hl1
        split at hl1
        case isFalse => cases hl1
        rename_i hm
        simp only [Bool.and_eq_true, decide_eq_true_eq] at hm
        obtain ⟨rfl, hm⟩ := hm
        obtain ⟨rfl, rfl⟩ := castL_eq hl1
        obtain ⟨c', h3, h1⟩ := Option.bind_eq_some_iff.1 h
        split at h1
        case isTrue => cases h1
        rename_i hself
        have hself : o ∉ c'.vecs := by simpa using hself
        obtain ⟨z, h4, h2⟩ := opt_map h1
        cases h2
        have hg1 := hg.publish hr c'.vecs (fun i hi => hrw (i, .dead) (by simp [hi]))
        have ho1 : A.killL H c'.vecs o = .live (.val (.arn m e2) l1) := by rw [killL_get, if_neg hself]; exact ho
        cases hpo : pl o with
        | slc a' n' cap' => rw [hpo] at hrm; exact absurd hrm.1 (by omega)
        | box b' =>
          rw [hpo] at hrm
          have hp0 := hp
          have hob := hg.ob o _ ho
          have hob1 := hg1.ob o _ ho1
          rw [hpo] at hp hob hob1
          simp only [Place.block, Option.some.injEq] at hp
          subst hp
          obtain ⟨_, cs, T, r3, r5⟩ := hob
          have r2 := hob1.1
          have r5 : Reps w Z (.arn m e2) l1 cs := r5
          obtain ⟨a1, a2, a3⟩ := Reps.arn_iff.1 r5
          have hi : i < l1.length := by have := hrm.2; omega
          have hget : l1[i]? = some l1[i] := by simp [hi]
          have hel := Reps.arn_elts (pre := []) (post := []) r5
          simp only [List.nil_append, List.append_nil, List.length_nil] at hel
          obtain ⟨us0, w1, w2, w3⟩ := hel i l1[i] hget
          have hgetD : List.getD (α := El e2) l1 i (dflt e2) = l1[i] := by rw [List.getD_eq_getElem?_getD]; simp [hi]
          rw [hgetD] at h3
          obtain ⟨k1, k2, k3⟩ := setAt_sound (P := P) (B := B) (pl := pl) (cs := us0) h3 w3 hys hyl
          have hsz : i * csize e2 + csize e2 ≤ cs.toArray.size := by
            simp only [List.size_toArray]
            rw [a2]
            have : (i + 1) * csize e2 ≤ m * csize e2 := Nat.mul_le_mul_right _ (by omega)
            rwa [Nat.add_mul, Nat.one_mul] at this
          have hfit : so + y.cells.toList.length ≤ csize e2 := by rw [hyl, ← w1]; exact k1
          have hst := run_storeVar' (w := w) hT hti hyl hy1c r3 (off := i * csize e2 + so) (by omega)
          obtain ⟨v1, v2⟩ := asTy_sound hro h4 k2
          have hrun : (Instr.storeAt t (.pointer (some ⟨b', i * csize e2 + so, none⟩)) y).run P w = .ok () (w.setRow b' (cs.toArray.toList.take (i * csize e2 + so) ++ y.cells.toList ++ cs.toArray.toList.drop (i * csize e2 + so + ti.size)).toArray) := by
            unfold Instr.storeAt Instr.sureAddr
            simpa using hst
          have hkeep := setRow_keeps (w := w) (new := (cs.toArray.toList.take (i * csize e2 + so) ++ y.cells.toList ++ cs.toArray.toList.drop (i * csize e2 + so + ti.size)).toArray) r2
          refine ⟨_, hrun, pl, Zup pl Z Hr c'.vecs, ?_, fun _ _ => rfl, fun b hb => ⟨.inl hb, (hkeep b (.inl hb)).2⟩, trivial, by simp [AV.refs], fun i hi => ?_⟩
          · show GR P B pl _ _ (setH H (c'.vecs.map (fun o => (o, .dead)) ++ [(o, .live (.val (.arn m e2) (l1.set i z)))]))
            rw [setH_append]
            refine hg1.change ho1 (hrw (o, .live (.val (.arn m e2) (l1.set i z))) (by simp)) hp0 r3 ?_ (fun i hi => by simp [AV.refs] at hi)
            rw [hpo]
            refine ⟨r2, _, T, setRow_heap w b' _ _ T _ r3, ?_⟩
            have hel' : Elts w (Zup pl Z Hr c'.vecs) e2 l1 cs.toArray 0 := hel.mono fun b hb => ⟨.inl hb, rfl⟩
            have hset := Elts.set hel' hget w1 (fun j hj => by have := w2 j hj; rwa [Nat.zero_add] at this) hfit hsz (by rw [hyl]; exact v1.mono' hkeep) hkeep
            rw [hyl] at hset
            show Reps _ _ (.arn m e2) (List.set l1 i z) _
            have hlen : (cs.toArray.toList.take (i * csize e2 + so) ++ y.cells.toList ++ cs.toArray.toList.drop (i * csize e2 + so + ti.size)).length = m * csize e2 := by
              simp only [List.size_toArray] at hsz
              simp only [List.length_append, List.length_take, List.length_drop, List.toList_toArray]
              omega
            refine Reps.arn_iff.2 ⟨by rw [List.length_set]; exact a1, hlen, fun k x hx => ?_⟩
            obtain ⟨us', b1, b2, b3⟩ := hset k x hx
            have hkl : k < m := by
              rw [← a1]
              by_cases hk : k < l1.length
              · exact hk
              · rw [List.getElem?_eq_none (by rw [List.length_set]; omega)] at hx; cases hx
            have hkb : (k + 1) * csize e2 ≤ m * csize e2 := Nat.mul_le_mul_right _ (by omega)
            rw [Nat.add_mul, Nat.one_mul] at hkb
            have : ((cs.toArray.toList.take (i * csize e2 + so) ++ y.cells.toList ++ cs.toArray.toList.drop (i * csize e2 + so + ti.size)).drop (k * csize e2)).take (csize e2) = us' := by
              apply List.ext_getElem?
              intro j
              by_cases hj : j < csize e2
              · rw [List.getElem?_take_of_lt hj, List.getElem?_drop]
                have := b2 j hj
                rw [List.getElem?_toArray, Nat.zero_add] at this
                exact this
              · rw [List.getElem?_eq_none (by rw [List.length_take]; omega), List.getElem?_eq_none (by omega)]
            rw [this]
            exact b3
          · show isFree (setH H (c'.vecs.map (fun o => (o, .dead)) ++ [(o, .live (.val (.arn m e2) (l1.set _ z)))]) i) = false
            rw [setH_append]
            exact free_put (H := A.killL H c'.vecs) rfl i (free_kill _ hi)
      · cases h
    · cases h
end
end A
end Go.Proofs.Ythgnjimpakpkjaa
namespace Go.Proofs.Ythgnjimpakpkjaa
namespace A
section
variable {P : Program} {B : Base} {tb : Tab} {H Hr : Heap} {pl : Nat → Place} {Z : Nat → Prop} {w w' : World} {T : Nat → AV} {a : Act} {g : Option (Nat × Bool)} {d : Nat}

def updP (pl : Nat → Place) (o : Nat) (p : Place) : Nat → Place := fun i => if i = o then p else pl i
theorem updP_self (pl : Nat → Place) (o : Nat) (p : Place) : updP pl o p o = p := by simp [updP]
theorem updP_other (pl : Nat → Place) {o i : Nat} (p : Place) (h : i ≠ o) : updP pl o p i = pl i := by simp [updP, h]
theorem updP_free {o : Nat} {p : Place} (ho : isFree (H o) = true) : ∀ i, isFree (H i) = false → updP pl o p i = pl i := fun i hi =>
  updP_other pl p (fun e => by subst e; rw [ho] at hi; cases hi)

theorem push_old {ob : Go.Obj} (hw : w'.heap = w.heap.push ob) : ∀ b, b < w.heap.size → w'.heap[b]? = w.heap[b]? := by
  intro b hb
  rw [hw, Array.getElem?_push, if_neg (by omega)]
theorem push_new {ob : Go.Obj} (hw : w'.heap = w.heap.push ob) : w'.heap[w.heap.size]? = some ob := by
  rw [hw, Array.getElem?_push, if_pos rfl]

/-- a new object in a new block -/
theorem GR.fresh (hg : GR P B pl Z w H) {o : Nat} (ho : isFree (H o) = true) {ob : Go.Obj} (hw : w'.heap = w.heap.push ob) (hio : Io w w') {p : Place} (hp : ∀ b, p.block = some b → b = w.heap.size) {c : AV}
    (hob : OB P B (updP pl o p) Z w' p c) (hkn : ∀ i, i ∈ c.refs → isFree (H i) = false) : GR P B (updP pl o p) Z w' (A.put H o (.live c)) := by
  have h1 : GR P B (updP pl o p) Z w' H := (hg.later (w' := w') (by rw [hw, Array.size_push]; omega) hio (push_old hw) (fun _ h => h) (fun _ h => .inl h) (fun b hb => by
    rw [hw, Array.size_push]; exact Nat.lt_succ_of_lt (hg.z b hb))).place (updP_free ho)
  refine h1.put (by rw [updP_self]; exact hob) (fun i c' hi hne b hb => ?_) (fun b hb => ?_) (fun i hi => .inr (hkn i hi))
  · rw [updP_self] at hb
    rw [updP_other _ _ hne]
    intro hb'
    have := hp b hb
    have := ((hg.ob i c' hi).lt hb').1
    omega
  · rw [updP_self] at hb
    rw [hp b hb]
    exact .inl hg.si

theorem Post.fresh (hg : GR P B pl Z w H) {o : Nat} (ho : isFree (H o) = true) {ob : Go.Obj} (hw : w'.heap = w.heap.push ob) (hio : Io w w') {p : Place} (hp : ∀ b, p.block = some b → b = w.heap.size) {c : AV}
    (hob : OB P B (updP pl o p) Z w' p c) (hkn : ∀ i, i ∈ c.refs → isFree (H i) = false) {dst : AV} {v : Value} (hv : AVn P B (updP pl o p) Z w' dst v) (hd : ∀ i, i ∈ dst.refs → i = o) :
    Post P B H pl Z w [(o, .live c)] dst v w' :=
  ⟨updP pl o p, Z, hg.fresh ho hw hio hp hob hkn, updP_free ho, fun b hb => ⟨hb, push_old hw b (hg.z b hb)⟩, hv, fun i hi => by
    rw [hd i hi]; show isFree (A.put H o (.live c) o) = false; rw [put_self]; rfl, fun i hi => free_put (H := H) rfl i hi⟩

/-- what is let go first -/
theorem Post.killed {L : List Nat} {wr : List (Nat × Obj)} {dst : AV} {v : Value} (hf : ∀ o, o ∈ L → isFree (H o) = false)
    (hr : ∀ o v, Hr o = .live v → H o = .live v) (h : Post P B (killL H L) pl (Zup pl Z Hr L) w wr dst v w') :
    Post P B H pl Z w (L.map (fun o => (o, .dead)) ++ wr) dst v w' := by
  obtain ⟨pl', Z', h1, h2, h3, h4, h5, h6⟩ := h
  refine ⟨pl', Z', ?_, fun o ho => h2 o (free_kill L ho), fun b hb => h3 b (.inl hb), h4, fun o ho => ?_, fun o ho => ?_⟩
  · rw [setH_append]; exact h1
  · rw [setH_append]; exact h5 o ho
  · rw [setH_append]; exact h6 o (free_kill L ho)

theorem newId_free (hr : ∀ k, k < 16 → Hr (fam d k) = H (fam d k)) {i : Nat} (h : newId Hr d = some i) : isFree (H i) = true := by
  have gen : ∀ f k, f + k ≤ 16 → A.fresh Hr d f k = some i → isFree (H i) = true := by
    intro f
    induction f with
    | zero => intro k _ h; simp [A.fresh] at h
    | succ f ih =>
      intro k hk h
      unfold A.fresh at h
      split at h
      · rename_i hf
        cases h
        rw [← hr k (by omega), hf]; rfl
      · exact ih (k + 1) (by omega) h
  exact gen 8 0 (by omega) h

theorem AVn.ref {o off b : Nat} (h : pl o = .box b) : AVn P B pl Z w (.ref o off) (.pointer (some ⟨b, off, none⟩)) :=
  (AVn.s rfl (by simp) (by simp)).2 ⟨b, h, rfl⟩

/-- a new variable -/
theorem new_box (hg : GR P B pl Z w H) {i : Nat} (hi : isFree (H i) = true) {c : AV} {cs : Array Value} {Tc : TypeId} (hc : AVs P B pl Z w c cs.toList) (hk : ∀ o, o ∈ c.refs → isFree (H o) = false) :
    Post P B H pl Z w [(i, .live c)] (.ref i 0) (.pointer (some ⟨w.heap.size, 0, none⟩)) (w.alloc (.cells cs Tc)) := by
  have hw : (w.alloc (.cells cs Tc)).heap = w.heap.push (.cells cs Tc) := rfl
  refine Post.fresh hg hi hw ⟨rfl, rfl⟩ (p := .box w.heap.size) (fun b hb => by cases hb; rfl) ?_ hk (AVn.ref (by rw [updP_self])) (fun o ho => by simpa [AV.refs] using ho)
  refine ⟨fun hz => absurd (hg.z _ hz) (by omega), cs.toList, Tc, by rw [push_new hw], ?_⟩
  refine AVs.mono (fun b hb => ⟨hb, push_old hw b (hg.z b hb)⟩) c cs.toList (fun o ho => updP_free hi o (hk o ho)) hc

theorem run_zeroValue' (hT : TOK P tb) {t : Nat} {i : TI} (h : tb.get t = some i) : (zeroValue t).run P w = .ok i.zval w := by
  obtain ⟨f, hf, _, _, h3⟩ := hT.info t i h
  simp [zeroValue, typeInfo, hf, h3]

theorem alloc_sound (hT : TOK P tb) (hg : GR P B pl Z w H) (hr : ∀ k, k < 16 → Hr (fam d k) = H (fam d k)) {t : Nat} {ti : TI} {e : Eff} (ht : tb.get t = some ti) (h : aNew Hr d ti.zero (.ref · 0) = some e) :
    ∃ v w', (Instr.alloc t true (.tuple #[])).run P w = .ok v w' ∧ Post P B H pl Z w e.wr e.dst v w' := by
  obtain ⟨i, hi, h⟩ := opt_map h
  cases h
  obtain ⟨z1, z2, z3, z4, z5, z6⟩ := TI.zero_sound (P := P) (B := B) (pl := pl) (Z := Z) (w := w) (hT.good t ti ht)
  refine ⟨.pointer (some ⟨w.heap.size, 0, none⟩), w.alloc (.cells ti.zval.cells t), ?_, new_box hg (newId_free hr hi) (by rw [z6]; exact z1) (by rw [z3]; intro o ho; cases ho)⟩
  simp only [Instr.alloc, Sem.run_bind, run_zeroValue' hT ht, Result.andThen_ok]
  simp [newVar, newRow]

theorem AV.cellular_ne {v : AV} (h : v.cellular = true) : v ≠ .undef ∧ ∀ l, v ≠ .tup l := by
  constructor
  · rintro rfl; simp [AV.cellular] at h
  · rintro l rfl; simp [AV.cellular] at h

theorem box_sound (hg : GR P B pl Z w H) (hr : ∀ k, k < 16 → Hr (fam d k) = H (fam d k)) {t : Nat} {e : Eff} {v : AV} {x : Value} (hv : AVn P B pl Z w v x) (hk : ∀ o, o ∈ v.refs → isFree (H o) = false)
    (hc : v.cellular = true) (h : aNew Hr d v (.ref · 0) = some e) :
    ∃ u w', (Instr.box t x).run P w = .ok u w' ∧ Post P B H pl Z w e.wr e.dst u w' := by
  obtain ⟨i, hi, h⟩ := opt_map h
  cases h
  have hv1 := hv.to1 (AV.cellular_ne hc).1 (AV.cellular_ne hc).2
  refine ⟨.pointer (some ⟨w.heap.size, 0, none⟩), w.alloc (.cells x.cells t), ?_, new_box hg (newId_free hr hi) hv1.cells hk⟩
  simp [Instr.box, newVar, newRow]

/-- a vector in a new block -/
theorem new_vec (hg : GR P B pl Z w H) {i : Nat} (hi : isFree (H i) = true) {t : Ty} {l : List (El t)} {cap : Nat} {cs : Array Value} {Tc : TypeId} (hn : l.length ≤ cap) (hl : l.length < LIM)
    (hc : cs.size = cap * csize t) (hw : w'.heap = w.heap.push (.cells cs Tc)) (hio : Io w w') (he : Elts w' Z t l cs 0) :
    Post P B H pl Z w [(i, .live (.val (.sl t) l))] (.vec i) (.slice (some ⟨w.heap.size, 0, none⟩) l.length cap) w' := by
  refine Post.fresh hg hi hw hio (p := .slc (some ⟨w.heap.size, 0, none⟩) l.length cap) (fun b hb => ?_) ?_ (fun o ho => by simp [AV.refs] at ho)
    ((AVn.s rfl (by simp) (by simp)).2 ⟨_, _, _, by rw [updP_self], rfl⟩) (fun o ho => by simpa [AV.refs] using ho)
  · obtain ⟨_, ad, h1, h2⟩ := Place.block_slc hb
    cases h1; exact h2.symm
  · exact ⟨rfl, hn, hl, .inr ⟨w.heap.size, cs, Tc, rfl, fun hz => absurd (hg.z _ hz) (by omega), push_new hw, hc, he⟩⟩

theorem made_get (z : Array Value) (n j : Nat) (hj : j < n) (hz : 0 < z.size) : (madeCells z n)[j]? = z[j % z.size]? := by
  have hlt : j % z.size < z.size := Nat.mod_lt _ hz
  unfold madeCells
  simp only [Array.getElem?_map]
  rw [Array.getElem?_range]
  simp [hj, hlt]

theorem make_sound (hT : TOK P tb) (hg : GR P B pl Z w H) (hr : ∀ k, k < 16 → Hr (fam d k) = H (fam d k)) {t e : Nat} {ti : TI} {ty : Ty} (ht : tb.get t = some ti) (hk : ti.k = .slice e) (hty : tb.ty e = some ty)
    {n m : Int} (hp : mkok n m) {i : Nat} (hi : newId Hr d = some i) :
    ∃ v w', (Instr.makeSlice t (.int .i64 n) (.int .i64 m)).run P w = .ok v w' ∧ Post P B H pl Z w [(i, .live (.val (.sl ty) (List.replicate (Int.toNat n) (dflt ty))))] (.vec i) v w' := by
  have hu := und_of hT ht
  rw [hk] at hu
  obtain ⟨ei, he, hety⟩ := Option.bind_eq_some_iff.1 hty
  have he : tb.get e = some ei := he
  obtain ⟨f, hf, f1, f2, f3⟩ := hT.info e ei he
  have hgood := hT.good e ei he
  obtain ⟨z1, z2, z3, z4, z5, z6⟩ := TI.zero_sound (P := P) (B := B) (pl := pl) (Z := Z) (w := w) hgood
  have hzt := hT.zty e ei ty he hety
  have hsz : ei.size = csize ty := by rw [← z4, hzt]; exact (Reps.zero (w := w) (Z := Z) ty).len
  have hby : ei.bytes ≤ 32768 := by
    unfold TI.good at hgood
    simp only [Bool.and_eq_true, decide_eq_true_eq] at hgood
    exact hgood.1.2
  obtain ⟨p1, p2, p3⟩ := hp
  have hLIM : (LIM : Int) = 4294967296 := rfl
  have hb2 : (f.bytes : Int) * m ≤ 281474976710656 := by
    rw [f2]
    have h1 : (ei.bytes : Int) * m ≤ 32768 * m := Int.mul_le_mul_of_nonneg_right (by omega) (by omega)
    omega
  have hrun := run_make (P := P) w t e f ei.zval hu hf f3 .i64 .i64 n m p1 p2 hb2 (by omega)
  refine ⟨_, _, hrun, ?_⟩
  have hlen : (List.replicate (Int.toNat n) (dflt ty)).length = n.toNat := List.length_replicate
  have hw : (w.alloc (.cells (madeCells ei.zval.cells (m.toNat * f.size)) e)).heap = w.heap.push (.cells (madeCells ei.zval.cells (m.toNat * f.size)) e) := rfl
  have := new_vec (P := P) (B := B) (pl := pl) (Z := Z) (w := w) (w' := w.alloc (.cells (madeCells ei.zval.cells (m.toNat * f.size)) e)) hg (newId_free hr hi) (t := ty) (l := List.replicate (Int.toNat n) (dflt ty)) (cap := m.toNat)
    (by rw [hlen]; omega) (by rw [hlen]; unfold LIM; omega) (by rw [size_madeCells, f1, hsz]) hw ⟨rfl, rfl⟩ (fun k x hx => ?_)
  · rw [hlen] at this; exact this
  · have hk : k < n.toNat := by
      rw [← hlen]
      by_cases hk : k < (List.replicate (Int.toNat n) (dflt ty)).length
      · exact hk
      · rw [List.getElem?_eq_none (by omega)] at hx; cases hx
    rw [List.getElem?_replicate, if_pos hk] at hx
    cases hx
    refine ⟨zcells ty, (Reps.zero (w := w) (Z := Z) ty).len, fun j hj => ?_, Reps.zero ty⟩
    have hzc : ei.zval.cells.size = csize ty := by rw [← hsz, ← z4, ← z6]; simp
    have hb : k * csize ty + j < m.toNat * f.size := by
      rw [f1, hsz]
      have : (k + 1) * csize ty ≤ m.toNat * csize ty := Nat.mul_le_mul_right _ (by omega)
      rw [Nat.add_mul, Nat.one_mul] at this
      omega
    rw [Nat.zero_add, made_get _ _ _ hb (by omega), hzc, show (k * csize ty + j) % csize ty = j from by rw [Nat.mul_comm, Nat.mul_add_mod]; exact Nat.mod_eq_of_lt hj, ← hzt, ← z6, Array.getElem?_toList]
end
end A
end Go.Proofs.Ythgnjimpakpkjaa
namespace Go.Proofs.Ythgnjimpakpkjaa
namespace A
section
variable {P : Program} {B : Base} {tb : Tab} {H Hr : Heap} {pl : Nat → Place} {Z : Nat → Prop} {w w' : World} {T : Nat → AV} {a : Act} {g : Option (Nat × Bool)} {d : Nat}

theorem fill_cons {place : Nat → Option (Nat × Nat)} {i off size : Nat} {v : Value} {rest : List (Nat × Value)} {cells : Array Value} (hp : place i = some (off, size)) (hs : v.cells.size = size) (hf : off + size ≤ cells.size) :
    Instr.fill place cells ((i, v) :: rest) = Instr.fill place (cells.toList.take off ++ v.cells.toList ++ cells.toList.drop (off + v.cells.toList.length)).toArray rest := by
  subst hs
  conv => lhs; unfold Instr.fill
  simp only [hp]
  rw [if_neg (by simp; omega)]
  congr 1
  obtain ⟨g1, g2⟩ := Great.foldl_set off v.cells.toList 0 cells
  apply Array.ext_getElem?
  intro p
  have hR : (cells.toList.take off ++ v.cells.toList ++ cells.toList.drop (off + v.cells.toList.length)).toArray[p]? = if p < off then cells.toList[p]? else if p < off + v.cells.toList.length then v.cells.toList[p - off]? else cells.toList[p]? := by
    rw [List.getElem?_toArray, splice_get _ _ _ (by simp; omega)]
  rw [hR]
  have e : v.cells.zipIdx.foldl (fun cs (x : Value × Nat) => cs.setIfInBounds (off + x.2) x.1) cells = (v.cells.toList.zipIdx 0).foldl (fun cs (x : Value × Nat) => cs.setIfInBounds (off + x.2) x.1) cells := by
    rw [← Array.foldl_toList, Array.toList_zipIdx]
  show (v.cells.zipIdx.foldl (fun cs (x : Value × Nat) => cs.setIfInBounds (off + x.2) x.1) cells)[p]? = _
  rw [e, g2 p]
  simp only [Nat.add_zero]
  by_cases c1 : p < off
  · rw [if_neg (by omega), if_pos c1]; simp
  · rw [if_neg c1]
    by_cases c2 : p < off + v.cells.toList.length
    · rw [if_pos c2, if_pos ⟨by omega, c2, by simp at c2; omega⟩]
    · rw [if_neg c2, if_neg (by omega)]; simp

/-- what bears no typed value -/
theorem typed_junk {H : Heap} {v : AV} (h1 : ∀ t x, v ≠ .val t x) (h2 : ∀ l, v ≠ .st l) (h3 : ∀ t, listOf H t v = none) :
    ∀ (f : Nat) (t : Ty) (x : El t) (r : List AV), typed H f t [v] = some (x, r) → r = [v] := by
  intro f
  induction f with
  | zero => intro t x r h; simp [typed] at h
  | succ f ih =>
    intro t x r h
    cases t with
    | unit => simp only [typed] at h; cases h; rfl
    | int k =>
      cases v <;> first | exact absurd rfl (h1 _ _) | exact absurd rfl (h2 _) | (simp [typed] at h)
    | bool => cases v <;> first | exact absurd rfl (h1 _ _) | exact absurd rfl (h2 _) | (simp [typed] at h)
    | str => cases v <;> first | exact absurd rfl (h1 _ _) | exact absurd rfl (h2 _) | (simp [typed] at h)
    | sl t => cases v <;> first | exact absurd rfl (h1 _ _) | exact absurd rfl (h2 _) | (simp only [typed, h3] at h; cases h)
    | rc c =>
      have h : (typed H f c.fields [v]).map (fun (x, r) => (c.into x, r)) = some (x, r) := by
        cases v <;> first | exact absurd rfl (h1 _ _) | exact absurd rfl (h2 _) | (simpa only [typed] using h)
      obtain ⟨⟨y, r'⟩, g1, g2⟩ := opt_map h
      cases g2
      exact ih _ _ _ g1
    | pair t u =>
      have h : (typed H f t [v]).bind (fun (x, r) => (typed H f u r).map fun (y, r) => ((x, y), r)) = some (x, r) := by
        cases v <;> first | exact absurd rfl (h1 _ _) | exact absurd rfl (h2 _) | (simpa only [typed] using h)
      obtain ⟨⟨y, r'⟩, g1, g2⟩ := Option.bind_eq_some_iff.1 h
      have := ih _ _ _ g1
      subst this
      obtain ⟨⟨y', r''⟩, g3, g4⟩ := opt_map g2
      cases g4
      exact ih _ _ _ g3
    | arn n t => cases v <;> first | exact absurd rfl (h1 _ _) | exact absurd rfl (h2 _) | (simp [typed] at h)

theorem asTy_ne {H : Heap} {t : Ty} {v : AV} {x : El t} (h : asTy H t v = some x) : v ≠ .undef ∧ ∀ l, v ≠ .tup l := by
  have gen : ∀ v, asTy H t v = some x → (∀ t x, v ≠ .val t x) → (∀ l, v ≠ .st l) → (∀ t, listOf H t v = none) → False := by
    intro v h h1 h2 h3
    unfold asTy at h
    split at h
    · split at h
      · rename_i y hy
        have := typed_junk h1 h2 h3 _ _ _ _ hy
        cases this
      · cases h
    · cases h
  constructor
  · rintro rfl; exact gen _ h (by simp) (by simp) (fun _ => rfl)
  · rintro l rfl; exact gen _ h (by simp) (by simp) (fun _ => rfl)

/-- a typed value's cells -/
theorem R1v.cells {t : Ty} {x : El t} {v : Value} (h : R1v w Z t x v) : Reps w Z t x v.cells.toList := by
  unfold R1v at h
  split at h
  · obtain ⟨us, rfl, h⟩ := h; simpa [Value.cells] using h
  · have := h.one v (by simp)
    have e : v.cells.toList = [v] := by cases v <;> first | rfl | (simp [Value.oneCell'] at this)
    rw [e]; exact h

theorem Zup_mono {l m : List Nat} (h : ∀ o, o ∈ l → o ∈ m) : ∀ b, Zup pl Z H l b → Zup pl Z H m b := fun _ hb => Zup.sub h hb

/-- a literal's elements go in side by side -/
theorem lit_fill (hg : ∀ o c, Hr o = .live c → OB P B pl Z w (pl o) c) {t : Ty} (hav : ∀ x, AVn P B pl Z w (ev T g x) (a.eval x)) {V : List Nat} : ∀ (L : List (Nat × Operand)) (n : Nat) (l : List (El t)) (cells : Array Value),
    litL Hr t n (L.map fun (i, x) => (i, ev T g x)) = some l → (∀ i x o, (i, x) ∈ L → o ∈ (ev T g x).vecs → o ∈ V) → (n + l.length) * csize t ≤ cells.size →
    ∃ r, Instr.fill (fun i => some (i * csize t, csize t)) cells (L.map fun (i, x) => (i, a.eval x)) = some r ∧ r.size = cells.size ∧ (∀ p, p < n * csize t → r[p]? = cells[p]?) ∧
      Elts w (Zup pl Z Hr V) t l r (n * csize t) := by
  intro L
  induction L with
  | nil =>
    intro n l cells h _ _
    simp only [List.map_nil, litL, Option.some.injEq] at h
    subst h
    exact ⟨cells, rfl, rfl, fun _ _ => rfl, fun k x hk => by simp at hk⟩
  | cons p L ih =>
    obtain ⟨i, x⟩ := p
    intro n l cells h hV hsz
    simp only [List.map_cons, litL] at h
    split at h
    case isFalse => cases h
    rename_i hi
    subst hi
    obtain ⟨y, h1, h2⟩ := Option.bind_eq_some_iff.1 h
    obtain ⟨l', h3, h4⟩ := opt_map h2
    subst h4
    have hne := asTy_ne h1
    have hr := (asTy_1 hg h1 ((hav x).to1 hne.1 hne.2)).cells
    have hr' : Reps w (Zup pl Z Hr V) t y (a.eval x).cells.toList := hr.mono' fun b hb => ⟨Zup.sub (fun o ho => hV i x o (by simp) ho) hb, rfl⟩
    have hl := hr.len
    have hm : (i + (l'.length + 1)) * csize t = i * csize t + csize t + l'.length * csize t := by simp only [Nat.add_mul, Nat.one_mul]; omega
    have hm1 : (i + 1) * csize t = i * csize t + csize t := by simp only [Nat.add_mul, Nat.one_mul]
    rw [List.length_cons, hm] at hsz
    have hs1 : (cells.toList.take (i * csize t) ++ (a.eval x).cells.toList ++ cells.toList.drop (i * csize t + (a.eval x).cells.toList.length)).toArray.size = cells.size := by
      simp only [List.size_toArray, List.length_append, List.length_take, List.length_drop, hl, Array.length_toList]
      omega
    obtain ⟨r, r1, r2, r3, r4⟩ := ih (i + 1) l' (cells.toList.take (i * csize t) ++ (a.eval x).cells.toList ++ cells.toList.drop (i * csize t + (a.eval x).cells.toList.length)).toArray h3
      (fun j z o hj ho => hV j z o (List.mem_cons_of_mem _ hj) ho) (by rw [hs1, Nat.add_mul, hm1]; omega)
    refine ⟨r, ?_, by rw [r2, hs1], fun p hp => ?_, fun k z hk => ?_⟩
    · rw [List.map_cons, fill_cons (off := i * csize t) (size := csize t) rfl (by simpa using hl) (by omega)]
      exact r1
    · rw [r3 p (by omega), List.getElem?_toArray, splice_get _ _ _ (by rw [hl]; simp; omega), if_pos hp]
      simp
    · cases k with
      | zero =>
        simp only [List.getElem?_cons_zero, Option.some.injEq] at hk
        subst hk
        refine ⟨(a.eval x).cells.toList, hl, fun j hj => ?_, hr'⟩
        rw [Nat.zero_mul, Nat.add_zero, r3 _ (by omega), List.getElem?_toArray, splice_get _ _ _ (by rw [hl]; simp; omega), if_neg (by omega), if_pos (by omega)]
        congr 1; omega
      | succ k =>
        rw [List.getElem?_cons_succ] at hk
        obtain ⟨us, u1, u2, u3⟩ := r4 k z hk
        refine ⟨us, u1, fun j hj => ?_, u3⟩
        rw [← u2 j hj, hm1]
        congr 1
        simp only [Nat.add_mul, Nat.one_mul]; omega

theorem ty_size (hT : TOK P tb) {e : Nat} {ei : TI} {ty : Ty} (he : tb.get e = some ei) (hety : ei.ty = some ty) : ei.size = csize ty := by
  obtain ⟨_, _, _, z4, _⟩ := TI.zero_sound (P := P) (B := ⟨default, fun _ => False, fun _ => False, fun _ => false⟩) (pl := fun _ => .box 0) (Z := fun _ => False) (w := default) (hT.good e ei he)
  have := (Reps.zero (w := default) (Z := fun _ => False) ty).len
  rw [← z4, hT.zty e ei ty he hety, this]

end
end A
end Go.Proofs.Ythgnjimpakpkjaa
namespace Go.Proofs.Ythgnjimpakpkjaa
namespace A
section
variable {P : Program} {B : Base} {tb : Tab} {H Hr : Heap} {pl : Nat → Place} {Z : Nat → Prop} {w w' : World} {T : Nat → AV} {a : Act} {g : Option (Nat × Bool)} {d : Nat}

theorem AV.vecs_refs : ∀ (v : AV) (o : Nat), o ∈ v.vecs → o ∈ v.refs
  | .vec _, _, h | .view _ _ _ _ _, _, h => h
  | .cons a b, o, h => by
    rcases List.mem_append.1 h with h | h
    · exact List.mem_append.2 (.inl (AV.vecs_refs a o h))
    · exact List.mem_append.2 (.inr (AV.vecs_refs b o h))
  | .st l, o, h => AV.vecs_refs l o h
  | .tup l, o, h => AV.vecs_refs l o h
  | .iface _ v, o, h => AV.vecs_refs v o h
  | .whn _ _ v, o, h => AV.vecs_refs v o h
  | .undef, _, h | .unit, _, h | .val _ _, _, h | .valc _ _, _, h | .nils, _, h | .ref _ _, _, h | .refi _ _ _ _ _, _, h | .rop _ _, _, h | .nilp, _, h | .nilf, _, h | .nili, _, h
  | .fn _ _, _, h | .fnp1 _ _ _ _, _, h | .fnp2 _ _ _ _ _, _, h | .own _ _, _, h => by simp [AV.vecs] at h

theorem Elts.arn {t : Ty} {l : List (El t)} {arr : Array Value} {n : Nat} (h : Elts w Z t l arr 0) (hl : l.length = n) (hs : arr.size = n * csize t) : Reps w Z (.arn n t) l arr.toList := by
  refine Reps.arn_iff.2 ⟨hl, by simpa using hs, fun k x hx => ?_⟩
  obtain ⟨us', b1, b2, b3⟩ := h k x hx
  have hkl : k < n := by
    rw [← hl]
    by_cases hk : k < l.length
    · exact hk
    · rw [List.getElem?_eq_none (by omega)] at hx; cases hx
  have hkb : (k + 1) * csize t ≤ n * csize t := Nat.mul_le_mul_right _ (by omega)
  rw [Nat.add_mul, Nat.one_mul] at hkb
  have : (arr.toList.drop (k * csize t)).take (csize t) = us' := by
    apply List.ext_getElem?
    intro j
    by_cases hj : j < csize t
    · rw [List.getElem?_take_of_lt hj, List.getElem?_drop]
      have := b2 j hj
      rw [Nat.zero_add] at this
      rw [← this]; simp
    · rw [List.getElem?_eq_none (by rw [List.length_take]; omega), List.getElem?_eq_none (by omega)]
  rw [this]
  exact b3

theorem R1v.av {t : Ty} {x : El t} {v : Value} (h : R1v w Z t x v) : AVn P B pl Z w (.val t x) v := AVn.of1 (by unfold AV1; unfold R1v at h; exact h)

theorem partsEv_eq (T : Nat → AV) (g : Option (Nat × Bool)) (ps : Array (Nat × Operand)) : partsEv T g ps = ps.toList.map fun (i, x) => (i, ev T g x) := rfl

/-- the table's row of an element -/
theorem ty_info (hT : TOK P tb) {e : Nat} {ty : Ty} (hty : tb.ty e = some ty) : ∃ ei f, tb.get e = some ei ∧ P.info? e = some f ∧ f.size = csize ty ∧ f.zero = some ei.zval ∧ f.bytes ≤ 32768 ∧ ei.zval.cells.toList = zcells ty := by
  obtain ⟨ei, he, hety⟩ := Option.bind_eq_some_iff.1 hty
  have he : tb.get e = some ei := he
  obtain ⟨f, hf, f1, f2, f3⟩ := hT.info e ei he
  have hgood := hT.good e ei he
  have hby : ei.bytes ≤ 32768 := by
    unfold TI.good at hgood
    simp only [Bool.and_eq_true, decide_eq_true_eq] at hgood
    exact hgood.1.2
  obtain ⟨_, _, _, _, _, z6⟩ := TI.zero_sound (P := P) (B := ⟨default, fun _ => False, fun _ => False, fun _ => false⟩) (pl := fun _ => .box 0) (Z := fun _ => False) (w := default) hgood
  exact ⟨ei, f, he, hf, by rw [f1]; exact ty_size hT he hety, f3, by omega, by rw [z6]; exact hT.zty e ei ty he hety⟩

theorem run_buildSlice' (w : World) (t e : TypeId) (len : Nat) (parts : Array (Nat × Value)) (ie : TypeInfo) (z : Value) (hu : P.underlying t = some (.slice e)) (hie : P.info? e = some ie) (hz : ie.zero = some z)
    (hsmall : len * ie.size ≤ 16777216) {Φ : Array Value → Prop} (h : ∀ cells : Array Value, cells.size = len * ie.size → ∃ r, Instr.fill (fun i => some (i * ie.size, ie.size)) cells parts.toList = some r ∧ Φ r) :
    ∃ r, (Instr.buildSlice t len parts).run P w = .ok (.slice (some ⟨w.heap.size, 0, none⟩) len len) (w.alloc (.cells r e)) ∧ Φ r := by
  have hs : ¬ len * ie.size > 2 ^ 24 := by omega
  by_cases h0 : len * ie.size = 0
  · obtain ⟨r, h1, h2⟩ := h #[] (by simp [h0])
    refine ⟨r, ?_, h2⟩
    simp [Instr.buildSlice, run_underlying hu, sizeOf, typeInfo, hie, h0, h1, newRow, Array.range_zero']
  · obtain ⟨r, h1, h2⟩ := h ((Array.range (len * ie.size)).map (z.cells[· % z.cells.size]!)) (by simp)
    exact ⟨r, run_buildSlice w t e len parts r ie z hu hie hz hs h0 h1, h2⟩

theorem kills_eq (L : List (Nat × AV)) : (L.flatMap fun (_, v) => v.vecs.map fun o => (o, Obj.dead)) = (L.flatMap fun (_, v) => v.vecs).map fun o => (o, Obj.dead) := by
  induction L with
  | nil => rfl
  | cons p L ih => simp [List.flatMap_cons, ih]

theorem killL_free {V : List Nat} (hV : ∀ o, o ∈ V → isFree (H o) = false) {i : Nat} (hi : isFree (H i) = true) : isFree (killL H V i) = true := by
  rw [killL_get, if_neg]
  · exact hi
  · intro h; rw [hV i h] at hi; cases hi

/-- a slice literal -/
theorem lit_sound (hT : TOK P tb) (hg : GR P B pl Z w H) (hr : ∀ o, Hr o = H o ∨ Hr o = .free) (hfr : ∀ k, k < 16 → Hr (fam d k) = H (fam d k)) (hav : ∀ x, AVn P B pl Z w (ev T g x) (a.eval x))
    (hkn : ∀ x o, o ∈ (ev T g x).refs → isFree (H o) = false) {t e : Nat} {ti : TI} {ty : Ty} (ht : tb.get t = some ti) (hk : ti.k = .slice e) (hty : tb.ty e = some ty) {ps : Array (Nat × Operand)} {l : List (El ty)}
    (hl : litL Hr ty 0 (partsEv T g ps) = some l) (hro : newId Hr d ≠ none → ∀ o, o ∈ ((partsEv T g ps).flatMap fun (_, v) => v.vecs) → B.ro o = false) (hs : l.length < 1000) (hs2 : l.length * csize ty ≤ 16777216) :
    ∃ v w', (Instr.buildSlice t l.length (ps.map fun (i, x) => (i, a.eval x))).run P w = .ok v w' ∧
      (∀ i, newId Hr d = some i → Post P B H pl Z w ((partsEv T g ps).flatMap (fun (_, v) => v.vecs.map fun o => (o, .dead)) ++ [(i, .live (.val (.sl ty) l))]) (.vec i) v w') ∧
      ((partsEv T g ps).all (fun (_, v) => v.vecs.isEmpty) = true → Post P B H pl Z w [] (.val (.sl ty) l) v w') := by
  have hu := und_of hT ht
  rw [hk] at hu
  obtain ⟨ei, f, he, hf, f1, f3, f2, z6⟩ := ty_info hT hty
  have hlive : ∀ o v, Hr o = .live v → H o = .live v := fun o v h => by
    rcases hr o with h' | h'
    · rw [← h']; exact h
    · rw [h] at h'; cases h'
  have hob : ∀ o c, Hr o = .live c → OB P B pl Z w (pl o) c := fun o c ho => hg.ob o c (hlive o c ho)
  have hVm : ∀ i x o, (i, x) ∈ ps.toList → o ∈ (ev T g x).vecs → o ∈ (partsEv T g ps).flatMap fun (_, v) => v.vecs := by
    intro i x o hi ho
    rw [partsEv_eq, List.mem_flatMap]
    exact ⟨(i, ev T g x), List.mem_map.2 ⟨(i, x), hi, rfl⟩, ho⟩
  obtain ⟨r, h1, h2⟩ := run_buildSlice' (P := P) w t e l.length (ps.map fun (i, x) => (i, a.eval x)) f ei.zval hu hf f3 (by rw [f1]; exact hs2)
    (Φ := fun r => r.size = l.length * csize ty ∧ Elts w (Zup pl Z Hr ((partsEv T g ps).flatMap fun (_, v) => v.vecs)) ty l r 0) (fun cells hc => by
      rw [f1] at hc
      obtain ⟨r, r1, r2, _, r4⟩ := lit_fill hob hav ps.toList 0 l cells hl hVm (by rw [Nat.zero_add, hc]; exact Nat.le_refl _)
      refine ⟨r, ?_, by rw [r2, hc], by rwa [Nat.zero_mul] at r4⟩
      rw [f1, Array.toList_map]
      exact r1)
  obtain ⟨h2, h3⟩ := h2
  have hw : (w.alloc (.cells r e)).heap = w.heap.push (.cells r e) := rfl
  refine ⟨_, _, h1, fun i hi => ?_, fun hv => ?_⟩
  · have hVf : ∀ o, o ∈ ((partsEv T g ps).flatMap fun (_, v) => v.vecs) → isFree (H o) = false := by
      intro o ho
      obtain ⟨⟨j, v⟩, hp, hv⟩ := List.mem_flatMap.1 ho
      rw [partsEv_eq] at hp
      obtain ⟨⟨j', x⟩, _, hx⟩ := List.mem_map.1 hp
      cases hx
      exact hkn x o (AV.vecs_refs _ _ hv)
    rw [kills_eq]
    refine Post.killed hVf hlive ?_
    have hg1 := hg.publish hlive ((partsEv T g ps).flatMap fun (_, v) => v.vecs) (hro (by rw [hi]; simp))
    refine new_vec hg1 (killL_free hVf (newId_free hfr hi)) (Nat.le_refl _) (by unfold LIM; omega) h2 hw ⟨rfl, rfl⟩ ?_
    exact h3.mono' fun b hb => ⟨hb, push_old hw b (hg1.z b hb)⟩
  · have hV : ((partsEv T g ps).flatMap fun (_, v) => v.vecs) = [] := by
      rw [List.flatMap_eq_nil_iff]
      intro p hp
      have := List.all_eq_true.1 hv p hp
      simpa using this
    rw [hV, Zup.nil] at h3
    have hold : ∀ b, Z b → (Z b ∨ b = w.heap.size) ∧ (w.alloc (.cells r e)).heap[b]? = w.heap[b]? := fun b hb => ⟨.inl hb, push_old hw b (hg.z b hb)⟩
    refine ⟨pl, fun b => Z b ∨ b = w.heap.size, ?_, fun _ _ => rfl, hold, ?_, by simp [AV.refs], fun _ h => h⟩
    · refine hg.later (by rw [hw, Array.size_push]; omega) ⟨rfl, rfl⟩ (push_old hw) (fun _ h => .inl h) (fun b hb => hb.imp id (fun h => by omega)) (fun b hb => ?_)
      rw [hw, Array.size_push]
      rcases hb with hb | hb
      · exact Nat.lt_succ_of_lt (hg.z b hb)
      · omega
    · refine (AVn.s rfl (by simp) (by simp)).2 ?_
      refine Reps.sl_iff.2 ⟨some ⟨w.heap.size, 0, none⟩, l.length, rfl, Nat.le_refl _, by unfold LIM; omega, ?_⟩
      by_cases hc : l.length = 0
      · exact .inl hc
      · refine .inr ⟨w.heap.size, 0, r, rfl, .inr rfl, blk_of_heap (push_new hw), ?_⟩
        exact h3.mono' hold
end
end A
end Go.Proofs.Ythgnjimpakpkjaa
namespace Go.Proofs.Ythgnjimpakpkjaa
namespace A
section
variable {P : Program} {B : Base} {tb : Tab} {H Hr : Heap} {pl : Nat → Place} {Z : Nat → Prop} {w w' : World} {T : Nat → AV} {a : Act} {g : Option (Nat × Bool)} {d : Nat}

theorem fillL_sound {place place' : Nat → Option (Nat × Nat)} (hpl : ∀ i p, place i = some p → place' i = some p) (hav : ∀ x, AVn P B pl Z w (ev T g x) (a.eval x)) :
    ∀ (L : List (Nat × Operand)) (l l' : List AV) (cells : Array Value), fillL place l (L.map fun (i, x) => (i, ev T g x)) = some l' → AVl P B pl Z w l cells.toList →
    ∃ r, Instr.fill place' cells (L.map fun (i, x) => (i, a.eval x)) = some r ∧ AVl P B pl Z w l' r.toList ∧ ∀ o, o ∈ refsL l' → o ∈ refsL l ∨ ∃ i x, (i, x) ∈ L ∧ o ∈ (ev T g x).refs := by
  intro L
  induction L with
  | nil =>
    intro l l' cells h hl
    simp only [List.map_nil, fillL, Option.some.injEq] at h
    subst h
    exact ⟨cells, rfl, hl, fun o ho => .inl ho⟩
  | cons p L ih =>
    obtain ⟨i, x⟩ := p
    intro l l' cells h hl
    simp only [List.map_cons, fillL] at h
    split at h
    · cases h
    · rename_i off sz hp
      split at h
      case isFalse => cases h
      rename_i hc
      simp only [Bool.and_eq_true, decide_eq_true_eq] at hc
      obtain ⟨l1, h1, h2⟩ := Option.bind_eq_some_iff.1 h
      have hne := AV.cellular_ne hc.2
      have hx := ((hav x).to1 hne.1 hne.2).cells
      have hlen : (a.eval x).cells.toList.length = sz := by rw [AVs.length _ _ hx, hc.1]
      obtain ⟨k1, k2, k3⟩ := setL_sound _ _ _ _ _ _ _ _ h1 hl hx hlen
      have k2' : AVl P B pl Z w l1 (cells.toList.take off ++ (a.eval x).cells.toList ++ cells.toList.drop (off + (a.eval x).cells.toList.length)).toArray.toList := by
        rw [hlen, List.toList_toArray]; exact k2
      obtain ⟨r, r1, r2, r3⟩ := ih l1 l' _ h2 k2'
      refine ⟨r, ?_, r2, fun o ho => ?_⟩
      · rw [List.map_cons, fill_cons (hpl i _ hp) (by simpa using hlen) (by simpa using k1)]
        exact r1
      · rcases r3 o ho with h | ⟨j, y, hj, hy⟩
        · rcases k3 o h with h | h
          · exact .inr ⟨i, x, by simp, h⟩
          · exact .inl h
        · exact .inr ⟨j, y, List.mem_cons_of_mem _ hj, hy⟩

theorem places_of (hT : TOK P tb) : ∀ (fl : List Field), (∀ f, f ∈ fl → (tb.get f.type).isSome = true) → ∃ places : List (Nat × Nat), fl.mapM (fun f => (P.info? f.type).map fun i => (f.offset, i.size)) = some places ∧
    ∀ (i off ft : Nat) (fi : TI), (fl.map fun f => (f.offset, f.type))[i]? = some (off, ft) → tb.get ft = some fi → places[i]? = some (off, fi.size)
  | [], _ => ⟨[], by simp, fun i off ft fi h => by simp at h⟩
  | f :: fl, h => by
    obtain ⟨places, h1, h2⟩ := places_of hT fl (fun f hf => h f (List.mem_cons_of_mem _ hf))
    obtain ⟨fi, hfi⟩ := Option.isSome_iff_exists.1 (h f List.mem_cons_self)
    obtain ⟨q, hq, q1, _⟩ := hT.info f.type fi hfi
    refine ⟨(f.offset, fi.size) :: places, by simp [List.mapM_cons, hq, h1, q1], fun i off ft gi hi hg => ?_⟩
    cases i with
    | zero =>
      simp only [List.map_cons, List.getElem?_cons_zero, Option.some.injEq, Prod.mk.injEq] at hi
      obtain ⟨rfl, rfl⟩ := hi
      rw [hfi] at hg
      cases hg
      rfl
    | succ i =>
      rw [List.map_cons, List.getElem?_cons_succ] at hi
      rw [List.getElem?_cons_succ]
      exact h2 i off ft gi hi hg

theorem build_struct_sound (hT : TOK P tb) (hg : GR P B pl Z w H) (hlive : ∀ o v, Hr o = .live v → H o = .live v) (hav : ∀ x, AVn P B pl Z w (ev T g x) (a.eval x))
    (hkn : ∀ x o, o ∈ (ev T g x).refs → isFree (H o) = false) {t : Nat} {ti : TI} {fs : List (Nat × Nat)} (ht : tb.get t = some ti) (hk : ti.k = .struct fs) {ps : Array (Nat × Operand)} {e : Eff}
    (hall : fs.all (fun (_, ft) => (tb.get ft).isSome) = true)
    (h : (fillL (fun i => (fs[i]?).bind fun (off, ft) => (tb.get ft).map fun fi => (off, fi.size)) ti.zero.leaves (partsEv T g ps)).map (fun l =>
          let v := AV.st (.ofL l)
          match ti.ty with
          | some t => if v.vecs.isEmpty then (match asTy Hr t v with
            | some x => (⟨[], .val t x, []⟩ : Eff)
            | none => ⟨[], v, []⟩) else ⟨[], v, []⟩
          | none => ⟨[], v, []⟩) = some e) :
    ∃ v, (Instr.build t (ps.map fun (i, x) => (i, a.eval x))).run P w = .ok v w ∧ Post P B H pl Z w e.wr e.dst v w ∧ e.pre = [] := by
  have hu := und_of hT ht
  rw [hk] at hu
  obtain ⟨fl, hu, hfl⟩ := hu
  obtain ⟨f, hf, f1, f2, f3⟩ := hT.info t ti ht
  obtain ⟨z1, z2, z3, z4, z5, z6⟩ := TI.zero_sound (P := P) (B := B) (pl := pl) (Z := Z) (w := w) (hT.good t ti ht)
  have hagg : ti.agg = true := by unfold TI.agg; rw [hk]
  have hz : ti.zero = .st (.ofL (ti.zs.map ZL.av)) := by unfold TI.zero; rw [hagg]
  have hlv : ti.zero.leaves = ti.zs.map ZL.av := by rw [hz]; exact AV.toL_ofL _
  obtain ⟨l, h1, h2⟩ := opt_map h
  rw [hlv] at h1
  have hzl : AVl P B pl Z w (ti.zs.map ZL.av) ti.zval.cells.toList := by
    rw [z6]
    rw [hz] at z1
    exact (AVs.ofL _ _).1 z1.2
  obtain ⟨places, p1, p2⟩ := places_of hT fl.toList (fun f hf => by
    have : (f.offset, f.type) ∈ fs := by rw [← hfl]; exact List.mem_map.2 ⟨f, hf, rfl⟩
    exact List.all_eq_true.1 hall _ this)
  obtain ⟨r, r1, r2, r3⟩ := fillL_sound (place' := fun i => places.toArray[i]?) (fun i p hp => by
    obtain ⟨⟨off, ft⟩, q1, q2⟩ := Option.bind_eq_some_iff.1 hp
    obtain ⟨fi, q3, q4⟩ := opt_map q2
    subst q4
    rw [← hfl] at q1
    have := p2 i off ft fi q1 q3
    simpa using this) hav ps.toList _ l ti.zval.cells h1 hzl
  have hrun : (Instr.build t (ps.map fun (i, x) => (i, a.eval x))).run P w = .ok (.agg r) w := by
    refine run_build w t _ _ ?_
    unfold Program.built
    simp only [hf, hu, f3, p1]
    rw [Array.toList_map]
    exact r1
  have hst : AV1 P B pl Z w (.st (.ofL l)) (.agg r) := by
    unfold AV1
    rw [if_pos (show (AV.st (AV.ofL l)).isSt = true from rfl)]
    exact ⟨r.toList, by simp, AV.isList_ofL _, (AVs.ofL _ _).2 r2⟩
  have hrefs : ∀ o, o ∈ (AV.st (AV.ofL l)).refs → isFree (H o) = false := by
    intro o ho
    have ho : o ∈ refsL l := by rw [← refs_ofL]; exact ho
    rcases r3 o ho with h | ⟨i, x, _, hx⟩
    · rw [ZL.refsL] at h; cases h
    · exact hkn x o hx
  refine ⟨_, hrun, ?_⟩
  have hdef : Post P B H pl Z w [] (.st (.ofL l)) (.agg r) w := Post.pure hg (AVn.of1 hst) hrefs
  simp only at h2
  split at h2
  · rename_i ty hty
    split at h2
    · rename_i hv
      split at h2
      · rename_i y hy
        subst h2
        have hz : Zup pl Z Hr (AV.st (.ofL l)).vecs = Z := by
          have : (AV.st (.ofL l)).vecs = [] := by simpa using hv
          rw [this, Zup.nil]
        have hy1 := asTy_1 (fun o c ho => hg.ob o c (hlive o c ho)) hy hst
        rw [hz] at hy1
        exact ⟨Post.pure hg hy1.av (by simp [AV.refs]), rfl⟩
      · subst h2; exact ⟨hdef, rfl⟩
    · subst h2; exact ⟨hdef, rfl⟩
  · subst h2; exact ⟨hdef, rfl⟩

theorem build_array_sound (hT : TOK P tb) (hg : GR P B pl Z w H) (hlive : ∀ o v, Hr o = .live v → H o = .live v) (hav : ∀ x, AVn P B pl Z w (ev T g x) (a.eval x))
    {t n e : Nat} {ti : TI} {ty : Ty} (ht : tb.get t = some ti) (hk : ti.k = .array n e) (hty : tb.ty e = some ty) {ps : Array (Nat × Operand)} {l : List (El ty)}
    (hl : litL Hr ty 0 (partsEv T g ps) = some l) (hn : l.length = n) (hs : ti.size = n * csize ty) (hv : (partsEv T g ps).all (fun (_, v) => v.vecs.isEmpty) = true) :
    ∃ v, (Instr.build t (ps.map fun (i, x) => (i, a.eval x))).run P w = .ok v w ∧ Post P B H pl Z w [] (.val (.arn n ty) l) v w := by
  have hu := und_of hT ht
  rw [hk] at hu
  obtain ⟨f, hf, f1, f2, f3⟩ := hT.info t ti ht
  obtain ⟨ei, ef, he, hef, ef1, _⟩ := ty_info hT hty
  obtain ⟨z1, z2, z3, z4, z5, z6⟩ := TI.zero_sound (P := P) (B := B) (pl := pl) (Z := Z) (w := w) (hT.good t ti ht)
  have hcs : ti.zval.cells.size = n * csize ty := by rw [← hs, ← z4, ← z6]; simp
  obtain ⟨r, r1, r2, _, r4⟩ := lit_fill (V := []) (fun o c ho => hg.ob o c (hlive o c ho)) hav ps.toList 0 l ti.zval.cells hl (fun i x o hi ho => by
    have := List.all_eq_true.1 hv (i, ev T g x) (by rw [partsEv_eq]; exact List.mem_map.2 ⟨(i, x), hi, rfl⟩)
    have : (ev T g x).vecs = [] := by simpa using this
    rw [this] at ho; cases ho) (by rw [Nat.zero_add, hn, hcs]; exact Nat.le_refl _)
  rw [Nat.zero_mul, Zup.nil] at r4
  have hrun : (Instr.build t (ps.map fun (i, x) => (i, a.eval x))).run P w = .ok (.agg r) w := by
    refine run_build w t _ _ ?_
    unfold Program.built
    simp only [hf, hu, f3, hef]
    rw [ef1, Array.toList_map]
    exact r1
  refine ⟨_, hrun, Post.pure hg (AVn.of1 ?_) (by simp [AV.refs])⟩
  unfold AV1
  rw [if_pos (by simp [AV.isSt, isSt])]
  exact ⟨r.toList, by simp, r4.arn hn (by rw [r2, hcs])⟩
end
end A
end Go.Proofs.Ythgnjimpakpkjaa
namespace Go.Proofs.Ythgnjimpakpkjaa
namespace A
section
variable {P : Program} {B : Base} {tb : Tab} {H Hr : Heap} {pl : Nat → Place} {Z : Nat → Prop} {w w' : World} {T : Nat → AV} {a : Act} {g : Option (Nat × Bool)} {d : Nat}

theorem inR_len {n : Nat} (h : n < LIM) : inR .i64 (n : Int) := by
  unfold LIM at h
  exact ⟨by show (-9223372036854775808 : Int) ≤ _; omega, by show _ ≤ (9223372036854775807 : Int); omega⟩

theorem ba_size (s : List UInt8) : (⟨s.toArray⟩ : ByteArray).size = s.length := by simp [ByteArray.size]

theorem isSl_of {k : TK} {t : Ty} (h : isSl tb k t = true) : ∃ e, k = .slice e ∧ tb.ty e = some t := by
  unfold isSl at h
  split at h
  · exact ⟨_, rfl, by simpa using h⟩
  · cases h
theorem isAr_of {k : TK} {n : Nat} {t : Ty} (h : isAr tb k n t = true) : ∃ e, k = .array n e ∧ tb.ty e = some t := by
  unfold isAr at h
  split at h
  · simp only [Bool.and_eq_true, decide_eq_true_eq] at h
    obtain ⟨rfl, h⟩ := h
    exact ⟨_, rfl, h⟩
  · cases h
theorem isStr_of {k : TK} (h : isStr k = true) : k = .str := by
  unfold isStr at h
  split at h
  · rfl
  · cases h

theorem und_slice (hT : TOK P tb) {t e : Nat} {ti : TI} (ht : tb.get t = some ti) (hk : ti.k = .slice e) : P.underlying t = some (.slice e) := by
  have := und_of hT ht; rw [hk] at this; exact this
theorem und_array (hT : TOK P tb) {t n e : Nat} {ti : TI} (ht : tb.get t = some ti) (hk : ti.k = .array n e) : P.underlying t = some (.array n e) := by
  have := und_of hT ht; rw [hk] at this; exact this
theorem und_str (hT : TOK P tb) {t : Nat} {ti : TI} (ht : tb.get t = some ti) (hk : ti.k = .str) : P.underlying t = some .string := by
  have := und_of hT ht; rw [hk] at this; exact this

theorem Post.int (hg : GR P B pl Z w H) {n : Int} {k : IntKind} (h : inR k n) : Post P B H pl Z w [] (.val (.int k) n) (.int k n) w := Post.pure hg (AVn.mkInt h) (by simp [AV.refs])

/-- a list's object, looked at -/
theorem OB.sl {o : Nat} {t : Ty} {l : List (El t)} {a : Option Addr} {n cap : Nat} (h : OB P B pl Z w (.slc a n cap) (.val (.sl t) l)) : List.length (α := El t) l = n ∧ n ≤ cap ∧ n < LIM := ⟨h.1, h.2.1, h.2.2.1⟩

theorem len_sound (hT : TOK P tb) (hg : GR P B pl Z w H) (hr : ∀ o v, Hr o = .live v → H o = .live v) {t ty : Nat} {v : AV} {x : Value} {e : Eff} (hx : AVn P B pl Z w v x) (hk : seqT tb t Hr v = true) (h : lenEff Hr v = some e) :
    ∃ u, (Builtin.len_ #[t] ty #[x]).run P w = .ok u w ∧ Post P B H pl Z w e.wr e.dst u w := by
  unfold seqT at hk
  split at hk
  case h_2 => cases hk
  rename_i ti hti
  have sl : ∀ {e' : Nat} {a : Option Addr} {n c : Nat}, ti.k = .slice e' → (Builtin.len_ #[t] ty #[.slice a n c]).run P w = .ok (.int .i64 n) w := by
    intro e' a n c hk
    simp [Builtin.len_, run_underlying (und_slice hT hti hk), goInt]
  have slT : ∀ {t'}, isSl tb ti.k t' = true → ∃ e', ti.k = .slice e' := fun h => let ⟨e', h, _⟩ := isSl_of h; ⟨e', h⟩
  unfold lenEff at h
  split at h
  · rename_i t' l
    cases h
    obtain ⟨a, cap, hv, h1, h2, h3⟩ := Reps.sl_iff.1 ((AVn.s rfl (by simp) (by simp)).1 hx)
    cases hv
    obtain ⟨e', hk⟩ := slT hk
    exact ⟨_, sl hk, Post.int hg (inR_len h2)⟩
  · rename_i t' l
    cases h
    obtain ⟨a, hv, h1⟩ := (AVn.s rfl (by simp) (by simp)).1 hx
    cases hv
    obtain ⟨e', hk⟩ := slT hk
    obtain ⟨_, _, _, _, h2, _⟩ := Reps.sl_iff.1 h1
    exact ⟨_, sl hk, Post.int hg (inR_len h2)⟩
  · rename_i s
    cases h
    obtain ⟨rfl, hs⟩ := hx.str
    have hk := isStr_of hk
    refine ⟨.int .i64 (s.length : Int), ?_, Post.int hg (inR_len hs)⟩
    have hrun := run_len_string (P := P) w t ty ⟨s.toArray⟩ (und_str hT hti hk)
    rw [hrun, ba_size s]
    rfl
  · cases h
    obtain ⟨a, hv⟩ := (AVn.s rfl (by simp) (by simp)).1 hx
    cases hv
    have hk : (match ti.k with | .slice e => (tb.ty e).isSome | _ => false) = true := hk
    split at hk
    · rename_i hk'
      exact ⟨_, sl hk', Post.int hg (inR_len (n := 0) (by unfold LIM; omega))⟩
    · cases hk
  · rename_i o
    obtain ⟨a, n, cap, hp, hv⟩ := (AVn.s rfl (by simp) (by simp)).1 hx
    cases hv
    split at h
    · rename_i t' l ho
      cases h
      have hob := hg.ob o _ (hr _ _ ho)
      rw [hp] at hob
      obtain ⟨h1, h2, h3, _⟩ := hob
      have h1 : List.length (α := El t') l = n := h1
      simp only [seqOK, ho] at hk
      obtain ⟨e', hk⟩ := slT hk
      refine ⟨_, sl hk, ?_⟩
      show Post P B H pl Z w [] (.val I64 (List.length (α := El t') l : Int)) _ _
      rw [h1]
      exact Post.int hg (inR_len h3)
    · cases h
  · rename_i o m t' lo n
    obtain ⟨a, cap, hv, h1, h2, h3⟩ := (AVn.s rfl (by simp) (by simp)).1 hx
    cases hv
    obtain ⟨e', hk⟩ := slT hk
    split at h
    · split at h
      case isFalse => cases h
      rename_i hm hm2
      cases h
      cases hp : pl o with
      | slc a' n' c' => rw [hp] at h2; exact absurd h2.1 (by omega)
      | box b =>
        rw [hp] at h2
        exact ⟨_, sl hk, Post.int hg (inR_len (by have := h2.2; unfold LIM; omega))⟩
    · split at h
      · rename_i hm _ t2 l2 ho
        cases h
        have hob := hg.ob o _ (hr _ _ ho)
        cases hp : pl o with
        | box b => rw [hp] at h2; exact absurd h2.1 hm
        | slc a' n' c' =>
          rw [hp] at h2 hob
          exact ⟨_, sl hk, Post.int hg (inR_len (by have := h2.2; have := hob.2.2.1; omega))⟩
      · cases h
  · cases h
end
end A
end Go.Proofs.Ythgnjimpakpkjaa
namespace Go.Proofs.Ythgnjimpakpkjaa
namespace A
section
variable {P : Program} {B : Base} {tb : Tab} {H Hr : Heap} {pl : Nat → Place} {Z : Nat → Prop} {w w' : World} {T : Nat → AV} {a : Act} {g : Option (Nat × Bool)} {d : Nat}

def OptAV (P : Program) (B : Base) (pl : Nat → Place) (Z : Nat → Prop) (w : World) : Option AV → Option Value → Prop
  | none, none => True
  | some v, some x => AVn P B pl Z w v x
  | _, _ => False

theorem lo_cases {lo : Option AV} {lo' : Option Value} {A : Int} (h : loOf lo = some A) (hl : OptAV P B pl Z w lo lo') : (lo = none ∧ lo' = none ∧ A = 0) ∨ (∃ k, lo = some (.val (.int k) A) ∧ lo' = some (.int k A)) := by
  unfold loOf at h
  split at h
  · cases h
    cases lo' with
    | none => exact .inl ⟨rfl, rfl, rfl⟩
    | some x => exact hl.elim
  · rename_i k i
    cases h
    cases lo' with
    | none => exact hl.elim
    | some x => obtain ⟨rfl, _⟩ := AVn.int hl; exact .inr ⟨k, rfl, rfl⟩
  · cases h
theorem hi_cases {n : Nat} {lo : Option AV} {lo' : Option Value} {A : Int} (h : hiOf n lo = some A) (hl : OptAV P B pl Z w lo lo') : (lo = none ∧ lo' = none ∧ A = n) ∨ (∃ k, lo = some (.val (.int k) A) ∧ lo' = some (.int k A)) := by
  unfold hiOf at h
  split at h
  · cases h
    cases lo' with
    | none => exact .inl ⟨rfl, rfl, rfl⟩
    | some x => exact hl.elim
  · rename_i k i
    cases h
    cases lo' with
    | none => exact hl.elim
    | some x => obtain ⟨rfl, _⟩ := AVn.int hl; exact .inr ⟨k, rfl, rfl⟩
  · cases h

theorem bounds_run {isS : Bool} {len cap : Nat} {lo hi : Option AV} {lo' hi' : Option Value} {A C : Int} (h1 : loOf lo = some A) (h2 : hiOf len hi = some C) (hl : OptAV P B pl Z w lo lo') (hh : OptAV P B pl Z w hi hi')
    (g0 : 0 ≤ A) (g1 : A ≤ C) (g2 : C ≤ (len : Int)) (g3 : len ≤ cap) : (Instr.sliceBounds isS len cap lo' hi' none).run P w = .ok (A.toNat, C.toNat, cap) w := by
  have e : (C.toNat : Int) = C := Int.toNat_of_nonneg (by omega)
  have c0 : 0 ≤ C := by omega
  have c1 : C ≤ (cap : Int) := by omega
  rcases lo_cases h1 hl with ⟨_, rfl, rfl⟩ | ⟨k, _, rfl⟩ <;> rcases hi_cases h2 hh with ⟨_, rfl, rfl⟩ | ⟨k', _, rfl⟩ <;>
    simp_all [Instr.sliceBounds, run_sliceBound]

theorem bounds_run3 {isS : Bool} {len cap : Nat} {lo hi : Option AV} {lo' hi' : Option Value} {A C : Int} {km : IntKind} (h1 : loOf lo = some A) (h2 : hiOf len hi = some C) (hs : hi.isSome = true) (hl : OptAV P B pl Z w lo lo') (hh : OptAV P B pl Z w hi hi')
    (g0 : 0 ≤ A) (g1 : A ≤ C) (g2 : C ≤ (len : Int)) (g3 : len ≤ cap) : (Instr.sliceBounds isS len cap lo' hi' (some (.int km C))).run P w = .ok (A.toNat, C.toNat, C.toNat) w := by
  have e : (C.toNat : Int) = C := Int.toNat_of_nonneg (by omega)
  rcases hi_cases h2 hh with ⟨rfl, _, _⟩ | ⟨k', _, rfl⟩
  · cases hs
  · rcases lo_cases h1 hl with ⟨_, rfl, rfl⟩ | ⟨k, _, rfl⟩ <;>
    simp [Instr.sliceBounds, run_sliceBound, g0, g1, e, (by omega : 0 ≤ C), (by omega : C ≤ (cap : Int))]

theorem run_sliceAt_sl {t e n c : Nat} {f : TypeInfo} (ht : P.underlying t = some (.slice e)) (hf : P.info? e = some f) {ad : Option Addr} {lo hi mx : Option Value} {l h m : Nat}
    (hb : (Instr.sliceBounds true n c lo hi mx).run P w = .ok (l, h, m) w) : (Instr.sliceAt t (.slice ad n c) lo hi mx).run P w = .ok (sliced ad l h m f.size) w := by
  simp [Instr.sliceAt, Instr.slice, run_underlying ht, hb, sizeOf, typeInfo, hf, sliced]

theorem run_sliceAt_str {t : Nat} (ht : P.underlying t = some .string) {s : ByteArray} {lo hi : Option Value} {l h m : Nat}
    (hb : (Instr.sliceBounds false s.size s.size lo hi none).run P w = .ok (l, h, m) w) : (Instr.sliceAt t (.string s) lo hi none).run P w = .ok (.string (s.extract l h)) w := by
  simp [Instr.sliceAt, Instr.slice, run_underlying ht, hb]

theorem run_sliceAt_arr {t e n : Nat} {f : TypeInfo} (ht : P.underlying t = some (.array n e)) (hf : P.info? e = some f) {ad : Addr} {lo hi mx : Option Value} {l h m : Nat}
    (hb : (Instr.sliceBounds false n n lo hi mx).run P w = .ok (l, h, m) w) : (Instr.sliceAt t (.pointer (some ad)) lo hi mx).run P w = .ok (slicedAt ad l h m f.size) w := by
  simp [Instr.sliceAt, Instr.sureAddr, run_underlying ht, hb, sizeOf, typeInfo, hf, slicedAt]

theorem sliceL_length {α : Type} {l : List α} {A C : Int} (g2 : C ≤ (l.length : Int)) : (sliceL l A C).length = C.toNat - A.toNat := by
  unfold sliceL
  rw [List.length_drop, List.length_take]
  omega

theorem sliceL_match {α : Type} {l : List α} {lo hi : Option AV} {lo' hi' : Option Value} {A C : Int} (h1 : loOf lo = some A) (h2 : hiOf l.length hi = some C) (hl : OptAV P B pl Z w lo lo') (hh : OptAV P B pl Z w hi hi') :
    sliceM lo hi l A C = sliceL l A C := by
  rcases lo_cases h1 hl with ⟨rfl, _, rfl⟩ | ⟨k, rfl, _⟩ <;> rcases hi_cases h2 hh with ⟨rfl, _, rfl⟩ | ⟨k', rfl, _⟩ <;> simp [sliceL, sliceM]

/-- a part of a slice in immutable memory -/
theorem sliced_reps {t : Ty} {l : List (El t)} {ad : Option Addr} {cap : Nat} {A C : Int} (hn : l.length ≤ cap) (hl : l.length < LIM)
    (h : l.length = 0 ∨ ∃ b off c, ad = some ⟨b, off, none⟩ ∧ Z b ∧ blk w b = some c ∧ Elts w Z t l c off) (g0 : 0 ≤ A) (g1 : A ≤ C) (g2 : C ≤ (l.length : Int)) {m : Nat} (hm : C.toNat ≤ m) (hm2 : m ≤ cap) :
    Reps w Z (.sl t) (sliceL l A C) [sliced ad A.toNat C.toNat m (csize t)] := by
  have hlen := sliceL_length (l := l) (A := A) g2
  refine Reps.sl_iff.2 ⟨_, _, by unfold sliced; rw [hlen], by rw [hlen]; omega, by rw [hlen]; omega, ?_⟩
  by_cases h0 : (sliceL l A C).length = 0
  · exact .inl h0
  · rw [hlen] at h0
    rcases h with h | ⟨b, off, c, h1, h2, h3, h4⟩
    · omega
    · subst h1
      refine .inr ⟨b, off + A.toNat * csize t, c, ?_, h2, h3, ?_⟩
      · rw [if_neg (by omega)]
        simp [add_none]
      · exact (h4.take (k := C.toNat)).drop (k := A.toNat)

theorem extract_str (s : List UInt8) (i j : Nat) : (⟨s.toArray⟩ : ByteArray).extract i j = ⟨((s.take j).drop i).toArray⟩ := by
  apply ByteArray.ext
  simp [ByteArray.data_extract, List.extract_eq_take_drop, List.drop_take]

theorem slice_sound (hT : TOK P tb) (hg : GR P B pl Z w H) (hr : ∀ o v, Hr o = .live v → H o = .live v) (hfr : ∀ k, k < 16 → Hr (fam d k) = H (fam d k)) {v : AV} (hkn : ∀ o, o ∈ v.refs → isFree (H o) = false) {t : Nat} {x : Value} {lo hi mx : Option AV} {lo' hi' mx' : Option Value} {e : Eff}
    (hx : AVn P B pl Z w v x) (hlo : OptAV P B pl Z w lo lo') (hhi : OptAV P B pl Z w hi hi') (hmx : OptAV P B pl Z w mx mx') (hk : seqT tb t Hr v = true)
    (h : sliceEff Hr d v lo hi mx = some e) (hp : ∀ p, p ∈ e.pre → p) (hro : ∀ p, p ∈ e.wr → B.ro p.1 = false) : ∃ u, (Instr.sliceAt t x lo' hi' mx').run P w = .ok u w ∧ Post P B H pl Z w e.wr e.dst u w := by
  unfold seqT at hk
  split at hk
  case h_2 => cases hk
  rename_i ti hti
  have elt : ∀ {t'}, isSl tb ti.k t' = true → ∃ e' f, P.underlying t = some (.slice e') ∧ P.info? e' = some f ∧ f.size = csize t' := fun h => by
    obtain ⟨e', h1, h2⟩ := isSl_of h
    obtain ⟨_, f, _, hf, f1, _⟩ := ty_info hT h2
    exact ⟨e', f, und_slice hT hti h1, hf, f1⟩
  unfold sliceEff at h
  split at h
  · -- an immutable slice
    rename_i t' l
    obtain ⟨e', f, hu, hf, f1⟩ := elt hk
    obtain ⟨ad, cap, hv, q1, q2, q3⟩ := Reps.sl_iff.1 ((AVn.s rfl (by simp) (by simp)).1 hx)
    cases hv
    split at h
    case h_2 => cases h
    rename_i A C hA hC
    split at h
    · cases h
      obtain ⟨g0, g1, g2⟩ := hp _ (List.mem_singleton.2 rfl)
      cases mx' with
      | some _ => exact hmx.elim
      | none =>
        refine ⟨_, run_sliceAt_sl hu hf (bounds_run hA hC hlo hhi g0 g1 g2 q1), Post.pure hg (AVn.of1 ?_) (by simp [AV.refs])⟩
        rw [sliceL_match (α := El t') hA hC hlo hhi, f1]
        exact sliced_reps q1 q2 q3 g0 g1 g2 (by omega) (Nat.le_refl _)
    · rename_i km m
      split at h
      case isFalse => cases h
      rename_i hs
      cases h
      obtain ⟨g0, g1, gm, g2⟩ := hp _ (List.mem_singleton.2 rfl)
      subst gm
      cases mx' with
      | none => exact hmx.elim
      | some xm =>
        obtain ⟨rfl, _⟩ := AVn.int hmx
        have hlen := sliceL_length (l := (show List (El t') from l)) (A := A) g2
        have := sliced_reps (w := w) (Z := Z) (t := t') q1 q2 q3 g0 g1 g2 (Nat.le_refl C.toNat) (by omega)
        refine ⟨_, run_sliceAt_sl hu hf (bounds_run3 hA hC hs hlo hhi g0 g1 g2 q1), Post.pure hg (AVn.of1 ⟨(if C.toNat = A.toNat then ad else ad.map (·.add (A.toNat * f.size))), ?_, ?_⟩) (by simp [AV.refs])⟩
        · unfold sliced; rw [hlen]
        · rw [← f1] at this; exact this
    · cases h
  · -- a string
    rename_i s
    obtain ⟨rfl, hs⟩ := hx.str
    have hk := isStr_of hk
    split at h
    case h_2 => cases h
    rename_i A C hA hC
    cases h
    obtain ⟨g0, g1, g2⟩ := hp _ (List.mem_singleton.2 rfl)
    cases mx' with
    | some _ => exact hmx.elim
    | none =>
      have hsz := ba_size s
      refine ⟨_, run_sliceAt_str (und_str hT hti hk) (bounds_run hA (by rw [hsz]; exact hC) hlo hhi g0 g1 (by rw [hsz]; exact g2) (Nat.le_refl _)), ?_⟩
      rw [sliceL_match (α := UInt8) hA hC hlo hhi]
      have hlen := sliceL_length (l := (show List UInt8 from s)) (A := A) g2
      have h2 : Post P B H pl Z w [] (.val .str (sliceL (α := UInt8) s A C)) (.string ⟨List.toArray (α := UInt8) (sliceL (α := UInt8) s A C)⟩) w := Post.pure hg (AVn.mkStr (by rw [hlen]; omega)) (by simp [AV.refs])
      exact (congrArg (fun z => Post P B H pl Z w [] (.val .str (sliceL (α := UInt8) s A C)) (.string z) w) (extract_str s A.toNat C.toNat)).mpr h2
  · -- nil
    obtain ⟨ad, hv⟩ := (AVn.s rfl (by simp) (by simp)).1 hx
    cases hv
    have hk : (match ti.k with | .slice e => (tb.ty e).isSome | _ => false) = true := hk
    split at hk
    case h_2 => cases hk
    rename_i e' hk'
    obtain ⟨ty, hty⟩ := Option.isSome_iff_exists.1 hk
    obtain ⟨_, f, _, hf, f1, _⟩ := ty_info hT hty
    split at h
    case h_2 => cases h
    rename_i A C hA hC
    cases h
    obtain ⟨g0, g1⟩ := hp _ (List.mem_singleton.2 rfl)
    subst g0 g1
    cases mx' with
    | some _ => exact hmx.elim
    | none =>
      refine ⟨_, run_sliceAt_sl (und_slice hT hti hk') hf (bounds_run (len := 0) (cap := 0) hA hC hlo hhi (by omega) (by omega) (by omega) (by omega)), Post.pure hg ((AVn.s rfl (by simp) (by simp)).2 ⟨_, by unfold sliced; rfl⟩) (by simp [AV.refs])⟩
  · -- a vector
    rename_i o
    obtain ⟨ad, n, cap, hpo, hv⟩ := (AVn.s rfl (by simp) (by simp)).1 hx
    cases hv
    split at h
    case h_2 => cases h
    rename_i t' l ho
    simp only [seqOK, ho] at hk
    obtain ⟨e', f, hu, hf, f1⟩ := elt hk
    split at h
    case h_2 => cases h
    rename_i A C hA hC
    have hob := hg.ob o _ (hr _ _ ho)
    rw [hpo] at hob
    obtain ⟨k1, k2, k3, k4⟩ := hob
    have k1 : List.length (α := El t') l = n := k1
    cases mx' with
    | some _ => exact hmx.elim
    | none =>
    split at h
    · -- cut off at the end
      rename_i hlo0
      obtain ⟨i, hi, h⟩ := opt_map h
      cases h
      obtain ⟨g1, g2⟩ := hp _ (List.mem_singleton.2 rfl)
      rw [k1] at g2 hC
      have hA0 : A = 0 := by
        rcases lo_cases hA hlo with ⟨_, _, h⟩ | ⟨k, h, _⟩
        · exact h
        · rw [h] at hlo0; cases hlo0
      subst hA0
      have hifree := newId_free hfr hi
      have hio : i ≠ o := fun e => by rw [e, hr _ _ ho] at hifree; cases hifree
      have hkl := hg.kill o
      have hifree' : isFree (A.put H o .dead i) = true := by rw [put_other _ _ hio]; exact hifree
      have had : sliced ad (0 : Int).toNat C.toNat cap f.size = .slice ad C.toNat cap := by
        unfold sliced
        show Value.slice (if cap = 0 then ad else ad.map (·.add (0 * f.size))) (C.toNat - 0) (cap - 0) = _
        split
        · rfl
        · rcases k4 with k4 | ⟨b, arr, Tc, r1, _⟩
          · rename_i hne; exact absurd k4 hne
          · rw [r1]; simp [add_none]
      have hlen : (List.take C.toNat (show List (El t') from l)).length = C.toNat := by
        rw [List.length_take]
        have : (show List (El t') from l).length = n := k1
        omega
      refine ⟨_, run_sliceAt_sl hu hf (bounds_run hA hC hlo hhi (Int.le_refl _) g1 g2 k2), ?_⟩
      rw [had]
      refine ⟨updP pl i (.slc ad C.toNat cap), Z, ?_, updP_free hifree, fun b hb => ⟨hb, rfl⟩, (AVn.s rfl (by simp) (by simp)).2 ⟨_, _, _, updP_self _ _ _, rfl⟩, ?_, ?_⟩
      · show GR P B _ Z w (A.put (A.put H o .dead) i (.live (.val (.sl t') (List.take (α := El t') C.toNat l))))
        refine (hkl.place (updP_free hifree')).put ?_ (fun i' c' hi' hne b hb => ?_) (fun b hb => ?_) (fun o ho => by simp [AV.refs] at ho)
        · rw [updP_self]
          refine ⟨hlen, by omega, by omega, ?_⟩
          rcases k4 with k4 | ⟨b, arr, Tc, r1, r2, r3, r4, r5⟩
          · exact .inl k4
          · exact .inr ⟨b, arr, Tc, r1, r2, r3, r4, r5.take⟩
        · rw [updP_self] at hb
          rw [updP_other _ _ hne]
          by_cases e1 : i' = o
          · subst e1; rw [put_self] at hi'; cases hi'
          · rw [put_other _ _ e1] at hi'
            exact hg.dj o i' _ _ (hr _ _ ho) hi' (Ne.symm e1) b (by rw [hpo]; cases ad <;> exact hb)
        · rw [updP_self] at hb
          exact (hg.baw (hr _ _ ho) (hro (o, .dead) (by simp)) (by rw [hpo]; cases ad <;> exact hb)).imp id .inl
      · intro j hj
        have : j = i := by simpa [AV.refs] using hj
        subst this
        show isFree (A.put (A.put H o .dead) j (.live _) j) = false
        rw [put_self]; rfl
      · intro j hj
        exact free_put (H := A.put H o .dead) rfl j (free_put (H := H) rfl j hj)
    · cases h
      obtain ⟨g0, g1, g2⟩ := hp _ (List.mem_singleton.2 rfl)
      rw [k1] at g2 hC
      refine ⟨_, run_sliceAt_sl hu hf (bounds_run hA hC hlo hhi g0 g1 g2 k2), Post.pure hg ((AVn.s rfl (by simp) (by simp)).2 ?_) (fun i hi => hkn i hi)⟩
      refine ⟨_, _, by unfold sliced; rw [show (C - A).toNat = C.toNat - A.toNat by omega], by omega, by rw [hpo]; exact ⟨rfl, by omega⟩, ?_⟩
      by_cases h0 : (C - A).toNat = 0
      · exact .inl h0
      · rcases k4 with k4 | ⟨b, arr, Tc, r1, r2, r3, r4, r5⟩
        · omega
        · subst r1
          refine .inr ⟨b, by rw [hpo]; simp only [Place.block]; rw [if_neg (by omega)], ?_⟩
          rw [if_neg (by omega), f1]
          simp [add_none]
  · -- an array variable
    rename_i o
    obtain ⟨b, hpo, hv⟩ := (AVn.s rfl (by simp) (by simp)).1 hx
    cases hv
    split at h
    case h_2 => cases h
    rename_i n t' l ho
    simp only [seqOK, ho] at hk
    obtain ⟨e', hk', hty⟩ := isAr_of hk
    obtain ⟨_, f, _, hf, f1, _⟩ := ty_info hT hty
    split at h
    case h_2 => cases h
    rename_i A C hA hC
    split at h
    · cases h
    rename_i hn0
    cases h
    obtain ⟨g0, g1, g2⟩ := hp _ (List.mem_singleton.2 rfl)
    cases mx' with
    | some _ => exact hmx.elim
    | none =>
      refine ⟨_, run_sliceAt_arr (und_array hT hti hk') hf (bounds_run hA hC hlo hhi g0 g1 g2 (Nat.le_refl _)), Post.pure hg ((AVn.s rfl (by simp) (by simp)).2 ?_) (fun i hi => hkn i hi)⟩
      refine ⟨_, _, by unfold slicedAt; rw [show (C - A).toNat = C.toNat - A.toNat by omega], by omega, by rw [hpo]; exact ⟨by omega, by omega⟩, ?_⟩
      by_cases h0 : (C - A).toNat = 0
      · exact .inl h0
      · refine .inr ⟨b, by rw [hpo]; rfl, ?_⟩
        rw [if_neg (by omega), f1]
        simp [add_none]
  · cases h
end
end A
end Go.Proofs.Ythgnjimpakpkjaa
