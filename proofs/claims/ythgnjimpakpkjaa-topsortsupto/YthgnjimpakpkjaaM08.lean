/- Entering and leaving a law: arrays as arguments. -/
import Derived.Test.YthgnjimpakpkjaaM07
import Derived.Test.YthgnjimpakpkjaaM05
import Derived.Test.YthgnjimpakpkjaaM02
namespace Go.Proofs.Ythgnjimpakpkjaa
namespace A
open Go.ChangeShapes Go.WideShapes Go.ChangeAt Go.RowKit
section
variable {H : Type} {enc : TypeId × Value → H} {P : Program} {W W' : World} {tb : Tab}

theorem take_drop4 {a b c d : Value} : ([a, b, c, d].drop 0).take 1 = [a] ∧ ([a, b, c, d].drop 1).take 1 = [b] ∧ ([a, b, c, d].drop 2).take 1 = [c] ∧ ([a, b, c, d].drop 3).take 1 = [d] := ⟨rfl, rfl, rfl, rfl⟩
theorem four {α : Type} {l : List α} (h : l.length = 4) : ∃ a b c d, l = [a, b, c, d] := by
  match l, h with
  | [a, b, c, d], _ => exact ⟨a, b, c, d, rfl⟩
/-- the type of arrays -/
structure ArrT (P : Program) (tA tK tI tS tL : TypeId) : Prop where
  a : ∃ fl : Array Field, P.underlying tA = some (.struct fl) ∧ fl.toList.map (fun f => (f.offset, f.type)) = [(0, tK), (1, tS), (2, tS), (3, tL)]
  k : P.underlying tK = some (.int .i64)
  i : P.underlying tI = some (.int .i64)
  s : P.underlying tS = some (.slice tI)
  l : P.underlying tL = some (.slice tA)
  ca : P.cellsOf tA = 4
  ck : P.cellsOf tK = 1
  ci : P.cellsOf tI = 1
  cs : P.cellsOf tS = 1
  cl : P.cellsOf tL = 1
theorem fields4 {fl : Array Field} {l : List (Nat × Nat)} (h : fl.toList.map (fun f => (f.offset, f.type)) = l) {i : Nat} {o t : Nat} (hi : l[i]? = some (o, t)) : ∃ f, fl[i]? = some f ∧ f.offset = o ∧ f.type = t := by
  rw [← h, List.getElem?_map] at hi
  cases hf : fl.toList[i]? with
  | none => rw [hf] at hi; cases hi
  | some f =>
    rw [hf] at hi
    simp only [Option.map_some, Option.some.injEq, Prod.mk.injEq] at hi
    exact ⟨f, by rw [← hf, Array.getElem?_toList], hi.1, hi.2⟩
theorem Inn.arr {tA tK tI tS tL : TypeId} (hT : ArrT P tA tK tI tS tL) : ∀ n, Inn enc P W n tA (.rc .arr) := by
  intro n
  induction n using Nat.strongRecOn with
  | _ n ih =>
    intro cs d ps h hb
    obtain ⟨fl, hu, hf⟩ := hT.a
    obtain ⟨xs, m, rfl, hx, hlen, hxl, hxs⟩ := DataW.trod_struct hu h
    obtain ⟨rfl, rfl⟩ := Prod.mk.inj hx
    rw [hT.ca] at hlen
    obtain ⟨c0, c1, c2, c3, rfl⟩ := four hlen
    simp only [Rows.uptoBulk] at hb
    have hS : Inn enc P W m tS SI := by
      cases m with
      | zero => exact Inn.zero
      | succ m => exact Inn.slice hT.s hT.ci (by decide) (Inn.int hT.i)
    have hL : Inn enc P W m tL SA := by
      cases m with
      | zero => exact Inn.zero
      | succ m => exact Inn.slice hT.l hT.ca (by decide) (ih m (by omega))
    have part : ∀ (i o t : Nat) (u : Ty), ([(0, tK), (1, tS), (2, tS), (3, tL)] : List (Nat × Nat))[i]? = some (o, t) → Inn enc P W m t u → P.cellsOf t = 1 → ∃ x : El u, Reps W (fun b => b < W.heap.size) u x (([c0, c1, c2, c3].drop o).take 1) := by
      intro i o t u hi hI hc
      obtain ⟨f, hf1, rfl, rfl⟩ := fields4 hf hi
      have h1 := hxs i f hf1
      have hlt : i < xs.length := by
        rw [hxl]
        exact (Array.getElem?_eq_some_iff.1 hf1).1
      rw [hc, List.getElem?_eq_getElem hlt] at h1
      refine hI _ xs[i].1 xs[i].2 h1 ?_
      have := bulk_le (List.mem_map_of_mem (f := (·.1)) (List.getElem_mem hlt))
      omega
    obtain ⟨x0, h0⟩ := part 0 0 tK I64 rfl (Inn.int hT.k) hT.ck
    obtain ⟨x1, h1⟩ := part 1 1 tS SI rfl hS hT.cs
    obtain ⟨x2, h2⟩ := part 2 2 tS SI rfl hS hT.cs
    obtain ⟨x3, h3⟩ := part 3 3 tL SA rfl hL hT.cl
    exact ⟨Arr.mk x0 x1 x2 x3, Reps.rc_iff.2 (Reps.pair (a := I64) (b := .pair SI (.pair SI SA)) (x := (x0, x1, x2, x3)) h0 (Reps.pair (a := SI) (b := .pair SI SA) (x := (x1, x2, x3)) h1 (Reps.pair (a := SI) (b := SA) (x := (x2, x3)) h2 h3)))⟩
/-- one argument that is an array -/
theorem arr_arg {tA tK tI tS tL : TypeId} (hT : ArrT P tA tK tI tS tL) {base : Nat} {v : Value} {d : DataW H} {ps : List MemPlace} (hv : Value.okWide P W .any base tA v)
    (h : DataW.Trod enc P W 0 (fun _ => true) true tA v d ps) (hb : Rows.uptoBulk d ≤ 1048576) : ∃ y : Arr, ∀ (B : Base) (pl : Nat → Place), AV1 P B pl (fun b => b < W.heap.size) W (.val (.rc .arr) y) v := by
  obtain ⟨n, hn⟩ := h
  obtain ⟨y, hy⟩ := Inn.arr hT n _ _ _ hn hb
  obtain ⟨fl, hu, _⟩ := hT.a
  unfold Value.okWide at hv
  rw [hu] at hv
  obtain ⟨cs, rfl, _, _⟩ := hv
  exact ⟨y, fun _ _ => ⟨cs.toList, rfl, hy⟩⟩
/-- a world with no objects -/
theorem GR.none (W : World) (pl : Nat → Place) (ro : Nat → Bool) : GR P ⟨W, fun b => b < W.heap.size, fun _ => False, ro⟩ pl (fun b => b < W.heap.size) W (fun _ => .free) :=
  ⟨fun _ h => h, fun _ _ h => (by cases h), fun _ _ _ _ h => (by cases h), fun _ _ h => (by cases h), Nat.le_refl _, Io.refl _, fun _ _ _ => rfl, fun _ h => h, fun _ h => .inl h, fun _ _ h => (by cases h)⟩
/-- what a call leaves: the old blocks, the system -/
structure Left' (W W' : World) : Prop where
  io : Io W W'
  old : ∀ b, b < W.heap.size → W'.heap[b]? = W.heap[b]?
theorem Left'.kept (h : Left' W W') (may : MemPlace → Prop) : W.keptBut W' may := by
  refine ⟨h.io.1, h.io.2, fun i hi => ?_⟩
  rw [h.old i hi]
  split
  · rename_i e1 e2
    rw [e1] at e2
    cases e2
    exact ⟨rfl, rfl, rfl, fun _ _ => rfl⟩
  · rename_i e1 e2
    rw [e1] at e2
    cases e2
    exact .inr ⟨rfl, rfl⟩
  · rfl
theorem Left'.same (h : Left' W W') {p : MemPlace} (hp : p.block < W.heap.size) : W.sameAt W' p := by
  cases p with
  | cell b off => simp only [World.sameAt, World.cell?]; rw [h.old b hp]
  | map b => exact h.old b hp
/-- a law's result is true, and its arguments read as before -/
theorem post_true {f : Func} {s : ChangeSpec} {apart fresh : Bool} {args : Array Value} {ds gs : List (DataW H)} {before : List MemPlace} {tB : TypeId} (hB : P.underlying tB = some .bool)
    (hW : DataW.Whole enc P f.params.toList s.vars apart W args.toList ds gs before) (hl : Left' W W') (hrt : f.resultTypes = #[tB]) (hvars : s.vars = []) (hgs : gs = [])
    (hres : (s.fn H (ds ++ gs)).results = [.lit (.bool true)]) (hfa : (s.fn H (ds ++ gs)).args = ds) (hfv : (s.fn H (ds ++ gs)).vars = [])
    (hargs : ∀ sp : Nat → Bool, (∀ p ∈ before, sp p.block = true) → DataW.TrodAll enc P W' 0 sp true f.params.toList args.toList ds before) :
    s.post enc P f apart fresh false false W args (.bool true) W' := by
  have hold : ∀ p ∈ before, (fun b => decide (b < W.heap.size)) p.block = true := fun p hp => by simpa using hW.lt p hp
  have hr : ∀ (b : Nat) (sp : Nat → Bool) (hd : Bool), DataW.TrodAll enc P W' b sp hd f.resultTypes.toList ((Value.bool true).resultList f.resultTypes.size) (s.fn H (ds ++ gs)).results [] := fun b sp hd => by
    rw [hres, hrt]
    exact trodAll_cons_mk (shut_bool hB _) trodAll_mk0
  have hv0 : ∀ sp : Nat → Bool, DataW.TrodVars enc P W' sp s.vars (s.fn H (ds ++ gs)).vars [] := fun sp => by rw [hvars, hfv]; rfl
  exact ⟨ds, gs, before, [], before, [], hW, hr _ _ _, by rw [hfa]; exact hargs _ hold, hv0 _, hl.kept _, fun h => (by cases h)⟩
/-- what the calculus says of a law's call -/
theorem post_left {pl : Nat → Place} {ro : Nat → Bool} {wr : List (Nat × Obj)} {v : Value}
    (h : Post P ⟨W, fun b => b < W.heap.size, fun _ => False, ro⟩ (fun _ => .free) pl (fun b => b < W.heap.size) W wr (.val .bool true) v W') : v = .bool true ∧ Left' W W' := by
  obtain ⟨pl', Z', h1, _, _, h4, _⟩ := h
  have h4 : AV1 P _ pl' Z' W' (.val .bool true) v := h4
  have h5 : Reps W' Z' .bool true [v] := h4
  have h6 := Reps.bool_iff.1 h5
  exact ⟨by simpa using h6, h1.io, fun b hb => h1.old b hb (fun h => h)⟩
/-- from a specification to the call: one array -/
theorem calls1 {f : Nat} {e : Arr → Eff} (hS : Sat P f (sp1 (.rc .arr) e)) {y : Arr} (he : e y = ⟨[], .val .bool true, []⟩) {v : Value}
    (hv : ∀ B pl, AV1 P B pl (fun b => b < W.heap.size) W (.val (.rc .arr) y) v) : Calls P f #[v] W fun ex W' => ex = .returned (.bool true) ∧ Left' W W' := by
  have h := hS W (fun b => b < W.heap.size) (fun _ => False) (fun _ => .box 0) (fun _ => .free) [.val (.rc .arr) y] [v] ⟨[], .val .bool true, []⟩ (by rw [← he]; simp [sp1, castT]; rfl) (fun p hp => (by cases hp)) (GR.none W _ _) ⟨hv _ _, trivial⟩
    (fun a ha o ho => by rw [List.mem_singleton.1 ha] at ho; cases ho) (fun o ho => by cases ho)
  refine h.2.mono fun ex W' ⟨v', h1, h2⟩ => ?_
  obtain ⟨rfl, h3⟩ := post_left h2
  exact ⟨h1, h3⟩
/-- two arrays -/
theorem calls2 {f : Nat} {e : Arr → Arr → Eff} (hS : Sat P f (sp2 (.rc .arr) (.rc .arr) e)) {x y : Arr} (he : e x y = ⟨[], .val .bool true, []⟩) {u v : Value}
    (hu : ∀ B pl, AV1 P B pl (fun b => b < W.heap.size) W (.val (.rc .arr) x) u) (hv : ∀ B pl, AV1 P B pl (fun b => b < W.heap.size) W (.val (.rc .arr) y) v) : Calls P f #[u, v] W fun ex W' => ex = .returned (.bool true) ∧ Left' W W' := by
  have h := hS W (fun b => b < W.heap.size) (fun _ => False) (fun _ => .box 0) (fun _ => .free) [.val (.rc .arr) x, .val (.rc .arr) y] [u, v] ⟨[], .val .bool true, []⟩ (by rw [← he]; simp [sp2, castT]; rfl) (fun p hp => (by cases hp)) (GR.none W _ _) ⟨hu _ _, hv _ _, trivial⟩
    (fun a ha o ho => by
      simp only [List.mem_cons, List.not_mem_nil, or_false] at ha
      rcases ha with rfl | rfl <;> cases ho) (fun o ho => by cases ho)
  refine h.2.mono fun ex W' ⟨v', h1, h2⟩ => ?_
  obtain ⟨rfl, h3⟩ := post_left h2
  exact ⟨h1, h3⟩
end
/-- the type of arrays of this program -/
theorem arrT : ArrT Try.prog 26 22 3 23 24 where
  a := und_of tok (t := 26) (i := { k := .struct [(0, 22), (1, 23), (2, 23), (3, 24)], ty := some (.rc .arr), size := 4, bytes := 80, zs := [.tz (.int .i64), .nils, .nils, .nils] }) rfl
  k := by kernel_rfl
  i := by kernel_rfl
  s := by kernel_rfl
  l := by kernel_rfl
  ca := by kernel_rfl
  ck := by kernel_rfl
  ci := by kernel_rfl
  cs := by kernel_rfl
  cl := by kernel_rfl
theorem bool4 : Try.prog.underlying 4 = some .bool := by kernel_rfl
theorem laid : laidOutB Try.prog = true := by kernel_rfl
theorem own : ownKnob Try.prog.godebug = none := by kernel_rfl
theorem rec26 : Try.prog.readableRec 26 = true := by kernel_rfl
theorem size26 : 26 < Try.prog.types.size := of_decide_eq_true (by kernel_rfl)
end A
end Go.Proofs.Ythgnjimpakpkjaa
