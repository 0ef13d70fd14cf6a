/- The weakest preconditions over abstract states are sound. A function answers to its specification, if its code's weakest precondition holds. A function answers to its specification, if its code's weakest precondition holds: the theorem. Specifications: recursion, known heaps. What a program must be for this calculus; functions. Specifications of functions of typed values. What the functions compute: arrays, shapes. Verification conditions: arrays of the reference, shapes. The reference's functions of arrays. Specifications of functions that are handed functions. What the functions compute: arrays of the program. -/
import Derived.Test.YthgnjimpakpkjaaD04
import Derived.Scope
import Derived.ScopeJumps
import Derived.KernelRfl
import Derived.Test.YthgnjimpakpkjaaD02
namespace Go.Proofs.Ythgnjimpakpkjaa
namespace A
section
variable {P : Program} {B : Base} {tb : Tab} {G : Specs} {wk : List Nat} {wrap : Bool} {nt : Nat} {kp : Keep} {LA CA : Nat → Option (AState → Ann)}

/-- a loop, with a ghost -/
theorem wp_loop_ghost {γ : Type} {c : Code} {Q : Exit → Act → World → Prop} (I : γ → Act → World → Prop) (μ : γ → Nat) (round : ∀ p a w, I p a w → c.wp P (Exit.then (fun a' w' => ∃ p', I p' a' w' ∧ μ p' < μ p) Q) a w) {p : γ} {a : Act} {w : World} (h : I p a w) :
    (Code.loop c).wp P Q a w := by
  classical
  let E : Act → World → Nat → Prop := fun a w k => ∃ p, I p a w ∧ μ p = k
  have least : ∀ (k : Nat) (a : Act) (w : World), E a w k → ∃ k, E a w k ∧ ∀ j, E a w j → k ≤ j := by
    intro k
    induction k using Nat.strongRecOn with
    | _ k ih =>
      intro a w hk
      by_cases h : ∃ j, j < k ∧ E a w j
      · obtain ⟨j, hj, hE⟩ := h; exact ih j hj a w hE
      · exact ⟨k, hk, fun j hj => Nat.le_of_not_lt fun hlt => h ⟨j, hlt, hj⟩⟩
  let m : Act → World → Nat := fun a w => if h : ∃ k, E a w k ∧ ∀ j, E a w j → k ≤ j then h.choose else 0
  have hm : ∀ a w p, I p a w → ∃ p', I p' a w ∧ μ p' = m a w ∧ m a w ≤ μ p := fun a w p hp => by
    have hx := least _ a w ⟨p, hp, rfl⟩
    have e : m a w = hx.choose := dif_pos hx
    obtain ⟨⟨p', h1, h2⟩, h3⟩ := hx.choose_spec
    exact ⟨p', h1, by rw [e]; exact h2, by rw [e]; exact h3 _ ⟨p, hp, rfl⟩⟩
  refine wp_loop (fun a w => ∃ p, I p a w) m ⟨p, h⟩ fun a w ⟨p, hp⟩ => ?_
  obtain ⟨p', h1, h2, _⟩ := hm a w p hp
  refine wp_mono (round p' a w h1) fun e a' w' hq => ?_
  cases e with
  | normal =>
    obtain ⟨p2, h3, h4⟩ := hq
    obtain ⟨_, _, _, h5⟩ := hm a' w' p2 h3
    exact ⟨⟨p2, h3⟩, by omega⟩
  | exit id => exact hq
  | goto l => exact hq
  | ret => exact hq
  | panic ch => exact hq
  | outgrown => exact hq

/-- a scope with a label, with a ghost -/
theorem wp_scope_ghost {γ : Type} {c rest : Code} (l : Nat) {Q : Exit → Act → World → Prop} (I : γ → Act → World → Prop) (μ : γ → Nat) (hf : findLabel c l = some rest)
    (round : ∀ p a w, I p a w → rest.wp P (Exit.jump l (fun a' w' => ∃ p', I p' a' w' ∧ μ p' < μ p) Q) a w) {a : Act} {w : World} (first : c.wp P (Exit.jump l (fun a w => ∃ p, I p a w) Q) a w) :
    (Code.scope c).wp P Q a w := by
  classical
  let E : Act → World → Nat → Prop := fun a w k => ∃ p, I p a w ∧ μ p = k
  have least : ∀ (k : Nat) (a : Act) (w : World), E a w k → ∃ k, E a w k ∧ ∀ j, E a w j → k ≤ j := by
    intro k
    induction k using Nat.strongRecOn with
    | _ k ih =>
      intro a w hk
      by_cases h : ∃ j, j < k ∧ E a w j
      · obtain ⟨j, hj, hE⟩ := h; exact ih j hj a w hE
      · exact ⟨k, hk, fun j hj => Nat.le_of_not_lt fun hlt => h ⟨j, hlt, hj⟩⟩
  let m : Act → World → Nat := fun a w => if h : ∃ k, E a w k ∧ ∀ j, E a w j → k ≤ j then h.choose else 0
  have hm : ∀ a w p, I p a w → ∃ p', I p' a w ∧ μ p' = m a w ∧ m a w ≤ μ p := fun a w p hp => by
    have hx := least _ a w ⟨p, hp, rfl⟩
    have e : m a w = hx.choose := dif_pos hx
    obtain ⟨⟨p', h1, h2⟩, h3⟩ := hx.choose_spec
    exact ⟨p', h1, by rw [e]; exact h2, by rw [e]; exact h3 _ ⟨p, hp, rfl⟩⟩
  refine wp_scope_jumps l (fun a w => ∃ p, I p a w) m hf first fun a w ⟨p, hp⟩ => ?_
  obtain ⟨p', h1, h2, _⟩ := hm a w p hp
  refine wp_mono (round p' a w h1) fun e a' w' hq => ?_
  cases e with
  | goto l' =>
    obtain ⟨e1, p2, h3, h4⟩ := hq
    obtain ⟨_, _, _, h5⟩ := hm a' w' p2 h3
    exact ⟨e1, ⟨p2, h3⟩, by omega⟩
  | normal => exact hq
  | exit id => exact hq
  | ret => exact hq
  | panic ch => exact hq
  | outgrown => exact hq

theorem Rel.kns {T : Nat → AV} {H : Heap} {a : Act} {w : World} (h : Rel P B kp nt T H a w) : (∀ t o, o ∈ (T t).refs → isFree (H o) = false) ∧ (∀ o c, H o = .live c → ∀ o', o' ∈ c.refs → isFree (H o') = false) ∧ (∀ o, kp.fk o = true → isFree (H o) = false) :=
  let ⟨_, _, h, hk⟩ := h
  ⟨h.kn, h.gr.kn, fun o ho => (hk.p o ho).2⟩

theorem fitA_notW {H : Heap} {f : Nat} {v a : AV} {r : FitR} (h : fitA H f v a = some r) (n : Nat) : notW (openA n a).1 = true := by
  cases f with
  | zero => simp [fitA] at h
  | succ f =>
    cases a <;> first | rfl | (simp [fitA] at h)
theorem fitList_notW {H : Heap} : ∀ {vs avl : List AV} {r : FitR}, fitList H vs avl = some r → ∀ (n : Nat) (v : AV), v ∈ (openList n avl).1 → notW v = true
  | [], [], r, h, n, v, hv => by simp [openList] at hv
  | u :: vs, a :: avl, r, h, n, v, hv => by
    unfold fitList at h
    obtain ⟨x, hx, h⟩ := Option.bind_eq_some_iff.1 h
    obtain ⟨y, hy, e⟩ := opt_map h
    simp only [openList, List.mem_cons] at hv
    rcases hv with rfl | hv
    · exact fitA_notW hx n
    · exact fitList_notW hy _ v hv

theorem tv_mem {A : Ann} {n : Nat} {p : A.P} {t : Nat} {v : AV} (h : (A.tv n p).lookup t = some v) : t ∈ A.vk p ∧ v ∈ (A.opn n p).1 := by
  obtain ⟨i, h1, h2⟩ := lookup_zip _ _ t v h
  exact ⟨List.mem_of_getElem? h1, List.mem_of_getElem? h2⟩

theorem state_noW {A : Ann} {n : Nat} {s s' : AState} {tk ds : List Nat} {p : A.P} {r : FitR} (hs : NoW s.T) (h : A.fit s' p = some r) : NoW (A.state n s tk ds p).T := by
  intro t
  show notW (match (A.tv n p).lookup t with | some v => v | none => if ds.contains t then .undef else s.T t) = true
  split
  · rename_i v hv
    exact fitList_notW h n v (tv_mem hv).2
  · split
    · rfl
    · exact hs t

/-- the head's temporaries that are not mentioned -/
theorem state_T {A : Ann} {n : Nat} {s : AState} {tk ds : List Nat} {p : A.P} {t : Nat} (h1 : t ∉ A.vk p) (h2 : t ∉ ds) : (A.state n s tk ds p).T t = s.T t := by
  show (match (A.tv n p).lookup t with | some v => v | none => if ds.contains t then .undef else s.T t) = _
  split
  · rename_i v hv; exact absurd (tv_mem hv).1 h1
  · rw [if_neg (by simpa using h2)]
theorem ov_key {A : Ann} {n : Nat} {p : A.P} {q : Nat × Obj} (h : q ∈ A.ov n p) : q.1 ∈ A.ok p := (List.of_mem_zip h).1
/-- the head's objects that are not mentioned -/
theorem heap_out {A : Ann} {n : Nat} {s : AState} {tk : List Nat} {p : A.P} {o : Nat} (h1 : o ∉ A.ok p) (h2 : o ∉ A.ids n p) : A.heap n s tk p o = if o ∈ A.gone ++ tk then .dead else s.H o := by
  unfold Ann.heap
  rw [setH_append, setH_out _ _ o (fun q hq e => ?_)]
  · exact killL_get _ _ _
  · rcases List.mem_append.1 hq with hq | hq
    · exact h1 (e ▸ ov_key hq)
    · exact h2 (e ▸ List.mem_map.2 ⟨q, hq, rfl⟩)

theorem state_log {A : Ann} {n : Nat} {s0 s s' : AState} {tk ds lt lh : List Nat} {p : A.P} (hl : Log s0 s) (h : Log (A.state n s tk ds p) s') (hlt : lt = s'.lt ++ (A.lts ds p ++ s.lt)) (hlh : lh = s'.lh ++ (A.lhs n tk p ++ s.lh)) : Log s0 { s' with lt := lt, lh := lh } := by
  subst hlt
  subst hlh
  refine ⟨fun t ht => ?_, fun o ho => ?_⟩
  · simp only [Ann.lts, List.mem_append, not_or] at ht
    show s'.T t = _
    rw [h.t t ht.1, state_T ht.2.1.2 ht.2.1.1, hl.t t ht.2.2]
  · simp only [Ann.lhs, List.mem_append, not_or] at ho
    show s'.H o = _
    rw [h.h o ho.1]
    show A.heap n s tk p o = _
    rw [heap_out ho.2.1.2.2.1 ho.2.1.2.2.2, if_neg (by simp [ho.2.1.1, ho.2.1.2.1]), hl.h o ho.2.2]

theorem fits1_enter {A : Ann} {n : Nat} {s : AState} {ds : List Nat} {p : A.P} {a : Act} {w : World} (hB : B.ro = roOf wk) (hn : NoW s.T) (h : A.fits1 n wk s p) (hR : Rel P B kp nt s.T s.H a w) :
    Rel P B kp nt (A.state n s (A.taken s p) ds p).T (A.state n s (A.taken s p) ds p).H a w ∧ NoW (A.state n s (A.taken s p) ds p).T := by
  unfold Ann.fits1 at h
  split at h
  case h_2 => exact h.elim
  rename_i r hr
  split at h
  case isFalse => exact h.elim
  rename_i hc
  simp only [Bool.and_eq_true] at hc
  have htk : A.taken s p = r.taken := by unfold Ann.taken; rw [hr]
  refine ⟨Ann.enter hB hR hr h hc.1 hc.2 (fun _ _ _ => rfl) (fun o c ho h1 h2 => ?_) hR.kns.2.2 hR.kns.1 hR.kns.2.1, state_noW hn hr⟩
  rw [heap_out h1 h2] at ho
  split at ho
  · cases ho
  · rename_i hng
    simp only [List.mem_append, not_or] at hng
    exact ⟨ho, ho, by rw [← htk]; exact hng.2⟩

theorem fits2_enter {A : Ann} {n : Nat} {s s1 s' : AState} {tk ds : List Nat} {p : A.P} {a a0 : Act} {w w0 : World} (hB : B.ro = roOf wk) (hn : NoW s.T) (hR0 : Rel P B kp nt s.T s.H a0 w0) (h : A.fits2 n wk s tk ds s' p) (hl : Log s1 s')
    (h1 : ∀ t, t ∉ A.vk p → t ∉ ds → s1.T t = s.T t) (h2 : ∀ o, o ∉ A.ok p → o ∉ A.ids n p → o ∉ A.gone ++ tk → s1.H o = s.H o) (hR : Rel P B kp nt s'.T s'.H a w) :
    Rel P B kp nt (A.state n s tk ds p).T (A.state n s tk ds p).H a w ∧ NoW (A.state n s tk ds p).T := by
  unfold Ann.fits2 at h
  split at h
  case h_2 => exact h.elim
  rename_i r hr
  split at h
  case isFalse => exact h.elim
  rename_i hc
  simp only [Bool.and_eq_true] at hc
  obtain ⟨⟨⟨⟨c1, c2⟩, c3⟩, c4⟩, c5⟩ := hc
  simp only [List.all_eq_true, Bool.or_eq_true, List.contains_eq_mem, decide_eq_true_eq, Bool.not_eq_true'] at c3 c4 c5
  refine ⟨Ann.enter hB hR hr h c1 c2 (fun t ht hd => ?_) (fun o c ho hk hi => ?_) hR0.kns.2.2 hR0.kns.1 hR0.kns.2.1, state_noW hn hr⟩
  · have hd : t ∉ ds := by simpa using hd
    rw [hl.t t (fun hlt => by rcases c3 t hlt with h | h; exact hd h; exact ht h), h1 t ht hd]
  · have hheap := heap_out (A := A) (n := n) (s := s) (tk := tk) (p := p) hk hi
    rw [hheap] at ho
    split at ho
    · cases ho
    · rename_i hng
      have hlive : isLive (A.heap n s tk p o) = true := by rw [hheap, if_neg hng, ho]; rfl
      refine ⟨?_, ho, fun hm => ?_⟩
      · rw [hl.h o (fun hlh => ?_), h2 o hk hi hng]; exact ho
        rcases c4 o hlh with (h | h) | h
        · exact hk h
        · exact hi h
        · rw [hlive] at h; cases h
      · rcases c5 o hm with h | h
        · exact hi h
        · rw [hlive] at h; cases h

/-- scopes with a label behind two parts, and others -/
theorem scope_shape (b : Code) : (∃ c1 c2 l rest, b = .seq c1 (.seq c2 (.seq (.label l) rest))) ∨
    (∀ (tb : Tab) (G : Specs) (wrap : Bool) (wk : List Nat) (LA CA : Nat → Option (AState → Ann)) (Q : Exit → AState → Prop) (s : AState), wpA tb G wrap wk LA CA (.scope b) Q s = wpA tb G wrap wk LA CA b (fun e s' => match e with | .goto _ => False | e => Q e s') s) := by
  cases b with
  | seq c1 b2 =>
    cases b2 with
    | seq c2 b3 =>
      cases b3 with
      | seq c3 rest =>
        cases c3 with
        | label l => exact .inl ⟨c1, c2, l, rest, rfl⟩
        | _ => exact .inr fun _ _ _ _ _ _ _ _ => rfl
      | _ => exact .inr fun _ _ _ _ _ _ _ _ => rfl
    | _ => exact .inr fun _ _ _ _ _ _ _ _ => rfl
  | _ => exact .inr fun _ _ _ _ _ _ _ _ => rfl
theorem scope_eq (tb : Tab) (G : Specs) (wrap : Bool) (wk : List Nat) (LA CA : Nat → Option (AState → Ann)) (c1 c2 : Code) (l : Nat) (rest : Code) (Q : Exit → AState → Prop) (s : AState) :
    wpA tb G wrap wk LA CA (.scope (.seq c1 (.seq c2 (.seq (.label l) rest)))) Q s =
    wpA tb G wrap wk LA CA c1 (fun e s1 => match e with
      | .normal => wpA tb G wrap wk LA CA c2 (fun e s2 => match e with
        | .normal => (match LA (firstR rest) with
          | none => wpA tb G wrap wk LA CA rest (fun e s' => match e with | .goto _ => False | e => Q e s') s2
          | some A => if (findLabel c1 l).isNone && (findLabel c2 l).isNone then
            (∃ p, (A s2).inv p ∧ (A s2).fits1 (OWNB (2 * firstR rest)) wk s2 p) ∧
            ∀ p, (A s2).inv p → wpA tb G wrap wk LA CA rest (fun e s' => match e with
              | .goto l' => if l' = l then ∃ p', (A s2).inv p' ∧ (A s2).mea p' < (A s2).mea p ∧ (if (A s2).alike (OWNB (2 * firstR rest)) s2 p p' then
                  (A s2).fits2 (OWNB (2 * firstR rest)) wk s2 ((A s2).taken s2 p) (dsts rest) s' p' else False) else False
              | e => Q e { s' with lt := s'.lt ++ ((A s2).lts (dsts rest) p ++ s2.lt), lh := s'.lh ++ ((A s2).lhs (OWNB (2 * firstR rest)) ((A s2).taken s2 p) p ++ s2.lh) })
                ((A s2).state (OWNB (2 * firstR rest)) s2 ((A s2).taken s2 p) (dsts rest) p)
            else False)
        | .goto _ => False
        | e => Q e s2) s1
      | .goto _ => False
      | e => Q e s1) s := rfl

/-- the weakest preconditions over abstract states are sound -/
theorem wpA_sound (hT : TOK P tb) (hG : ∀ f sp, G.lookup f = some sp → Sat P f sp) (hB : B.ro = roOf wk) (hm : P.follows .mixedOrders = true) : ∀ (c : Code), (∀ d, d ∈ dsts c → d < nt) → ∀ (s0 s : AState) (Q : Exit → AState → Prop) (Q' : Exit → Act → World → Prop) (a : Act) (w : World),
    NoW s0.T → NoW s.T → Log s0 s → wpA tb G wrap wk LA CA c Q s → Rel P B kp nt s.T s.H a w →
    (∀ e s' a' w', Q e s' → Log s0 s' → NoW s'.T → Rel P B kp nt s'.T s'.H a' w' → Q' e a' w') → c.wp P Q' a w
  | .skip, _, s0, s, Q, Q', a, w, _, hn, hl, h, hR, hK => wp_skip (hK _ _ _ _ h hl hn hR)
  | .region id ops draw, hd, s0, s, Q, Q', a, w, h0, hn, hl, h, hR, hK => by
    have hd' : ∀ o, o ∈ ops.toList → ∀ d, o.dst = some d → d < nt := fun o ho d e => hd d (List.mem_filterMap.2 ⟨o, ho, e⟩)
    cases draw with
    | true =>
      have h : regD tb G wrap wk ops s (Q .normal) := h
      exact regD_sound hT hG hB hm (fun s a w hk hR => hK _ _ _ _ hk.1 hk.2.1 hk.2.2 hR) hd' (regD_log h0 hl hn h) hR
    | false =>
      have h : regA tb G wrap wk ops ops.toList s (Q .normal) := h
      exact wp_region_list (regA_sound hT hG hB (fun s a w hk hR => hK _ _ _ _ hk.1 hk.2.1 hk.2.2 hR) ops.toList s a w hd' (regA_log h0 ops.toList s (fun _ h => h) hl (fun _ => hn) h) hR)
  | .seq x y, hd, s0, s, Q, Q', a, w, h0, hn, hl, h, hR, hK => by
    have hdx : ∀ d, d ∈ dsts x → d < nt := fun d hx => hd d (List.mem_append_left _ hx)
    have hdy : ∀ d, d ∈ dsts y → d < nt := fun d hy => hd d (List.mem_append_right _ hy)
    unfold wpA at h
    refine wp_seq ?_
    split at h
    · refine wpA_sound hT hG hB hm x hdx s0 s _ _ a w h0 hn hl h hR fun e s' a' w' hq hl' hn' hR' => ?_
      cases e with
      | normal => exact wpA_sound hT hG hB hm y hdy s0 s' Q Q' a' w' h0 hn' hl' hq hR' hK
      | exit id => exact hK _ _ _ _ hq hl' hn' hR'
      | goto l => exact hK _ _ _ _ hq hl' hn' hR'
      | ret => exact hK _ _ _ _ hq hl' hn' hR'
      | panic ch => exact hK _ _ _ _ hq hl' hn' hR'
      | outgrown => exact hK _ _ _ _ hq hl' hn' hR'
    · rename_i A _
      obtain ⟨h1, h2⟩ := h
      have hout : ∀ (e : Exit) (s' : AState) (a' : Act) (w' : World), Q e { s' with lt := s'.lt ++ s.lt, lh := s'.lh ++ s.lh } → Log { s with lt := [], lh := [] } s' → NoW s'.T → Rel P B kp nt s'.T s'.H a' w' → Q' e a' w' := fun e s' a' w' hq hl' hn' hR' =>
        hK _ { s' with lt := s'.lt ++ s.lt, lh := s'.lh ++ s.lh } _ _ hq ⟨fun t ht => by
          simp only [List.mem_append, not_or] at ht
          show s'.T t = _
          rw [hl'.t t ht.1]; exact hl.t t ht.2, fun o ho => by
          simp only [List.mem_append, not_or] at ho
          show s'.H o = _
          rw [hl'.h o ho.1]; exact hl.h o ho.2⟩ hn' hR'
      refine wpA_sound hT hG hB hm x hdx { s with lt := [], lh := [] } { s with lt := [], lh := [] } _ _ a w hn hn (Log.refl _) h1 hR fun e s' a' w' hq hl' hn' hR' => ?_
      cases e with
      | normal =>
        obtain ⟨p, hi, hf⟩ := hq
        obtain ⟨hR2, hn2⟩ := fits2_enter hB hn hR hf hl' (fun _ _ _ => rfl) (fun _ _ _ _ => rfl) hR'
        exact wpA_sound hT hG hB hm y hdy s0 { (A s).state (OWNB (2 * firstR y + 1)) s [] (dsts x) p with lt := (A s).lts (dsts x) p ++ s.lt, lh := (A s).lhs (OWNB (2 * firstR y + 1)) [] p ++ s.lh } Q Q' a' w' h0 hn2 (state_log hl (s' := (A s).state _ s [] (dsts x) p) (Log.refl _) rfl rfl) (h2 p hi) hR2 hK
      | exit id => exact hout _ _ _ _ hq hl' hn' hR'
      | goto l => exact hout _ _ _ _ hq hl' hn' hR'
      | ret => exact hout _ _ _ _ hq hl' hn' hR'
      | panic ch => exact hout _ _ _ _ hq hl' hn' hR'
      | outgrown => exact hout _ _ _ _ hq hl' hn' hR'
  | .cond c x y, hd, s0, s, Q, Q', a, w, h0, hn, hl, h, hR, hK => by
    unfold wpA at h
    split at h
    case h_2 => exact h.elim
    rename_i v hv
    have hc : a.eval c = .bool v := by
      obtain ⟨pl, Z, hR, _⟩ := hR
      have := ev_sound hR.av (g := none) (fun _ _ h => by cases h) c
      rw [hv] at this
      exact AVn.bool this
    exact wp_cond_split hc (fun ht => wpA_sound hT hG hB hm x (fun d hx => hd d (List.mem_append_left _ hx)) s0 s Q Q' a w h0 hn hl (h.1 ht) hR hK)
      (fun hf => wpA_sound hT hG hB hm y (fun d hy => hd d (List.mem_append_right _ hy)) s0 s Q Q' a w h0 hn hl (h.2 hf) hR hK)
  | .block id b, hd, s0, s, Q, Q', a, w, h0, hn, hl, h, hR, hK => by
    refine wp_block (wpA_sound hT hG hB hm b hd s0 s _ _ a w h0 hn hl h hR fun e s' a' w' hq hl' hn' hR' => ?_)
    cases e with
    | normal => exact hK _ _ _ _ hq hl' hn' hR'
    | exit i =>
      have hq : (if i = id then Q .normal s' else Q (.exit i) s') := hq
      show (if i = id then Q' .normal a' w' else Q' (.exit i) a' w')
      split
      · rename_i e; rw [if_pos e] at hq; exact hK _ _ _ _ hq hl' hn' hR'
      · rename_i e; rw [if_neg e] at hq; exact hK _ _ _ _ hq hl' hn' hR'
    | goto l => exact hK _ _ _ _ hq hl' hn' hR'
    | ret => exact hK _ _ _ _ hq hl' hn' hR'
    | panic ch => exact hK _ _ _ _ hq hl' hn' hR'
    | outgrown => exact hK _ _ _ _ hq hl' hn' hR'
  | .loop b, hd, s0, s, Q, Q', a, w, h0, hn, hl, h, hR, hK => by
    unfold wpA at h
    split at h
    · exact h.elim
    rename_i A _
    obtain ⟨⟨p0, hi0, hf0⟩, h2⟩ := h
    refine wp_loop_ghost (γ := (A s).P) (fun p a w => (A s).inv p ∧ NoW ((A s).state (OWNB (2 * firstR b)) s ((A s).taken s p) (dsts b) p).T ∧ Rel P B kp nt ((A s).state (OWNB (2 * firstR b)) s ((A s).taken s p) (dsts b) p).T ((A s).state (OWNB (2 * firstR b)) s ((A s).taken s p) (dsts b) p).H a w)
      (A s).mea ?_ (p := p0) ?_
    · rintro p a' w' ⟨hi, hnp, hRp⟩
      refine wpA_sound hT hG hB hm b hd ((A s).state (OWNB (2 * firstR b)) s ((A s).taken s p) (dsts b) p) ((A s).state (OWNB (2 * firstR b)) s ((A s).taken s p) (dsts b) p) _ _ a' w' hnp hnp (Log.refl _) (h2 p hi) hRp fun e s' a2 w2 hq hl' hn' hR' => ?_
      cases e with
      | normal =>
        obtain ⟨p', hi', hlt, hf⟩ := hq
        split at hf
        case isFalse => exact hf.elim
        rename_i hal
        simp only [Ann.alike, Bool.and_eq_true, beq_iff_eq] at hal
        obtain ⟨⟨⟨a1, a2'⟩, a3⟩, a4⟩ := hal
        obtain ⟨hR2, hn2⟩ := fits2_enter hB hn hR hf hl' (fun t h1 h2 => state_T (by rw [a1]; exact h1) h2) (fun o h1 h2 h3 => by
          show (A s).heap _ s _ p o = _
          rw [heap_out (by rw [a2']; exact h1) (by rw [a3]; exact h2), if_neg h3]) hR'
        rw [a4] at hR2 hn2
        exact ⟨p', ⟨hi', hn2, hR2⟩, hlt⟩
      | exit id => exact hK _ _ _ _ hq (state_log hl hl' rfl rfl) hn' hR'
      | goto l => exact hK _ _ _ _ hq (state_log hl hl' rfl rfl) hn' hR'
      | ret => exact hK _ _ _ _ hq (state_log hl hl' rfl rfl) hn' hR'
      | panic ch => exact hK _ _ _ _ hq (state_log hl hl' rfl rfl) hn' hR'
      | outgrown => exact hK _ _ _ _ hq (state_log hl hl' rfl rfl) hn' hR'
    · obtain ⟨g1, g2⟩ := fits1_enter (ds := dsts b) hB hn hf0 hR
      exact ⟨hi0, g2, g1⟩
  | .exit i, _, s0, s, Q, Q', a, w, _, hn, hl, h, hR, hK => wp_exit (hK _ _ _ _ h hl hn hR)
  | .ret, _, s0, s, Q, Q', a, w, _, hn, hl, h, hR, hK => wp_ret (hK _ _ _ _ h hl hn hR)
  | .label _, _, s0, s, Q, Q', a, w, _, hn, hl, h, hR, hK => wp_label (hK _ _ _ _ h hl hn hR)
  | .goto _, _, s0, s, Q, Q', a, w, _, hn, hl, h, hR, hK => wp_goto (hK _ _ _ _ h hl hn hR)
  | .scope b, hd, s0, s, Q, Q', a, w, h0, hn, hl, h, hR, hK => by
    rcases scope_shape b with ⟨c1, c2, l, rest, rfl⟩ | hb
    · have hs := scope_eq tb G wrap wk LA CA c1 c2 l rest Q s
      rw [hs] at h
      clear hs
      have hd1 : ∀ d, d ∈ dsts c1 → d < nt := fun d hx => hd d (List.mem_append_left _ hx)
      have hd2 : ∀ d, d ∈ dsts c2 → d < nt := fun d hx => hd d (List.mem_append_right _ (List.mem_append_left _ hx))
      have hd3 : ∀ d, d ∈ dsts rest → d < nt := fun d hx => hd d (List.mem_append_right _ (List.mem_append_right _ (List.mem_append_right _ hx)))
      cases hLA : LA (firstR rest) with
      | none =>
        simp only [hLA] at h
        refine wp_scope_straight (wp_seq ?_)
        refine wpA_sound hT hG hB hm c1 hd1 s0 s _ _ a w h0 hn hl h hR fun e s1 a1 w1 hq hl1 hn1 hR1 => ?_
        cases e with
        | normal =>
          refine wp_seq (wpA_sound hT hG hB hm c2 hd2 s0 s1 _ _ a1 w1 h0 hn1 hl1 hq hR1 fun e s2 a2 w2 hq hl2 hn2 hR2 => ?_)
          cases e with
          | normal =>
            refine wp_seq (wp_label (wpA_sound hT hG hB hm rest hd3 s0 s2 _ _ a2 w2 h0 hn2 hl2 hq hR2 fun e s3 a3 w3 hq hl3 hn3 hR3 => ?_))
            cases e with
            | normal => exact hK _ _ _ _ hq hl3 hn3 hR3
            | exit id => exact hK _ _ _ _ hq hl3 hn3 hR3
            | goto l => exact hq.elim
            | ret => exact hK _ _ _ _ hq hl3 hn3 hR3
            | panic ch => exact hK _ _ _ _ hq hl3 hn3 hR3
            | outgrown => exact hK _ _ _ _ hq hl3 hn3 hR3
          | exit id => exact hK _ _ _ _ hq hl2 hn2 hR2
          | goto l => exact hq.elim
          | ret => exact hK _ _ _ _ hq hl2 hn2 hR2
          | panic ch => exact hK _ _ _ _ hq hl2 hn2 hR2
          | outgrown => exact hK _ _ _ _ hq hl2 hn2 hR2
        | exit id => exact hK _ _ _ _ hq hl1 hn1 hR1
        | goto l => exact hq.elim
        | ret => exact hK _ _ _ _ hq hl1 hn1 hR1
        | panic ch => exact hK _ _ _ _ hq hl1 hn1 hR1
        | outgrown => exact hK _ _ _ _ hq hl1 hn1 hR1
      | some A =>
        simp only [hLA] at h
        let St : AState → Prop := fun s2 => NoW s2.T ∧ Log s0 s2 ∧ (∃ a0 w0, Rel P B kp nt s2.T s2.H a0 w0) ∧ ((findLabel c1 l).isNone && (findLabel c2 l).isNone) = true ∧ ∀ p, (A s2).inv p → wpA tb G wrap wk LA CA rest (fun e s' => match e with
                | .goto l' => if l' = l then ∃ p', (A s2).inv p' ∧ (A s2).mea p' < (A s2).mea p ∧ (if (A s2).alike (OWNB (2 * firstR rest)) s2 p p' then
                    (A s2).fits2 (OWNB (2 * firstR rest)) wk s2 ((A s2).taken s2 p) (dsts rest) s' p' else False) else False
                | e => Q e { s' with lt := s'.lt ++ ((A s2).lts (dsts rest) p ++ s2.lt), lh := s'.lh ++ ((A s2).lhs (OWNB (2 * firstR rest)) ((A s2).taken s2 p) p ++ s2.lh) })
                  ((A s2).state (OWNB (2 * firstR rest)) s2 ((A s2).taken s2 p) (dsts rest) p)
        let I : ((s2 : AState) × (A s2).P) → Act → World → Prop := fun q a w => St q.1 ∧ (A q.1).inv q.2 ∧ NoW ((A q.1).state (OWNB (2 * firstR rest)) q.1 ((A q.1).taken q.1 q.2) (dsts rest) q.2).T ∧
          Rel P B kp nt ((A q.1).state (OWNB (2 * firstR rest)) q.1 ((A q.1).taken q.1 q.2) (dsts rest) q.2).T ((A q.1).state (OWNB (2 * firstR rest)) q.1 ((A q.1).taken q.1 q.2) (dsts rest) q.2).H a w
        have round : ∀ q a w, I q a w → rest.wp P (Exit.jump l (fun a' w' => ∃ q', I q' a' w' ∧ (A q'.1).mea q'.2 < (A q.1).mea q.2) Q') a w := by
          rintro ⟨s2, p⟩ a w ⟨⟨g1, g2, ⟨a0, w0, g3⟩, g4, g5⟩, hi, hnp, hRp⟩
          refine wpA_sound hT hG hB hm rest hd3 ((A s2).state (OWNB (2 * firstR rest)) s2 ((A s2).taken s2 p) (dsts rest) p) ((A s2).state (OWNB (2 * firstR rest)) s2 ((A s2).taken s2 p) (dsts rest) p) _ _ a w hnp hnp (Log.refl _) (g5 p hi) hRp fun e s' a2 w2 hq hl' hn' hR' => ?_
          cases e with
          | goto l' =>
            simp only at hq
            split at hq
            case isFalse => exact hq.elim
            rename_i e1
            obtain ⟨p', hi', hlt, hf⟩ := hq
            split at hf
            case isFalse => exact hf.elim
            rename_i hal
            simp only [Ann.alike, Bool.and_eq_true, beq_iff_eq] at hal
            obtain ⟨⟨⟨a1, a2'⟩, a3⟩, a4⟩ := hal
            obtain ⟨hR2, hn2⟩ := fits2_enter hB g1 g3 hf hl' (fun t h1 h2 => state_T (by rw [a1]; exact h1) h2) (fun o h1 h2 h3 => by
              show (A s2).heap _ s2 _ p o = _
              rw [heap_out (by rw [a2']; exact h1) (by rw [a3]; exact h2), if_neg h3]) hR'
            rw [a4] at hR2 hn2
            exact ⟨e1, ⟨s2, p'⟩, ⟨⟨g1, g2, ⟨a0, w0, g3⟩, g4, g5⟩, hi', hn2, hR2⟩, hlt⟩
          | normal => exact hK _ _ _ _ hq (state_log g2 hl' rfl rfl) hn' hR'
          | exit id => exact hK _ _ _ _ hq (state_log g2 hl' rfl rfl) hn' hR'
          | ret => exact hK _ _ _ _ hq (state_log g2 hl' rfl rfl) hn' hR'
          | panic ch => exact hK _ _ _ _ hq (state_log g2 hl' rfl rfl) hn' hR'
          | outgrown => exact hK _ _ _ _ hq (state_log g2 hl' rfl rfl) hn' hR'
        by_cases hfl : ((findLabel c1 l).isNone && (findLabel c2 l).isNone) = true
        · have hf : findLabel (.seq c1 (.seq c2 (.seq (.label l) rest))) l = some (.seq .skip rest) := by
            simp only [Bool.and_eq_true, Option.isNone_iff_eq_none] at hfl
            simp [findLabel, hfl.1, hfl.2]
          refine wp_scope_ghost l I (fun q => (A q.1).mea q.2) hf (fun q a w hq => wp_seq (wp_skip (round q a w hq))) (wp_seq ?_)
          refine wpA_sound hT hG hB hm c1 hd1 s0 s _ _ a w h0 hn hl h hR fun e s1 a1 w1 hq hl1 hn1 hR1 => ?_
          cases e with
          | normal =>
            refine wp_seq (wpA_sound hT hG hB hm c2 hd2 s0 s1 _ _ a1 w1 h0 hn1 hl1 hq hR1 fun e s2 a2 w2 hq hl2 hn2 hR2 => ?_)
            cases e with
            | normal =>
              simp only at hq
              rw [if_pos hfl] at hq
              obtain ⟨⟨p0, hi0, hf0⟩, h5⟩ := hq
              obtain ⟨g1, g2⟩ := fits1_enter (ds := dsts rest) hB hn2 hf0 hR2
              refine wp_seq (wp_label ?_)
              have hr := round ⟨s2, p0⟩ a2 w2 ⟨⟨hn2, hl2, ⟨a2, w2, hR2⟩, hfl, h5⟩, hi0, g2, g1⟩
              refine wp_mono hr fun e a' w' hq => ?_
              cases e with
              | goto l' => obtain ⟨e1, q', h6, _⟩ := hq; exact ⟨e1, q', h6⟩
              | normal => exact hq
              | exit id => exact hq
              | ret => exact hq
              | panic ch => exact hq
              | outgrown => exact hq
            | exit id => exact hK _ _ _ _ hq hl2 hn2 hR2
            | goto l => exact hq.elim
            | ret => exact hK _ _ _ _ hq hl2 hn2 hR2
            | panic ch => exact hK _ _ _ _ hq hl2 hn2 hR2
            | outgrown => exact hK _ _ _ _ hq hl2 hn2 hR2
          | exit id => exact hK _ _ _ _ hq hl1 hn1 hR1
          | goto l => exact hq.elim
          | ret => exact hK _ _ _ _ hq hl1 hn1 hR1
          | panic ch => exact hK _ _ _ _ hq hl1 hn1 hR1
          | outgrown => exact hK _ _ _ _ hq hl1 hn1 hR1
        · refine wp_scope_straight (wp_seq ?_)
          refine wpA_sound hT hG hB hm c1 hd1 s0 s _ _ a w h0 hn hl h hR fun e s1 a1 w1 hq hl1 hn1 hR1 => ?_
          cases e with
          | normal =>
            refine wp_seq (wpA_sound hT hG hB hm c2 hd2 s0 s1 _ _ a1 w1 h0 hn1 hl1 hq hR1 fun e s2 a2 w2 hq hl2 hn2 hR2 => ?_)
            cases e with
            | normal =>
              simp only at hq
              rw [if_neg hfl] at hq
              exact hq.elim
            | exit id => exact hK _ _ _ _ hq hl2 hn2 hR2
            | goto l => exact hq.elim
            | ret => exact hK _ _ _ _ hq hl2 hn2 hR2
            | panic ch => exact hK _ _ _ _ hq hl2 hn2 hR2
            | outgrown => exact hK _ _ _ _ hq hl2 hn2 hR2
          | exit id => exact hK _ _ _ _ hq hl1 hn1 hR1
          | goto l => exact hq.elim
          | ret => exact hK _ _ _ _ hq hl1 hn1 hR1
          | panic ch => exact hK _ _ _ _ hq hl1 hn1 hR1
          | outgrown => exact hK _ _ _ _ hq hl1 hn1 hR1
    · rw [hb] at h
      refine wp_scope_straight (wpA_sound hT hG hB hm b hd s0 s _ _ a w h0 hn hl h hR fun e s' a' w' hq hl' hn' hR' => ?_)
      cases e with
      | normal => exact hK _ _ _ _ hq hl' hn' hR'
      | exit id => exact hK _ _ _ _ hq hl' hn' hR'
      | goto l => exact hq.elim
      | ret => exact hK _ _ _ _ hq hl' hn' hR'
      | panic ch => exact hK _ _ _ _ hq hl' hn' hR'
      | outgrown => exact hK _ _ _ _ hq hl' hn' hR'
  | .rangeFunc _ _ _ _, _, _, _, _, _, _, _, _, _, _, h, _, _ => h.elim
  | .refuse _, _, _, _, _, _, _, _, _, _, _, h, _, _ => h.elim
  termination_by c => SizeOf.sizeOf c
end
end A
end Go.Proofs.Ythgnjimpakpkjaa
namespace Go.Proofs.Ythgnjimpakpkjaa
namespace A

/-- a result's value -/
def rval (tb : Tab) (s : AState) : ResultVar → Option AV
  | .tmp t => if (s.T t).plain then some (s.T t) else none
  | .cell a t => match s.T a with
    | .ref o off => match s.H o, tb.get t with
      | .live c, some ti => nav c off ti.size ti.agg
      | _, _ => none
    | _ => none
def rvals (tb : Tab) (s : AState) : List ResultVar → Option (List AV)
  | [] => some []
  | r :: l => (rval tb s r).bind fun v => (rvals tb s l).map (v :: ·)
/-- the results of a specification, one by one -/
def dparts (n : Nat) (dst : AV) : Option (List AV) :=
  if n = 1 then some [dst] else match dst with
    | .tup l => if l.isL && l.toL.length == n then some l.toL else none
    | _ => none
def liveK : List (Nat × Obj) → List (Nat × AV)
  | [] => []
  | (o, .live c) :: r => (o, c) :: liveK r
  | _ :: r => liveK r
def deadK : List (Nat × Obj) → List Nat
  | [] => []
  | (o, .dead) :: r => o :: deadK r
  | _ :: r => deadK r
def wrOK (W : List (Nat × Obj)) : Bool := dupFree (W.map (·.1)) && W.all fun p => Nat.ble OBJB p.1 && !isFree p.2
/-- a specification's effect, as an annotation of the function's end -/
def retAnn (e : Eff) (avl : List AV) : Ann :=
  { P := Unit, vars := fun _ => (List.range avl.length).zip avl, objs := fun _ => liveK e.wr, inv := fun _ => True, mea := fun _ => 0, gone := deadK e.wr }
def start (H : Heap) : AState := { T := fun _ => .undef, H := H, lt := [], lh := [] }
/-- at a function's end -/
def retQ (tb : Tab) (rs : List ResultVar) (e : Eff) (H0 : Heap) : Exit → AState → Prop
  | .normal, s | .ret, s =>
    match rvals tb s rs, dparts rs.length e.dst with
    | some vs, some avl => if wrOK e.wr && (e.wr.map (·.1)).all (fun o => !((retAnn e avl).ids RESB ()).contains o) then (retAnn e avl).fits2 RESB (e.wr.map (·.1)) (start H0) [] [] { T := fun i => vs.getD i .undef, H := s.H, lt := [], lh := s.lh } () else False
    | _, _ => False
  | _, _ => False
/-- values of arguments are well-formed -/
def AVWF : AV → Prop
  | .val t x => WF t x
  | .valc t l => WF (.sl t) l
  | .cons a b => AVWF a ∧ AVWF b
  | .st l => AVWF l
  | _ => True
structure ArgsWF (avl : List AV) (H : Heap) : Prop where
  a : ∀ a, a ∈ avl → AVWF a
  h : ∀ o c, H o = .live c → AVWF c
def entry (avl : List AV) (H : Heap) : AState := { T := fun t => avl.getD t .undef, H := H, lt := [], lh := [] }

section
variable {P : Program} {B : Base} {pl : Nat → Place} {Z : Nat → Prop} {w : World} {H : Heap} {a : Act} {nt : Nat} {kp : Keep} {wk : List Nat} {tb : Tab} {G : Specs} {wrap : Bool}

theorem AVs.wf : ∀ (v : AV) (cs : List Value), AVs P B pl Z w v cs → AVWF v
  | .val t x, cs, h => Reps.WF h
  | .valc t l, cs, ⟨a, _, h⟩ => Reps.WF h
  | .cons a b, cs, ⟨u, v, _, h1, h2⟩ => ⟨AVs.wf a u h1, AVs.wf b v h2⟩
  | .st l, cs, h => AVs.wf l cs h.2
  | .undef, _, _ | .unit, _, _ | .nils, _, _ | .rop _ _, _, _ | .nilp, _, _ | .nilf, _, _ | .nili, _, _ | .fnp1 _ _ _ _, _, _ | .fnp2 _ _ _ _ _, _, _ | .vec _, _, _ | .view _ _ _ _ _, _, _ | .ref _ _, _, _
  | .refi _ _ _ _ _, _, _ | .fn _ _, _, _ | .iface _ _, _, _ | .whn _ _ _, _, _ | .tup _, _, _ | .own _ _, _, _ => trivial
theorem AV1.wf {v : AV} {x : Value} (h : AV1 P B pl Z w v x) : AVWF v := by
  unfold AV1 at h
  split at h
  · obtain ⟨us, _, h⟩ := h; exact h.wf
  · exact AVs.wf _ _ h
theorem OB.wf {p : Place} {c : AV} (h : OB P B pl Z w p c) : AVWF c := by
  unfold OB at h
  split at h
  · obtain ⟨_, cs, T, _, h⟩ := h; exact h.wf
  · obtain ⟨h1, h2, h3, h4⟩ := h
    rename_i a n cap t l
    refine WF.of_sl (by omega) fun x hx => ?_
    rcases h4 with h4 | ⟨b, arr, T, _, _, _, _, h5⟩
    · have : List.length (α := El t) l = 0 := by omega
      have : l = [] := List.length_eq_zero_iff.1 this
      subst this
      cases hx
    · obtain ⟨i, hi⟩ := List.mem_iff_getElem?.1 hx
      obtain ⟨us, _, _, h6⟩ := h5 i x hi
      exact h6.WF
  · exact h.elim
theorem AV1s.wf : ∀ {avl : List AV} {vs : List Value}, AV1s P B pl Z w avl vs → ∀ a, a ∈ avl → AVWF a
  | a :: l, x :: xs, h, b, hb => by
    rcases List.mem_cons.1 hb with rfl | hb
    · exact h.1.wf
    · exact AV1s.wf h.2 b hb
theorem AV1s.get : ∀ {avl : List AV} {vs : List Value}, AV1s P B pl Z w avl vs → avl.length = vs.length ∧ ∀ (i : Nat) (v : AV) (x : Value), avl[i]? = some v → vs[i]? = some x → AV1 P B pl Z w v x
  | [], [], _ => ⟨rfl, fun i v x h => by simp at h⟩
  | a :: l, x :: xs, h => ⟨by simp [(AV1s.get h.2).1], fun i v y hv hy => by
    cases i with
    | zero => simp at hv hy; subst hv; subst hy; exact h.1
    | succ i => exact (AV1s.get h.2).2 i v y (by simpa using hv) (by simpa using hy)⟩

/-- one result -/
def resRun (tmps : Array Value) : ResultVar → Sem Value
  | .tmp t => pure (tmps.getD t undef)
  | .cell a t => do loadVar t (← asAddr (tmps.getD a undef))
theorem rval_sound (hT : TOK P tb) {s : AState} (hR : RelAt P B nt s.T s.H a w pl Z) {r : ResultVar} {v : AV} (h : rval tb s r = some v) :
    ∃ x, (resRun a.tmps r).run P w = .ok x w ∧ AV1 P B pl Z w v x ∧ ∀ o, o ∈ v.refs → isFree (s.H o) = false := by
  cases r with
  | tmp t =>
    simp only [rval] at h
    split at h
    · rename_i hp
      cases h
      exact ⟨_, rfl, plain_av hp (hR.av t), hR.kn t⟩
    · cases h
  | cell q t =>
    simp only [rval] at h
    split at h
    · rename_i o off ho
      split at h
      · rename_i c ti hc hti
        have hx := hR.av q
        rw [ho] at hx
        obtain ⟨b, hp, hx⟩ := (AVn.s rfl (by simp) (by simp)).1 (show AVn P B pl Z w (.ref o off) _ from hx)
        have hob := hR.gr.ob o c hc
        rw [hp] at hob
        obtain ⟨_, cs, Tc, g1, g2⟩ := hob
        obtain ⟨k1, k2, k3, k4⟩ := nav_sound h g2
        have hlen : ((cs.drop off).take ti.size).length = ti.size := by rw [List.length_take, List.length_drop]; omega
        obtain ⟨val, r1, r2⟩ := run_loadVar' (w := w) hT hti hlen (b := b) (off := off) (fun j u hu => by
          rw [cell_of_blk (blk_of_heap g1)]
          have := drop_take_getElem? _ _ _ _ _ hu
          simpa using this)
        refine ⟨val, ?_, AV1_of_cells k3 k2 r2, fun o' ho' => hR.gr.kn o c hc o' (k4 o' ho')⟩
        have hx : a.tmps.getD q undef = .pointer (some ⟨b, off, none⟩) := by simpa using hx
        show (do loadVar t (← asAddr (a.tmps.getD q undef))).run P w = _
        rw [hx]
        simpa [asAddr] using r1
      · cases h
    · cases h
theorem rvals_sound (hT : TOK P tb) {s : AState} (hR : RelAt P B nt s.T s.H a w pl Z) : ∀ {l : List ResultVar} {vs : List AV}, rvals tb s l = some vs →
    ∃ xs : List Value, xs.length = l.length ∧ (∀ (i : Nat) (r : ResultVar) (x : Value), l[i]? = some r → xs[i]? = some x → (resRun a.tmps r).run P w = .ok x w) ∧ AV1s P B pl Z w vs xs ∧ ∀ v, v ∈ vs → ∀ o, o ∈ v.refs → isFree (s.H o) = false
  | [], vs, h => by cases h; exact ⟨[], rfl, fun i r x h => by simp at h, trivial, fun v hv => by cases hv⟩
  | r :: l, vs, h => by
    unfold rvals at h
    obtain ⟨v, h1, h⟩ := Option.bind_eq_some_iff.1 h
    obtain ⟨vs', h2, rfl⟩ := opt_map h
    obtain ⟨x, g1, g2, g3⟩ := rval_sound hT hR h1
    obtain ⟨xs, k1, k2, k3, k4⟩ := rvals_sound hT hR h2
    refine ⟨x :: xs, by simp [k1], fun i r' x' hr hx => ?_, ⟨g2, k3⟩, fun u hu => ?_⟩
    · cases i with
      | zero => simp at hr hx; subst hr; subst hx; exact g1
      | succ i => exact k2 i r' x' (by simpa using hr) (by simpa using hx)
    · rcases List.mem_cons.1 hu with rfl | hu
      · exact g3
      · exact k4 u hu

/-- up to four results -/
theorem run_results {fn : Func} {tmps : Array Value} {xs : List Value} (hl : fn.results.size ≤ 4) (hx : xs.length = fn.results.toList.length) (h : ∀ (i : Nat) (r : ResultVar) (x : Value), fn.results.toList[i]? = some r → xs[i]? = some x → (resRun tmps r).run P w = .ok x w) :
    (results fn tmps).run P w = .ok (if xs.length = 1 then xs.headD undef else .tuple xs.toArray) w := by
  have e : results fn tmps = (do
    let vs ← fn.results.mapM (resRun tmps)
    pure (if h : vs.size = 1 then vs[0] else .tuple vs)) := rfl
  rw [e]
  obtain ⟨l⟩ : ∃ l, fn.results = List.toArray l := ⟨fn.results.toList, by simp⟩
  rename_i hlr
  rw [hlr] at hl hx h ⊢
  simp only [List.size_toArray] at hl
  simp only at hx h
  match l, xs, hl, hx, h with
  | [], [], _, _, h => simp
  | [r1], [x1], _, _, h =>
    have h1 := h 0 r1 x1 rfl rfl
    simp [h1]
  | [r1, r2], [x1, x2], _, _, h =>
    have h1 := h 0 r1 x1 rfl rfl
    have h2 := h 1 r2 x2 rfl rfl
    simp [h1, h2]
  | [r1, r2, r3], [x1, x2, x3], _, _, h =>
    have h1 := h 0 r1 x1 rfl rfl
    have h2 := h 1 r2 x2 rfl rfl
    have h3 := h 2 r3 x3 rfl rfl
    simp [h1, h2, h3]
  | [r1, r2, r3, r4], [x1, x2, x3, x4], _, _, h =>
    have h1 := h 0 r1 x1 rfl rfl
    have h2 := h 1 r2 x2 rfl rfl
    have h3 := h 2 r3 x3 rfl rfl
    have h4 := h 3 r4 x4 rfl rfl
    simp [h1, h2, h3, h4]
end
end A
end Go.Proofs.Ythgnjimpakpkjaa
namespace Go.Proofs.Ythgnjimpakpkjaa
namespace A
section
variable {P : Program} {B : Base} {pl : Nat → Place} {Z : Nat → Prop} {w : World} {H : Heap} {a : Act} {nt : Nat} {kp : Keep} {wk : List Nat} {tb : Tab} {G : Specs} {wrap : Bool}

theorem setH_perm {W W' : List (Nat × Obj)} (h1 : (W.map (·.1)).Nodup) (h2 : (W'.map (·.1)).Nodup) (h : ∀ x, x ∈ W ↔ x ∈ W') (H : Heap) : setH H W = setH H W' := by
  funext o
  by_cases hx : ∃ p, p ∈ W ∧ p.1 = o
  · obtain ⟨⟨i, c⟩, hp, rfl⟩ := hx
    rw [setH_in W H _ c h1 hp, setH_in W' H _ c h2 ((h _).1 hp)]
  · rw [setH_out W H o (fun p hp e => hx ⟨p, hp, e⟩), setH_out W' H o (fun p hp e => hx ⟨p, (h p).2 hp, e⟩)]

theorem openList_append : ∀ (x y : List AV) (n : Nat), openList n (x ++ y) = ((openList n x).1 ++ (openList (openList n x).2.2 y).1, (openList n x).2.1 ++ (openList (openList n x).2.2 y).2.1, (openList (openList n x).2.2 y).2.2)
  | [], y, n => rfl
  | v :: x, y, n => by simp only [List.cons_append, openList, openList_append x y, List.append_assoc]
theorem openW_list : ∀ (W : List (Nat × Obj)) (n : Nat), (∀ p, p ∈ W → isFree p.2 = false) → (openW n W).2.1 = (openList n ((liveK W).map (·.2))).2.1 ∧
    ∀ x, x ∈ (openW n W).1 ↔ x ∈ (deadK W).map (fun o => (o, Obj.dead)) ∨ x ∈ ((liveK W).map (·.1)).zip ((openList n ((liveK W).map (·.2))).1.map Obj.live)
  | [], n, _ => ⟨rfl, fun x => by simp [openW, deadK, liveK]⟩
  | (o, .live c) :: r, n, h => by
    obtain ⟨h1, h2⟩ := openW_list r (openA n c).2.2 (fun p hp => h p (by simp [hp]))
    refine ⟨by simp only [openW, liveK, List.map_cons, openList, h1], fun x => ?_⟩
    simp only [openW, liveK, deadK, List.map_cons, openList, List.zip_cons_cons, List.mem_cons, h2]
    exact ⟨fun h => h.elim (fun h => .inr (.inl h)) (fun h => h.elim .inl (fun h => .inr (.inr h))), fun h => h.elim (fun h => .inr (.inl h)) (fun h => h.elim .inl (fun h => .inr (.inr h)))⟩
  | (o, .dead) :: r, n, h => by
    obtain ⟨h1, h2⟩ := openW_list r n (fun p hp => h p (by simp [hp]))
    refine ⟨by simp only [openW, liveK, h1], fun x => ?_⟩
    simp only [openW, liveK, deadK, List.map_cons, List.mem_cons, h2]
    exact ⟨fun h => h.elim (fun h => .inl (.inl h)) (fun h => h.elim (fun h => .inl (.inr h)) .inr), fun h => h.elim (fun h => h.elim .inl (fun h => .inr (.inl h))) (fun h => .inr (.inr h))⟩
  | (o, .free) :: r, n, h => by have := h (o, .free) (by simp); cases this

theorem fitA_plain {H : Heap} {f : Nat} {v a : AV} {r : FitR} (h : fitA H f v a = some r) (n : Nat) : (openA n a).1.plain = true := by
  cases f with
  | zero => simp [fitA] at h
  | succ f =>
    cases a <;> first | rfl | (simp [fitA] at h)
theorem fitList_plain {H : Heap} : ∀ {vs avl : List AV} {r : FitR}, fitList H vs avl = some r → ∀ (n : Nat) (v : AV), v ∈ (openList n avl).1 → v.plain = true
  | [], [], r, h, n, v, hv => by simp [openList] at hv
  | u :: vs, a :: avl, r, h, n, v, hv => by
    unfold fitList at h
    obtain ⟨x, hx, h⟩ := Option.bind_eq_some_iff.1 h
    obtain ⟨y, hy, e⟩ := opt_map h
    simp only [openList, List.mem_cons] at hv
    rcases hv with rfl | hv
    · exact fitA_plain hx n
    · exact fitList_plain hy _ v hv

theorem lookup_range {β : Type} (l : List β) (i : Nat) (hi : i < l.length) (m : List β) {n : Nat} (hn : l.length = n) : ((List.range n).zip (l ++ m)).lookup i = some l[i] := by
  subst hn
  have key : ∀ (l : List β) (s i : Nat) (hi : i < l.length) (m : List β), ((List.range' s l.length).zip (l ++ m)).lookup (s + i) = some l[i] := by
    intro l
    induction l with
    | nil => intro s i hi; cases hi
    | cons x l ih =>
      intro s i hi m
      simp only [List.length_cons, List.range'_succ, List.cons_append, List.zip_cons_cons, List.lookup_cons]
      cases i with
      | zero => simp
      | succ i =>
        have : (s + (i + 1) == s) = false := by simp
        rw [this]
        have := ih (s + 1) i (by simpa using hi) m
        rw [show s + 1 + i = s + (i + 1) by omega] at this
        simpa using this
  have := key l 0 i hi m
  rw [Nat.zero_add, ← List.range_eq_range'] at this
  exact this

theorem AVt.ofL : ∀ (l : List AV) (us : List Value), AV1s P B pl Z w l us → AVt P B pl Z w (.ofL l) us
  | [], [], _ => rfl
  | a :: l, x :: xs, h => ⟨x, xs, rfl, h.1, AVt.ofL l xs h.2⟩
theorem AV1s.of : ∀ {l : List AV} {us : List Value}, l.length = us.length → (∀ (i : Nat) (v : AV) (x : Value), l[i]? = some v → us[i]? = some x → AV1 P B pl Z w v x) → AV1s P B pl Z w l us
  | [], [], _, _ => trivial
  | a :: l, x :: xs, hl, h => ⟨h 0 a x rfl rfl, AV1s.of (by simpa using hl) (fun i v y hv hy => h (i + 1) v y (by simpa using hv) (by simpa using hy))⟩

theorem rvals_length {s : AState} : ∀ {l : List ResultVar} {vs : List AV}, rvals tb s l = some vs → vs.length = l.length
  | [], vs, h => by cases h; rfl
  | r :: l, vs, h => by
    unfold rvals at h
    obtain ⟨v, h1, h⟩ := Option.bind_eq_some_iff.1 h
    obtain ⟨vs', h2, rfl⟩ := opt_map h
    simp [rvals_length h2]

theorem dparts_spec {n : Nat} {dst : AV} {avl : List AV} (h : dparts n dst = some avl) : avl.length = n ∧ (openList RESB avl).2.1 = (openA RESB dst).2.1 ∧ (openList RESB avl).2.2 = (openA RESB dst).2.2 ∧
    ((n = 1 ∧ avl = [dst]) ∨ (n ≠ 1 ∧ (openA RESB dst).1 = .tup (.ofL (openList RESB avl).1))) := by
  unfold dparts at h
  split at h
  · rename_i hn
    cases h
    exact ⟨by simp [hn], by simp [openList], by simp [openList], .inl ⟨hn, rfl⟩⟩
  · rename_i hn
    split at h
    · rename_i l
      split at h
      · rename_i hc
        simp only [Bool.and_eq_true, beq_iff_eq] at hc
        cases h
        have := openA_list l RESB hc.1
        refine ⟨hc.2, ?_, ?_, .inr ⟨hn, ?_⟩⟩ <;> simp only [openA, this]
      · cases h
    · cases h

theorem fn_sat {P : Program} (hT : TOK P tb) (hm : P.follows .mixedOrders = true) (hG : ∀ f sp, G.lookup f = some sp → Sat P f sp) {f : Nat} {fn : Func} {c : Code} {sp : Spec}
    (hf : P.funcs[f]? = some fn) (hb : fn.body = some c) (hname : (fn.name == "runtime.NumGoroutine") = false) (hds : (dsts c).all (fun d => Nat.blt d fn.ntmps) = true) (hr4 : Nat.ble fn.results.size 4 = true)
    (h : ∀ avl H e, sp avl H = some e → (∀ p, p ∈ e.pre → p) → ArgsWF avl H → (∀ o, isFree (H o) = false → OBJB ≤ o ∧ o < OBJB + 1000) → ∃ LA CA, wpA tb G wrap (e.wr.map (·.1)) LA CA c (retQ tb fn.results.toList e H) (entry avl H)) : Sat P f sp := by
  intro w Z X pl H avl vs e hsp hpre hg has hkn hrng
  refine ⟨?_, ?_⟩
  · unfold callFunc
    simp only [Sem.run_bind]
    have : (program.run P w) = .ok P w := rfl
    rw [this, Result.andThen_ok, hf]
    simp [hname, hb]
  have hlen := has.get.1
  have hwf : ArgsWF avl H := ⟨has.wf, fun o c ho => (hg.ob o c ho).wf⟩
  obtain ⟨LA, CA, hwp⟩ := h avl H e hsp hpre hwf hrng
  let B : Base := ⟨w, Z, X, roOf (e.wr.map (·.1))⟩
  let kp : Keep := ⟨fun o => !isFree (H o), pl⟩
  have hkept : Kept kp B H pl w := ⟨fun o ho => ⟨rfl, by simpa [kp] using ho⟩, fun b _ => rfl⟩
  refine calls_of_wp hf hb ?_
  let a0 : Act := { tmps := vs.toArray ++ Array.replicate (fn.ntmps - vs.toArray.size) undef, defers := [] }
  have hR : Rel P B kp fn.ntmps (entry avl H).T (entry avl H).H a0 w := by
    refine ⟨pl, Z, ⟨hg, fun t => ?_, fun t o ho => ?_, rfl, by simp [a0]; omega⟩, hkept⟩
    · show AVr P B pl Z w _ (avl.getD t .undef) _
      by_cases ht : t < avl.length
      · have h1 : avl[t]? = some avl[t] := List.getElem?_eq_getElem ht
        have ht' : t < vs.length := by omega
        have h2 : vs[t]? = some vs[t] := List.getElem?_eq_getElem ht'
        rw [List.getD_eq_getElem?_getD, h1]
        have h3 : a0.tmps.getD t undef = vs[t] := by
          show (vs.toArray ++ Array.replicate (fn.ntmps - vs.toArray.size) undef).getD t undef = _
          rw [Array.getD_eq_getD_getElem?, Array.getElem?_append_left (by simpa using ht')]
          simp [ht']
        show AVr P B pl Z w _ avl[t] (a0.tmps.getD t undef)
        rw [h3]
        exact AVn.toR (AVn.of1 (has.get.2 t _ _ h1 h2)) _
      · rw [List.getD_eq_getElem?_getD, List.getElem?_eq_none (by omega)]; trivial
    · have ho : o ∈ (avl.getD t .undef).refs := ho
      by_cases ht : t < avl.length
      · rw [List.getD_eq_getElem?_getD, List.getElem?_eq_getElem ht] at ho
        exact hkn _ (List.getElem_mem ht) o ho
      · rw [List.getD_eq_getElem?_getD, List.getElem?_eq_none (by omega)] at ho
        simp [AV.refs] at ho
  have hnw : NoW (entry avl H).T := fun t => by
    show notW (avl.getD t .undef) = true
    by_cases ht : t < avl.length
    · rw [List.getD_eq_getElem?_getD, List.getElem?_eq_getElem ht]
      have h2 : vs[t]? = some (vs[t]'(by omega)) := List.getElem?_eq_getElem _
      have := has.get.2 t _ _ (List.getElem?_eq_getElem ht) h2
      show notW avl[t] = true
      generalize avl[t] = q at this
      cases q <;> first | rfl | (simp [AV1, AVs, AV.isSt] at this)
    · rw [List.getD_eq_getElem?_getD, List.getElem?_eq_none (by omega)]; rfl
  have hR0 : Rel P B kp 0 (start H).T (start H).H a0 w := ⟨pl, Z, ⟨hg, fun t => trivial, fun t o ho => by simp [start, AV.refs] at ho, rfl, Nat.zero_le _⟩, hkept⟩
  refine wpA_sound hT hG rfl hm c (fun d hd => by simpa using List.all_eq_true.1 hds d hd) (entry avl H) (entry avl H) _ _ a0 w hnw hnw (Log.refl _) hwp hR fun ex s' a' w' hq hl hn hR' => ?_
  have main : (match rvals tb s' fn.results.toList, dparts fn.results.toList.length e.dst with
      | some vs, some avl => if wrOK e.wr && (e.wr.map (·.1)).all (fun o => !((retAnn e avl).ids RESB ()).contains o) then (retAnn e avl).fits2 RESB (e.wr.map (·.1)) (start H) [] [] { T := fun i => vs.getD i .undef, H := s'.H, lt := [], lh := s'.lh } () else False
      | _, _ => False) → (a'.defers = [] ∧ ∃ v, (results fn a'.tmps).run P w' = .ok v w' ∧ ∃ v_1, Ending.returned v = Ending.returned v_1 ∧ Post P B H pl Z w (openE e).wr (openE e).dst v_1 w') := by
    intro hq
    split at hq
    case h_2 => exact hq.elim
    rename_i rs ds hrs hds
    split at hq
    case isFalse => exact hq.elim
    rename_i hwr
    simp only [Bool.and_eq_true] at hwr
    obtain ⟨hwr, hwr0⟩ := hwr
    obtain ⟨pl', Z', hRa, hkp⟩ := hR'
    obtain ⟨xs, x1, x2, x3, x4⟩ := rvals_sound hT hRa hrs
    have hrl := rvals_length hrs
    refine ⟨hRa.df, _, run_results (by simpa using hr4) x1 x2, _, rfl, ?_⟩
    -- the results, as temporaries
    have hR2 : Rel P B kp 0 (fun i => rs.getD i .undef) s'.H { tmps := xs.toArray, defers := [] } w' := by
      refine ⟨pl', Z', ⟨hRa.gr, fun t => ?_, fun t o ho => ?_, rfl, Nat.zero_le _⟩, hkp⟩
      · show AVr P B pl' Z' w' _ (rs.getD t .undef) _
        by_cases ht : t < rs.length
        · have h1 : rs[t]? = some rs[t] := List.getElem?_eq_getElem ht
          have ht' : t < xs.length := by omega
          have h2 : xs[t]? = some xs[t] := List.getElem?_eq_getElem ht'
          rw [List.getD_eq_getElem?_getD, h1]
          have h3 : xs.toArray.getD t undef = xs[t] := by simp [Array.getD_eq_getD_getElem?, ht']
          show AVr P B pl' Z' w' _ rs[t] (xs.toArray.getD t undef)
          rw [h3]
          exact AVn.toR (AVn.of1 (x3.get.2 t _ _ h1 h2)) _
        · rw [List.getD_eq_getElem?_getD, List.getElem?_eq_none (by omega)]; trivial
      · by_cases ht : t < rs.length
        · rw [List.getD_eq_getElem?_getD, List.getElem?_eq_getElem ht] at ho
          exact x4 _ (List.getElem_mem ht) o ho
        · rw [List.getD_eq_getElem?_getD, List.getElem?_eq_none (by omega)] at ho
          simp [AV.refs] at ho
    have hfit := hq
    obtain ⟨hR3, _⟩ := fits2_enter (s1 := { T := fun i => rs.getD i .undef, H := H, lt := [], lh := [] }) (B := B) rfl (fun t => rfl) hR0 hq ⟨fun t _ => rfl, fun o ho => hl.h o ho⟩ (fun t ht _ => by
      have hge : rs.length ≤ t := by
        by_cases h : t < rs.length
        · exfalso
          refine ht ?_
          have hlen2 := (dparts_spec hds).1
          simp only [Ann.vk, retAnn]
          rw [List.map_fst_zip (by simp)]
          exact List.mem_range.2 (by omega)
        · omega
      show rs.getD t .undef = .undef
      rw [List.getD_eq_getElem?_getD, List.getElem?_eq_none hge]; rfl) (fun o _ _ _ => rfl) hR2
    obtain ⟨pl2, Z2, hR3, hkp3⟩ := hR3
    obtain ⟨d1, d2, d3, d4⟩ := dparts_spec hds
    -- what fits is plain
    have hplain : ∀ v, v ∈ ((retAnn e ds).opn RESB ()).1 → v.plain = true := fun v hv => by
      unfold Ann.fits2 at hfit
      split at hfit
      case h_2 => exact hfit.elim
      rename_i r hr
      exact fitList_plain hr RESB v hv
    have havs : (retAnn e ds).avs () = ds ++ (liveK e.wr).map (·.2) := by
      simp only [Ann.avs, retAnn]
      rw [List.map_snd_zip (by simp)]
    have hvk : (retAnn e ds).vk () = List.range ds.length := by
      simp only [Ann.vk, retAnn]
      rw [List.map_fst_zip (by simp)]
    have hopn : (retAnn e ds).opn RESB () = openList RESB (ds ++ (liveK e.wr).map (·.2)) := by unfold Ann.opn; rw [havs]
    have hdl : (openList RESB ds).1.length = ds.length := openList_length _ _
    -- the heap
    simp only [wrOK, Bool.and_eq_true, List.all_eq_true, Nat.ble_eq, Bool.not_eq_true'] at hwr
    have hfree : ∀ p, p ∈ e.wr → isFree p.2 = false := fun p hp => (hwr.2 p hp).2
    obtain ⟨w1, w2⟩ := openW_list e.wr (openA RESB e.dst).2.2 hfree
    have hheap : (retAnn e ds).heap RESB (start H) [] () = setH H (openE e).wr := by
      have hown := openList_owned (ds ++ (liveK e.wr).map (·.2)) RESB
      have e1 : (openE e).wr = (openW (openA RESB e.dst).2.2 e.wr).1 ++ (openList RESB (ds ++ (liveK e.wr).map (·.2))).2.1 := by
        show (openW _ e.wr).1 ++ ((openA RESB e.dst).2.1 ++ (openW _ e.wr).2.1) = _
        rw [openList_append, w1, d2, d3]
      have e2 : (retAnn e ds).ov RESB () = ((liveK e.wr).map (·.1)).zip ((openList (openA RESB e.dst).2.2 ((liveK e.wr).map (·.2))).1.map Obj.live) := by
        unfold Ann.ov
        rw [hopn, openList_append, hvk, List.length_range, ← hdl, List.drop_left, d3]
        rfl
      have e3 : (retAnn e ds).heap RESB (start H) [] () = setH H ((deadK e.wr).map (fun o => (o, Obj.dead)) ++ ((retAnn e ds).ov RESB () ++ (openList RESB (ds ++ (liveK e.wr).map (·.2))).2.1)) := by
        unfold Ann.heap
        rw [hopn]
        simp [retAnn, start]
      rw [e3, e1, ← List.append_assoc]
      have kz : ((liveK e.wr).map (·.1)).length ≤ ((openList (openA RESB e.dst).2.2 ((liveK e.wr).map (·.2))).1.map Obj.live).length := by
        rw [List.length_map, List.length_map, openList_length]; simp
      have hWk : (openW (openA RESB e.dst).2.2 e.wr).1.map (·.1) = e.wr.map (·.1) := (openW_owned e.wr _).2.2
      have hnd := dupFree_nodup _ hwr.1
      have dl : ∀ (W : List (Nat × Obj)), (W.map (·.1)).Nodup → (deadK W ++ (liveK W).map (·.1)).Nodup ∧ ∀ o, o ∈ deadK W ++ (liveK W).map (·.1) → o ∈ W.map (·.1) := by
        intro W
        induction W with
        | nil => intro _; exact ⟨by simp [deadK, liveK], fun o ho => by simp [deadK, liveK] at ho⟩
        | cons p W ih =>
          intro hn
          obtain ⟨o, c⟩ := p
          simp only [List.map_cons, List.nodup_cons] at hn
          obtain ⟨i1, i2⟩ := ih hn.2
          cases c with
          | free => exact ⟨i1, fun x hx => List.mem_cons_of_mem _ (i2 x hx)⟩
          | dead =>
            refine ⟨List.nodup_cons.2 ⟨fun hx => hn.1 (i2 o hx), i1⟩, fun x hx => ?_⟩
            rcases List.mem_cons.1 hx with rfl | hx
            · simp
            · exact List.mem_cons_of_mem _ (i2 x hx)
          | live c =>
            refine ⟨?_, fun x hx => ?_⟩
            · simp only [deadK, liveK, List.map_cons]
              exact (List.perm_middle.nodup_iff).2 (List.nodup_cons.2 ⟨fun hx => hn.1 (i2 o hx), i1⟩)
            · simp only [deadK, liveK, List.map_cons, List.mem_append, List.mem_cons] at hx
              rcases hx with hx | rfl | hx
              · exact List.mem_cons_of_mem _ (i2 x (List.mem_append_left _ hx))
              · simp
              · exact List.mem_cons_of_mem _ (i2 x (List.mem_append_right _ hx))
      have hids : ∀ o, o ∈ e.wr.map (·.1) → o ∉ (openList RESB (ds ++ (liveK e.wr).map (·.2))).2.1.map (·.1) := by
        intro o ho hid
        have := List.all_eq_true.1 hwr0 o ho
        unfold Ann.ids at this
        rw [hopn] at this
        simp only [Bool.not_eq_true', List.contains_eq_mem, decide_eq_false_iff_not] at this
        exact this hid
      refine setH_perm ?_ ?_ (fun x => ?_) H
      · rw [List.map_append, List.map_append, List.map_map, e2, List.map_fst_zip kz]
        rw [List.nodup_append]
        have hdl2 := dl e.wr hnd
        refine ⟨by simpa [Function.comp_def] using hdl2.1, hown.nodup, fun x hx y hy e0 => ?_⟩
        subst e0
        exact hids x (hdl2.2 x (by simpa [Function.comp_def] using hx)) hy
      · rw [List.map_append, hWk, List.nodup_append]
        exact ⟨hnd, hown.nodup, fun x hx y hy e0 => hids x hx (e0 ▸ hy)⟩
      · simp only [List.mem_append, w2, e2]
    have hgr := hR3.gr
    have hgr : GR P B pl2 Z2 w' (setH H (openE e).wr) := by rw [← hheap]; exact hR3.gr
    have hTi : ∀ i (hi : i < ds.length), ((retAnn e ds).state RESB (start H) [] [] ()).T i = (openList RESB ds).1[i]'(by omega) := fun i hi => by
      show (match ((retAnn e ds).tv RESB ()).lookup i with | some v => v | none => _) = _
      have : ((retAnn e ds).tv RESB ()).lookup i = some ((openList RESB ds).1[i]'(by omega)) := by
        unfold Ann.tv
        rw [hvk, hopn, openList_append]
        exact lookup_range (openList RESB ds).1 i (by omega) ((openList (openList RESB ds).2.2 ((liveK e.wr).map (·.2))).1) hdl
      rw [this]
    have hpl : ∀ i (hi : i < ds.length), ((openList RESB ds).1[i]'(by omega)).plain = true := fun i hi => hplain _ (by
      rw [hopn, openList_append]
      exact List.mem_append_left _ (List.getElem_mem _))
    have hAV : AV1s P B pl2 Z2 w' (openList RESB ds).1 xs := by
      refine AV1s.of (by omega) fun i v x hv hx => ?_
      obtain ⟨hi, rfl⟩ := List.getElem?_eq_some_iff.1 hv
      have h1 := hR3.av i
      rw [hTi i (by omega)] at h1
      have h2 := plain_av (hpl i (by omega)) h1
      have h3 : ({ tmps := xs.toArray, defers := [] } : Act).tmps.getD i undef = x := by
        show xs.toArray.getD i undef = x
        rw [Array.getD_eq_getD_getElem?, List.getElem?_toArray, hx]; rfl
      rw [h3] at h2
      exact h2
    have hrefs : ∀ v, v ∈ (openList RESB ds).1 → ∀ o, o ∈ v.refs → isFree (setH H (openE e).wr o) = false := fun v hv o ho => by
      obtain ⟨i, hi, rfl⟩ := List.mem_iff_getElem.1 hv
      have h1 := hR3.kn i o (by rw [hTi i (by omega)]; exact ho)
      rw [← hheap]; exact h1
    have hdst : AVn P B pl2 Z2 w' (openE e).dst (if xs.length = 1 then xs.headD undef else .tuple xs.toArray) ∧ ∀ o, o ∈ (openE e).dst.refs → isFree (setH H (openE e).wr o) = false := by
      have hxl : xs.length = fn.results.toList.length := x1
      rcases d4 with ⟨hn1, rfl⟩ | ⟨hn1, hdt⟩
      · rw [if_pos (by omega)]
        match xs, (show xs.length = 1 by omega), hAV with
        | [x], _, hAV => exact ⟨AVn.of1 hAV.1, fun o ho => hrefs (openA RESB e.dst).1 (by simp [openList]) o ho⟩
      · rw [if_neg (by omega)]
        have : (openE e).dst = .tup (.ofL (openList RESB ds).1) := hdt
        rw [this]
        refine ⟨⟨xs, rfl, AVt.ofL _ _ hAV⟩, fun o ho => ?_⟩
        have ho : o ∈ (AV.ofL (openList RESB ds).1).refs := ho
        rw [refs_ofL] at ho
        obtain ⟨v, hv, ho⟩ := List.mem_flatMap.1 ho
        exact hrefs v hv o ho
    refine ⟨pl2, Z2, hgr, fun o ho => (hkp3.p o (by simpa [kp] using ho)).1, fun b hb => ⟨hR3.gr.zz b hb, hkp3.z b hb⟩, hdst.1, hdst.2, fun o ho => ?_⟩
    rw [← hheap]
    exact (hkp3.p o (by simpa [kp] using ho)).2
  cases ex with
  | normal => exact main hq
  | ret => exact main hq
  | exit id => exact hq.elim
  | goto l => exact hq.elim
  | panic ch => exact hq.elim
  | outgrown => exact hq.elim
end
end A
end Go.Proofs.Ythgnjimpakpkjaa
namespace Go.Proofs.Ythgnjimpakpkjaa
namespace A

/-- a heap of which some objects are known -/
def knw : List (Nat × Obj) → Heap → Heap
  | [], H => fun o => bif Nat.ble OBJB o && Nat.blt o (OBJB + 1000) then H o else .free
  | (i, c) :: r, H => fun o => bif Nat.beq o i then c else knw r H o
theorem knw_eq {H : Heap} (hr : ∀ o, isFree (H o) = false → OBJB ≤ o ∧ o < OBJB + 1000) : ∀ (l : List (Nat × Obj)), (∀ p, p ∈ l → H p.1 = p.2) → H = knw l H
  | [], _ => by
    funext o
    show H o = bif _ then _ else _
    cases hc : (Nat.ble OBJB o && Nat.blt o (OBJB + 1000)) with
    | true => rfl
    | false =>
      cases hH : isFree (H o) with
      | true =>
        cases hh : H o with
        | free => rfl
        | dead => rw [hh] at hH; cases hH
        | live c => rw [hh] at hH; cases hH
      | false =>
        obtain ⟨h1, h2⟩ := hr o hH
        rw [show Nat.ble OBJB o = true from by rw [Nat.ble_eq]; exact h1, show Nat.blt o (OBJB + 1000) = true from by rw [Nat.blt_eq]; exact h2] at hc
        cases hc
  | (i, c) :: r, h => by
    funext o
    show H o = bif _ then _ else _
    cases hc : Nat.beq o i with
    | true =>
      have : o = i := by simpa using hc
      subst this
      exact h (o, c) (by simp)
    | false =>
      show H o = knw r H o
      rw [← knw_eq hr r (fun p hp => h p (by simp [hp]))]

/-- a specification for arguments whose measure is less than n -/
def Spec.lt (sp : Spec) (mea : List AV → Heap → Nat) (n : Nat) : Spec := fun avl H => match sp avl H with
  | some ⟨p, v, w⟩ => some ⟨(mea avl H < n) :: p, v, w⟩
  | none => none
theorem Spec.lt_eq {sp : Spec} {mea : List AV → Heap → Nat} {n : Nat} {avl : List AV} {H : Heap} {e : Eff} (h : sp.lt mea n avl H = some e) : ∃ e', sp avl H = some e' ∧ e.pre = (mea avl H < n) :: e'.pre ∧ e.dst = e'.dst ∧ e.wr = e'.wr := by
  unfold Spec.lt at h
  split at h
  · rename_i p v w hp; cases h; exact ⟨_, hp, rfl, rfl, rfl⟩
  · cases h
theorem Sat.of_lt {P : Program} {f : Nat} {sp : Spec} {mea : List AV → Heap → Nat} (h : ∀ n, Sat P f (sp.lt mea n)) : Sat P f sp := by
  intro w Z X pl H avl vs e hsp hpre hg has hkn hrng
  obtain ⟨p, v, wr⟩ := e
  exact h (mea avl H + 1) w Z X pl H avl vs ⟨(mea avl H < mea avl H + 1) :: p, v, wr⟩ (by unfold Spec.lt; rw [hsp]) (fun q hq => by
    rcases List.mem_cons.1 hq with rfl | hq
    · exact Nat.lt_succ_self _
    · exact hpre q hq) hg has hkn hrng
/-- recursion -/
theorem Sat.recur {P : Program} {f : Nat} {sp : Spec} (mea : List AV → Heap → Nat) (h : ∀ n, Sat P f (sp.lt mea n) → Sat P f (sp.lt mea (n + 1))) : Sat P f sp := by
  refine Sat.of_lt (mea := mea) fun n => ?_
  induction n with
  | zero =>
    intro w Z X pl H avl vs e hsp hpre
    obtain ⟨e', _, h1, _⟩ := Spec.lt_eq hsp
    have := hpre (mea avl H < 0) (by rw [h1]; simp)
    omega
  | succ n ih => exact h n ih
/-- mutual recursion -/
theorem Sat.recur2 {P : Program} {f g : Nat} {sp sq : Spec} (mf mg : List AV → Heap → Nat) (h : ∀ n, Sat P f (sp.lt mf n) → Sat P g (sq.lt mg n) → Sat P f (sp.lt mf (n + 1)) ∧ Sat P g (sq.lt mg (n + 1))) : Sat P f sp ∧ Sat P g sq := by
  have key : ∀ n, Sat P f (sp.lt mf n) ∧ Sat P g (sq.lt mg n) := by
    intro n
    induction n with
    | zero =>
      constructor
      · intro w Z X pl H avl vs e hsp hpre
        obtain ⟨e', _, h1, _⟩ := Spec.lt_eq hsp
        have := hpre (mf avl H < 0) (by rw [h1]; simp)
        omega
      · intro w Z X pl H avl vs e hsp hpre
        obtain ⟨e', _, h1, _⟩ := Spec.lt_eq hsp
        have := hpre (mg avl H < 0) (by rw [h1]; simp)
        omega
    | succ n ih => exact h n ih.1 ih.2
  exact ⟨Sat.of_lt fun n => (key n).1, Sat.of_lt fun n => (key n).2⟩
def body (f : Func) : Code := f.body.getD .skip
theorem body_of {f : Func} (h : f.body.isSome = true) : f.body = some (body f) := by
  unfold body
  cases hb : f.body with
  | none => rw [hb] at h; cases h
  | some c => rfl
end A
end Go.Proofs.Ythgnjimpakpkjaa
namespace Go.Proofs.Ythgnjimpakpkjaa
namespace A

structure Fine (P : Program) (tb : Tab) : Prop where
  t : TOK P tb
  m : P.follows .mixedOrders = true
abbrev noA : Nat → Option (AState → Ann) := fun _ => none

/-- a function that is handed no objects -/
theorem sat0 {P : Program} {tb : Tab} (hP : Fine P tb) (G : Specs) (hG : ∀ q, q ∈ G → Sat P q.1 q.2) {f : Nat} {fn : Func} {sp : Spec} (hf : P.funcs[f]? = some fn)
    (hok : (fn.body.isSome && !(fn.name == "runtime.NumGoroutine") && (dsts (body fn)).all (fun d => Nat.blt d fn.ntmps) && Nat.ble fn.results.size 4) = true)
    (h : ∀ avl H e, sp avl (knw [] H) = some e → (∀ p, p ∈ e.pre → p) → ArgsWF avl (knw [] H) → ∃ LA CA, wpA tb G false (e.wr.map (·.1)) LA CA (body fn) (retQ tb fn.results.toList e (knw [] H)) (entry avl (knw [] H))) : Sat P f sp := by
  simp only [Bool.and_eq_true] at hok
  obtain ⟨⟨⟨h1, h2⟩, h3⟩, h4⟩ := hok
  refine fn_sat hP.t hP.m (G := G) (wrap := false) (fun f sp hl => hG (f, sp) (lookup_mem _ _ _ hl)) hf (body_of h1) (by simpa using h2) h3 h4 fun avl H e hsp hpre hwf hr => ?_
  have e1 := knw_eq hr [] (fun p hp => by cases hp)
  generalize hK : knw [] H = K at e1
  subst e1
  rw [← hK] at hsp hwf ⊢
  exact h avl _ e hsp hpre hwf
/-- a function that is handed objects -/
theorem satK {P : Program} {tb : Tab} (hP : Fine P tb) (G : Specs) (hG : ∀ q, q ∈ G → Sat P q.1 q.2) {f : Nat} {fn : Func} {sp : Spec} (hf : P.funcs[f]? = some fn)
    (hok : (fn.body.isSome && !(fn.name == "runtime.NumGoroutine") && (dsts (body fn)).all (fun d => Nat.blt d fn.ntmps) && Nat.ble fn.results.size 4) = true)
    (h : ∀ avl H e, sp avl H = some e → (∀ p, p ∈ e.pre → p) → ArgsWF avl H → ∃ l : List (Nat × Obj), (∀ p, p ∈ l → H p.1 = p.2) ∧ ∃ LA CA, wpA tb G false (e.wr.map (·.1)) LA CA (body fn) (retQ tb fn.results.toList e (knw l H)) (entry avl (knw l H))) : Sat P f sp := by
  simp only [Bool.and_eq_true] at hok
  obtain ⟨⟨⟨h1, h2⟩, h3⟩, h4⟩ := hok
  refine fn_sat hP.t hP.m (G := G) (wrap := false) (fun f sp hl => hG (f, sp) (lookup_mem _ _ _ hl)) hf (body_of h1) (by simpa using h2) h3 h4 fun avl H e hsp hpre hwf hr => ?_
  obtain ⟨l, hl, LA, CA, hw⟩ := h avl H e hsp hpre hwf
  refine ⟨LA, CA, ?_⟩
  have e1 := knw_eq hr l hl
  rw [← e1] at hw
  exact hw

theorem Sat.app {P : Program} {G : Specs} {f : Nat} {sp : Spec} (h : Sat P f sp) (hG : ∀ q, q ∈ G → Sat P q.1 q.2) : ∀ q, q ∈ (f, sp) :: G → Sat P q.1 q.2 := fun q hq => by
  rcases List.mem_cons.1 hq with rfl | hq
  · exact h
  · exact hG q hq
theorem Sat.none {P : Program} : ∀ q, q ∈ ([] : Specs) → Sat P q.1 q.2 := fun q hq => by cases hq
end A
end Go.Proofs.Ythgnjimpakpkjaa
namespace Go.Proofs.Ythgnjimpakpkjaa
namespace A
abbrev SI : Ty := .sl (.int .i64)
abbrev AR : Ty := .rc .arr
abbrev SA : Ty := .sl (.rc .arr)
/-- nothing but a value -/
def ret (t : Ty) (x : El t) : Eff := ⟨[], .val t x, []⟩
def retP (p : Prop) (t : Ty) (x : El t) : Eff := ⟨[p], .val t x, []⟩
def ret2 (t u : Ty) (x : El t) (y : El u) : Eff := ⟨[], .tup (.ofL [.val t x, .val u y]), []⟩
def retP2 (p : Prop) (t u : Ty) (x : El t) (y : El u) : Eff := ⟨[p], .tup (.ofL [.val t x, .val u y]), []⟩
def ret3 (t u v : Ty) (x : El t) (y : El u) (z : El v) : Eff := ⟨[], .tup (.ofL [.val t x, .val u y, .val v z]), []⟩
def sp1 (t : Ty) (f : El t → Eff) : Spec := fun xs _ => match xs with
  | [.val t' x] => (castT (a := t') t x).map f
  | _ => none
def sp2 (t u : Ty) (f : El t → El u → Eff) : Spec := fun xs _ => match xs with
  | [.val t' x, .val u' y] => (castT (a := t') t x).bind fun x => (castT (a := u') u y).map fun y => f x y
  | _ => none
def sp3 (t u v : Ty) (f : El t → El u → El v → Eff) : Spec := fun xs _ => match xs with
  | [.val t' x, .val u' y, .val v' z] => (castT (a := t') t x).bind fun x => (castT (a := u') u y).bind fun y => (castT (a := v') v z).map fun z => f x y z
  | _ => none
def sp4 (t u v s : Ty) (f : El t → El u → El v → El s → Eff) : Spec := fun xs _ => match xs with
  | [.val t' x, .val u' y, .val v' z, .val s' q] => (castT (a := t') t x).bind fun x => (castT (a := u') u y).bind fun y => (castT (a := v') v z).bind fun z => (castT (a := s') s q).map fun q => f x y z q
  | _ => none
theorem castT_inv {a b : Ty} {x : El a} {y : El b} (h : castT b x = some y) : ∃ e : a = b, (⟨a, x⟩ : (t : Ty) × El t) = ⟨b, y⟩ := by
  obtain ⟨e, rfl⟩ := castT_eq h
  cases e
  exact ⟨rfl, rfl⟩
theorem sp1_inv {t : Ty} {f : El t → Eff} {xs : List AV} {H : Heap} {e : Eff} (h : sp1 t f xs H = some e) : ∃ x, xs = [.val t x] ∧ e = f x := by
  unfold sp1 at h
  split at h
  · obtain ⟨x, h1, h2⟩ := opt_map h
    obtain ⟨e1, _⟩ := castT_eq h1
    cases e1
    obtain ⟨e1, rfl⟩ := castT_eq h1
    exact ⟨_, rfl, h2.symm⟩
  · cases h
theorem sp2_inv {t u : Ty} {f : El t → El u → Eff} {xs : List AV} {H : Heap} {e : Eff} (h : sp2 t u f xs H = some e) : ∃ x y, xs = [.val t x, .val u y] ∧ e = f x y := by
  unfold sp2 at h
  split at h
  · obtain ⟨x, h1, h⟩ := Option.bind_eq_some_iff.1 h
    obtain ⟨y, h2, h3⟩ := opt_map h
    obtain ⟨e1, rfl⟩ := castT_eq h1
    obtain ⟨e2, rfl⟩ := castT_eq h2
    cases e1; cases e2
    exact ⟨_, _, rfl, h3.symm⟩
  · cases h
theorem sp3_inv {t u v : Ty} {f : El t → El u → El v → Eff} {xs : List AV} {H : Heap} {e : Eff} (h : sp3 t u v f xs H = some e) : ∃ x y z, xs = [.val t x, .val u y, .val v z] ∧ e = f x y z := by
  unfold sp3 at h
  split at h
  · obtain ⟨x, h1, h⟩ := Option.bind_eq_some_iff.1 h
    obtain ⟨y, h2, h⟩ := Option.bind_eq_some_iff.1 h
    obtain ⟨z, h3, h4⟩ := opt_map h
    obtain ⟨e1, rfl⟩ := castT_eq h1
    obtain ⟨e2, rfl⟩ := castT_eq h2
    obtain ⟨e3, rfl⟩ := castT_eq h3
    cases e1; cases e2; cases e3
    exact ⟨_, _, _, rfl, h4.symm⟩
  · cases h
theorem sp4_inv {t u v s : Ty} {f : El t → El u → El v → El s → Eff} {xs : List AV} {H : Heap} {e : Eff} (h : sp4 t u v s f xs H = some e) : ∃ x y z q, xs = [.val t x, .val u y, .val v z, .val s q] ∧ e = f x y z q := by
  unfold sp4 at h
  split at h
  · obtain ⟨x, h1, h⟩ := Option.bind_eq_some_iff.1 h
    obtain ⟨y, h2, h⟩ := Option.bind_eq_some_iff.1 h
    obtain ⟨z, h3, h⟩ := Option.bind_eq_some_iff.1 h
    obtain ⟨q, h4, h5⟩ := opt_map h
    obtain ⟨e1, rfl⟩ := castT_eq h1
    obtain ⟨e2, rfl⟩ := castT_eq h2
    obtain ⟨e3, rfl⟩ := castT_eq h3
    obtain ⟨e4, rfl⟩ := castT_eq h4
    cases e1; cases e2; cases e3; cases e4
    exact ⟨_, _, _, _, rfl, h5.symm⟩
  · cases h

def okFn (fn : Func) : Bool := fn.body.isSome && !(fn.name == "runtime.NumGoroutine") && (dsts (body fn)).all (fun d => Nat.blt d fn.ntmps) && Nat.ble fn.results.size 4
section
variable {P : Program} {tb : Tab} {f : Nat} {fn : Func}
/-- the weakest precondition of a function that is handed no objects -/
def wpF (tb : Tab) (G : Specs) (LA CA : Nat → Option (AState → Ann)) (fn : Func) (e : Eff) (avl : List AV) (H : Heap) : Prop :=
  wpA tb G false (e.wr.map (·.1)) LA CA (body fn) (retQ tb fn.results.toList e (knw [] H)) (entry avl (knw [] H))
theorem sat1 (hP : Fine P tb) (G : Specs) (hG : ∀ q, q ∈ G → Sat P q.1 q.2) (hf : P.funcs[f]? = some fn) (hok : okFn fn = true) {t : Ty} {F : El t → Eff}
    (h : ∀ x H, (∀ p, p ∈ (F x).pre → p) → WF t x → ∃ LA CA, wpF tb G LA CA fn (F x) [.val t x] H) : Sat P f (sp1 t F) :=
  sat0 hP G hG hf hok fun avl H e hsp hpre hwf => by
    obtain ⟨x, rfl, rfl⟩ := sp1_inv hsp
    exact h x H hpre (hwf.a (.val t x) (by simp))
theorem sat2 (hP : Fine P tb) (G : Specs) (hG : ∀ q, q ∈ G → Sat P q.1 q.2) (hf : P.funcs[f]? = some fn) (hok : okFn fn = true) {t u : Ty} {F : El t → El u → Eff}
    (h : ∀ x y H, (∀ p, p ∈ (F x y).pre → p) → WF t x → WF u y → ∃ LA CA, wpF tb G LA CA fn (F x y) [.val t x, .val u y] H) : Sat P f (sp2 t u F) :=
  sat0 hP G hG hf hok fun avl H e hsp hpre hwf => by
    obtain ⟨x, y, rfl, rfl⟩ := sp2_inv hsp
    exact h x y H hpre (hwf.a (.val t x) (by simp)) (hwf.a (.val u y) (by simp))
theorem sat3 (hP : Fine P tb) (G : Specs) (hG : ∀ q, q ∈ G → Sat P q.1 q.2) (hf : P.funcs[f]? = some fn) (hok : okFn fn = true) {t u v : Ty} {F : El t → El u → El v → Eff}
    (h : ∀ x y z H, (∀ p, p ∈ (F x y z).pre → p) → WF t x → WF u y → WF v z → ∃ LA CA, wpF tb G LA CA fn (F x y z) [.val t x, .val u y, .val v z] H) : Sat P f (sp3 t u v F) :=
  sat0 hP G hG hf hok fun avl H e hsp hpre hwf => by
    obtain ⟨x, y, z, rfl, rfl⟩ := sp3_inv hsp
    exact h x y z H hpre (hwf.a (.val t x) (by simp)) (hwf.a (.val u y) (by simp)) (hwf.a (.val v z) (by simp))
theorem sat4 (hP : Fine P tb) (G : Specs) (hG : ∀ q, q ∈ G → Sat P q.1 q.2) (hf : P.funcs[f]? = some fn) (hok : okFn fn = true) {t u v s : Ty} {F : El t → El u → El v → El s → Eff}
    (h : ∀ x y z q H, (∀ p, p ∈ (F x y z q).pre → p) → WF t x → WF u y → WF v z → WF s q → ∃ LA CA, wpF tb G LA CA fn (F x y z q) [.val t x, .val u y, .val v z, .val s q] H) : Sat P f (sp4 t u v s F) :=
  sat0 hP G hG hf hok fun avl H e hsp hpre hwf => by
    obtain ⟨x, y, z, q, rfl, rfl⟩ := sp4_inv hsp
    exact h x y z q H hpre (hwf.a (.val t x) (by simp)) (hwf.a (.val u y) (by simp)) (hwf.a (.val v z) (by simp)) (hwf.a (.val s q) (by simp))

/-- recursion, with a measure on the first argument -/
def ltE (b : Prop) (e : Eff) : Eff := match e with | ⟨p, v, w⟩ => ⟨b :: p, v, w⟩
theorem rec1 (hP : Fine P tb) (G : Specs) (hG : ∀ q, q ∈ G → Sat P q.1 q.2) (hf : P.funcs[f]? = some fn) (hok : okFn fn = true) {t : Ty} {F : El t → Eff} (mea : El t → Nat)
    (h : ∀ n x H, (∀ p, p ∈ (F x).pre → p) → mea x < n + 1 → WF t x → ∃ LA CA, wpF tb ((f, sp1 t fun x => ltE (mea x < n) (F x)) :: G) LA CA fn (F x) [.val t x] H) : Sat P f (sp1 t F) := by
  have key : ∀ n, Sat P f (sp1 t fun x => ltE (mea x < n) (F x)) := by
    intro n
    induction n with
    | zero =>
      intro w Z X pl H avl vs e hsp hpre
      obtain ⟨x, rfl, rfl⟩ := sp1_inv hsp
      have := hpre (mea x < 0) (by simp [ltE])
      omega
    | succ n ih =>
      refine sat1 hP _ (ih.app hG) hf hok fun x H hpre hwf => ?_
      obtain ⟨LA, CA, hw⟩ := h n x H (fun p hp => hpre p (by simp [ltE, hp])) (hpre (mea x < n + 1) (by simp [ltE])) hwf
      exact ⟨LA, CA, hw⟩
  intro w Z X pl H avl vs e hsp hpre hg has hkn hrng
  obtain ⟨x, rfl, rfl⟩ := sp1_inv hsp
  have := key (mea x + 1) w Z X pl H [.val t x] vs (ltE (mea x < mea x + 1) (F x)) (by simp [sp1, castT]) (fun q hq => by
    simp only [ltE, List.mem_cons] at hq
    rcases hq with rfl | hq
    · exact Nat.lt_succ_self _
    · exact hpre q hq) hg has hkn hrng
  exact this
theorem rec2 (hP : Fine P tb) (G : Specs) (hG : ∀ q, q ∈ G → Sat P q.1 q.2) (hf : P.funcs[f]? = some fn) (hok : okFn fn = true) {t u : Ty} {F : El t → El u → Eff} (mea : El t → El u → Nat)
    (h : ∀ n x y H, (∀ p, p ∈ (F x y).pre → p) → mea x y < n + 1 → WF t x → WF u y → ∃ LA CA, wpF tb ((f, sp2 t u fun x y => ltE (mea x y < n) (F x y)) :: G) LA CA fn (F x y) [.val t x, .val u y] H) : Sat P f (sp2 t u F) := by
  have key : ∀ n, Sat P f (sp2 t u fun x y => ltE (mea x y < n) (F x y)) := by
    intro n
    induction n with
    | zero =>
      intro w Z X pl H avl vs e hsp hpre
      obtain ⟨x, y, rfl, rfl⟩ := sp2_inv hsp
      have := hpre (mea x y < 0) (by simp [ltE])
      omega
    | succ n ih =>
      refine sat2 hP _ (ih.app hG) hf hok fun x y H hpre hwf hwf2 => ?_
      obtain ⟨LA, CA, hw⟩ := h n x y H (fun p hp => hpre p (by simp [ltE, hp])) (hpre (mea x y < n + 1) (by simp [ltE])) hwf hwf2
      exact ⟨LA, CA, hw⟩
  intro w Z X pl H avl vs e hsp hpre hg has hkn hrng
  obtain ⟨x, y, rfl, rfl⟩ := sp2_inv hsp
  have := key (mea x y + 1) w Z X pl H [.val t x, .val u y] vs (ltE (mea x y < mea x y + 1) (F x y)) (by simp [sp2, castT]) (fun q hq => by
    simp only [ltE, List.mem_cons] at hq
    rcases hq with rfl | hq
    · exact Nat.lt_succ_self _
    · exact hpre q hq) hg has hkn hrng
  exact this
end
/-- an annotation of temporaries alone -/
def annT (P : Type) (vars : P → List (Nat × AV)) (inv : P → Prop) (mea : P → Nat) : AState → Ann := fun _ => { P := P, vars := vars, objs := fun _ => [], inv := inv, mea := mea }
end A
end Go.Proofs.Ythgnjimpakpkjaa
namespace Go.Proofs.Ythgnjimpakpkjaa
namespace A
namespace F
def rsize (y : Arr) : Int := if y.kind = 1 ∨ y.kind = 2 then (y.nums.length : Int) else if y.kind = 3 then (y.items.length : Int) else 0
def rnum (n : Int) : Bool := decide (-4611686018427387903 ≤ n) && decide (n ≤ 4611686018427387903)
def rune (n : Int) : Bool := decide (0 ≤ n) && decide (n ≤ 1114111) && (decide (n < 55296) || decide (57343 < n))
def rprod : Int → List Int → Int
  | n, [] => n
  | n, d :: s => if d > 65536 then 65537 else if (if d > 0 then n * d else n) > 65536 then 65537 else rprod (if d > 0 then n * d else n) s
def hz (s : List Int) : Bool := s.any fun d => decide (d = 0)
def hneg (s : List Int) : Bool := s.any fun d => decide (d < 0)
def dims (s : List Int) : Int := if s.length > 8 then 15 else if hneg s then 16 else if rprod 1 s > 65536 then 21 else 0
def count (s : List Int) : Int := if hz s then 0 else rprod 1 s
mutual
def weight : Arr → Int
  | .mk k s n it => min (weightL k (rsize (.mk k s n it)) it) 262145
def weightL : Int → Int → List Arr → Int
  | _, n, [] => n
  | k, n, x :: l => if k = 3 ∧ n ≤ 262144 then weightL k (n + weight x) l else n
end
def bad (k : Int) (n : Int) : Bool := (decide (k = 1) && !rnum n) || (decide (k = 2) && !rune n)
def badL (k : Int) (l : List Int) : Bool := l.any (bad k)
mutual
def rcheck : Arr → Int × Int
  | .mk k s n it =>
    if k < 1 ∨ k > 3 then (14, 0)
    else if dims s ≠ 0 then (dims s, 0)
    else if rsize (.mk k s n it) ≠ count s ∨ (if k = 3 then (n.length : Int) else it.length) > 0 then (16, 0)
    else if badL k n then (17, 0)
    else match rcheckL 0 it with
      | none => (17, 0)
      | some d => if d > 16 ∨ weight (.mk k s n it) > 262144 then (21, 0) else (0, d)
def rcheckL : Int → List Arr → Option Int
  | d, [] => some d
  | d, x :: l => if (rcheck x).1 ≠ 0 then none else rcheckL (max d ((rcheck x).2 + 1)) l
end
def few (y : Arr) (n : Int) : Bool := decide (weight y ≤ n) && decide ((rcheck y).1 = 0)
/-- shape.Right -/
def sright1 : Int → List Int → Bool
  | _, [] => true
  | p, d :: s => if d < 0 ∨ d > 65536 then false else if d = 0 then sright1 p s else if p * d > 65536 then false else sright1 (p * d) s
def sright (s : List Int) : Bool := if s.length > 8 then false else sright1 1 s
def sprod1 : Int → List Int → Int
  | p, [] => p
  | p, d :: s => sprod1 (p * d) s
def sprod (s : List Int) : Int := if hz s then 0 else sprod1 1 s
def ssize (s : List Int) : Int := if sright s then sprod s else -1
/-- the first index at which something holds -/
def find {α : Type} (p : α → Bool) : List α → Int → Int
  | [], _ => -1
  | x :: l, i => if p x then i else find p l (i + 1)
mutual
def same : Arr → Arr → Bool
  | .mk k s n it, .mk k' s' n' it' => decide (k = k') && decide (s = s') && decide (n = n') && sameL it it'
def sameL : List Arr → List Arr → Bool
  | [], [] => true
  | x :: l, y :: m => same x y && sameL l m
  | _, _ => false
end
def eqF {α β : Type} (F : α → β → Bool) : List α → List β → Bool
  | [], [] => true
  | x :: l, y :: m => F x y && eqF F l m
  | _, _ => false
theorem sameL_eqF : ∀ l m, sameL l m = eqF same l m
  | [], [] => by simp [sameL, eqF]
  | [], _ :: _ => by simp [sameL, eqF]
  | _ :: _, [] => by simp [sameL, eqF]
  | x :: l, y :: m => by simp [sameL, eqF, sameL_eqF l m]
mutual
theorem same_iff : ∀ x y, same x y = true ↔ x = y
  | .mk k s n it, .mk k' s' n' it' => by simp [same, sameL_iff it it', and_assoc]
theorem sameL_iff : ∀ l m, sameL l m = true ↔ l = m
  | [], [] => by simp [sameL]
  | [], _ :: _ => by simp [sameL]
  | _ :: _, [] => by simp [sameL]
  | x :: l, y :: m => by simp [sameL, same_iff x y, sameL_iff l m]
end
mutual
def sz : Arr → Nat
  | .mk _ _ _ it => szL it + 1
def szL : List Arr → Nat
  | [] => 0
  | x :: l => sz x + szL l
end
theorem szL_mem : ∀ {l : List Arr} {x : Arr}, x ∈ l → sz x ≤ szL l
  | y :: l, x, h => by
    rcases List.mem_cons.1 h with rfl | h
    · simp [szL]
    · have := szL_mem h; simp only [szL]; omega
end F

/- small facts -/
theorem inR64 {n : Int} : inR .i64 n ↔ -9223372036854775808 ≤ n ∧ n ≤ 9223372036854775807 := Iff.rfl
theorem idx_iff {i : Int} {n : Nat} : idxRange i n ↔ 0 ≤ i ∧ i < n := Iff.rfl
theorem drop_getD {α : Type} {l : List α} {i : Nat} (d : α) (h : i < l.length) : l.drop i = l.getD i d :: l.drop (i + 1) := by
  rw [List.drop_eq_getElem_cons h, List.getD_eq_getElem?_getD, List.getElem?_eq_getElem h]; rfl
theorem drop_all {α : Type} {l : List α} {i : Nat} (h : l.length ≤ i) : l.drop i = [] := List.drop_eq_nil_of_le h
theorem WF_len {t : Ty} {l : List (El t)} (h : WF (.sl t) l) : l.length < 4294967296 := h.len
theorem WF_lenS {l : List Int} (h : WF SI l) : l.length < 4294967296 := h.len
theorem WF_lenA {l : List Arr} (h : WF SA l) : l.length < 4294967296 := h.len
theorem WF_arr {y : Arr} (h : WF (.rc .arr) y) : inR .i64 y.kind ∧ WF SI y.shape ∧ WF SI y.nums ∧ WF SA y.items :=
  ⟨h.rc.fst.int, h.rc.snd.fst, h.rc.snd.snd.fst, h.rc.snd.snd.snd⟩
theorem WF_ints {l : List Int} (h : WF SI l) {x : Int} (hx : x ∈ l) : -9223372036854775808 ≤ x ∧ x ≤ 9223372036854775807 := (h.mem hx).int
theorem getD_mem {α : Type} {l : List α} {i : Nat} (d : α) (h : i < l.length) : l.getD i d ∈ l := by
  rw [List.getD_eq_getElem?_getD, List.getElem?_eq_getElem h]; exact List.getElem_mem h
theorem sz_items {y x : Arr} (h : x ∈ y.items) : F.sz x < F.sz y := by
  cases y with
  | mk k s n it =>
    have := F.szL_mem (show x ∈ it from h)
    simp only [F.sz]
    omega
theorem toNat_cast (n : Nat) : ((n : Int)).toNat = n := Int.toNat_natCast n
end A
end Go.Proofs.Ythgnjimpakpkjaa
namespace Go.Proofs.Ythgnjimpakpkjaa
namespace A
def s65 : Spec := sp1 AR fun y => ret I64 (F.rsize y)
theorem wp65 (y : Arr) (H : Heap) :
    (wpF tb [] noA noA Try.f65 (ret I64 (F.rsize y)) [.val AR y] H) = (
  (decide (y.kind = (1 : Int)) = true →
    (decide (y.kind = (1 : Int)) = true → (↑y.nums.length : Int) = F.rsize y ∧ True) ∧
      (decide (y.kind = (1 : Int)) = false →
        (decide (y.kind = (3 : Int)) = true → (↑y.items.length : Int) = F.rsize y ∧ True) ∧ (decide (y.kind = (3 : Int)) = false → (0 : Int) = F.rsize y ∧ True))) ∧
  (decide (y.kind = (1 : Int)) = false →
    (decide (y.kind = (2 : Int)) = true → (↑y.nums.length : Int) = F.rsize y ∧ True) ∧
      (decide (y.kind = (2 : Int)) = false → (decide (y.kind = (3 : Int)) = true → (↑y.items.length : Int) = F.rsize y ∧ True) ∧ (decide (y.kind = (3 : Int)) = false → (0 : Int) = F.rsize y ∧ True)))) := by kernel_rfl

def s95 : Spec := sp1 I64 fun n => ret .bool (F.rnum n)
theorem wp95 (n : Int) (H : Heap) :
    (wpF tb [] noA noA Try.f95 (ret .bool (F.rnum n)) [.val I64 n] H) = (
  (bif decide ((-4611686018427387903 : Int) ≤ n) then decide (n ≤ (4611686018427387903 : Int)) else false) = F.rnum n ∧ True) := by kernel_rfl

def s96 : Spec := sp1 I64 fun n => ret .bool (F.rune n)
theorem wp96 (n : Int) (H : Heap) :
    (wpF tb [] noA noA Try.f96 (ret .bool (F.rune n)) [.val I64 n] H) = (
  (bif bif decide ((0 : Int) ≤ n) then decide (n ≤ (1114111 : Int)) else false then bif decide (n < (55296 : Int)) then true else decide ((57343 : Int) < n) else false) = F.rune n ∧ True) := by kernel_rfl

def s114 : Spec := sp1 SI fun s => ret I64 (F.rprod 1 s)
def la114 (s : List Int) : Nat → Option (AState → Ann)
  | 3 => some (annT (Nat × Int) (fun p => [(3, .val I64 p.2), (4, .val I64 (p.1 : Int))]) (fun p => p.1 ≤ s.length ∧ F.rprod 1 s = F.rprod p.2 (s.drop p.1) ∧ 1 ≤ p.2 ∧ p.2 ≤ 65536) (fun p => s.length - p.1))
  | _ => none
theorem wp114 (s : List Int) (H : Heap) :
    (wpF tb [] (la114 s) noA Try.f114 (ret I64 (F.rprod 1 s)) [.val SI s] H) = (
  (∃ (q0 : Nat × Int),
    (q0.fst ≤ s.length ∧ F.rprod (1 : Int) s = F.rprod q0.snd (List.drop q0.fst s) ∧ (1 : Int) ≤ q0.snd ∧ q0.snd ≤ (65536 : Int)) ∧ (1 : Int) = q0.snd ∧ (0 : Int) = (↑q0.fst : Int) ∧ True) ∧
  ∀ (q0 : Nat × Int),
    q0.fst ≤ s.length ∧ F.rprod (1 : Int) s = F.rprod q0.snd (List.drop q0.fst s) ∧ (1 : Int) ≤ q0.snd ∧ q0.snd ≤ (65536 : Int) →
      (decide ((↑q0.fst : Int) < (↑s.length : Int)) = true →
          idxRange (↑q0.fst : Int) s.length ∧
            (decide ((65536 : Int) < s.getD (↑q0.fst : Int).toNat (0 : Int)) = true → (65537 : Int) = F.rprod (1 : Int) s ∧ True) ∧
              (decide ((65536 : Int) < s.getD (↑q0.fst : Int).toNat (0 : Int)) = false →
                idxRange (↑q0.fst : Int) s.length ∧
                  (decide ((0 : Int) < s.getD (↑q0.fst : Int).toNat (0 : Int)) = true →
                      idxRange (↑q0.fst : Int) s.length ∧
                        inR IntKind.i64 (q0.snd * s.getD (↑q0.fst : Int).toNat (0 : Int)) ∧
                          (decide ((65536 : Int) < q0.snd * s.getD (↑q0.fst : Int).toNat (0 : Int)) = true → (65537 : Int) = F.rprod (1 : Int) s ∧ True) ∧
                            (decide ((65536 : Int) < q0.snd * s.getD (↑q0.fst : Int).toNat (0 : Int)) = false →
                              inR IntKind.i64 ((↑q0.fst : Int) + (1 : Int)) ∧
                                ∃ (q6 : Nat × Int),
                                  (q6.fst ≤ s.length ∧ F.rprod (1 : Int) s = F.rprod q6.snd (List.drop q6.fst s) ∧ (1 : Int) ≤ q6.snd ∧ q6.snd ≤ (65536 : Int)) ∧
                                    s.length - q6.fst < s.length - q0.fst ∧ q0.snd * s.getD (↑q0.fst : Int).toNat (0 : Int) = q6.snd ∧ (↑q0.fst : Int) + (1 : Int) = (↑q6.fst : Int) ∧ True)) ∧
                    (decide ((0 : Int) < s.getD (↑q0.fst : Int).toNat (0 : Int)) = false →
                      (decide ((65536 : Int) < q0.snd) = true → (65537 : Int) = F.rprod (1 : Int) s ∧ True) ∧
                        (decide ((65536 : Int) < q0.snd) = false →
                          inR IntKind.i64 ((↑q0.fst : Int) + (1 : Int)) ∧
                            ∃ (q6 : Nat × Int),
                              (q6.fst ≤ s.length ∧ F.rprod (1 : Int) s = F.rprod q6.snd (List.drop q6.fst s) ∧ (1 : Int) ≤ q6.snd ∧ q6.snd ≤ (65536 : Int)) ∧
                                s.length - q6.fst < s.length - q0.fst ∧ q0.snd = q6.snd ∧ (↑q0.fst : Int) + (1 : Int) = (↑q6.fst : Int) ∧ True)))) ∧
        (decide ((↑q0.fst : Int) < (↑s.length : Int)) = false → q0.snd = F.rprod (1 : Int) s ∧ True)) := by kernel_rfl

def s94 : Spec := sp1 SI fun s => ret I64 (F.count s)
def la94 (s : List Int) : Nat → Option (AState → Ann)
  | 2 => some (annT Nat (fun i => [(3, .val I64 (i : Int))]) (fun i => i ≤ s.length ∧ F.hz s = F.hz (s.drop i)) (fun i => s.length - i))
  | _ => none
theorem wp94 (s : List Int) (H : Heap) :
    (wpF tb [(114, s114)] (la94 s) noA Try.f94 (ret I64 (F.count s)) [.val SI s] H) = (
  (∃ (q0 : Nat), (q0 ≤ s.length ∧ F.hz s = F.hz (List.drop q0 s)) ∧ (0 : Int) = (↑q0 : Int) ∧ True) ∧
  ∀ (q0 : Nat),
    q0 ≤ s.length ∧ F.hz s = F.hz (List.drop q0 s) →
      (decide ((↑q0 : Int) < (↑s.length : Int)) = true →
          idxRange (↑q0 : Int) s.length ∧
            (decide (s.getD (↑q0 : Int).toNat (0 : Int) = (0 : Int)) = true → (0 : Int) = F.count s ∧ True) ∧
              (decide (s.getD (↑q0 : Int).toNat (0 : Int) = (0 : Int)) = false →
                inR IntKind.i64 ((↑q0 : Int) + (1 : Int)) ∧
                  ∃ (q4 : Nat), (q4 ≤ s.length ∧ F.hz s = F.hz (List.drop q4 s)) ∧ s.length - q4 < s.length - q0 ∧ (↑q0 : Int) + (1 : Int) = (↑q4 : Int) ∧ True)) ∧
        (decide ((↑q0 : Int) < (↑s.length : Int)) = false → F.rprod (1 : Int) s = F.count s ∧ True)) := by kernel_rfl

def s93 : Spec := sp1 SI fun s => ret I64 (F.dims s)
def la93 (s : List Int) : Nat → Option (AState → Ann)
  | 4 => some (annT Nat (fun i => [(3, .val I64 (i : Int))]) (fun i => i ≤ s.length ∧ F.hneg s = F.hneg (s.drop i)) (fun i => s.length - i))
  | _ => none
theorem wp93 (s : List Int) (H : Heap) :
    (wpF tb [(114, s114)] (la93 s) noA Try.f93 (ret I64 (F.dims s)) [.val SI s] H) = (
  (decide ((8 : Int) < (↑s.length : Int)) = true → (15 : Int) = F.dims s ∧ True) ∧
  (decide ((8 : Int) < (↑s.length : Int)) = false →
    (∃ (q1 : Nat), (q1 ≤ s.length ∧ F.hneg s = F.hneg (List.drop q1 s)) ∧ (0 : Int) = (↑q1 : Int) ∧ True) ∧
      ∀ (q1 : Nat),
        q1 ≤ s.length ∧ F.hneg s = F.hneg (List.drop q1 s) →
          (decide ((↑q1 : Int) < (↑s.length : Int)) = true →
              idxRange (↑q1 : Int) s.length ∧
                (decide (s.getD (↑q1 : Int).toNat (0 : Int) < (0 : Int)) = true → (16 : Int) = F.dims s ∧ True) ∧
                  (decide (s.getD (↑q1 : Int).toNat (0 : Int) < (0 : Int)) = false →
                    inR IntKind.i64 ((↑q1 : Int) + (1 : Int)) ∧
                      ∃ (q5 : Nat), (q5 ≤ s.length ∧ F.hneg s = F.hneg (List.drop q5 s)) ∧ s.length - q5 < s.length - q1 ∧ (↑q1 : Int) + (1 : Int) = (↑q5 : Int) ∧ True)) ∧
            (decide ((↑q1 : Int) < (↑s.length : Int)) = false →
              (decide ((65536 : Int) < F.rprod (1 : Int) s) = true → (21 : Int) = F.dims s ∧ True) ∧ (decide ((65536 : Int) < F.rprod (1 : Int) s) = false → (0 : Int) = F.dims s ∧ True)))) := by kernel_rfl

def s28 : Spec := sp1 AR fun y => ret I64 (F.weight y)
def la28 (y : Arr) : Nat → Option (AState → Ann)
  | 3 => some (annT (Nat × Int) (fun p => [(3, .val I64 p.2), (4, .val I64 (p.1 : Int))]) (fun p => p.1 ≤ y.items.length ∧ F.weightL y.kind (F.rsize y) y.items = F.weightL y.kind p.2 (y.items.drop p.1) ∧ 0 ≤ p.2 ∧ p.2 ≤ 4294967296) (fun p => y.items.length - p.1))
  | _ => none
theorem wp28 (y : Arr) (H : Heap) (n : Nat) :
    (wpF tb ((28, sp1 AR fun y => ltE (F.sz y < n) (ret I64 (F.weight y))) :: [(65, s65)]) (la28 y) noA Try.f28 (ret I64 (F.weight y)) [.val AR y] H) = (
  (∃ (q0 : Nat × Int),
    (q0.fst ≤ y.items.length ∧ F.weightL y.kind (F.rsize y) y.items = F.weightL y.kind q0.snd (List.drop q0.fst y.items) ∧ (0 : Int) ≤ q0.snd ∧ q0.snd ≤ (4294967296 : Int)) ∧
      F.rsize y = q0.snd ∧ (0 : Int) = (↑q0.fst : Int) ∧ True) ∧
  ∀ (q0 : Nat × Int),
    q0.fst ≤ y.items.length ∧ F.weightL y.kind (F.rsize y) y.items = F.weightL y.kind q0.snd (List.drop q0.fst y.items) ∧ (0 : Int) ≤ q0.snd ∧ q0.snd ≤ (4294967296 : Int) →
      ((bif bif decide ((↑q0.fst : Int) < (↑y.items.length : Int)) then decide (y.kind = (3 : Int)) else false then decide (q0.snd ≤ (262144 : Int)) else false) = true →
          idxRange (↑q0.fst : Int) y.items.length ∧
            F.sz (y.items.getD (↑q0.fst : Int).toNat (Arr.mk (0 : Int) [] [] [])) < n ∧
              inR IntKind.i64 (q0.snd + F.weight (y.items.getD (↑q0.fst : Int).toNat (Arr.mk (0 : Int) [] [] []))) ∧
                inR IntKind.i64 ((↑q0.fst : Int) + (1 : Int)) ∧
                  ∃ (q3 : Nat × Int),
                    (q3.fst ≤ y.items.length ∧ F.weightL y.kind (F.rsize y) y.items = F.weightL y.kind q3.snd (List.drop q3.fst y.items) ∧ (0 : Int) ≤ q3.snd ∧ q3.snd ≤ (4294967296 : Int)) ∧
                      y.items.length - q3.fst < y.items.length - q0.fst ∧
                        q0.snd + F.weight (y.items.getD (↑q0.fst : Int).toNat (Arr.mk (0 : Int) [] [] [])) = q3.snd ∧ (↑q0.fst : Int) + (1 : Int) = (↑q3.fst : Int) ∧ True) ∧
        ((bif bif decide ((↑q0.fst : Int) < (↑y.items.length : Int)) then decide (y.kind = (3 : Int)) else false then decide (q0.snd ≤ (262144 : Int)) else false) = false →
          min q0.snd (262145 : Int) = F.weight y ∧ True)) := by kernel_rfl

def s66 : Spec := sp1 AR fun y => ret2 I64 I64 (F.rcheck y).1 (F.rcheck y).2
def la66 (y : Arr) : Nat → Option (AState → Ann)
  | 12 => some (annT Nat (fun i => [(6, .val I64 (i : Int))]) (fun i => i ≤ y.nums.length ∧ F.badL y.kind y.nums = F.badL y.kind (y.nums.drop i)) (fun i => y.nums.length - i))
  | 18 => some (annT (Nat × Int) (fun p => [(7, .val I64 p.2), (8, .val I64 (p.1 : Int))]) (fun p => p.1 ≤ y.items.length ∧ F.rcheckL 0 y.items = F.rcheckL p.2 (y.items.drop p.1) ∧ 0 ≤ p.2 ∧ p.2 ≤ 17) (fun p => y.items.length - p.1))
  | _ => none
theorem wp66 (y : Arr) (H : Heap) (n : Nat) :
    (wpF tb ((66, sp1 AR fun y => ltE (F.sz y < n) (ret2 I64 I64 (F.rcheck y).1 (F.rcheck y).2)) :: [(93, s93), (65, s65), (94, s94), (95, s95), (96, s96), (28, s28)]) (la66 y) noA Try.f66 (ret2 I64 I64 (F.rcheck y).1 (F.rcheck y).2) [.val AR y] H) = (
  ((bif decide (y.kind < (1 : Int)) then true else decide ((3 : Int) < y.kind)) = true → (14 : Int) = (F.rcheck y).fst ∧ (0 : Int) = (F.rcheck y).snd ∧ True) ∧
  ((bif decide (y.kind < (1 : Int)) then true else decide ((3 : Int) < y.kind)) = false →
    ((!decide (F.dims y.shape = (0 : Int))) = true → F.dims y.shape = (F.rcheck y).fst ∧ (0 : Int) = (F.rcheck y).snd ∧ True) ∧
      ((!decide (F.dims y.shape = (0 : Int))) = false →
        (decide (y.kind = (3 : Int)) = true →
            ((bif !decide (F.rsize y = F.count y.shape) then true else decide ((0 : Int) < (↑y.nums.length : Int))) = true → (16 : Int) = (F.rcheck y).fst ∧ (0 : Int) = (F.rcheck y).snd ∧ True) ∧
              ((bif !decide (F.rsize y = F.count y.shape) then true else decide ((0 : Int) < (↑y.nums.length : Int))) = false →
                (∃ (q4 : Nat), (q4 ≤ y.nums.length ∧ F.badL y.kind y.nums = F.badL y.kind (List.drop q4 y.nums)) ∧ (0 : Int) = (↑q4 : Int) ∧ True) ∧
                  ∀ (q4 : Nat),
                    q4 ≤ y.nums.length ∧ F.badL y.kind y.nums = F.badL y.kind (List.drop q4 y.nums) →
                      (decide ((↑q4 : Int) < (↑y.nums.length : Int)) = true →
                          (decide (y.kind = (1 : Int)) = true → idxRange (↑q4 : Int) y.nums.length) ∧
                            ((true && (bif decide (y.kind = (1 : Int)) then !F.rnum (y.nums.getD (↑q4 : Int).toNat (0 : Int)) else false) == false && decide (y.kind = (2 : Int)) == true) = true →
                                idxRange (↑q4 : Int) y.nums.length) ∧
                              ((bif bif decide (y.kind = (1 : Int)) then !F.rnum (y.nums.getD (↑q4 : Int).toNat (0 : Int)) else false then true
                                    else bif decide (y.kind = (2 : Int)) then !F.rune (y.nums.getD (↑q4 : Int).toNat (0 : Int)) else false) =
                                    true →
                                  (17 : Int) = (F.rcheck y).fst ∧ (0 : Int) = (F.rcheck y).snd ∧ True) ∧
                                ((bif bif decide (y.kind = (1 : Int)) then !F.rnum (y.nums.getD (↑q4 : Int).toNat (0 : Int)) else false then true
                                    else bif decide (y.kind = (2 : Int)) then !F.rune (y.nums.getD (↑q4 : Int).toNat (0 : Int)) else false) =
                                    false →
                                  inR IntKind.i64 ((↑q4 : Int) + (1 : Int)) ∧
                                    ∃ (q8 : Nat),
                                      (q8 ≤ y.nums.length ∧ F.badL y.kind y.nums = F.badL y.kind (List.drop q8 y.nums)) ∧
                                        y.nums.length - q8 < y.nums.length - q4 ∧ (↑q4 : Int) + (1 : Int) = (↑q8 : Int) ∧ True)) ∧
                        (decide ((↑q4 : Int) < (↑y.nums.length : Int)) = false →
                          (∃ (q7 : Nat × Int),
                              (q7.fst ≤ y.items.length ∧ F.rcheckL (0 : Int) y.items = F.rcheckL q7.snd (List.drop q7.fst y.items) ∧ (0 : Int) ≤ q7.snd ∧ q7.snd ≤ (17 : Int)) ∧
                                (0 : Int) = q7.snd ∧ (0 : Int) = (↑q7.fst : Int) ∧ True) ∧
                            ∀ (q7 : Nat × Int),
                              q7.fst ≤ y.items.length ∧ F.rcheckL (0 : Int) y.items = F.rcheckL q7.snd (List.drop q7.fst y.items) ∧ (0 : Int) ≤ q7.snd ∧ q7.snd ≤ (17 : Int) →
                                (decide ((↑q7.fst : Int) < (↑y.items.length : Int)) = true →
                                    idxRange (↑q7.fst : Int) y.items.length ∧
                                      F.sz (y.items.getD (↑q7.fst : Int).toNat (Arr.mk (0 : Int) [] [] [])) < n ∧
                                        ((!decide ((F.rcheck (y.items.getD (↑q7.fst : Int).toNat (Arr.mk (0 : Int) [] [] []))).fst = (0 : Int))) = true →
                                            (17 : Int) = (F.rcheck y).fst ∧ (0 : Int) = (F.rcheck y).snd ∧ True) ∧
                                          ((!decide ((F.rcheck (y.items.getD (↑q7.fst : Int).toNat (Arr.mk (0 : Int) [] [] []))).fst = (0 : Int))) = false →
                                            inR IntKind.i64 ((F.rcheck (y.items.getD (↑q7.fst : Int).toNat (Arr.mk (0 : Int) [] [] []))).snd + (1 : Int)) ∧
                                              inR IntKind.i64 ((↑q7.fst : Int) + (1 : Int)) ∧
                                                ∃ (q11 : Nat × Int),
                                                  (q11.fst ≤ y.items.length ∧
                                                      F.rcheckL (0 : Int) y.items = F.rcheckL q11.snd (List.drop q11.fst y.items) ∧ (0 : Int) ≤ q11.snd ∧ q11.snd ≤ (17 : Int)) ∧
                                                    y.items.length - q11.fst < y.items.length - q7.fst ∧
                                                      max q7.snd ((F.rcheck (y.items.getD (↑q7.fst : Int).toNat (Arr.mk (0 : Int) [] [] []))).snd + (1 : Int)) = q11.snd ∧
                                                        (↑q7.fst : Int) + (1 : Int) = (↑q11.fst : Int) ∧ True)) ∧
                                  (decide ((↑q7.fst : Int) < (↑y.items.length : Int)) = false →
                                    ((bif decide ((16 : Int) < q7.snd) then true else decide ((262144 : Int) < F.weight y)) = true →
                                        (21 : Int) = (F.rcheck y).fst ∧ (0 : Int) = (F.rcheck y).snd ∧ True) ∧
                                      ((bif decide ((16 : Int) < q7.snd) then true else decide ((262144 : Int) < F.weight y)) = false →
                                        (0 : Int) = (F.rcheck y).fst ∧ q7.snd = (F.rcheck y).snd ∧ True))))) ∧
          (decide (y.kind = (3 : Int)) = false →
            ((bif !decide (F.rsize y = F.count y.shape) then true else decide ((0 : Int) < (↑y.items.length : Int))) = true → (16 : Int) = (F.rcheck y).fst ∧ (0 : Int) = (F.rcheck y).snd ∧ True) ∧
              ((bif !decide (F.rsize y = F.count y.shape) then true else decide ((0 : Int) < (↑y.items.length : Int))) = false →
                (∃ (q4 : Nat), (q4 ≤ y.nums.length ∧ F.badL y.kind y.nums = F.badL y.kind (List.drop q4 y.nums)) ∧ (0 : Int) = (↑q4 : Int) ∧ True) ∧
                  ∀ (q4 : Nat),
                    q4 ≤ y.nums.length ∧ F.badL y.kind y.nums = F.badL y.kind (List.drop q4 y.nums) →
                      (decide ((↑q4 : Int) < (↑y.nums.length : Int)) = true →
                          (decide (y.kind = (1 : Int)) = true → idxRange (↑q4 : Int) y.nums.length) ∧
                            ((true && (bif decide (y.kind = (1 : Int)) then !F.rnum (y.nums.getD (↑q4 : Int).toNat (0 : Int)) else false) == false && decide (y.kind = (2 : Int)) == true) = true →
                                idxRange (↑q4 : Int) y.nums.length) ∧
                              ((bif bif decide (y.kind = (1 : Int)) then !F.rnum (y.nums.getD (↑q4 : Int).toNat (0 : Int)) else false then true
                                    else bif decide (y.kind = (2 : Int)) then !F.rune (y.nums.getD (↑q4 : Int).toNat (0 : Int)) else false) =
                                    true →
                                  (17 : Int) = (F.rcheck y).fst ∧ (0 : Int) = (F.rcheck y).snd ∧ True) ∧
                                ((bif bif decide (y.kind = (1 : Int)) then !F.rnum (y.nums.getD (↑q4 : Int).toNat (0 : Int)) else false then true
                                    else bif decide (y.kind = (2 : Int)) then !F.rune (y.nums.getD (↑q4 : Int).toNat (0 : Int)) else false) =
                                    false →
                                  inR IntKind.i64 ((↑q4 : Int) + (1 : Int)) ∧
                                    ∃ (q8 : Nat),
                                      (q8 ≤ y.nums.length ∧ F.badL y.kind y.nums = F.badL y.kind (List.drop q8 y.nums)) ∧
                                        y.nums.length - q8 < y.nums.length - q4 ∧ (↑q4 : Int) + (1 : Int) = (↑q8 : Int) ∧ True)) ∧
                        (decide ((↑q4 : Int) < (↑y.nums.length : Int)) = false →
                          (∃ (q7 : Nat × Int),
                              (q7.fst ≤ y.items.length ∧ F.rcheckL (0 : Int) y.items = F.rcheckL q7.snd (List.drop q7.fst y.items) ∧ (0 : Int) ≤ q7.snd ∧ q7.snd ≤ (17 : Int)) ∧
                                (0 : Int) = q7.snd ∧ (0 : Int) = (↑q7.fst : Int) ∧ True) ∧
                            ∀ (q7 : Nat × Int),
                              q7.fst ≤ y.items.length ∧ F.rcheckL (0 : Int) y.items = F.rcheckL q7.snd (List.drop q7.fst y.items) ∧ (0 : Int) ≤ q7.snd ∧ q7.snd ≤ (17 : Int) →
                                (decide ((↑q7.fst : Int) < (↑y.items.length : Int)) = true →
                                    idxRange (↑q7.fst : Int) y.items.length ∧
                                      F.sz (y.items.getD (↑q7.fst : Int).toNat (Arr.mk (0 : Int) [] [] [])) < n ∧
                                        ((!decide ((F.rcheck (y.items.getD (↑q7.fst : Int).toNat (Arr.mk (0 : Int) [] [] []))).fst = (0 : Int))) = true →
                                            (17 : Int) = (F.rcheck y).fst ∧ (0 : Int) = (F.rcheck y).snd ∧ True) ∧
                                          ((!decide ((F.rcheck (y.items.getD (↑q7.fst : Int).toNat (Arr.mk (0 : Int) [] [] []))).fst = (0 : Int))) = false →
                                            inR IntKind.i64 ((F.rcheck (y.items.getD (↑q7.fst : Int).toNat (Arr.mk (0 : Int) [] [] []))).snd + (1 : Int)) ∧
                                              inR IntKind.i64 ((↑q7.fst : Int) + (1 : Int)) ∧
                                                ∃ (q11 : Nat × Int),
                                                  (q11.fst ≤ y.items.length ∧
                                                      F.rcheckL (0 : Int) y.items = F.rcheckL q11.snd (List.drop q11.fst y.items) ∧ (0 : Int) ≤ q11.snd ∧ q11.snd ≤ (17 : Int)) ∧
                                                    y.items.length - q11.fst < y.items.length - q7.fst ∧
                                                      max q7.snd ((F.rcheck (y.items.getD (↑q7.fst : Int).toNat (Arr.mk (0 : Int) [] [] []))).snd + (1 : Int)) = q11.snd ∧
                                                        (↑q7.fst : Int) + (1 : Int) = (↑q11.fst : Int) ∧ True)) ∧
                                  (decide ((↑q7.fst : Int) < (↑y.items.length : Int)) = false →
                                    ((bif decide ((16 : Int) < q7.snd) then true else decide ((262144 : Int) < F.weight y)) = true →
                                        (21 : Int) = (F.rcheck y).fst ∧ (0 : Int) = (F.rcheck y).snd ∧ True) ∧
                                      ((bif decide ((16 : Int) < q7.snd) then true else decide ((262144 : Int) < F.weight y)) = false →
                                        (0 : Int) = (F.rcheck y).fst ∧ q7.snd = (F.rcheck y).snd ∧ True)))))))) := by kernel_rfl

def s29 : Spec := sp1 AR fun y => ret I64 (F.rcheck y).1
theorem wp29 (y : Arr) (H : Heap) :
    (wpF tb [(66, s66)] noA noA Try.f29 (ret I64 (F.rcheck y).1) [.val AR y] H) = (
  (F.rcheck y).fst = (F.rcheck y).fst ∧ True) := by kernel_rfl

def s7 : Spec := sp2 AR I64 fun y n => ret .bool (F.few y n)
theorem wp7 (y : Arr) (n : Int) (H : Heap) :
    (wpF tb [(28, s28), (29, s29)] noA noA Try.f7 (ret .bool (F.few y n)) [.val AR y, .val I64 n] H) = (
  (bif decide (F.weight y ≤ n) then decide ((F.rcheck y).fst = (0 : Int)) else false) = F.few y n ∧ True) := by kernel_rfl

end A
end Go.Proofs.Ythgnjimpakpkjaa
namespace Go.Proofs.Ythgnjimpakpkjaa
namespace A
theorem fine : Fine Try.prog tb := ⟨tok, by kernel_rfl⟩

theorem sat65 : Sat Try.prog 65 s65 := sat1 fine [] Sat.none Try.func65 (by kernel_rfl) fun (y : Arr) H _ _ => ⟨noA, noA, by
  refine (wp65 y H).mpr ?_
  simp only [decide_eq_true_eq, decide_eq_false_iff_not, and_true, F.rsize]
  grind⟩
theorem sat95 : Sat Try.prog 95 s95 := sat1 fine [] Sat.none Try.func95 (by kernel_rfl) fun (n : Int) H _ _ => ⟨noA, noA, by
  refine (wp95 n H).mpr ?_
  simp only [and_true, F.rnum]
  grind⟩
theorem sat96 : Sat Try.prog 96 s96 := sat1 fine [] Sat.none Try.func96 (by kernel_rfl) fun (n : Int) H _ _ => ⟨noA, noA, by
  refine (wp96 n H).mpr ?_
  simp only [and_true, F.rune]
  grind⟩

theorem F.rprod_cons (n d : Int) (s : List Int) : F.rprod n (d :: s) = if d > 65536 then 65537 else if (if d > 0 then n * d else n) > 65536 then 65537 else F.rprod (if d > 0 then n * d else n) s := rfl
theorem sat114 : Sat Try.prog 114 s114 := sat1 fine [] Sat.none Try.func114 (by kernel_rfl) fun (s : List Int) H _ hwf => ⟨la114 s, noA, by
  refine (wp114 s H).mpr ?_
  have hlen := WF_lenS hwf
  refine ⟨⟨(0, 1), ⟨Nat.zero_le _, rfl, by decide, by decide⟩, rfl, rfl, trivial⟩, ?_⟩
  rintro ⟨i, n⟩ ⟨h1, h2, h3, h4⟩
  simp only at h1 h2 h3 h4
  simp only [decide_eq_true_eq, decide_eq_false_iff_not, and_true, idx_iff, inR64, toNat_cast]
  refine ⟨fun hi => ?_, fun hi => ?_⟩
  · have hi : i < s.length := by omega
    rw [drop_getD 0 hi, F.rprod_cons] at h2
    generalize s.getD i 0 = d at h2
    have step : ∀ n', 1 ≤ n' → n' ≤ 65536 → F.rprod 1 s = F.rprod n' (s.drop (i + 1)) → (-9223372036854775808 ≤ (i : Int) + 1 ∧ (i : Int) + 1 ≤ 9223372036854775807) ∧ ∃ q6 : Nat × Int,
        (q6.fst ≤ s.length ∧ F.rprod 1 s = F.rprod q6.snd (List.drop q6.fst s) ∧ 1 ≤ q6.snd ∧ q6.snd ≤ 65536) ∧ s.length - q6.fst < s.length - i ∧ n' = q6.snd ∧ (i : Int) + 1 = (q6.fst : Int) := fun n' a b c =>
      ⟨by omega, (i + 1, n'), ⟨by simp only; omega, c, a, b⟩, by simp only; omega, rfl, by simp⟩
    refine ⟨by omega, fun hd => by rw [h2, if_pos (by omega)], fun hd => ?_⟩
    rw [if_neg (by omega)] at h2
    refine ⟨by omega, fun hd0 => ?_, fun hd0 => ?_⟩
    · simp only [if_pos (show d > 0 from hd0)] at h2
      have hm : 1 ≤ n * d := by have := Int.mul_le_mul h3 (show 1 ≤ d by omega) (by omega) (by omega); omega
      have hm2 : n * d ≤ 65536 * 65536 := Int.mul_le_mul h4 (by omega) (by omega) (by omega)
      refine ⟨by omega, by omega, fun hp => by rw [h2, if_pos (by omega)], fun hp => ?_⟩
      rw [if_neg (by omega)] at h2
      exact step _ hm (by omega) h2
    · simp only [if_neg (show ¬ d > 0 from hd0)] at h2
      refine ⟨fun hp => by omega, fun hp => ?_⟩
      rw [if_neg (by omega)] at h2
      exact step _ h3 h4 h2
  · rw [drop_all (by omega)] at h2
    rw [h2]; rfl⟩
theorem F.hz_cons (d : Int) (s : List Int) : F.hz (d :: s) = (decide (d = 0) || F.hz s) := rfl
theorem F.hneg_cons (d : Int) (s : List Int) : F.hneg (d :: s) = (decide (d < 0) || F.hneg s) := rfl
theorem sat94 : Sat Try.prog 94 s94 := sat1 fine [(114, s114)] (sat114.app Sat.none) Try.func94 (by kernel_rfl) fun (s : List Int) H _ hwf => ⟨la94 s, noA, by
  refine (wp94 s H).mpr ?_
  have hlen := WF_lenS hwf
  refine ⟨⟨0, ⟨Nat.zero_le _, rfl⟩, rfl, trivial⟩, ?_⟩
  rintro i ⟨h1, h2⟩
  simp only [decide_eq_true_eq, decide_eq_false_iff_not, and_true, idx_iff, inR64, toNat_cast]
  refine ⟨fun hi => ?_, fun hi => ?_⟩
  · have hi : i < s.length := by omega
    rw [drop_getD 0 hi, F.hz_cons] at h2
    generalize s.getD i 0 = d at h2
    refine ⟨by omega, fun hd => ?_, fun hd => ⟨by omega, i + 1, ⟨by omega, ?_⟩, by omega, by simp⟩⟩
    · simp [F.count, h2, hd]
    · simpa [hd] using h2
  · rw [drop_all (by omega)] at h2
    have h2 : F.hz s = false := h2
    simp [F.count, h2]⟩
theorem sat93 : Sat Try.prog 93 s93 := sat1 fine [(114, s114)] (sat114.app Sat.none) Try.func93 (by kernel_rfl) fun (s : List Int) H _ hwf => ⟨la93 s, noA, by
  refine (wp93 s H).mpr ?_
  have hlen := WF_lenS hwf
  simp only [decide_eq_true_eq, decide_eq_false_iff_not, and_true, idx_iff, inR64, toNat_cast]
  refine ⟨fun h8 => by unfold F.dims; rw [if_pos (by omega)], fun h8 => ⟨⟨0, ⟨Nat.zero_le _, rfl⟩, rfl⟩, ?_⟩⟩
  rintro i ⟨h1, h2⟩
  have e8 : ¬ s.length > 8 := by omega
  refine ⟨fun hi => ?_, fun hi => ?_⟩
  · have hi : i < s.length := by omega
    rw [drop_getD 0 hi, F.hneg_cons] at h2
    generalize s.getD i 0 = d at h2
    refine ⟨by omega, fun hd => ?_, fun hd => ⟨by omega, i + 1, ⟨by omega, ?_⟩, by omega, by simp⟩⟩
    · simp [F.dims, h2, hd, e8]
    · have hd : ¬ d < 0 := by omega
      simpa [hd] using h2
  · rw [drop_all (by omega)] at h2
    have h2 : F.hneg s = false := h2
    refine ⟨fun hp => by simp [F.dims, e8, h2, hp], fun hp => by simp [F.dims, e8, h2, show ¬ 65536 < F.rprod 1 s from hp]⟩⟩

theorem F.rsize_bd {y : Arr} (h : WF AR y) : 0 ≤ F.rsize y ∧ F.rsize y < 4294967296 := by
  obtain ⟨_, _, h2, h3⟩ := WF_arr h
  have h2 := WF_lenS h2
  have h3 := WF_lenA h3
  unfold F.rsize
  split
  · omega
  · split <;> omega
theorem F.weight_eq (y : Arr) : F.weight y = min (F.weightL y.kind (F.rsize y) y.items) 262145 := by cases y; rfl
mutual
theorem F.weight_nn : ∀ y : Arr, 0 ≤ F.weight y
  | .mk k s n it => by
    have h0 : 0 ≤ F.rsize (.mk k s n it) := by unfold F.rsize; split <;> (try split) <;> simp <;> omega
    have := F.weightL_nn it k (F.rsize (.mk k s n it)) h0
    simp only [F.weight]; omega
theorem F.weightL_nn : ∀ (l : List Arr) (k n : Int), 0 ≤ n → 0 ≤ F.weightL k n l
  | [], _, _, h => h
  | x :: l, k, n, h => by
    unfold F.weightL
    split
    · exact F.weightL_nn l k _ (by have := F.weight_nn x; omega)
    · exact h
end
theorem F.weight_le (y : Arr) : F.weight y ≤ 262145 := by rw [F.weight_eq]; omega
theorem F.weightL_cons (k n : Int) (x : Arr) (l : List Arr) : F.weightL k n (x :: l) = if k = 3 ∧ n ≤ 262144 then F.weightL k (n + F.weight x) l else n := by simp [F.weightL]
theorem sat28 : Sat Try.prog 28 s28 := rec1 fine [(65, s65)] (sat65.app Sat.none) Try.func28 (by kernel_rfl) F.sz fun m (y : Arr) H _ hm hwf => ⟨la28 y, noA, by
  refine (wp28 y H m).mpr ?_
  obtain ⟨_, _, _, h3⟩ := WF_arr hwf
  have hlen := WF_lenA h3
  have hsz := F.rsize_bd hwf
  refine ⟨⟨(0, F.rsize y), ⟨Nat.zero_le _, rfl, hsz.1, by simp only; omega⟩, rfl, rfl, trivial⟩, ?_⟩
  rintro ⟨i, n⟩ ⟨h1, h2, h3, h4⟩
  simp only at h1 h2 h3 h4
  simp only [decide_eq_true_eq, decide_eq_false_iff_not, and_true, idx_iff, inR64, toNat_cast]
  refine ⟨fun hc => ?_, fun hc => ?_⟩
  · have hc : (i : Int) < (y.items.length : Int) ∧ y.kind = 3 ∧ n ≤ 262144 := by grind
    have hi : i < y.items.length := by omega
    have hmem := getD_mem (Arr.mk 0 [] [] []) hi
    rw [drop_getD (Arr.mk 0 [] [] []) hi, F.weightL_cons, if_pos hc.2] at h2
    have hw := F.weight_nn (y.items.getD i (Arr.mk 0 [] [] []))
    have hw2 := F.weight_le (y.items.getD i (Arr.mk 0 [] [] []))
    have hs := sz_items hmem
    refine ⟨by omega, by omega, by omega, by omega, (i + 1, _), ⟨by simp only; omega, h2, by simp only; omega, by simp only; omega⟩, by simp only; omega, rfl, by simp⟩
  · rw [F.weight_eq, h2]
    by_cases hi : i < y.items.length
    · rw [drop_getD (Arr.mk 0 [] [] []) hi, F.weightL_cons, if_neg (by grind)]
    · rw [drop_all (by omega)]; rfl⟩

theorem F.rcheck_eq (y : Arr) : F.rcheck y = if y.kind < 1 ∨ y.kind > 3 then (14, 0)
    else if F.dims y.shape ≠ 0 then (F.dims y.shape, 0)
    else if F.rsize y ≠ F.count y.shape ∨ (if y.kind = 3 then (y.nums.length : Int) else y.items.length) > 0 then (16, 0)
    else if F.badL y.kind y.nums then (17, 0)
    else match F.rcheckL 0 y.items with
      | none => (17, 0)
      | some d => if d > 16 ∨ F.weight y > 262144 then (21, 0) else (0, d) := by cases y; rfl
theorem F.rcheckL_cons (d : Int) (x : Arr) (l : List Arr) : F.rcheckL d (x :: l) = if (F.rcheck x).1 ≠ 0 then none else F.rcheckL (max d ((F.rcheck x).2 + 1)) l := by simp [F.rcheckL]
theorem F.rcheckL_ge : ∀ (l : List Arr) (d d' : Int), F.rcheckL d l = some d' → d ≤ d'
  | [], d, d', h => by simp [F.rcheckL] at h; omega
  | x :: l, d, d', h => by
    rw [F.rcheckL_cons] at h
    split at h
    · cases h
    · have := F.rcheckL_ge l _ d' h; omega
theorem F.rcheck_bd (y : Arr) : 0 ≤ (F.rcheck y).2 ∧ (F.rcheck y).2 ≤ 16 := by
  rw [F.rcheck_eq]
  generalize (if y.kind = 3 then (y.nums.length : Int) else (y.items.length : Int)) = o
  split
  · simp
  split
  · simp
  split
  · simp
  split
  · simp
  split
  · simp
  · rename_i d hd
    have := F.rcheckL_ge _ _ _ hd
    split
    · simp
    · rename_i h; simp only [not_or] at h; simp only; omega
theorem F.bad_spec (k n : Int) : (bif bif decide (k = 1) then !F.rnum n else false then true else bif decide (k = 2) then !F.rune n else false) = F.bad k n := by
  unfold F.bad; cases decide (k = 1) <;> cases decide (k = 2) <;> cases F.rnum n <;> cases F.rune n <;> rfl
theorem F.badL_cons (k n : Int) (l : List Int) : F.badL k (n :: l) = (F.bad k n || F.badL k l) := rfl
theorem sat66_end {y : Arr} (n : Nat) (hm : F.sz y < n + 1) (hlen : y.items.length < 4294967296) (hk : ¬ (y.kind < 1 ∨ y.kind > 3)) (hd : F.dims y.shape = 0) (hr : ¬ (F.rsize y ≠ F.count y.shape ∨ (if y.kind = 3 then (y.nums.length : Int) else y.items.length) > 0)) (hb : F.badL y.kind y.nums = false) :
    (∃ (q7 : Nat × Int), (q7.fst ≤ y.items.length ∧ F.rcheckL (0 : Int) y.items = F.rcheckL q7.snd (List.drop q7.fst y.items) ∧ (0 : Int) ≤ q7.snd ∧ q7.snd ≤ (17 : Int)) ∧ (0 : Int) = q7.snd ∧ (0 : Int) = (↑q7.fst : Int) ∧ True) ∧
    ∀ (q7 : Nat × Int), q7.fst ≤ y.items.length ∧ F.rcheckL (0 : Int) y.items = F.rcheckL q7.snd (List.drop q7.fst y.items) ∧ (0 : Int) ≤ q7.snd ∧ q7.snd ≤ (17 : Int) →
      (decide ((↑q7.fst : Int) < (↑y.items.length : Int)) = true →
        idxRange (↑q7.fst : Int) y.items.length ∧ F.sz (y.items.getD (↑q7.fst : Int).toNat (Arr.mk (0 : Int) [] [] [])) < n ∧
          ((!decide ((F.rcheck (y.items.getD (↑q7.fst : Int).toNat (Arr.mk (0 : Int) [] [] []))).fst = (0 : Int))) = true → (17 : Int) = (F.rcheck y).fst ∧ (0 : Int) = (F.rcheck y).snd ∧ True) ∧
          ((!decide ((F.rcheck (y.items.getD (↑q7.fst : Int).toNat (Arr.mk (0 : Int) [] [] []))).fst = (0 : Int))) = false →
            inR IntKind.i64 ((F.rcheck (y.items.getD (↑q7.fst : Int).toNat (Arr.mk (0 : Int) [] [] []))).snd + (1 : Int)) ∧ inR IntKind.i64 ((↑q7.fst : Int) + (1 : Int)) ∧
              ∃ (q11 : Nat × Int), (q11.fst ≤ y.items.length ∧ F.rcheckL (0 : Int) y.items = F.rcheckL q11.snd (List.drop q11.fst y.items) ∧ (0 : Int) ≤ q11.snd ∧ q11.snd ≤ (17 : Int)) ∧
                y.items.length - q11.fst < y.items.length - q7.fst ∧ max q7.snd ((F.rcheck (y.items.getD (↑q7.fst : Int).toNat (Arr.mk (0 : Int) [] [] []))).snd + (1 : Int)) = q11.snd ∧ (↑q7.fst : Int) + (1 : Int) = (↑q11.fst : Int) ∧ True)) ∧
      (decide ((↑q7.fst : Int) < (↑y.items.length : Int)) = false →
        ((bif decide ((16 : Int) < q7.snd) then true else decide ((262144 : Int) < F.weight y)) = true → (21 : Int) = (F.rcheck y).fst ∧ (0 : Int) = (F.rcheck y).snd ∧ True) ∧
        ((bif decide ((16 : Int) < q7.snd) then true else decide ((262144 : Int) < F.weight y)) = false → (0 : Int) = (F.rcheck y).fst ∧ q7.snd = (F.rcheck y).snd ∧ True)) := by
  have hchk := F.rcheck_eq y
  rw [if_neg hk, if_neg (by simp [hd]), if_neg hr, if_neg (by simp [hb])] at hchk
  refine ⟨⟨(0, 0), ⟨Nat.zero_le _, rfl, by decide, by decide⟩, rfl, rfl, trivial⟩, ?_⟩
  rintro ⟨i, d⟩ ⟨h1, h2, h3, h4⟩
  simp only at h1 h2 h3 h4
  simp only [decide_eq_true_eq, decide_eq_false_iff_not, and_true, idx_iff, inR64, toNat_cast, Bool.not_eq_true', Bool.not_eq_false']
  refine ⟨fun hi => ?_, fun hi => ?_⟩
  · have hi : i < y.items.length := by omega
    have hmem := getD_mem (Arr.mk 0 [] [] []) hi
    rw [drop_getD (Arr.mk 0 [] [] []) hi, F.rcheckL_cons] at h2
    have hs := sz_items hmem
    have hbd := F.rcheck_bd (y.items.getD i (Arr.mk 0 [] [] []))
    generalize y.items.getD i (Arr.mk 0 [] [] []) = x at *
    refine ⟨by omega, by omega, fun he => ?_, fun he => ⟨by omega, by omega, (i + 1, _), ⟨by simp only; omega, ?_, by simp only; omega, by simp only; omega⟩, by simp only; omega, rfl, by simp⟩⟩
    · rw [if_pos he] at h2
      rw [hchk, h2]; simp
    · rw [if_neg (by simpa using he)] at h2; exact h2
  · rw [drop_all (by omega)] at h2
    have h2 : F.rcheckL 0 y.items = some d := h2
    rw [h2] at hchk
    simp only at hchk
    rw [hchk]
    refine ⟨fun hc => ?_, fun hc => ?_⟩
    · have : d > 16 ∨ F.weight y > 262144 := by grind
      rw [if_pos this]; simp
    · have : ¬ (d > 16 ∨ F.weight y > 262144) := by grind
      rw [if_neg this]; simp
theorem sat66 : Sat Try.prog 66 s66 := rec1 fine [(93, s93), (65, s65), (94, s94), (95, s95), (96, s96), (28, s28)] (sat93.app (sat65.app (sat94.app (sat95.app (sat96.app (sat28.app Sat.none)))))) Try.func66 (by kernel_rfl) F.sz fun m (y : Arr) H _ hm hwf => ⟨la66 y, noA, by
  refine (wp66 y H m).mpr ?_
  obtain ⟨_, _, w2, w3⟩ := WF_arr hwf
  have hlen := WF_lenA w3
  have hlen2 := WF_lenS w2
  have hchk := F.rcheck_eq y
  refine ⟨fun hk => ?_, fun hk => ?_⟩
  · have hk : y.kind < 1 ∨ y.kind > 3 := by grind
    rw [if_pos hk] at hchk
    rw [hchk]; exact ⟨rfl, rfl, trivial⟩
  have hk : ¬ (y.kind < 1 ∨ y.kind > 3) := by grind
  rw [if_neg hk] at hchk
  refine ⟨fun hd => ?_, fun hd => ?_⟩
  · have hd : F.dims y.shape ≠ 0 := by simpa using hd
    rw [if_pos hd] at hchk
    rw [hchk]; exact ⟨rfl, rfl, trivial⟩
  have hd : F.dims y.shape = 0 := by simpa using hd
  rw [if_neg (by simp [hd])] at hchk
  -- the loop over the numbers
  have key : ∀ (hr : ¬ (F.rsize y ≠ F.count y.shape ∨ (if y.kind = 3 then (y.nums.length : Int) else y.items.length) > 0)) (i : Nat), i ≤ y.nums.length → F.badL y.kind y.nums = F.badL y.kind (List.drop i y.nums) → i < y.nums.length →
      (F.bad y.kind (y.nums.getD i 0) = true → (17 : Int) = (F.rcheck y).fst ∧ (0 : Int) = (F.rcheck y).snd ∧ True) ∧ (F.bad y.kind (y.nums.getD i 0) = false → F.badL y.kind y.nums = F.badL y.kind (List.drop (i + 1) y.nums)) := by
    intro hr i h1 h2 hi
    rw [drop_getD 0 hi, F.badL_cons] at h2
    refine ⟨fun hb => ?_, fun hb => by rw [h2, hb]; rfl⟩
    rw [hb] at h2
    have h2 : F.badL y.kind y.nums = true := h2
    rw [if_neg hr, if_pos h2] at hchk
    rw [hchk]; exact ⟨rfl, rfl, trivial⟩
  have last : ∀ i : Nat, F.badL y.kind y.nums = F.badL y.kind (List.drop i y.nums) → ¬ i < y.nums.length → F.badL y.kind y.nums = false := fun i h hi => by
    rw [drop_all (by omega)] at h; exact h
  refine ⟨fun h3 => ?_, fun h3 => ?_⟩
  all_goals
    refine ⟨fun hr => ?_, fun hr => ?_⟩
    · have hr : F.rsize y ≠ F.count y.shape ∨ (if y.kind = 3 then (y.nums.length : Int) else y.items.length) > 0 := by grind
      rw [if_pos hr] at hchk
      rw [hchk]; exact ⟨rfl, rfl, trivial⟩
    have hr : ¬ (F.rsize y ≠ F.count y.shape ∨ (if y.kind = 3 then (y.nums.length : Int) else y.items.length) > 0) := by grind
    refine ⟨⟨0, ⟨Nat.zero_le _, rfl⟩, rfl, trivial⟩, ?_⟩
    rintro i ⟨h1, h2⟩
    refine ⟨fun hi => ?_, fun hi => sat66_end m hm hlen hk hd hr (last i h2 (by simpa using hi))⟩
    have hi : i < y.nums.length := by simpa using hi
    obtain ⟨k1, k2⟩ := key hr i h1 h2 hi
    rw [F.bad_spec, toNat_cast]
    simp only [idx_iff, inR64]
    refine ⟨fun _ => by omega, fun _ => by omega, k1, fun hb => ⟨by omega, i + 1, ⟨by omega, k2 hb⟩, by omega, by simp⟩⟩⟩
theorem sat29 : Sat Try.prog 29 s29 := sat1 fine [(66, s66)] (sat66.app Sat.none) Try.func29 (by kernel_rfl) fun (y : Arr) H _ _ => ⟨noA, noA, (wp29 y H).mpr ⟨rfl, trivial⟩⟩
theorem sat7 : Sat Try.prog 7 s7 := sat2 fine [(28, s28), (29, s29)] (sat28.app (sat29.app Sat.none)) Try.func7 (by kernel_rfl) fun (y : Arr) (n : Int) H _ _ _ => ⟨noA, noA, (wp7 y n H).mpr ⟨by
  unfold F.few; cases decide (F.weight y ≤ n) <;> rfl, trivial⟩⟩
end A
end Go.Proofs.Ythgnjimpakpkjaa
namespace Go.Proofs.Ythgnjimpakpkjaa
namespace A
def castF1 {a b : Ty} (a' b' : Ty) (pre : El a → Prop) (F : El a → El b) : Option ((El a' → Prop) × (El a' → El b')) :=
  if h : a = a' then if g : b = b' then some (fun x => pre (h ▸ x), fun x => g ▸ F (h ▸ x)) else none else none
def castF2 {a b c : Ty} (a' b' c' : Ty) (pre : El a → El b → Prop) (F : El a → El b → El c) : Option ((El a' → El b' → Prop) × (El a' → El b' → El c')) :=
  if h : a = a' then if g : b = b' then if k : c = c' then some (fun x y => pre (h ▸ x) (g ▸ y), fun x y => k ▸ F (h ▸ x) (g ▸ y)) else none else none else none
/-- a typed value, and a function of one argument -/
def spF1 (t a b : Ty) (f : El t → (El a → Prop) → (El a → El b) → Eff) : Spec := fun xs _ => match xs with
  | [.val t' x, .fnp1 a' b' pre F] => (castT (a := t') t x).bind fun x => (castF1 (a := a') (b := b') a b pre F).map fun q => f x q.1 q.2
  | _ => none
/-- two typed values, and a function of two arguments -/
def spF2 (t u a b c : Ty) (f : El t → El u → (El a → El b → Prop) → (El a → El b → El c) → Eff) : Spec := fun xs _ => match xs with
  | [.val t' x, .val u' y, .fnp2 a' b' c' pre F] => (castT (a := t') t x).bind fun x => (castT (a := u') u y).bind fun y => (castF2 (a := a') (b := b') (c := c') a b c pre F).map fun q => f x y q.1 q.2
  | _ => none
/-- a typed value, and a function of two arguments -/
def spG2 (t a b c : Ty) (f : El t → (El a → El b → Prop) → (El a → El b → El c) → Eff) : Spec := fun xs _ => match xs with
  | [.val t' x, .fnp2 a' b' c' pre F] => (castT (a := t') t x).bind fun x => (castF2 (a := a') (b := b') (c := c') a b c pre F).map fun q => f x q.1 q.2
  | _ => none
theorem castF1_inv {a b a' b' : Ty} {pre : El a → Prop} {F : El a → El b} {q} (h : castF1 a' b' pre F = some q) : AV.fnp1 a b pre F = .fnp1 a' b' q.1 q.2 := by
  unfold castF1 at h
  split at h
  · rename_i e1
    split at h
    · rename_i e2
      subst e1 e2
      cases h
      rfl
    · cases h
  · cases h
theorem castF2_inv {a b c a' b' c' : Ty} {pre : El a → El b → Prop} {F : El a → El b → El c} {q} (h : castF2 a' b' c' pre F = some q) : AV.fnp2 a b c pre F = .fnp2 a' b' c' q.1 q.2 := by
  unfold castF2 at h
  split at h
  · rename_i e1
    split at h
    · rename_i e2
      split at h
      · rename_i e3
        subst e1 e2 e3
        cases h
        rfl
      · cases h
    · cases h
  · cases h
theorem spF1_inv {t a b : Ty} {f : El t → (El a → Prop) → (El a → El b) → Eff} {xs : List AV} {H : Heap} {e : Eff} (h : spF1 t a b f xs H = some e) : ∃ x pre F, xs = [.val t x, .fnp1 a b pre F] ∧ e = f x pre F := by
  unfold spF1 at h
  split at h
  · obtain ⟨x, h1, h⟩ := Option.bind_eq_some_iff.1 h
    obtain ⟨q, h2, h3⟩ := opt_map h
    obtain ⟨e1, rfl⟩ := castT_eq h1
    cases e1
    exact ⟨_, _, _, by rw [castF1_inv h2], h3.symm⟩
  · cases h
theorem spF2_inv {t u a b c : Ty} {f : El t → El u → (El a → El b → Prop) → (El a → El b → El c) → Eff} {xs : List AV} {H : Heap} {e : Eff} (h : spF2 t u a b c f xs H = some e) :
    ∃ x y pre F, xs = [.val t x, .val u y, .fnp2 a b c pre F] ∧ e = f x y pre F := by
  unfold spF2 at h
  split at h
  · obtain ⟨x, h1, h⟩ := Option.bind_eq_some_iff.1 h
    obtain ⟨y, h2, h⟩ := Option.bind_eq_some_iff.1 h
    obtain ⟨q, h3, h4⟩ := opt_map h
    obtain ⟨e1, rfl⟩ := castT_eq h1
    obtain ⟨e2, rfl⟩ := castT_eq h2
    cases e1; cases e2
    exact ⟨_, _, _, _, by rw [castF2_inv h3], h4.symm⟩
  · cases h
theorem spG2_inv {t a b c : Ty} {f : El t → (El a → El b → Prop) → (El a → El b → El c) → Eff} {xs : List AV} {H : Heap} {e : Eff} (h : spG2 t a b c f xs H = some e) :
    ∃ x pre F, xs = [.val t x, .fnp2 a b c pre F] ∧ e = f x pre F := by
  unfold spG2 at h
  split at h
  · obtain ⟨x, h1, h⟩ := Option.bind_eq_some_iff.1 h
    obtain ⟨q, h3, h4⟩ := opt_map h
    obtain ⟨e1, rfl⟩ := castT_eq h1
    cases e1
    exact ⟨_, _, _, by rw [castF2_inv h3], h4.symm⟩
  · cases h
section
variable {P : Program} {tb : Tab} {f : Nat} {fn : Func}
theorem satF1 (hP : Fine P tb) (G : Specs) (hG : ∀ q, q ∈ G → Sat P q.1 q.2) (hf : P.funcs[f]? = some fn) (hok : okFn fn = true) {t a b : Ty} {E : El t → (El a → Prop) → (El a → El b) → Eff}
    (h : ∀ x pre F H, (∀ p, p ∈ (E x pre F).pre → p) → WF t x → ∃ LA CA, wpF tb G LA CA fn (E x pre F) [.val t x, .fnp1 a b pre F] H) : Sat P f (spF1 t a b E) :=
  sat0 hP G hG hf hok fun avl H e hsp hpre hwf => by
    obtain ⟨x, pre, F, rfl, rfl⟩ := spF1_inv hsp
    exact h x pre F H hpre (hwf.a (.val t x) (by simp))
theorem satF2 (hP : Fine P tb) (G : Specs) (hG : ∀ q, q ∈ G → Sat P q.1 q.2) (hf : P.funcs[f]? = some fn) (hok : okFn fn = true) {t u a b c : Ty} {E : El t → El u → (El a → El b → Prop) → (El a → El b → El c) → Eff}
    (h : ∀ x y pre F H, (∀ p, p ∈ (E x y pre F).pre → p) → WF t x → WF u y → ∃ LA CA, wpF tb G LA CA fn (E x y pre F) [.val t x, .val u y, .fnp2 a b c pre F] H) : Sat P f (spF2 t u a b c E) :=
  sat0 hP G hG hf hok fun avl H e hsp hpre hwf => by
    obtain ⟨x, y, pre, F, rfl, rfl⟩ := spF2_inv hsp
    exact h x y pre F H hpre (hwf.a (.val t x) (by simp)) (hwf.a (.val u y) (by simp))
theorem satG2 (hP : Fine P tb) (G : Specs) (hG : ∀ q, q ∈ G → Sat P q.1 q.2) (hf : P.funcs[f]? = some fn) (hok : okFn fn = true) {t a b c : Ty} {E : El t → (El a → El b → Prop) → (El a → El b → El c) → Eff}
    (h : ∀ x pre F H, (∀ p, p ∈ (E x pre F).pre → p) → WF t x → ∃ LA CA, wpF tb G LA CA fn (E x pre F) [.val t x, .fnp2 a b c pre F] H) : Sat P f (spG2 t a b c E) :=
  sat0 hP G hG hf hok fun avl H e hsp hpre hwf => by
    obtain ⟨x, pre, F, rfl, rfl⟩ := spG2_inv hsp
    exact h x pre F H hpre (hwf.a (.val t x) (by simp))
end
/-- an owned list, and nothing else -/
def retO (t : Ty) (l : List (El t)) : Eff := ⟨[], .own t l, []⟩
def retPO (p : Prop) (t : Ty) (l : List (El t)) : Eff := ⟨[p], .own t l, []⟩
end A
end Go.Proofs.Ythgnjimpakpkjaa
namespace Go.Proofs.Ythgnjimpakpkjaa
namespace A
namespace F
def form (y : Arr) : Int :=
  if ¬ (y.kind = 1 ∨ y.kind = 2 ∨ y.kind = 3) then 14
  else if y.shape.length > 8 then 15
  else if hneg y.shape then 16
  else if sright y.shape = false then 21
  else if rsize y ≠ ssize y.shape ∨ (if y.kind = 3 then (y.nums.length : Int) else y.items.length) ≠ 0 then 16
  else 0
mutual
def visit : Arr → Int × Int × Int
  | .mk k s n it =>
    if form (.mk k s n it) ≠ 0 then (form (.mk k s n it), 0, 0)
    else if badL k n then (17, 0, 0)
    else match visitL 0 ((n.length : Int) + (it.length : Int)) it with
      | none => (17, 0, 0)
      | some (d, w) => if d > 16 ∨ w > 262144 then (21, 0, 0) else (0, d, w)
def visitL : Int → Int → List Arr → Option (Int × Int)
  | d, w, [] => some (d, w)
  | d, w, x :: l => if (visit x).1 ≠ 0 then none else visitL (max d ((visit x).2.1 + 1)) (min (w + (visit x).2.2) 262145) l
end
def aright (y : Arr) : Int := (visit y).1
mutual
/-- array.Weight -/
def aweight : Arr → Int
  | .mk k s n it => if k ≠ 3 then min (rsize (.mk k s n it)) 262145 else aweightL (min (rsize (.mk k s n it)) 262145) it
def aweightL : Int → List Arr → Int
  | n, [] => n
  | n, x :: l => if n > 262144 then n else aweightL (min (n + aweight x) 262145) l
end
theorem visit_eq (y : Arr) : visit y = if form y ≠ 0 then (form y, 0, 0)
    else if badL y.kind y.nums then (17, 0, 0)
    else match visitL 0 ((y.nums.length : Int) + (y.items.length : Int)) y.items with
      | none => (17, 0, 0)
      | some (d, w) => if d > 16 ∨ w > 262144 then (21, 0, 0) else (0, d, w) := by cases y; rfl
theorem visitL_cons (d w : Int) (x : Arr) (l : List Arr) : visitL d w (x :: l) = if (visit x).1 ≠ 0 then none else visitL (max d ((visit x).2.1 + 1)) (min (w + (visit x).2.2) 262145) l := by simp [visitL]
theorem visitL_ge : ∀ (l : List Arr) (d w d' w' : Int), visitL d w l = some (d', w') → d ≤ d'
  | [], d, w, d', w', h => by simp [visitL] at h; omega
  | x :: l, d, w, d', w', h => by
    rw [visitL_cons] at h
    split at h
    · cases h
    · have := visitL_ge l _ _ d' w' h; omega
mutual
theorem visit_w : ∀ y : Arr, 0 ≤ (visit y).2.2
  | .mk k s n it => by
    rw [visit_eq]
    split
    · simp
    split
    · simp
    split
    · simp
    · rename_i d w h
      have := visitL_w it 0 ((n.length : Int) + it.length) d w (by omega) h
      split
      · simp
      · exact this
theorem visitL_w : ∀ (l : List Arr) (d w d' w' : Int), 0 ≤ w → visitL d w l = some (d', w') → 0 ≤ w'
  | [], d, w, d', w', h0, h => by simp [visitL] at h; omega
  | x :: l, d, w, d', w', h0, h => by
    rw [visitL_cons] at h
    split at h
    · cases h
    · exact visitL_w l _ _ d' w' (by have := visit_w x; omega) h
end
theorem visit_bd (y : Arr) : 0 ≤ (visit y).2.1 ∧ (visit y).2.1 ≤ 16 ∧ (visit y).2.2 ≤ 262144 := by
  rw [visit_eq]
  split
  · simp
  split
  · simp
  split
  · simp
  · rename_i d w h
    have := visitL_ge _ _ _ _ _ h
    split
    · simp
    · rename_i h; simp only [not_or] at h; simp only; omega
theorem aweight_eq (y : Arr) : aweight y = if y.kind ≠ 3 then min (rsize y) 262145 else aweightL (min (rsize y) 262145) y.items := by cases y; rfl
theorem aweightL_cons (n : Int) (x : Arr) (l : List Arr) : aweightL n (x :: l) = if n > 262144 then n else aweightL (min (n + aweight x) 262145) l := by simp [aweightL]
theorem rsize_nn (y : Arr) : 0 ≤ rsize y := by unfold rsize; split <;> (try split) <;> omega
mutual
theorem aweight_bd : ∀ y : Arr, 0 ≤ aweight y ∧ aweight y ≤ 262145
  | .mk k s n it => by
    have h0 := rsize_nn (.mk k s n it)
    rw [aweight_eq]
    split
    · omega
    · exact aweightL_bd it _ (by omega) (by omega)
theorem aweightL_bd : ∀ (l : List Arr) (n : Int), 0 ≤ n → n ≤ 262145 → 0 ≤ aweightL n l ∧ aweightL n l ≤ 262145
  | [], n, h1, h2 => ⟨h1, h2⟩
  | x :: l, n, h1, h2 => by
    rw [aweightL_cons]
    split
    · exact ⟨h1, h2⟩
    · have := aweight_bd x
      exact aweightL_bd l _ (by omega) (by omega)
end
theorem find_cons {α : Type} (p : α → Bool) (x : α) (l : List α) (i : Int) : find p (x :: l) i = if p x then i else find p l (i + 1) := rfl
theorem find_nn {α : Type} (p : α → Bool) : ∀ (l : List α) (i : Int), 0 ≤ i → decide (0 ≤ find p l i) = l.any p
  | [], i, h => by simp [find]
  | x :: l, i, h => by
    rw [find_cons]
    split
    · rename_i hp; simp [hp, h]
    · rename_i hp; rw [find_nn p l (i + 1) (by omega)]; simp [hp]
theorem sprod1_cons (p d : Int) (s : List Int) : sprod1 p (d :: s) = sprod1 (p * d) s := rfl
theorem sright1_cons (p d : Int) (s : List Int) : sright1 p (d :: s) = if d < 0 ∨ d > 65536 then false else if d = 0 then sright1 p s else if p * d > 65536 then false else sright1 (p * d) s := rfl
def row (s : List Int) (fr : Int) : Int × Int := if sright s = false ∨ fr < 0 ∨ fr > s.length then (0, 0) else (sprod (s.take fr.toNat), sprod (s.drop fr.toNat))
end F
/-- 'visit' of array.Right: the closure -/
def visitC : AV := .fn 81 (.cons (.ref 500000 0) .unit)
def spVisit (f : Arr → Eff) : Spec := fun xs H => match xs with
  | [.val t x, .ref 500000 0] => match H 500000 with
    | .live (.fn 81 (.cons (.ref 500000 0) .unit)) => (castT (a := t) AR x).map f
    | _ => none
  | _ => none
theorem spVisit_inv {f : Arr → Eff} {xs : List AV} {H : Heap} {e : Eff} (h : spVisit f xs H = some e) : ∃ x : Arr, xs = [.val AR x, .ref 500000 0] ∧ H 500000 = .live visitC ∧ e = f x := by
  unfold spVisit at h
  split at h
  · split at h
    · rename_i hh
      obtain ⟨x, h1, h2⟩ := opt_map h
      obtain ⟨e1, rfl⟩ := castT_eq h1
      cases e1
      exact ⟨_, rfl, hh, h2.symm⟩
    · cases h
  · cases h
def spGrow : Spec := fun xs _ => match xs with
  | [.nils, .val (.int .i64) n] => some ⟨[mkok n n], .own I64 [], []⟩
  | _ => none
theorem spGrow_inv {xs : List AV} {H : Heap} {e : Eff} (h : spGrow xs H = some e) : ∃ n : Int, xs = [.nils, .val I64 n] ∧ e = ⟨[mkok n n], .own I64 [], []⟩ := by
  unfold spGrow at h
  split at h
  · cases h; exact ⟨_, rfl, rfl⟩
  · cases h
/-- a mark: nil arguments are kept -/
def spMark : Spec := fun _ _ => none
theorem satMark {P : Program} (f : Nat) : Sat P f spMark := fun _ _ _ _ _ _ _ _ h => by cases h
end A
end Go.Proofs.Ythgnjimpakpkjaa
