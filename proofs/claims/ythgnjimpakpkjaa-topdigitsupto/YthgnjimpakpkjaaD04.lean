/- Every operation's effect is sound. Regions in the lexical order. Regions that draw their order: one operation sees only what it looks at. Regions that draw their order: runs of operations, and neighbours that may be swapped. Regions that draw their order: the table of what was seen. Regions that draw their order: any order. Regions that draw their order: every order comes to the same. Regions that draw their order are sound. An annotation fits: the values are borne under new numbers. A state that fits an annotation is borne at its head. Logs: what a region leaves as it was. -/
import Derived.Test.YthgnjimpakpkjaaD03
import Derived.Tactics
namespace Go.Proofs.Ythgnjimpakpkjaa
namespace A
section
variable {P : Program} {B : Base} {tb : Tab} {H Hr : Heap} {pl : Nat → Place} {Z : Nat → Prop} {w w' : World} {T : Nat → AV} {a : Act} {g : Option (Nat × Bool)} {d : Nat} {G : Specs}

theorem Gives.skip {m : Sem Next} {Φ : Value → World → Prop} {w' : World} (h : m.run P w = .ok .skip w') (hΦ : Φ undef w') : Gives P m w Φ := .inr (.inl ⟨w', h, hΦ⟩)

theorem ev_list (c : Ctx P B tb H Hr pl Z w T a g d) : ∀ (l : List Operand), AVns P B pl Z w (l.map (ev T g)) (l.map a.eval)
  | [] => trivial
  | x :: l => ⟨c.ev x, ev_list c l⟩

theorem OptAV.of (c : Ctx P B tb H Hr pl Z w T a g d) (x : Option Operand) : OptAV P B pl Z w (x.map (ev T g)) (x.map a.eval) := by
  cases x with
  | none => trivial
  | some x => exact c.ev x

theorem Ctx.lv (c : Ctx P B tb H Hr pl Z w T a g d) : ∀ o v, Hr o = .live v → H o = .live v := fun _ _ => c.live

theorem caps_avs (c : Ctx P B tb H Hr pl Z w T a g d) : ∀ (l : List Operand), (l.map (ev T g)).all (fun v => v.cellular && v.size == 1 && !v.isSt) = true → AVs P B pl Z w (.ofL (l.map (ev T g))) (l.map a.eval)
  | [], _ => rfl
  | x :: l, h => by
    simp only [List.map_cons, List.all_cons, Bool.and_eq_true, Bool.not_eq_true'] at h
    have hne := AV.cellular_ne h.1.1.1
    have h1 := (AV1.s h.1.2).1 ((c.ev x).to1 hne.1 hne.2)
    exact ⟨[a.eval x], l.map a.eval, rfl, h1, caps_avs c l (by simpa using h.2)⟩

theorem pick_sound (hg : GR P B pl Z w H) {vb b1 b2 : Bool} {x0 x y : Value} (h0 : AVn P B pl Z w (.val .bool vb) x0) (h1 : vb = true → AVn P B pl Z w (.val .bool b1) x) (h2 : vb = false → AVn P B pl Z w (.val .bool b2) y) :
    Gives P (do pure (.value (if ← asBool x0 then x else y))) w (fun v w' => Post P B H pl Z w [] (.val .bool (bif vb then b1 else b2)) v w') := by
  rw [h0.bool]
  cases vb with
  | true => refine .value (v := x) (w' := w) (by simp [asBool]) ?_; rw [(h1 rfl).bool]; exact Post.pure hg (AVn.mkBool _) (by simp [AV.refs])
  | false => refine .value (v := y) (w' := w) (by simp [asBool]) ?_; rw [(h2 rfl).bool]; exact Post.pure hg (AVn.mkBool _) (by simp [AV.refs])

theorem AVns.get : ∀ (l : List AV) (xs : List Value), AVns P B pl Z w l xs → l.length = xs.length ∧ ∀ (i : Nat) (v : AV) (x : Value), l[i]? = some v → xs[i]? = some x → AVn P B pl Z w v x
  | [], [], _ => ⟨rfl, fun i v x h => by simp at h⟩
  | a :: l, x :: xs, h => by
    obtain ⟨h1, h2⟩ := AVns.get l xs h.2
    refine ⟨by simp [h1], fun i v y hv hy => ?_⟩
    cases i with
    | zero => simp only [List.getElem?_cons_zero, Option.some.injEq] at hv hy; subst hv hy; exact h.1
    | succ i => simp only [List.getElem?_cons_succ] at hv hy; exact h2 i v y hv hy

theorem fnp_post (hg : GR P B pl Z w H) {t : Ty} {y : El t} {ex : Ending} {w' : World} (h : ∃ r Z', ex = .returned r ∧ Ext w Z w' Z' ∧ (∀ b, Z' b → b < w'.heap.size) ∧ R1v w' Z' t y r) :
    ∃ v, ex = .returned v ∧ Post P B H pl Z w [] (.val t y) v w' := by
  obtain ⟨r, Z', rfl, he, hl, hr⟩ := h
  exact ⟨r, rfl, pl, Z', hg.later he.size he.io he.old he.zz he.zn hl, fun _ _ => rfl, fun b hb => ⟨he.zz b hb, he.old b (hg.z b hb)⟩, hr.av, by simp [AV.refs], fun _ h => h⟩

theorem effOp_sound {wrap : Bool} (c : Ctx P B tb H Hr pl Z w T a g d) (hG : ∀ f sp, G.lookup f = some sp → Sat P f sp) (hroB : ∀ o, B.ro o = true → OBJB ≤ o ∧ o < OBJB + 1000) {o : Oper} {e : Eff}
    (h : effOp tb G wrap Hr T g d o.type o.op = some e) (hp : ∀ p, p ∈ e.pre → p) (hro : ∀ p, p ∈ e.wr → B.ro p.1 = false) :
    Gives P (execOp a.eval o) w (fun v w' => Post P B H pl Z w e.wr e.dst v w') := by
  have hob : ∀ o c, Hr o = .live c → OB P B pl Z w (pl o) c := fun o v ho => c.gr.ob o v (c.live ho)
  have mv : ∀ x : Operand, (match ev T g x with | .undef => none | v => aPure v) = some e → Post P B H pl Z w e.wr e.dst (a.eval x) w := by
    intro x h
    split at h
    · cases h
    · cases h; exact Post.pure c.gr (c.ev x) (c.evr x)
  unfold execOp
  cases hop : o.op with
  | move x => rw [hop] at h; exact .value (by simp) (mv x h)
  | assign x => rw [hop] at h; exact .value (by simp) (mv x h)
  | pick cx x y =>
    rw [hop] at h
    cases cx with
    | tmp t =>
      simp only [effOp] at h
      split at h
      case h_2 => cases h
      rename_i v hv
      have hcv := c.ev (.tmp t)
      rw [hv] at hcv
      have hb := hcv.bool
      split at h
      case h_2 => cases h
      rename_i b1 b2 h1 h2
      cases h
      have hbt : a.tmps.getD t undef = .bool v := hb
      refine pick_sound c.gr (x0 := a.eval (.tmp t)) (x := a.eval x) (y := a.eval y) hcv (fun hv => ?_) (fun hv => ?_)
      · rw [← h1]; exact evPick_sound c.av (j := t) (b := true) (by rw [hbt]; exact congrArg _ hv) x
      · rw [← h2]; exact evPick_sound c.av (j := t) (b := false) (by rw [hbt]; exact congrArg _ hv) y
    | _ => cases h
  | alloc t =>
    rw [hop] at h
    simp only [effOp] at h
    split at h
    case h_2 => cases h
    rename_i ti ht
    obtain ⟨v, w', h1, h2⟩ := alloc_sound c.tok c.gr c.fr ht h
    exact .value (by simp [h1]) h2
  | box t x =>
    rw [hop] at h
    simp only [effOp] at h
    split at h
    case h_2 => cases h
    rename_i ti ht
    split at h
    case isFalse => cases h
    rename_i hc
    simp only [Bool.and_eq_true] at hc
    obtain ⟨v, w', h1, h2⟩ := box_sound (t := t) c.gr c.fr (c.ev x) (c.evr x) hc.1.2 h
    exact .value (by simp [h1]) h2
  | build t ps =>
    rw [hop] at h
    simp only [effOp] at h
    split at h
    case h_2 => cases h
    rename_i ti ht
    split at h
    · rename_i fs hk
      split at h
      · cases h
      rename_i hall
      obtain ⟨v, h1, h2, _⟩ := build_struct_sound c.tok c.gr c.lv c.ev c.evr ht hk (Bool.of_not_eq_false (fun hh => hall (by rw [hh]; rfl))) h
      exact .value (by simp [h1]) h2
    · rename_i n e' hk
      obtain ⟨ty, hty, h⟩ := Option.bind_eq_some_iff.1 h
      obtain ⟨l, hl, h⟩ := Option.bind_eq_some_iff.1 h
      split at h
      case isFalse => cases h
      rename_i hc
      simp only [Bool.and_eq_true, decide_eq_true_eq] at hc
      cases h
      obtain ⟨v, h1, h2⟩ := build_array_sound c.tok c.gr c.lv c.ev ht hk hty hl hc.1.1 hc.1.2 hc.2
      exact .value (by simp [h1]) h2
    · cases h
  | buildSlice t n ps =>
    rw [hop] at h
    simp only [effOp] at h
    split at h
    case h_2 => cases h
    rename_i ti ht
    split at h
    case h_2 => cases h
    rename_i e' hk
    obtain ⟨ty, hty, hA⟩ := Option.bind_eq_some_iff.1 h
    obtain ⟨l, hl, hB⟩ := Option.bind_eq_some_iff.1 hA
    clear h hA
    split at hB
    case isFalse => cases hB
    rename_i hc
    simp only [Bool.and_eq_true, decide_eq_true_eq] at hc
    obtain ⟨⟨hn, hs⟩, hs2⟩ := hc
    subst hn
    split at hB
    · obtain ⟨i, hi, hC⟩ := opt_map hB
      cases hC
      obtain ⟨v, w', h1, h2, _⟩ := lit_sound c.tok c.gr c.hr c.fr c.ev c.evr ht hk hty hl (fun _ o ho => hro (o, .dead) (List.mem_append_left _ (by
        rw [kills_eq]; exact List.mem_map.2 ⟨o, ho, rfl⟩))) hs hs2
      exact .value (by simp [h1]) (h2 i hi)
    · split at hB
      case isFalse => cases hB
      rename_i hv
      cases hB
      obtain ⟨v, w', h1, _, h2⟩ := lit_sound c.tok c.gr c.hr c.fr c.ev c.evr ht hk hty hl (fun _ o ho => by
        obtain ⟨p, hp, ho⟩ := List.mem_flatMap.1 ho
        have := List.all_eq_true.1 hv p hp
        have hvn : p.2.vecs = [] := by simpa using this
        have ho : o ∈ p.2.vecs := ho
        rw [hvn] at ho; cases ho) hs hs2
      exact .value (by simp [h1]) (h2 hv)
  | load t x =>
    rw [hop] at h
    obtain ⟨v, h1, h2⟩ := load_sound c.tok c.gr c.lv h (c.ev x)
    exact .value (by simp [h1]) h2
  | store t x y =>
    rw [hop] at h
    obtain ⟨w', h1, h2⟩ := store_sound c.tok c.gr c.lv h (c.ev x) (c.ev y) (c.evr y) hro
    exact .skip (by simp [h1]) h2
  | nilCheck x =>
    rw [hop] at h
    simp only [effOp] at h
    have hx := c.ev x
    have hkn := c.evr x
    split at h
    · rename_i ro f hv
      cases h
      rw [hv] at hx hkn
      obtain ⟨b, hpo, hv⟩ := (AVn.s rfl (by simp) (by simp)).1 hx
      simp only [List.cons.injEq, and_true] at hv
      refine .value (v := a.eval x) (w' := w) (by simp [hv]) (Post.pure c.gr hx hkn)
    · rename_i ro f t i s hv
      cases h
      rw [hv] at hx hkn
      obtain ⟨b, _, _, hv⟩ := (AVn.s rfl (by simp) (by simp)).1 hx
      simp only [List.cons.injEq, and_true] at hv
      refine .value (v := a.eval x) (w' := w) (by simp [hv]) (Post.pure c.gr hx hkn)
    · rename_i t y hv
      cases h
      rw [hv] at hx hkn
      obtain ⟨b, off, cc, us, _, _, _, _, _, hv⟩ := (AVn.s rfl (by simp) (by simp)).1 hx
      simp only [List.cons.injEq, and_true] at hv
      refine .value (v := a.eval x) (w' := w) (by simp [hv]) (Post.pure c.gr hx hkn)
    · cases h
  | binOp op t x y z =>
    rw [hop] at h
    obtain ⟨v, h1, h2⟩ := bin_sound (P := P) (B := B) (ox := x) (oy := y) c.tok c.gr h hp (c.ev x) (c.ev y)
    refine .value (v := v) (w' := w) ?_ h2
    simp only [Sem.run_bind] at h1 ⊢
    cases hq : (eqGuard op t x y (a.eval x) (a.eval y)).run P w with
    | ok u w1 => rw [hq] at h1; simp only [Result.andThen_ok] at h1 ⊢; rw [h1]; rfl
    | _ => rw [hq] at h1; simp [Result.andThen] at h1
  | unOp op t x =>
    rw [hop] at h
    obtain ⟨v, h1, h2⟩ := un_sound c.gr (c.ev x) h hp
    exact .value (by simp [h1]) h2
  | convert s t x =>
    rw [hop] at h
    simp only [effOp] at h
    obtain ⟨v, h1, h2⟩ := convert_sound (wrap := wrap) (s := s) (t := t) c.tok c.gr h (c.ev x) hp
    exact .value (by simp [h1]) h2
  | makeSlice t x y =>
    rw [hop] at h
    simp only [effOp] at h
    split at h
    case h_2 => cases h
    rename_i ti n m ht hn hm
    split at h
    case h_2 => cases h
    rename_i e' hk
    obtain ⟨ty, hty, h⟩ := Option.bind_eq_some_iff.1 h
    obtain ⟨i, hi, h⟩ := opt_map h
    cases h
    have hx := c.ev x
    have hy := c.ev y
    rw [hn] at hx
    rw [hm] at hy
    obtain ⟨v, w', h1, h2⟩ := make_sound c.tok c.gr c.fr ht hk hty (hp _ (List.mem_singleton.2 rfl)) hi
    refine .value (v := v) (w' := w') ?_ h2
    have e1 := hx.int.1
    have e2 := hy.int.1
    simp [e1, e2, h1]
  | slice t x lo hi mx =>
    rw [hop] at h
    simp only [effOp] at h
    split at h
    · cases h
    rename_i hk
    obtain ⟨v, h1, h2⟩ := slice_sound c.tok c.gr c.lv c.fr (c.evr x) (c.ev x) (OptAV.of c lo) (OptAV.of c hi) (OptAV.of c mx) (by simpa using hk) h hp hro
    exact .value (by simp [h1]) h2
  | fieldAddr s x f =>
    rw [hop] at h
    obtain ⟨v, h1, h2, _⟩ := fieldAddr_sound c.tok c.gr (c.evr x) (c.ev x) h
    exact .value (by simp [h1]) h2
  | indexAddr t x i =>
    rw [hop] at h
    simp only [effOp] at h
    split at h
    · cases h
    rename_i hk
    obtain ⟨v, h1, h2⟩ := indexAddr_sound c.tok c.gr c.lv (c.evr x) (c.ev x) (c.ev i) (by simpa using hk) h hp
    exact .value (by simp [h1]) h2
  | index t x i =>
    rw [hop] at h
    simp only [effOp] at h
    split at h
    · rename_i s k n hs hi
      have hx := c.ev x
      have hy := c.ev i
      rw [hs] at hx
      rw [hi] at hy
      cases ht : tb.get t with
      | none => rw [ht] at h; cases h
      | some ti =>
        rw [ht] at h
        simp only at h
        split at h
        · cases h
        rename_i hk
        cases h
        obtain ⟨v, h1, h2⟩ := index_str_sound c.tok c.gr ht (isStr_of (by simpa using hk)) hx hy (hp _ (List.mem_singleton.2 rfl))
        exact .value (by simp [h1]) h2
    · rename_i n e' l k m hs hi
      have hx := c.ev x
      have hy := c.ev i
      rw [hs] at hx
      rw [hi] at hy
      cases ht : tb.get t with
      | none => rw [ht] at h; cases h
      | some ti =>
        rw [ht] at h
        simp only at h
        split at h
        · cases h
        rename_i hk
        cases h
        obtain ⟨v, h1, h2⟩ := index_arn_sound c.tok c.gr ht (by simpa using hk) hx hy (hp _ (List.mem_singleton.2 rfl))
        exact .value (by simp [h1]) h2
    · cases h
  | extract t i =>
    rw [hop] at h
    simp only [effOp] at h
    split at h
    case h_2 => cases h
    rename_i l hl
    have hx := c.ev t
    have hkn := c.evr t
    rw [hl] at hx hkn
    obtain ⟨v, hv, h⟩ := Option.bind_eq_some_iff.1 h
    cases h
    obtain ⟨u, h1, h2⟩ := extract_sound c.gr hkn hx hv
    exact .value (by simp [h1]) h2
  | makeInterface t x =>
    rw [hop] at h
    simp only [effOp] at h
    split at h
    case h_2 => cases h
    rename_i ti ht
    split at h
    · cases h
    rename_i hk
    split at h
    case isFalse => cases h
    rename_i hc
    cases h
    have hne := AV.cellular_ne hc
    have hx := (c.ev x).to1 hne.1 hne.2
    have hx2 : AVn P B pl Z w (.iface t (ev T g x)) (.iface t (a.eval x)) := (AVn.s rfl (by simp) (by simp)).2 ⟨a.eval x, rfl, hx⟩
    refine .value (v := .iface t (a.eval x)) (w' := w) ?_ (Post.pure c.gr hx2 (c.evr x))
    have hu := c.tok.und t ti ht
    have hgd := c.tok.good t ti ht
    have hmk : (Instr.makeInterface t (a.eval x)).run P w = .ok (.iface t (a.eval x)) w := by
      cases hu2 : P.underlying t with
      | none =>
        exfalso
        rw [hu2] at hu
        unfold TI.good at hgd
        rw [← hu] at hgd
        simp [tkOf] at hgd
      | some dsc =>
        rw [hu2] at hu
        simp only [Instr.makeInterface, Sem.run_bind, run_underlying hu2, Result.andThen_ok]
        cases dsc <;> first | rfl | (exfalso; simp only [tkOf] at hu; exact hk hu.symm)
    simp [hmk]
  | makeFunc f first caps =>
    rw [hop] at h
    cases f with
    | func f =>
      simp only [effOp] at h
      split at h
      case isFalse => cases h
      rename_i hc
      simp only [Bool.and_eq_true] at hc
      cases h
      have hf : first = #[] := by simpa [Array.isEmpty] using hc.1
      subst hf
      have hcs := caps_avs c caps.toList hc.2
      have hv : AVn P B pl Z w (.fn f (.ofL (caps.toList.map (ev T g)))) (.func (.func f) #[] (caps.map a.eval)) :=
        (AVn.s rfl (by simp) (by simp)).2 ⟨caps.toList.map a.eval, by rw [← Array.toList_map], AV.isList_ofL _, hcs⟩
      refine .value (v := .func (.func f) #[] (caps.map a.eval)) (w' := w) (by simp [Instr.makeFunc]) (Post.pure c.gr hv (fun o ho => ?_))
      have ho : o ∈ (AV.ofL (caps.toList.map (ev T g))).refs := ho
      rw [refs_ofL] at ho
      obtain ⟨v, hv, ho⟩ := List.mem_flatMap.1 ho
      obtain ⟨x, _, rfl⟩ := List.mem_map.1 hv
      exact c.evr x o ho
    | _ => cases h
  | call cl =>
    rw [hop] at h
    obtain ⟨callee, ⟨args⟩, ⟨tys⟩⟩ := cl
    simp only [effOp] at h
    have hl := ev_list c args
    split at h
    · -- a builtin
      rename_i b
      simp only [resolve, Sem.run_bind]
      cases b with
      | len =>
        match args, tys, h, hl with
        | [o1], [t], h, hl =>
          simp only [builtinEff, List.map_cons, List.map_nil] at h
          split at h
          case isFalse => cases h
          rename_i hk
          obtain ⟨u, h1, h2⟩ := len_sound (ty := o.type) c.tok c.gr c.lv (c.ev o1) hk h
          refine .value (v := u) (w' := w) ?_ h2
          simp [invoke, builtin, h1]
        | [], _, h, _ => cases h
        | [_], [], h, _ => cases h
        | [_], _ :: _ :: _, h, _ => cases h
        | _ :: _ :: _, _, h, _ => cases h
      | cap =>
        unfold builtinEff at h
        split at h
        · cases ‹Builtin.cap = Builtin.len›
        · rename_i t _ hargs
          split at h
          case isFalse => cases h
          rename_i hk
          cases h
          rcases args with _ | ⟨o1, _ | ⟨o2, r⟩⟩
          · cases hargs
          · 
            simp only [List.map_cons, List.map_nil, List.cons.injEq, and_true] at hargs
            have hx := c.ev o1
            rw [hargs] at hx
            obtain ⟨ad, hv⟩ := (AVn.s rfl (by simp) (by simp)).1 hx
            simp only [List.cons.injEq, and_true] at hv
            unfold seqT seqOK at hk
            split at hk
            case h_2 => cases hk
            rename_i ti hti
            simp only at hk
            split at hk
            case h_2 => cases hk
            rename_i e' hk'
            refine .value (v := .int .i64 0) (w' := w) ?_ (Post.int c.gr (inR_len (n := 0) (by unfold LIM; omega)))
            simp [invoke, builtin, Builtin.cap_, run_underlying (und_slice c.tok hti hk'), hv, goInt]
          · simp at hargs
        all_goals first | (cases ‹Builtin.cap = _›) | cases h
      | append =>
        unfold builtinEff at h
        split at h
        · cases ‹Builtin.append = Builtin.len›
        · cases ‹Builtin.append = Builtin.cap›
        · rename_i n t u _ hargs
          split at h
          case h_2 => cases h
          rename_i ti ik ht hu
          split at h
          case h_2 => cases h
          rename_i e' hk
          obtain ⟨ty, hty, h⟩ := Option.bind_eq_some_iff.1 h
          split at h
          · cases h
          rename_i hcs
          obtain ⟨i, hi, h⟩ := opt_map h
          cases h
          rcases args with _ | ⟨o1, _ | ⟨o2, _ | ⟨o3, r⟩⟩⟩
          · cases hargs
          · simp at hargs
          · simp only [List.map_cons, List.map_nil, List.cons.injEq, and_true] at hargs
            have hx := c.ev o1
            have hy := c.ev o2
            rw [hargs.1] at hx
            rw [hargs.2] at hy
            have hu2 : P.underlying u = some (.int ik) := by
              unfold Tab.k at hu
              obtain ⟨ui, h1, h2⟩ := opt_map hu
              have := und_of c.tok (t := u) h1
              rw [h2] at this
              exact this
            obtain ⟨r, w', h1, h2⟩ := appendz_sound (ty := o.type) c.tok c.gr c.fr ht hk hty hcs hu2 hx (hp _ (List.mem_singleton.2 rfl)) hi
            refine .value (v := r) (w' := w') ?_ h2
            simp [invoke, builtin, hy.int.1, h1]
          · simp at hargs
        · rename_i x0 y0 t u hno _ hargs
          rcases args with _ | ⟨o1, _ | ⟨o2, _ | ⟨o3, r⟩⟩⟩
          · cases hargs
          · simp at hargs
          · simp only [List.map_cons, List.map_nil, List.cons.injEq, and_true] at hargs
            obtain ⟨rfl, rfl⟩ := hargs
            split at h
            case h_2 => cases h
            rename_i ti ht
            split at h
            case h_2 => cases h
            rename_i e' hk
            split at h
            case isFalse => cases h
            rename_i hk2
            obtain ⟨ty, hty, h⟩ := Option.bind_eq_some_iff.1 h
            obtain ⟨r, w', h1, h2⟩ := append_sound (ty := o.type) c.tok c.gr c.lv c.fr (c.evr o1) ht hk hty hk2 (c.ev o1) (c.ev o2) h hp hro
            refine .value (v := r) (w' := w') ?_ h2
            simp [invoke, builtin, h1]
          · simp at hargs
        all_goals first | (cases ‹Builtin.append = _›) | cases h
      | copy =>
        match args, tys, h, hl with
        | [o1, o2], [t, u], h, hl =>
          simp only [builtinEff, List.map_cons, List.map_nil] at h
          split at h
          case h_2 => cases h
          rename_i ti ht
          split at h
          case h_2 => cases h
          rename_i e' hk
          split at h
          case isFalse => cases h
          rename_i hk2
          obtain ⟨ty, hty, h⟩ := Option.bind_eq_some_iff.1 h
          split at h
          case isFalse => cases h
          rename_i h11
          obtain ⟨r, w', h1, h2, _⟩ := copy_sound (tx := u) (ty := o.type) c.tok c.gr c.lv ht hk hty h11 (c.ev o1) (c.ev o2) h hro
          refine .value (v := r) (w' := w') ?_ h2
          simp [invoke, builtin, h1]
        | [], _, h, _ => cases h
        | [_], _, h, _ => cases h
        | [_, _], [], h, _ => cases h
        | [_, _], [_], h, _ => cases h
        | [_, _], _ :: _ :: _ :: _, h, _ => cases h
        | _ :: _ :: _ :: _, _, h, _ => cases h
      | max =>
        obtain ⟨u, h1, h2, _⟩ := minMax_sound (ts := ⟨tys⟩) (ty := o.type) (xs := ⟨args.map a.eval⟩) c.gr h (AVns.get _ _ hl)
        refine .value (v := u) (w' := w) ?_ h2
        simp only [if_true] at h1
        simp [invoke, builtin, h1]
      | min =>
        obtain ⟨u, h1, h2, _⟩ := minMax_sound (ts := ⟨tys⟩) (ty := o.type) (xs := ⟨args.map a.eval⟩) c.gr h (AVns.get _ _ hl)
        refine .value (v := u) (w' := w) ?_ h2
        simp only [Bool.false_eq_true, if_false] at h1
        simp [invoke, builtin, h1]
      | _ => cases h
    · -- a function
      rename_i f
      split at h
      · rename_i fid caps hf
        have hx := c.ev f
        have hkf := c.evr f
        rw [hf] at hx
        obtain ⟨us, hv, hlist, hus⟩ := (AVn.s rfl (by simp) (by simp)).1 hx
        simp only [List.cons.injEq, and_true] at hv
        obtain ⟨h1, h2⟩ := callEff_sound (d := d) c.gr c.hr c.fr hG hroB h hl (fun v hv => by
          obtain ⟨x, _, rfl⟩ := List.mem_map.1 hv
          exact c.evr x) hlist hus hp hro
        refine .inr (.inr ⟨fid, (args.map a.eval ++ us).toArray, w, ?_, h2⟩)
        simp [resolve, Deferred.ofValue, hv, invoke, ← h1]
      · rename_i ta tb' pre F hf
        have hx := c.ev f
        rw [hf] at hx
        obtain ⟨v0, hv, hX, fid, fc, rfl, hF⟩ := (AVn.s rfl (by simp) (by simp)).1 hx
        simp only [List.cons.injEq, and_true] at hv
        match args, tys, h, hl with
        | [o1], [t], h, hl =>
          simp only [List.map_cons, List.map_nil] at h
          split at h
          case h_2 => cases h
          split at h
          case isFalse => cases h
          rename_i hc
          simp only [Bool.and_eq_true, List.isEmpty_iff] at hc
          obtain ⟨y, hy, h⟩ := opt_map h
          cases h
          have hne := asTy_ne hy
          have hr1 := asTy_1 hob hy ((c.ev o1).to1 hne.1 hne.2)
          rw [hc.2, Zup.nil] at hr1
          obtain ⟨h1, h2⟩ := hF w Z y (a.eval o1) (c.gr.ext hX) c.gr.z (hp _ (List.mem_singleton.2 rfl)) hr1
          refine .inr (.inr ⟨fid, #[a.eval o1] ++ fc, w, ?_, h2.mono ?_⟩)
          · simp [resolve, Deferred.ofValue, hv, invoke, ← h1]
          · exact fun ex w' h => fnp_post c.gr h
        | [], ts, h, _ => rcases ts with _ | ⟨t1, _ | ⟨t2, _ | ⟨t3, ts⟩⟩⟩ <;> cases h
        | [_], [], h, _ => cases h
        | [_], _ :: _ :: _, h, _ => cases h
        | _ :: _ :: _, ts, h, _ => rcases ts with _ | ⟨t1, _ | ⟨t2, _ | ⟨t3, ts⟩⟩⟩ <;> cases h
      · rename_i ta tb' tc pre F hf
        have hx := c.ev f
        rw [hf] at hx
        obtain ⟨v0, hv, hX, fid, fc, rfl, hF⟩ := (AVn.s rfl (by simp) (by simp)).1 hx
        simp only [List.cons.injEq, and_true] at hv
        match args, tys, h, hl with
        | [o1, o2], [t, u], h, hl =>
          simp only [List.map_cons, List.map_nil] at h
          split at h
          case h_2 => cases h
          split at h
          case isFalse => cases h
          rename_i hc
          simp only [Bool.and_eq_true, List.isEmpty_iff] at hc
          obtain ⟨y, hy, h⟩ := Option.bind_eq_some_iff.1 h
          obtain ⟨y2, hy2, h⟩ := opt_map h
          cases h
          have hne := asTy_ne hy
          have hr1 := asTy_1 hob hy ((c.ev o1).to1 hne.1 hne.2)
          rw [hc.1.2, Zup.nil] at hr1
          have hne2 := asTy_ne hy2
          have hr2 := asTy_1 hob hy2 ((c.ev o2).to1 hne2.1 hne2.2)
          rw [hc.2, Zup.nil] at hr2
          obtain ⟨h1, h2⟩ := hF w Z y y2 (a.eval o1) (a.eval o2) (c.gr.ext hX) c.gr.z (hp _ (List.mem_singleton.2 rfl)) hr1 hr2
          refine .inr (.inr ⟨fid, #[a.eval o1, a.eval o2] ++ fc, w, ?_, h2.mono ?_⟩)
          · simp [resolve, Deferred.ofValue, hv, invoke, ← h1]
          · exact fun ex w' h => fnp_post c.gr h
        | [], ts, h, _ => rcases ts with _ | ⟨t1, _ | ⟨t2, _ | ⟨t3, ts⟩⟩⟩ <;> cases h
        | [_], ts, h, _ => rcases ts with _ | ⟨t1, _ | ⟨t2, _ | ⟨t3, ts⟩⟩⟩ <;> cases h
        | [_, _], [], h, _ => cases h
        | [_, _], [_], h, _ => cases h
        | [_, _], _ :: _ :: _ :: _, h, _ => cases h
        | _ :: _ :: _ :: _, ts, h, _ => rcases ts with _ | ⟨t1, _ | ⟨t2, _ | ⟨t3, ts⟩⟩⟩ <;> cases h
      · cases h
    · cases h
  | panic x =>
    rw [hop] at h
    cases h
    exact (hp False (by simp)).elim
  | _ => rw [hop] at h; cases h
end
end A
end Go.Proofs.Ythgnjimpakpkjaa
namespace Go.Proofs.Ythgnjimpakpkjaa
namespace A
/-- objects whose places are kept -/
structure Keep where
  fk : Nat → Bool
  pk : Nat → Place
structure Kept (kp : Keep) (B : Base) (H : Heap) (pl : Nat → Place) (w : World) : Prop where
  p : ∀ o, kp.fk o = true → pl o = kp.pk o ∧ isFree (H o) = false
  z : ∀ b, B.Z b → w.heap[b]? = B.w.heap[b]?
section
variable {P : Program} {B : Base} {tb : Tab} {H : Heap} {pl : Nat → Place} {Z : Nat → Prop} {w w' : World} {T : Nat → AV} {a : Act} {G : Specs} {nt : Nat} {kp : Keep} {wk : List Nat} {wrap : Bool}

/-- an activation and a world bear an abstract state -/
structure RelAt (P : Program) (B : Base) (nt : Nat) (T : Nat → AV) (H : Heap) (a : Act) (w : World) (pl : Nat → Place) (Z : Nat → Prop) : Prop where
  gr : GR P B pl Z w H
  av : ∀ t, AVr P B pl Z w (fun t => a.tmps.getD t undef) (T t) (a.tmps.getD t undef)
  kn : ∀ t o, o ∈ (T t).refs → isFree (H o) = false
  df : a.defers = []
  nt : nt ≤ a.tmps.size
def Rel (P : Program) (B : Base) (kp : Keep) (nt : Nat) (T : Nat → AV) (H : Heap) (a : Act) (w : World) : Prop := ∃ pl Z, RelAt P B nt T H a w pl Z ∧ Kept kp B H pl w

theorem AVn.toR {v : AV} {x : Value} (h : AVn P B pl Z w v x) (tm : Nat → Value) : AVr P B pl Z w tm v x := by
  cases v <;> first | exact h | trivial | (simp [AVn, AV1, AVs, AV.isSt] at h)
theorem AVr.unW {v : AV} {x : Value} {d : Nat} {tm tm' : Nat → Value} (htm : ∀ g, g ≠ d → tm' g = tm g) (h : AVr P B pl Z w tm v x) : AVr P B pl Z w tm' (A.unW d v) x := by
  cases v <;> try exact h
  rename_i g b v
  show AVr P B pl Z w tm' (if g = d then .undef else .whn g b v) x
  by_cases hg : g = d
  · rw [if_pos hg]; trivial
  · rw [if_neg hg]; exact ⟨fun hb => h.1 (by rw [← htm g hg]; exact hb), fun hb => h.2 (by rw [← htm g hg]; exact hb)⟩
theorem unW_refs {d : Nat} {v : AV} {o : Nat} (h : o ∈ (unW d v).refs) : o ∈ v.refs := by
  unfold unW at h
  split at h
  · split at h
    · simp [AV.refs] at h
    · exact h
  · exact h
theorem put_get {d t : Nat} {v : Value} (hd : d < a.tmps.size) : (a.put (some d) v).tmps.getD t undef = if t = d then v else a.tmps.getD t undef := by
  unfold Act.put
  simp only [Array.getD_eq_getD_getElem?, Array.getElem?_setIfInBounds]
  by_cases h : t = d
  · subst h; simp [hd]
  · rw [if_neg (Ne.symm h), if_neg h]
theorem put_size (dst : Option Nat) (v : Value) : (a.put dst v).tmps.size = a.tmps.size := by
  cases dst <;> simp [Act.put]
theorem put_defers (dst : Option Nat) (v : Value) : (a.put dst v).defers = a.defers := by
  cases dst <;> rfl

theorem Kept.post {kp : Keep} (h : Kept kp B H pl w) (hg : GR P B pl Z w H) {wr : List (Nat × Obj)} {pl' : Nat → Place} {Z' : Nat → Prop} (q2 : ∀ o, isFree (H o) = false → pl' o = pl o) (q3 : ∀ b, Z b → Z' b ∧ w'.heap[b]? = w.heap[b]?)
    (q6 : ∀ o, isFree (H o) = false → isFree (setH H wr o) = false) : Kept kp B (setH H wr) pl' w' :=
  ⟨fun o ho => ⟨(q2 o (h.p o ho).2).trans (h.p o ho).1, q6 o (h.p o ho).2⟩, fun b hb => ((q3 b (hg.zz b hb)).2).trans (h.z b hb)⟩
/-- a temporary is set, and objects are changed -/
theorem RelAt.put (hR : RelAt P B nt T H a w pl Z) {dst : Option Nat} (hd : ∀ d, dst = some d → d < nt) {wr : List (Nat × Obj)} {pl' : Nat → Place} {Z' : Nat → Prop} (q1 : GR P B pl' Z' w' (setH H wr)) (q2 : ∀ o, isFree (H o) = false → pl' o = pl o)
    (q3 : ∀ b, Z b → Z' b ∧ w'.heap[b]? = w.heap[b]?) (q6 : ∀ o, isFree (H o) = false → isFree (setH H wr o) = false) {v : AV} {x : Value}
    (hv : ∀ d, dst = some d → AVr P B pl' Z' w' (fun t => (a.put dst x).tmps.getD t undef) v x) (hk : ∀ d, dst = some d → ∀ o, o ∈ v.refs → isFree (setH H wr o) = false) :
    RelAt P B nt (setT T dst v) (setH H wr) (a.put dst x) w' pl' Z' := by
  refine ⟨q1, fun t => ?_, fun t o ho => ?_, by rw [put_defers]; exact hR.df, by rw [put_size]; exact hR.nt⟩
  · cases dst with
    | none => exact AVr.mono q3 _ _ _ (fun o ho => q2 o (hR.kn t o ho)) (hR.av t)
    | some d =>
      have hlt : d < a.tmps.size := Nat.lt_of_lt_of_le (hd d rfl) hR.nt
      show AVr P B pl' Z' w' _ (if t = d then v else A.unW d (T t)) _
      by_cases h : t = d
      · rw [if_pos h, put_get hlt, if_pos h]; exact hv d rfl
      · rw [if_neg h, put_get hlt, if_neg h]
        refine AVr.unW (tm := fun t => a.tmps.getD t undef) (fun g hg => by rw [put_get hlt, if_neg hg]) ?_
        exact AVr.mono q3 _ _ _ (fun o ho => q2 o (hR.kn t o ho)) (hR.av t)
  · cases dst with
    | none => exact q6 o (hR.kn t o ho)
    | some d =>
      have ho : o ∈ (if t = d then v else A.unW d (T t)).refs := ho
      by_cases h : t = d
      · rw [if_pos h] at ho; exact hk d rfl o ho
      · rw [if_neg h] at ho; exact q6 o (hR.kn t o (unW_refs ho))

theorem wh_refs {g : Nat} {b : Bool} {v : AV} {o : Nat} (h : o ∈ (wh g b v).refs) : o ∈ v.refs := by
  cases v <;> first | exact h | (simp [wh, AV.refs] at h)
theorem wh_avr {g : Nat} {b : Bool} {v : AV} {x : Value} {tm : Nat → Value} (h : tm g = .bool b → AVn P B pl Z w v x) (h2 : tm g ≠ .bool b → x = undef) : AVr P B pl Z w tm (wh g b v) x := by
  cases v <;> first | trivial | (exact ⟨fun hg => (h hg).to1 (by simp) (by simp), h2⟩)

/-- a guard's value, as it stands -/
theorem gchain_sound {tm : Nat → Value} {T : Nat → AV} (hav : ∀ t, AVr P B pl Z w tm (T t) (tm t)) : ∀ (f g : Nat) (l : List (Nat × Bool)) (act c : Bool), gchain f T g = some (l, act, c) →
    (act = true → tm g = .bool c ∧ ∀ p, p ∈ l → tm p.1 = .bool p.2) ∧ (act = false → tm g = undef) ∧ (l = [] → act = true)
  | 0, _, _, _, _, h => by simp [gchain] at h
  | f + 1, g, l, act, c, h => by
    unfold gchain at h
    split at h
    · rename_i hc
      cases h
      have := hav g
      rw [hc] at this
      exact ⟨fun _ => ⟨(show AVn P B pl Z w (.val .bool c) _ from this).bool, (fun p hp => by cases hp)⟩, (fun h => by cases h), fun _ => rfl⟩
    · rename_i g0 b0 c' hc
      split at h
      case h_2 => cases h
      rename_i l0 act0 c0 h0
      cases h
      obtain ⟨i1, i2, _⟩ := gchain_sound hav f g0 l0 act0 c0 h0
      have := hav g
      rw [hc] at this
      refine ⟨fun ha => ?_, fun ha => ?_, fun h => by cases h⟩
      · simp only [Bool.and_eq_true, beq_iff_eq] at ha
        obtain ⟨j1, j2⟩ := i1 ha.1
        rw [ha.2] at j1
        refine ⟨AVn.bool (P := P) (B := B) (pl := pl) (Z := Z) (w := w) (AVn.of1 (this.1 j1)), fun p hp => ?_⟩
        rcases List.mem_cons.1 hp with rfl | hp
        · exact j1
        · exact j2 p hp
      · refine this.2 ?_
        cases act0 with
        | false => rw [i2 rfl]; simp [undef]
        | true =>
          rw [(i1 rfl).1]
          intro e
          injection e with e
          rw [e] at ha
          simp at ha
    · cases h
theorem strip_av {tm : Nat → Value} {T : Nat → AV} {l : List (Nat × Bool)} (hav : ∀ t, AVr P B pl Z w tm (T t) (tm t)) (hl : ∀ p, p ∈ l → tm p.1 = .bool p.2) (t : Nat) : AVr P B pl Z w tm (strip l T t) (tm t) := by
  unfold strip
  split
  · rename_i g b v hv
    have := hav t
    rw [hv] at this
    split
    · rename_i hc
      obtain ⟨p, hp, hc⟩ := List.any_eq_true.1 hc
      simp only [Bool.and_eq_true, beq_iff_eq] at hc
      have hg := hl p hp
      have hc1 : p.1 = g := Nat.eq_of_beq_eq_true hc.1
      rw [hc1, hc.2] at hg
      have h1 := this.1 hg
      cases v <;> first | exact h1 | trivial | (simp [AV1, AVs, AV.isSt] at h1)
    · exact this
  · exact hav t
theorem strip_refs {T : Nat → AV} {l : List (Nat × Bool)} {t o : Nat} (h : o ∈ (strip l T t).refs) : o ∈ (T t).refs := by
  unfold strip at h
  split at h
  · rename_i g b v hv
    rw [hv]
    split at h
    · exact h
    · exact h
  · exact h

theorem roOK_of {wr : List (Nat × Obj)} (h : roOK wk wr = true) : ∀ p, p ∈ wr → roOf wk p.1 = false := fun p hp => by
  have := List.all_eq_true.1 h p hp
  simpa using this
theorem roOf_rng {o : Nat} (h : roOf wk o = true) : OBJB ≤ o ∧ o < OBJB + 1000 := by
  simp only [roOf, Bool.and_eq_true, Nat.ble_eq, Nat.blt_eq] at h
  exact h.1

theorem withL_all : ∀ {l : List Prop} {K : Prop}, withL l K → (∀ p, p ∈ l → p) ∧ K
  | [], K, h => ⟨(fun p hp => by cases hp), h⟩
  | q :: l, K, h => by
    obtain ⟨h1, h2⟩ := withL_all h.2
    refine ⟨fun p hp => ?_, h2⟩
    rcases List.mem_cons.1 hp with e | hp
    · rw [e]; exact h.1
    · exact h1 p hp
theorem withG_all {c b : Bool} : ∀ {l : List Prop} {K : Prop}, withG c b l K → (c = b → ∀ p, p ∈ l → p) ∧ K
  | [], K, h => ⟨(fun _ p hp => by cases hp), h⟩
  | q :: l, K, h => by
    obtain ⟨h1, h2⟩ := withG_all h.2
    refine ⟨fun hc p hp => ?_, h2⟩
    rcases List.mem_cons.1 hp with e | hp
    · rw [e]; exact h.1 hc
    · exact h1 hc p hp

/-- one operation, under what it looks at alone -/
theorem op_sound (hT : TOK P tb) (hG : ∀ f sp, G.lookup f = some sp → Sat P f sp) (hB : B.ro = roOf wk) {ops : Array Oper} {o : Oper} {Hr : Heap} {gg : Option (Bool × Bool)} {e : Eff} {K' : Prop} {Tr : Nat → AV} (hTr : ∀ t, Tr t = T t ∨ Tr t = .undef) (h : gEff tb G wrap wk ops o Tr Hr = some (gg, e))
    (hw : withE gg e.pre K') (hR : Rel P B kp nt T H a w) (hr : ∀ o, Hr o = H o ∨ Hr o = .free) (hfr : ∀ k, k < 16 → Hr (fam (o.dst.getD 9999) k) = H (fam (o.dst.getD 9999) k)) (hd : ∀ d, o.dst = some d → d < nt)
    {Q : Exit → Act → World → Prop} {K : Act → World → Prop} (hK : ∀ a' w', Rel P B kp nt (setT T o.dst e.dst) (setH H e.wr) a' w' → K a' w') :
    (if Region.wanted o (yielded ops a.tmps) then o.wp P a w K Q else K (a.put o.dst undef) w) ∧ K' := by
  obtain ⟨pl, Z, hR, hkp⟩ := hR
  have hav : ∀ t, AVr P B pl Z w (fun t => a.tmps.getD t undef) (Tr t) (a.tmps.getD t undef) := fun t => by
    rcases hTr t with h | h
    · rw [h]; exact hR.av t
    · rw [h]; trivial
  have hkn : ∀ t o, o ∈ (Tr t).refs → isFree (H o) = false := fun t o ho => by
    rcases hTr t with h | h
    · rw [h] at ho; exact hR.kn t o ho
    · rw [h] at ho; simp [AV.refs] at ho
  unfold gEff at h
  split at h
  · rename_i hgd
    obtain ⟨e0, he, h⟩ := Option.bind_eq_some_iff.1 h
    split at h
    case isFalse => cases h
    rename_i hro
    have hro : roOK wk e0.wr = true := by simp only [Bool.and_eq_true] at hro; exact hro.1
    cases h
    obtain ⟨hp, hk'⟩ := withL_all hw
    refine ⟨?_, hk'⟩
    rw [if_pos (by simp [Region.wanted, hgd])]
    have c : Ctx P B tb H Hr pl Z w Tr a none (o.dst.getD 9999) := ⟨hT, hR.gr, hr, hfr, hav, hkn, fun j b h => by cases h⟩
    refine (effOp_sound c hG (fun o ho => roOf_rng (by rw [← hB]; exact ho)) he hp (fun p hp => by rw [hB]; exact roOK_of hro p hp)).wp ?_
    rintro v w' ⟨pl', Z', q1, q2, q3, q4, q5, q6⟩
    exact hK _ _ ⟨pl', Z', hR.put hd q1 q2 q3 q6 (fun d _ => q4.toR _) (fun d _ => q5), hkp.post hR.gr q2 q3 q6⟩
  · rename_i j b hgd
    split at h
    · cases h
    rename_i gt hgt
    split at h
    case h_2 => cases h
    rename_i l act c hch
    split at h
    case h_2 => cases h
    rename_i p v d he hdst
    split at h
    case isFalse => cases h
    rename_i hrf
    simp only [Bool.and_eq_true] at hrf
    obtain ⟨hrf, hself⟩ := hrf
    cases h
    obtain ⟨k1, k2, k3⟩ := gchain_sound hav 4 gt l act c hch
    have hgp : withG (gpair l act c b).1 (gpair l act c b).2 p K' := hw
    obtain ⟨hp, hk'⟩ := withG_all hgp
    refine ⟨?_, hk'⟩
    have hcond : act = true → c = b → (gpair l act c b).1 = (gpair l act c b).2 := by
      intro e1 e2
      subst e1 e2
      cases l <;> simp [gpair]
    have hrefs : ∀ o, o ∈ v.refs → isFree (H o) = false := fun o ho => by
      have := List.all_eq_true.1 hrf o ho
      rcases hr o with h' | h'
      · rw [← h']; simpa using this
      · rw [h'] at this; simp [isFree] at this
    have hlt : d < a.tmps.size := Nat.lt_of_lt_of_le (hd d hdst) hR.nt
    have hyb : ∀ cb : Bool, a.tmps.getD gt undef = .bool cb → yielded ops a.tmps j = some cb := by
      intro cb hcv
      have hgl : gt < a.tmps.size := by
        by_cases hgl : gt < a.tmps.size
        · exact hgl
        · have hn : a.tmps[gt]? = none := Array.getElem?_eq_none (Nat.le_of_not_lt hgl)
          rw [Array.getD_eq_getD_getElem?, hn] at hcv
          cases hcv
      rw [Array.getD_eq_getD_getElem?, Array.getElem?_eq_getElem hgl] at hcv
      have hcv : a.tmps[gt] = .bool cb := hcv
      unfold yielded
      rw [hgt]
      simp only [Option.bind_some, Array.getElem?_eq_getElem hgl, hcv]
    by_cases hcb2 : act = true ∧ c = b
    · obtain ⟨ha, hc⟩ := hcb2
      obtain ⟨hcv, hlv⟩ := k1 ha
      have hcv : a.tmps.getD gt undef = .bool c := hcv
      rw [if_pos (by rw [Region.wanted, hgd]; show (yielded ops a.tmps j == some b) = true; rw [hyb c hcv, hc]; cases b <;> rfl)]
      have cx : Ctx P B tb H Hr pl Z w (strip l Tr) a (some (gt, b)) (o.dst.getD 9999) := ⟨hT, hR.gr, hr, hfr, strip_av hav hlv, fun t o ho => hkn t o (strip_refs ho), fun j' b' h => by cases h; rw [hcv, hc]⟩
      refine (effOp_sound cx hG (fun o ho => roOf_rng (by rw [← hB]; exact ho)) he (hp (hcond ha hc)) (fun p hp => by cases hp)).wp ?_
      rintro v' w' ⟨pl', Z', q1, q2, q3, q4, q5, q6⟩
      refine hK _ _ ⟨pl', Z', hR.put hd q1 q2 q3 q6 (fun d' hd' => wh_avr (fun _ => q4) fun hne => ?_) (fun d _ o ho => q5 o (wh_refs ho)), hkp.post hR.gr q2 q3 q6⟩
      have hd2 : d' = d := by rw [hdst] at hd'; cases hd'; rfl
      subst hd2
      by_cases hgd2 : gt = d'
      · -- the guard's own temporary is set: what hangs on it
        subst hgd2
        simp at hself
      · exfalso
        rw [hd', put_get (Nat.lt_of_lt_of_le (hd d' hd') hR.nt), if_neg hgd2, hcv, hc] at hne
        exact hne rfl
    · have hwant : ¬ (Region.wanted o (yielded ops a.tmps) = true) := by
        rw [Region.wanted, hgd]
        show ¬ (yielded ops a.tmps j == some b) = true
        cases ha : act with
        | true =>
          have hcv : a.tmps.getD gt undef = .bool c := (k1 ha).1
          rw [hyb c hcv]
          have : c ≠ b := fun e => hcb2 ⟨ha, e⟩
          revert this
          cases b <;> cases c <;> simp
        | false =>
          have hcv : a.tmps.getD gt undef = undef := k2 ha
          have : yielded ops a.tmps j = none := by
            unfold yielded
            rw [hgt]
            simp only [Option.bind_some]
            rw [Array.getD_eq_getD_getElem?] at hcv
            cases hq : a.tmps[gt]? with
            | none => rfl
            | some q =>
              rw [hq] at hcv
              have hcv : q = undef := hcv
              rw [hcv]; rfl
          rw [this]
          simp
      rw [if_neg hwant]
      refine hK _ _ ⟨pl, Z, hR.put hd (wr := []) hR.gr (fun _ _ => rfl) (fun b hb => ⟨hb, rfl⟩) (fun _ h => h) (fun d' hd' => wh_avr (fun hg => ?_) (fun _ => rfl)) (fun d' _ o ho => hrefs o (wh_refs ho)), hkp⟩
      exfalso
      rw [hd', put_get (Nat.lt_of_lt_of_le (hd d' hd') hR.nt)] at hg
      split at hg
      · cases hg
      · refine hwant ?_
        rw [Region.wanted, hgd]
        show (yielded ops a.tmps j == some b) = true
        rw [hyb b hg]
        cases b <;> rfl

theorem und_sliceK (hT : TOK P tb) {t : Nat} (h : isSliceK (tb.k t) = true) : ∃ e, P.underlying t = some (.slice e) := by
  unfold isSliceK at h
  split at h
  · rename_i e hk
    unfold Tab.k at hk
    obtain ⟨ti, h1, h2⟩ := opt_map hk
    exact ⟨e, und_slice hT h1 h2⟩
  · cases h
theorem run_equal_sl {t e : TypeId} (h : P.underlying t = some (.slice e)) (ad : Option Addr) (n c : Nat) (w : World) : (Op.equal t (.slice ad n c) (.slice none 0 0)).run P w = .ok ad.isNone w := by
  have : ∀ d, (Op.equalIn (d + 1) t (.slice ad n c) (.slice none 0 0)).run P w = .ok ad.isNone w := fun d => by cases ad <;> simp [Op.equalIn, run_underlying h]
  exact this 9999
theorem run_eqGuard_sl (op : BinOp) (t : TypeId) (x y : Operand) (ad : Option Addr) (n c : Nat) (w : World) : (eqGuard op t x y (.slice ad n c) (.slice none 0 0)).run P w = .ok () w := by
  cases op <;> rfl
theorem binOp_eql_sl (t : TypeId) (ad : Option Addr) (n c : Nat) : binOp .eql t (.slice ad n c) (.slice none 0 0) = (do pure (.bool (← Op.equal t (.slice ad n c) (.slice none 0 0)))) := rfl
theorem binOp_neq_sl (t : TypeId) (ad : Option Addr) (n c : Nat) : binOp .neq t (.slice ad n c) (.slice none 0 0) = (do pure (.bool (!(← Op.equal t (.slice ad n c) (.slice none 0 0))))) := rfl

/-- a slice is compared with nil -/
theorem nil_run (hT : TOK P tb) {s : AState} {o : Oper} {p : Bool} {n : Nat} (h : nilT tb s o = some (p, n)) (hR : RelAt P B nt s.T s.H a w pl Z) :
    o.guard = none ∧ ∃ b : Bool, (execOp a.eval o).run P w = .ok (.value (.bool b)) w ∧ (b = p → n = 0) := by
  unfold nilT at h
  split at h
  case h_2 => cases h
  rename_i op t x yk hgd hop
  refine ⟨hgd, ?_⟩
  have hx : AVn P B pl Z w (ev s.T none x) (a.eval x) := ev_sound hR.av (fun _ _ h => by cases h) x
  split at h
  case h_2 => cases h
  rename_i p' hp hk
  obtain ⟨e, hu⟩ := und_sliceK hT hk
  -- the slice's value
  have key : ∀ (ad : Option Addr) (len c : Nat), a.eval x = .slice ad len c → (ad = none → n = 0) → p = p' → ∃ b : Bool, (execOp a.eval o).run P w = .ok (.value (.bool b)) w ∧ (b = p → n = 0) := by
    intro ad len c hv hn hpp
    subst hpp
    have hcase : (op = .eql ∧ p = true) ∨ (op = .neq ∧ p = false) := by
      split at hp
      · cases hp; exact .inl ⟨rfl, rfl⟩
      · cases hp; exact .inr ⟨rfl, rfl⟩
      · cases hp
    rcases hcase with ⟨rfl, rfl⟩ | ⟨rfl, rfl⟩
    · refine ⟨ad.isNone, ?_, fun hb => hn (by simpa using hb)⟩
      have hc : a.eval (.const (.slice none 0 0)) = .slice none 0 0 := rfl
      simp only [execOp, hop, hc, hv, binOp_eql_sl, Sem.run_bind, run_eqGuard_sl, Result.andThen_ok, run_equal_sl hu, Sem.run_pure]
    · refine ⟨!ad.isNone, ?_, fun hb => hn (by simpa using hb)⟩
      have hc : a.eval (.const (.slice none 0 0)) = .slice none 0 0 := rfl
      simp only [execOp, hop, hc, hv, binOp_neq_sl, Sem.run_bind, run_eqGuard_sl, Result.andThen_ok, run_equal_sl hu, Sem.run_pure]
  split at h
  · rename_i t' l hv
    rw [hv] at hx
    obtain ⟨ad, cap, he, h1, h2, h3⟩ := Reps.sl_iff.1 ((AVn.s rfl (by simp) (by simp)).1 hx)
    cases h
    simp only [List.cons.injEq, and_true] at he
    exact key _ _ _ he (fun hn => by
      rcases h3 with h3 | ⟨b, off, c, e1, _⟩
      · exact h3
      · rw [hn] at e1; cases e1) rfl
  · rename_i t' l hv
    rw [hv] at hx
    obtain ⟨ad, he, h1⟩ := (AVn.s rfl (by simp) (by simp)).1 hx
    cases h
    simp only [List.cons.injEq, and_true] at he
    exact key _ _ _ he (fun hn => by
      obtain ⟨ad', cap', e0, _, _, h3⟩ := Reps.sl_iff.1 h1
      simp only [List.cons.injEq, and_true] at e0
      rw [he] at e0
      simp only [Value.slice.injEq] at e0
      rcases h3 with h3 | ⟨b, off, c, e1, _⟩
      · exact h3
      · rw [← e0.1, hn] at e1; cases e1) rfl
  · rename_i hv
    rw [hv] at hx
    obtain ⟨ad, he⟩ := (AVn.s rfl (by simp) (by simp)).1 hx
    cases h
    simp only [List.cons.injEq, and_true] at he
    exact key _ _ _ he (fun _ => rfl) rfl
  · rename_i o' hv
    rw [hv] at hx
    obtain ⟨ad, len, cap, hp', he⟩ := (AVn.s rfl (by simp) (by simp)).1 hx
    split at h
    · rename_i t' l ho
      cases h
      simp only [List.cons.injEq, and_true] at he
      have hob := hR.gr.ob o' _ ho
      rw [hp'] at hob
      obtain ⟨h1, h2, _, h4⟩ := hob
      exact key _ _ _ he (fun hn => by
        show List.length (α := El t') l = 0
        rcases h4 with h4 | ⟨b, arr, T, e1, _⟩
        · rw [h1]; omega
        · rw [hn] at e1; cases e1) rfl
    · cases h
  · cases h

/-- a region in its own order -/
theorem regA_sound (hT : TOK P tb) (hG : ∀ f sp, G.lookup f = some sp → Sat P f sp) (hB : B.ro = roOf wk) {ops : Array Oper} {Q : Exit → Act → World → Prop} {K : AState → Prop} (hK : ∀ s a w, K s → Rel P B kp nt s.T s.H a w → Q .normal a w) :
    ∀ (l : List Oper) (s : AState) (a : Act) (w : World), (∀ o, o ∈ l → ∀ d, o.dst = some d → d < nt) → regA tb G wrap wk ops l s K → Rel P B kp nt s.T s.H a w → wpList P ops Q l a w
  | [], s, a, w, _, h, hR => by
    refine hK _ a w h ?_
    obtain ⟨pl, Z, hR, hkp⟩ := hR
    refine ⟨pl, Z, ⟨hR.gr, fun t => ?_, fun t o ho => ?_, hR.df, hR.nt⟩, hkp⟩
    · show AVr P B pl Z w _ (clearT ops s.T t) _
      unfold clearT
      split
      · dsimp only
        split
        · trivial
        · exact hR.av t
      · exact hR.av t
    · have ho : o ∈ (clearT ops s.T t).refs := ho
      unfold clearT at ho
      split at ho
      · dsimp only at ho
        split at ho
        · simp [AV.refs] at ho
        · exact hR.kn t o ho
      · exact hR.kn t o ho
  | o :: r, s, a, w, hd, h, hR => by
    unfold regA stepA at h
    split at h
    · rename_i p n hnil
      obtain ⟨pl, Z, hRa, hkp⟩ := hR
      obtain ⟨hgd, b, hrun, hb⟩ := nil_run hT hnil hRa
      refine wpList_step fun K0 hK0 => ?_
      rw [if_pos (by simp [Region.wanted, hgd])]
      have hR' : Rel P B kp nt (setT s.T o.dst (.val .bool b)) s.H (a.put o.dst (.bool b)) w := ⟨pl, Z, hRa.put (hd o (by simp)) (wr := []) hRa.gr (fun _ _ => rfl) (fun b hb => ⟨hb, rfl⟩) (fun _ h => h) (fun d _ => AVn.toR (AVn.mkBool b) _) (fun d _ o ho => by simp [AV.refs] at ho), hkp⟩
      have hk : regA tb G wrap wk ops r (s.next o.dst ⟨[], .val .bool b, []⟩) K := by
        by_cases hbp : b = p
        · rw [hbp]; exact h.1 (hb hbp)
        · have : b = !p := by cases b <;> cases p <;> simp_all
          rw [this]; exact h.2
      unfold Oper.wp
      rw [hrun]
      exact hK0 _ _ (regA_sound hT hG hB hK r _ _ w (fun o' ho' => hd o' (by simp [ho'])) hk hR')
    split at h
    case h_2 => exact h.elim
    rename_i g p v wr he
    rw [frc_eq, frcW_eq] at h
    have hw : withE g p (regA tb G wrap wk ops r (s.next o.dst ⟨p, v, wr⟩) K) := h
    refine wpList_step fun K0 hK0 => ?_
    have hrest : regA tb G wrap wk ops r (s.next o.dst ⟨p, v, wr⟩) K := by
      cases g with
      | none => exact (withL_all hw).2
      | some cb => exact (withG_all hw).2
    exact (op_sound hT hG hB (fun _ => .inl rfl) he hw hR (fun _ => .inl rfl) (fun _ _ => rfl) (hd o (by simp)) (fun a' w' hR' =>
      hK0 a' w' (regA_sound hT hG hB hK r (s.next o.dst ⟨p, v, wr⟩) a' w' (fun o' ho' => hd o' (by simp [ho'])) hrest hR'))).1
end
end A
end Go.Proofs.Ythgnjimpakpkjaa
namespace Go.Proofs.Ythgnjimpakpkjaa
namespace A
section
variable {P : Program} {B : Base} {tb : Tab} {H H' : Heap} {pl : Nat → Place} {Z : Nat → Prop} {w w' : World} {T T' : Nat → AV} {a : Act} {G : Specs} {nt : Nat} {wk : List Nat} {wrap : Bool}

theorem restT_or (T : Nat → AV) (l : List Nat) (t : Nat) : restT T l t = T t ∨ restT T l t = .undef := by
  unfold restT
  split
  · split
    · rename_i g b v h
      split
      · exact .inl h.symm
      · exact .inr rfl
    · exact .inl rfl
  · exact .inr rfl
theorem restr_or (H : Heap) (l : List Nat) (o : Nat) : restr H l o = H o ∨ restr H l o = .free := by
  unfold restr
  split
  · exact .inl rfl
  · exact .inr rfl

/-- what is not looked at may be set -/
theorem restT_setT {l : List Nat} {d : Option Nat} (hd : ∀ x, d = some x → x ∉ l) (v : AV) : restT (setT T d v) l = restT T l := by
  funext t
  cases d with
  | none => rfl
  | some x =>
    have hx := hd x rfl
    unfold restT
    by_cases ht : l.contains t = true
    · rw [if_pos ht, if_pos ht]
      have hne : t ≠ x := fun e => hx (by rw [← e]; simpa using ht)
      show (match (if t = x then v else unW x (T t)) with | .whn g b v => if l.contains g then AV.whn g b v else .undef | v => v) = _
      rw [if_neg hne]
      cases hT : T t <;> try rfl
      rename_i g b u
      show (match (if g = x then AV.undef else .whn g b u) with | .whn g b v => if l.contains g then AV.whn g b v else .undef | v => v) = _
      by_cases hg : g = x
      · subst hg
        rw [if_pos rfl]
        have : ¬ l.contains g = true := by simpa using hx
        simp only [this, if_false]
        rfl
      · rw [if_neg hg]
    · rw [if_neg ht, if_neg ht]

/-- objects that are not looked at may be changed -/
theorem restr_setH {l : List Nat} {W : List (Nat × Obj)} (hd : ∀ p, p ∈ W → p.1 ∉ l) : restr (setH H W) l = restr H l := by
  funext o
  unfold restr
  split
  · rename_i h
    exact setH_out W H o (fun p hp e => hd p hp (by rw [e]; simpa using h))
  · rfl

/-- setting two temporaries, neither hanging on the other -/
theorem setT_comm {d e : Option Nat} {u v : AV} (hne : ∀ x, d = some x → e ≠ some x) (hu : ∀ y, e = some y → unW y u = u) (hv : ∀ x, d = some x → unW x v = v) : setT (setT T d u) e v = setT (setT T e v) d u := by
  funext t
  cases d with
  | none => rfl
  | some x =>
    cases e with
    | none => rfl
    | some y =>
      have hxy : x ≠ y := fun h => hne x rfl (by rw [h])
      show (if t = y then v else unW y (if t = x then u else unW x (T t))) = (if t = x then u else unW x (if t = y then v else unW y (T t)))
      by_cases h1 : t = y
      · subst h1
        rw [if_pos rfl, if_neg (Ne.symm hxy), if_pos rfl, hv x rfl]
      · rw [if_neg h1, if_neg h1]
        by_cases h2 : t = x
        · rw [if_pos h2, if_pos h2, hu y rfl]
        · rw [if_neg h2, if_neg h2]
          cases T t <;> try rfl
          rename_i g b c
          show unW y (if g = x then .undef else .whn g b c) = unW x (if g = y then .undef else .whn g b c)
          by_cases hg : g = x <;> by_cases hg' : g = y <;> simp [hg, hg', unW] <;> simp_all

theorem setH_comm : ∀ (W V : List (Nat × Obj)) (H : Heap), (∀ p, p ∈ W → ∀ q, q ∈ V → p.1 ≠ q.1) → setH (setH H W) V = setH (setH H V) W := by
  have one : ∀ (V : List (Nat × Obj)) (H : Heap) (o : Nat) (c : Obj), (∀ q, q ∈ V → o ≠ q.1) → setH (put H o c) V = put (setH H V) o c := by
    intro V
    induction V with
    | nil => intro H o c _; rfl
    | cons q V ih =>
      intro H o c h
      obtain ⟨i, d⟩ := q
      show setH (put (put H o c) i d) V = put (setH (put H i d) V) o c
      rw [put_comm H c d (h (i, d) (by simp)), ih _ _ _ (fun q hq => h q (by simp [hq]))]
  intro W
  induction W with
  | nil => intro V H _; rfl
  | cons p W ih =>
    intro V H h
    obtain ⟨o, c⟩ := p
    show setH (setH (put H o c) W) V = setH (put (setH H V) o c) W
    rw [ih V _ (fun p hp => h p (by simp [hp])), one V H o c (h (o, c) (by simp))]

/-- what is reached is the same where the heaps agree on it -/
theorem reach_agree : ∀ (f : Nat) (l done : List Nat), (∀ o, o ∈ reach H f l done → H' o = H o) → reach H' f l done = reach H f l done := by
  have mono : ∀ (f : Nat) (l done : List Nat) (o : Nat), o ∈ done → o ∈ reach H f l done := by
    intro f
    induction f with
    | zero => intro l done o h; exact h
    | succ f ih =>
      intro l done o h
      cases l with
      | nil => exact h
      | cons x r =>
        unfold reach
        split
        · exact ih r done o h
        · split
          · exact ih _ _ o (by simp [h])
          · exact ih _ _ o (by simp [h])
  intro f
  induction f with
  | zero => intro l done _; rfl
  | succ f ih =>
    intro l done h
    cases l with
    | nil => rfl
    | cons x r =>
      unfold reach at h ⊢
      by_cases hx : done.contains x = true
      · rw [if_pos hx] at h ⊢
        rw [if_pos hx]
        exact ih r done h
      · rw [if_neg hx] at h ⊢
        rw [if_neg hx]
        cases hH : H x with
        | live c =>
          rw [hH] at h
          have hxx : H' x = H x := h x (mono f _ _ x (by simp))
          rw [hxx, hH]
          exact ih _ _ h
        | dead =>
          rw [hH] at h
          have hxx : H' x = H x := h x (mono f _ _ x (by simp))
          rw [hxx, hH]
          exact ih _ _ h
        | free =>
          rw [hH] at h
          have hxx : H' x = H x := h x (mono f _ _ x (by simp))
          rw [hxx, hH]
          exact ih _ _ h
end
end A
end Go.Proofs.Ythgnjimpakpkjaa
namespace Go.Proofs.Ythgnjimpakpkjaa
namespace A
section
variable {tb : Tab} {G : Specs} {nt : Nat} {wk : List Nat} {wrap : Bool} {ops : Array Oper} {H H' : Heap} {T T' : Nat → AV}

/-- what is known of an operation of a drawn region: its guard's value, its effect, what it looks at -/
structure Seen where
  g : Option (Bool × Bool)
  e : Eff
  foot : List Nat

/-- an operation at a state is what it was seen to be -/
structure Sees (tb : Tab) (G : Specs) (wrap : Bool) (wk : List Nat) (ops : Array Oper) (o : Oper) (s : Seen) (T : Nat → AV) (H : Heap) : Prop where
  eff : gEff tb G wrap wk ops o (restT T (o.looksAt ops)) (restr H s.foot) = some (s.g, s.e)
  foot : footOf ops o (restT T (o.looksAt ops)) H = s.foot

/-- a list of operations runs -/
def Run (tb : Tab) (G : Specs) (wrap : Bool) (wk : List Nat) (ops : Array Oper) : List (Oper × Seen) → (Nat → AV) → Heap → (Nat → AV) → Heap → Prop
  | [], T, H, T', H' => T' = T ∧ H' = H
  | (o, s) :: r, T, H, T', H' => Sees tb G wrap wk ops o s T H ∧ Run tb G wrap wk ops r (setT T o.dst s.e.dst) (setH H s.e.wr) T' H'

/-- neither of two operations meets the other -/
structure Apart (ops : Array Oper) (x : Oper) (s : Seen) (y : Oper) (t : Seen) : Prop where
  ap : x.apart ops y = true
  wr : ∀ p, p ∈ s.e.wr → p.1 ∉ t.foot
  rw : ∀ p, p ∈ t.e.wr → p.1 ∉ s.foot
  ww : ∀ p, p ∈ s.e.wr → ∀ q, q ∈ t.e.wr → p.1 ≠ q.1
  u1 : ∀ d, y.dst = some d → unW d s.e.dst = s.e.dst
  u2 : ∀ d, x.dst = some d → unW d t.e.dst = t.e.dst

theorem footOf_agree {o : Oper} (h : ∀ i, i ∈ footOf ops o T H → H' i = H i) : footOf ops o T H' = footOf ops o T H := by
  unfold footOf at h ⊢
  rw [reach_agree _ _ _ (fun i hi => h i (List.mem_append_left _ (List.mem_append_right _ hi)))]

theorem Sees.other {o : Oper} {s : Seen} (h : Sees tb G wrap wk ops o s T H) {d : Option Nat} (hd : ∀ x, d = some x → x ∉ o.looksAt ops) (v : AV) {W : List (Nat × Obj)} (hW : ∀ p, p ∈ W → p.1 ∉ s.foot) :
    Sees tb G wrap wk ops o s (setT T d v) (setH H W) := by
  refine ⟨by rw [restT_setT hd, restr_setH hW]; exact h.eff, ?_⟩
  rw [restT_setT hd, footOf_agree (H := H) (fun i hi => setH_out W H i (fun p hp e => hW p hp (by rw [e, ← h.foot]; exact hi)))]
  exact h.foot
theorem Sees.unother {o : Oper} {s : Seen} {d : Option Nat} (hd : ∀ x, d = some x → x ∉ o.looksAt ops) {v : AV} {W : List (Nat × Obj)} (hW : ∀ p, p ∈ W → p.1 ∉ s.foot) (h : Sees tb G wrap wk ops o s (setT T d v) (setH H W)) :
    Sees tb G wrap wk ops o s T H := by
  obtain ⟨h1, h2⟩ := h
  rw [restT_setT hd] at h1 h2
  rw [restr_setH hW] at h1
  refine ⟨h1, ?_⟩
  rw [← h2]
  refine footOf_agree (H := setH H W) (fun i hi => (setH_out W H i (fun p hp e => hW p hp ?_)).symm)
  rw [e, ← h2]; exact hi

/-- two neighbours may be swapped -/
theorem Run.swap {x y : Oper} {s t : Seen} {r : List (Oper × Seen)} (ha : Apart ops x s y t) (h : Run tb G wrap wk ops ((x, s) :: (y, t) :: r) T H T' H') : Run tb G wrap wk ops ((y, t) :: (x, s) :: r) T H T' H' := by
  obtain ⟨h1, h2, h3⟩ := h
  obtain ⟨a1, a2, a3⟩ := Oper.apart_spec ha.ap
  refine ⟨h2.unother a1 ha.wr, h1.other a3 _ ha.rw, ?_⟩
  rw [← setT_comm (fun d hd => a2 d hd) ha.u1 ha.u2, ← setH_comm _ _ _ ha.ww]
  exact h3

/-- one operation is moved ahead of those that it does not meet -/
theorem Run.front {y : Oper} {t : Seen} : ∀ (l r : List (Oper × Seen)) {T : Nat → AV} {H : Heap}, (∀ p, p ∈ l → Apart ops p.1 p.2 y t) → Run tb G wrap wk ops (l ++ (y, t) :: r) T H T' H' → Run tb G wrap wk ops ((y, t) :: (l ++ r)) T H T' H'
  | [], _, _, _, _, h => h
  | (x, s) :: l, r, T, H, ha, h => by
    obtain ⟨h1, h2⟩ := h
    have h3 := Run.front l r (fun p hp => ha p (by simp [hp])) h2
    exact Run.swap (ha (x, s) (by simp)) ⟨h1, h3⟩
end
end A
end Go.Proofs.Ythgnjimpakpkjaa
namespace Go.Proofs.Ythgnjimpakpkjaa
namespace A
section
variable {tb : Tab} {G : Specs} {wk : List Nat} {wrap : Bool} {ops : Array Oper} {H H' : Heap} {T T' : Nat → AV}

theorem gEff_unW {o : Oper} {g : Option (Bool × Bool)} {e : Eff} (h : gEff tb G wrap wk ops o T H = some (g, e)) {d : Nat} (hd : d ∉ o.looksAt ops) : unW d e.dst = e.dst := by
  unfold gEff at h
  split at h
  · obtain ⟨e0, _, h⟩ := Option.bind_eq_some_iff.1 h
    split at h
    case isFalse => cases h
    rename_i hc
    cases h
    simp only [Bool.and_eq_true] at hc
    have := hc.2
    cases he : e.dst <;> first | rfl | (rw [he] at this; cases this)
  · rename_i j b hgd
    split at h
    · cases h
    rename_i gt hgt
    split at h
    case h_2 => cases h
    split at h
    case h_2 => cases h
    rename_i p v d' he hdst
    split at h
    case isFalse => cases h
    cases h
    have hin : gt ∈ o.looksAt ops := by
      unfold Oper.looksAt
      rw [hgd]
      simp [hgt]
    have hne : gt ≠ d := fun e => hd (e ▸ hin)
    cases v <;> first | rfl | (show (if gt = d then AV.undef else _) = _; rw [if_neg hne]; rfl)
/-- the lexical run, and what was seen -/
theorem drawA_run {K : List (List Nat × List Nat) → (Nat → AV) → Heap → Prop} : ∀ (l : List Oper) (T : Nat → AV) (H : Heap) (acc : List (List Nat × List Nat)), drawA tb G wrap wk ops l T H acc K →
    ∃ (tab : List Seen) (T' : Nat → AV) (H' : Heap), tab.length = l.length ∧ Run tb G wrap wk ops (l.zip tab) T H T' H' ∧ K (acc ++ tab.map fun s => (s.foot, s.e.wr.map (·.1))) T' H' ∧ ∀ s, s ∈ tab → withE s.g s.e.pre True
  | [], T, H, acc, h => ⟨[], T, H, rfl, ⟨rfl, rfl⟩, by simpa [drawA] using h, by simp⟩
  | o :: r, T, H, acc, h => by
    unfold drawA at h
    split at h
    case h_2 => exact h.elim
    rename_i g p v wr he
    rw [frc_eq, frcW_eq] at h
    have hw : withE g p (drawA tb G wrap wk ops r (setT T o.dst v) (setH H wr) (acc ++ [(footOf ops o (restT T (o.looksAt ops)) H, wr.map (·.1))]) K) := h
    have hrest : drawA tb G wrap wk ops r (setT T o.dst v) (setH H wr) (acc ++ [(footOf ops o (restT T (o.looksAt ops)) H, wr.map (·.1))]) K ∧ withE g p True := by
      cases g with
      | none =>
        obtain ⟨h1, h2⟩ := withL_all (show withL p _ from hw)
        refine ⟨h2, ?_⟩
        show withL p True
        clear hw h he
        induction p with
        | nil => trivial
        | cons q l ih => exact ⟨h1 q (by simp), ih (fun x hx => h1 x (by simp [hx]))⟩
      | some cb =>
        obtain ⟨c, b⟩ := cb
        obtain ⟨h1, h2⟩ := withG_all (show withG c b p _ from hw)
        refine ⟨h2, ?_⟩
        show withG c b p True
        clear hw h he
        induction p with
        | nil => trivial
        | cons q l ih => exact ⟨fun hc => h1 hc q (by simp), ih (fun hc x hx => h1 hc x (by simp [hx]))⟩
    obtain ⟨tab, T', H', h1, h2, h3, h4⟩ := drawA_run r _ _ _ hrest.1
    refine ⟨⟨g, ⟨p, v, wr⟩, footOf ops o (restT T (o.looksAt ops)) H⟩ :: tab, T', H', by simp [h1], ⟨⟨he, rfl⟩, h2⟩, by simpa using h3, fun s hs => ?_⟩
    rcases List.mem_cons.1 hs with rfl | hs
    · exact hrest.2
    · exact h4 s hs
end
end A
end Go.Proofs.Ythgnjimpakpkjaa
namespace Go.Proofs.Ythgnjimpakpkjaa
namespace A
section
variable {P : Program} {B : Base} {tb : Tab} {G : Specs} {wk : List Nat} {wrap : Bool} {ops : Array Oper} {nt : Nat}

theorem disj_of {a b : List Nat} (h : disj a b = true) : ∀ x, x ∈ a → x ∉ b := fun x hx hb => by
  have := List.all_eq_true.1 h x hx
  simp at this
  exact this hb

/-- what was seen was seen somewhere -/
def WasSeen (tb : Tab) (G : Specs) (wrap : Bool) (wk : List Nat) (ops : Array Oper) (o : Oper) (s : Seen) : Prop := ∃ T H, gEff tb G wrap wk ops o T H = some (s.g, s.e)
theorem Run.seen : ∀ {l : List (Oper × Seen)} {T : Nat → AV} {H : Heap} {T' : Nat → AV} {H' : Heap}, Run tb G wrap wk ops l T H T' H' → ∀ p, p ∈ l → WasSeen tb G wrap wk ops p.1 p.2
  | [], _, _, _, _, _, p, hp => by cases hp
  | (o, s) :: r, T, H, T', H', h, p, hp => by
    rcases List.mem_cons.1 hp with rfl | hp
    · exact ⟨_, _, h.1.eff⟩
    · exact Run.seen h.2 p hp

theorem pair_apart {cl : List (List Nat)} {fp : List (List Nat × List Nat)} {i j : Nat} {x y : Oper} {s t : Seen} (h : pairOK ops cl fp i j = true) (hx : ops[i]? = some x) (hy : ops[j]? = some y)
    (hi : fp[i]? = some (s.foot, s.e.wr.map (·.1))) (hj : fp[j]? = some (t.foot, t.e.wr.map (·.1))) (hb : (cl.getD j []).contains i = false)
    (hs : WasSeen tb G wrap wk ops x s) (ht : WasSeen tb G wrap wk ops y t) : Apart ops x s y t := by
  unfold pairOK at h
  rw [hx, hy, hi, hj] at h
  simp only [hb, Bool.false_or, Bool.and_eq_true] at h
  obtain ⟨⟨⟨h1, h2⟩, h3⟩, h4⟩ := h
  obtain ⟨a1, a2, a3⟩ := Oper.apart_spec h1
  obtain ⟨_, _, hs⟩ := hs
  obtain ⟨_, _, ht⟩ := ht
  refine ⟨h1, fun p hp => disj_of h2 _ (List.mem_map.2 ⟨p, hp, rfl⟩), fun p hp => disj_of h4 _ (List.mem_map.2 ⟨p, hp, rfl⟩), fun p hp q hq e => disj_of h3 _ (List.mem_map.2 ⟨p, hp, rfl⟩) (by rw [e]; exact List.mem_map.2 ⟨q, hq, rfl⟩),
    fun d hd => gEff_unW hs (a3 d hd), fun d hd => gEff_unW ht (a1 d hd)⟩
end
end A
end Go.Proofs.Ythgnjimpakpkjaa
namespace Go.Proofs.Ythgnjimpakpkjaa
namespace A
section
variable {P : Program} {B : Base} {tb : Tab} {G : Specs} {wk : List Nat} {wrap : Bool} {ops : Array Oper} {nt : Nat} {kp : Keep}

/-- the indices that are not yet listed -/
def left (n : Nat) (listed : Array Bool) : List Nat := (List.range n).filter fun i => !listed.getD i true

theorem left_set {n : Nat} {listed : Array Bool} {i : Nat} (hi : i ∈ left n listed) : ∃ l r, left n listed = l ++ i :: r ∧ left n (listed.setIfInBounds i true) = l ++ r ∧ (∀ k, k ∈ l → k < i) ∧ (∀ k, k ∈ r → i < k) := by
  unfold left at *
  have hlt := List.mem_range.1 (List.mem_filter.1 hi).1
  have hnl := (List.mem_filter.1 hi).2
  have hsz : i < listed.size := by
    by_cases h : i < listed.size
    · exact h
    · rw [Array.getD_eq_getD_getElem?, Array.getElem?_eq_none (by omega)] at hnl
      simp at hnl
  have hsplit : List.range n = List.range i ++ i :: (List.range' (i + 1) (n - i - 1)) := by
    rw [List.range_eq_range', List.range_eq_range']
    have h1 : n = i + (1 + (n - i - 1)) := by omega
    conv => lhs; rw [h1]
    rw [← List.range'_append_1, List.range'_append_1.symm]
    simp [List.range'_succ]
  have hfl : ∀ k, k ∈ List.range i → (listed.setIfInBounds i true).getD k true = listed.getD k true := fun k hk => by
    have hk := List.mem_range.1 hk
    simp only [Array.getD_eq_getD_getElem?, Array.getElem?_setIfInBounds]
    rw [if_neg (by omega)]
  have hfr : ∀ k, k ∈ List.range' (i + 1) (n - i - 1) → (listed.setIfInBounds i true).getD k true = listed.getD k true := fun k hk => by
    have hk := List.mem_range'_1.1 hk
    simp only [Array.getD_eq_getD_getElem?, Array.getElem?_setIfInBounds]
    rw [if_neg (by omega)]
  have hii : (listed.setIfInBounds i true).getD i true = true := by
    simp [Array.getD_eq_getD_getElem?, hsz]
  refine ⟨(List.range i).filter fun i => !listed.getD i true, (List.range' (i + 1) (n - i - 1)).filter fun i => !listed.getD i true, ?_, ?_, fun k hk => List.mem_range.1 (List.mem_filter.1 hk).1, fun k hk => by have := List.mem_range'_1.1 (List.mem_filter.1 hk).1; omega⟩
  · rw [hsplit, List.filter_append, List.filter_cons, if_pos hnl]
  · rw [hsplit, List.filter_append, List.filter_cons, hii]
    simp only [Bool.not_true, Bool.false_eq_true, if_false]
    congr 1
    · exact List.filter_congr fun k hk => by rw [hfl k hk]
    · exact List.filter_congr fun k hk => by rw [hfr k hk]
/-- what is listed is listed behind all that it waits for -/
def Closed' (ops : Array Oper) (listed : Array Bool) : Prop := ∀ (j : Nat) (y : Oper), ops[j]? = some y → listed.getD j false = true → ∀ d, d ∈ direct y → listed.getD d false = true
theorem clA_listed {ops : Array Oper} {listed : Array Bool} (hc : Closed' ops listed) : ∀ (r : List Oper) (acc : List (List Nat)), (∀ k : Nat, r[k]? = ops[acc.length + k]?) →
    (∀ (j : Nat) (y : Oper) (c : List Nat), ops[j]? = some y → acc[j]? = some c → (∀ d, d ∈ direct y → listed.getD d false = true) → ∀ k, k ∈ c → listed.getD k false = true) →
    ∀ (j : Nat) (y : Oper) (c : List Nat), ops[j]? = some y → (clA r acc)[j]? = some c → (∀ d, d ∈ direct y → listed.getD d false = true) → ∀ k, k ∈ c → listed.getD k false = true
  | [], acc, _, h => h
  | x :: r, acc, hr, h => by
    refine clA_listed hc r _ (fun k => by have := hr (k + 1); simp only [List.getElem?_cons_succ] at this; rw [this]; simp only [List.length_append, List.length_cons, List.length_nil]; congr 1; omega) ?_
    intro j y c hj hcj hd k hk
    by_cases hlt : j < acc.length
    · rw [List.getElem?_append_left hlt] at hcj
      exact h j y c hj hcj hd k hk
    · rw [List.getElem?_append_right (by omega)] at hcj
      have hj0 : j - acc.length = 0 := by
        by_cases h0 : j - acc.length = 0
        · exact h0
        · rw [List.getElem?_eq_none (by simp; omega)] at hcj; cases hcj
      rw [hj0] at hcj
      simp only [List.getElem?_cons_zero, Option.some.injEq] at hcj
      subst hcj
      have hxy : x = y := by
        have h0 := hr 0
        simp only [List.getElem?_cons_zero, Nat.add_zero] at h0
        rw [show acc.length = j by omega, hj] at h0
        exact Option.some.inj h0
      subst hxy
      rw [List.mem_eraseDups] at hk
      rcases List.mem_append.1 hk with hk | hk
      · exact hd k hk
      · obtain ⟨d, hdm, hk⟩ := List.mem_flatMap.1 hk
        have hdl := hd d hdm
        rw [List.getD_eq_getElem?_getD] at hk
        cases hac : acc[d]? with
        | none => rw [hac] at hk; cases hk
        | some c' =>
          rw [hac] at hk
          have hk : k ∈ c' := hk
          have hdlt : d < acc.length := (List.getElem?_eq_some_iff.1 hac).1
          have hsome : ∃ z, ops[d]? = some z := by
            have : d < ops.size := by
              have := (Array.getElem?_eq_some_iff.1 hj).1
              omega
            exact ⟨_, Array.getElem?_eq_getElem this⟩
          obtain ⟨z, hz⟩ := hsome
          exact h d z c' hz hac (hc d z hz hdl) k hk

/-- every order comes to the same -/
theorem any_sound (hT : TOK P tb) (hG : ∀ f sp, G.lookup f = some sp → Sat P f sp) (hB : B.ro = roOf wk) {pr : Nat → Oper × Seen} (hpr : ∀ i, i < ops.size → ops[i]? = some (pr i).1) (hd : ∀ i, i < ops.size → ∀ d, (pr i).1.dst = some d → d < nt)
    (hpre : ∀ i, i < ops.size → withE (pr i).2.g (pr i).2.e.pre True) (hfoot : ∀ i, i < ops.size → ∀ k, k < 16 → fam ((pr i).1.dst.getD 9999) k ∈ (pr i).2.foot)
    (hap : ∀ i j, i < j → j < ops.size → ((clA ops.toList []).getD j []).contains i = false → Apart ops (pr i).1 (pr i).2 (pr j).1 (pr j).2)
    (hbd : ∀ j, j < ops.size → ∀ e, e ∈ (pr j).1.after.toList → Region.binds .any e = true → e.on < j) {T' : Nat → AV} {H' : Heap} {Q : Exit → Act → World → Prop} (hQ : ∀ a w, Rel P B kp nt T' H' a w → Q .normal a w) :
    ∀ (fuel : Nat) (listed : Array Bool) (T : Nat → AV) (H : Heap) (a : Act) (w : World), listed.size = ops.size → Closed' ops listed → (left ops.size listed).length ≤ fuel → Run tb G wrap wk ops ((left ops.size listed).map pr) T H T' H' → Rel P B kp nt T H a w →
      wpAny P .any ops Q fuel listed a w := by
  have hready : ∀ (listed : Array Bool), listed.size = ops.size → Region.ready .any ops listed = [] → left ops.size listed = [] := by
    intro listed hsz hr
    cases hl : left ops.size listed with
    | nil => rfl
    | cons i r =>
      exfalso
      have hi : i ∈ left ops.size listed := by rw [hl]; simp
      obtain ⟨l0, r0, e1, _, hlt, hgt⟩ := left_set hi
      have hin := List.mem_range.1 (List.mem_filter.1 hi).1
      have hnl := (List.mem_filter.1 hi).2
      have : i ∈ Region.ready .any ops listed := by
        unfold Region.ready
        refine List.mem_filter.2 ⟨List.mem_range.2 hin, ?_⟩
        have hl0 : l0 = [] := by
          cases l0 with
          | nil => rfl
          | cons k l0 =>
            rw [hl] at e1
            simp only [List.cons_append, List.cons.injEq] at e1
            have := hlt k (by simp)
            omega
        rw [hnl, hpr i hin]
        simp only [Option.map_some, Option.getD_some, Bool.true_and]
        rw [← Array.all_toList, List.all_eq_true]
        intro e he
        cases hb : Region.binds .any e with
        | false => rfl
        | true =>
          have hlt2 := hbd i hin e he hb
          simp only [Bool.not_true, Bool.false_or]
          have hnot : e.on ∉ left ops.size listed := by
            rw [e1, hl0]
            intro hm
            simp only [List.nil_append, List.mem_cons] at hm
            rcases hm with hm | hm
            · omega
            · have := hgt _ hm; omega
          have hge : listed.getD e.on true = true := by
            cases hq : listed.getD e.on true with
            | true => rfl
            | false => exact absurd (List.mem_filter.2 ⟨List.mem_range.2 (by omega), by rw [hq]; rfl⟩) hnot
          have hs : e.on < listed.size := by omega
          rw [Array.getD_eq_getD_getElem?, Array.getElem?_eq_getElem hs] at hge ⊢
          exact hge
      rw [hr] at this; cases this
  have hleft : ∀ (listed : Array Bool) (i : Nat), i ∈ Region.ready .any ops listed → i ∈ left ops.size listed ∧ ∀ e, e ∈ (pr i).1.after.toList → Region.binds .any e = true → listed.getD e.on false = true := by
    intro listed i hi
    unfold Region.ready at hi
    obtain ⟨h1, h2⟩ := List.mem_filter.1 hi
    simp only [Bool.and_eq_true] at h2
    refine ⟨List.mem_filter.2 ⟨h1, h2.1⟩, fun e he hb => ?_⟩
    have h3 := h2.2
    rw [hpr i (List.mem_range.1 h1)] at h3
    simp only [Option.map_some, Option.getD_some] at h3
    rw [← Array.all_toList, List.all_eq_true] at h3
    have := h3 e he
    rw [hb] at this
    simpa using this
  intro fuel
  induction fuel with
  | zero =>
    intro listed T H a w hsz hcl hf hrun hR
    have hl : left ops.size listed = [] := List.length_eq_zero_iff.1 (by omega)
    rw [hl] at hrun
    obtain ⟨rfl, rfl⟩ := hrun
    refine ⟨?_, hQ _ _ hR⟩
    cases hr : Region.ready .any ops listed with
    | nil => rfl
    | cons i r =>
      have := (hleft listed i (by rw [hr]; simp)).1
      rw [hl] at this; cases this
  | succ fuel ih =>
    intro listed T H a w hsz hcl hf hrun hR
    refine ⟨fun hr => ?_, fun i hi => ?_⟩
    · rw [hready listed hsz hr] at hrun
      obtain ⟨rfl, rfl⟩ := hrun
      exact hQ _ _ hR
    · obtain ⟨hil, hil2⟩ := hleft listed i hi
      have hin := List.mem_range.1 (List.mem_filter.1 hil).1
      obtain ⟨l, r, e1, e2, hlt, _⟩ := left_set hil
      rw [e1, List.map_append, List.map_cons] at hrun
      have hfront := Run.front (y := (pr i).1) (t := (pr i).2) (l.map pr) (r.map pr) (fun p hp => by
        obtain ⟨k, hk, rfl⟩ := List.mem_map.1 hp
        refine hap k i (hlt k hk) hin ?_
        cases hb : ((clA ops.toList []).getD i []).contains k with
        | false => rfl
        | true =>
          exfalso
          have hdir : ∀ d, d ∈ direct (pr i).1 → listed.getD d false = true := fun d hd => by
            obtain ⟨e, he, rfl⟩ := List.mem_map.1 hd
            obtain ⟨he1, he2⟩ := List.mem_filter.1 he
            exact hil2 e he1 he2
          have hmem : k ∈ (clA ops.toList []).getD i [] := by simpa using hb
          rw [List.getD_eq_getElem?_getD] at hmem
          cases hcc : (clA ops.toList [])[i]? with
          | none => rw [hcc] at hmem; cases hmem
          | some c =>
            rw [hcc] at hmem
            have hl1 := clA_listed hcl ops.toList [] (fun k => by simp) (fun j y c _ hc => by simp at hc) i _ c (hpr i hin) hcc hdir k hmem
            have hkl : k ∈ left ops.size listed := by rw [e1]; simp [hk]
            have hk2 := (List.mem_filter.1 hkl).2
            have hks : k < listed.size := by have := List.mem_range.1 (List.mem_filter.1 hkl).1; omega
            rw [Array.getD_eq_getD_getElem?, Array.getElem?_eq_getElem hks] at hl1 hk2
            simp at hl1 hk2
            rw [hl1] at hk2; cases hk2) hrun
      have hcl' : Closed' ops (listed.setIfInBounds i true) := by
        intro j y hj hlj d hd
        by_cases hji : j = i
        · subst hji
          have hy : y = (pr j).1 := by have := hpr j hin; rw [hj] at this; exact Option.some.inj this
          subst hy
          obtain ⟨e, he, rfl⟩ := List.mem_map.1 hd
          obtain ⟨he1, he2⟩ := List.mem_filter.1 he
          exact getD_set_true (hil2 e he1 he2)
        · rw [getD_set_ne false (Ne.symm hji)] at hlj
          exact getD_set_true (hcl j y hj hlj d hd)
      obtain ⟨hsee, hnext⟩ := hfront
      unfold wpOp
      rw [hpr i hin]
      have hst := op_sound (Q := Q) (K := wpAny P .any ops Q fuel (listed.setIfInBounds i true)) hT hG hB (fun t => restT_or T _ t) hsee.eff (hpre i hin) hR (fun o => restr_or H _ o) (fun k hk => by
        unfold restr
        rw [if_pos (by simpa using hfoot i hin k hk)]) (hd i hin) (fun a' w' hR' => by
        refine ih _ _ _ a' w' (by simpa using hsz) hcl' ?_ ?_ hR'
        · rw [e2]; rw [e1] at hf; simp only [List.length_append, List.length_cons] at hf ⊢; omega
        · rw [e2, List.map_append]; exact hnext)
      have hst := hst.1
      simp only
      split
      · rename_i hw; rw [if_pos hw] at hst; exact .inl hst
      · rename_i hw; rw [if_neg hw] at hst; exact hst
end
end A
end Go.Proofs.Ythgnjimpakpkjaa
namespace Go.Proofs.Ythgnjimpakpkjaa
namespace A
section
variable {P : Program} {B : Base} {tb : Tab} {G : Specs} {wk : List Nat} {wrap : Bool} {ops : Array Oper} {nt : Nat} {kp : Keep} {T : Nat → AV} {H : Heap} {a : Act} {w w' : World}

/-- only the heap counts -/
theorem Rel.heap (h : Rel P B kp nt T H a w) (hh : w'.heap = w.heap) (hio : Io w w') : Rel P B kp nt T H a w' := by
  obtain ⟨pl, Z, h, hkp⟩ := h
  have hz : ∀ b, Z b → Z b ∧ w'.heap[b]? = w.heap[b]? := fun b hb => ⟨hb, by rw [hh]⟩
  exact ⟨pl, Z, ⟨h.gr.later (by rw [hh]; exact Nat.le_refl _) hio (fun b _ => by rw [hh]) (fun _ h => h) (fun _ h => .inl h) (fun b hb => by rw [hh]; exact h.gr.z b hb),
    fun t => AVr.mono hz _ _ _ (fun _ _ => rfl) (h.av t), h.kn, h.df, h.nt⟩, hkp.p, fun b hb => by rw [hh]; exact hkp.z b hb⟩

theorem Rel.clear (h : Rel P B kp nt T H a w) : Rel P B kp nt (clearT ops T) H a w := by
  obtain ⟨pl, Z, hR, hkp⟩ := h
  refine ⟨pl, Z, ⟨hR.gr, fun t => ?_, fun t o ho => ?_, hR.df, hR.nt⟩, hkp⟩
  · unfold clearT
    split
    · dsimp only
      split
      · trivial
      · exact hR.av t
    · exact hR.av t
  · unfold clearT at ho
    split at ho
    · dsimp only at ho
      split at ho
      · simp [AV.refs] at ho
      · exact hR.kn t o ho
    · exact hR.kn t o ho

theorem Run.foot : ∀ {l : List (Oper × Seen)} {T : Nat → AV} {H : Heap} {T' : Nat → AV} {H' : Heap}, Run tb G wrap wk ops l T H T' H' → ∀ p, p ∈ l → ∃ T H, footOf ops p.1 T H = p.2.foot
  | [], _, _, _, _, _, p, hp => by cases hp
  | (o, s) :: r, T, H, T', H', h, p, hp => by
    rcases List.mem_cons.1 hp with rfl | hp
    · exact ⟨_, _, h.1.foot⟩
    · exact Run.foot h.2 p hp

theorem left_all (n : Nat) : left n (Array.replicate n false) = List.range n := by
  unfold left
  refine List.filter_eq_self.2 fun i hi => ?_
  have hi := List.mem_range.1 hi
  simp [Array.getD_eq_getD_getElem?, hi]

/-- a region that draws its order -/
theorem regD_sound (hT : TOK P tb) (hG : ∀ f sp, G.lookup f = some sp → Sat P f sp) (hB : B.ro = roOf wk) (hm : P.follows .mixedOrders = true) {Q : Exit → Act → World → Prop} {K : AState → Prop} {s : AState} {id : Nat}
    (hK : ∀ s a w, K s → Rel P B kp nt s.T s.H a w → Q .normal a w) (hd : ∀ o, o ∈ ops.toList → ∀ d, o.dst = some d → d < nt) (h : regD tb G wrap wk ops s K) (hR : Rel P B kp nt s.T s.H a w) : (Code.region id ops true).wp P Q a w := by
  refine wp_region_any hm ?_
  have hR := hR.heap (w' := { w with drawn := w.drawn + 1 }) rfl ⟨rfl, rfl⟩
  obtain ⟨tab, T', H', hlen, hrun, hfin, hpre⟩ := drawA_run _ _ _ _ h
  rw [List.nil_append] at hfin
  split at hfin
  case isFalse => exact hfin.elim
  rename_i hok
  have hsz : tab.length = ops.size := by rw [hlen]; simp
  by_cases h0 : ops.size = 0
  · have hemp : ops = #[] := Array.eq_empty_of_size_eq_zero h0
    subst hemp
    obtain ⟨rfl, rfl⟩ := hrun
    exact wpAny_done (by simp [Region.ready]) (hK _ _ _ hfin hR.clear) _
  have h0 : 0 < ops.size := Nat.pos_of_ne_zero h0
  let pr : Nat → Oper × Seen := fun i => (ops.getD i ops[0], tab.getD i tab[0])
  have hpr : ∀ i, i < ops.size → ops[i]? = some (pr i).1 := fun i hi => by
    show ops[i]? = some (ops.getD i ops[0])
    rw [Array.getD_eq_getD_getElem?, Array.getElem?_eq_getElem hi]; rfl
  have hts : ∀ i, i < ops.size → tab[i]? = some (pr i).2 := fun i hi => by
    show tab[i]? = some (tab.getD i tab[0])
    rw [List.getD_eq_getElem?_getD, List.getElem?_eq_getElem (by omega)]; rfl
  have hzip : (List.range ops.size).map pr = ops.toList.zip tab := by
    refine List.ext_getElem? fun i => ?_
    by_cases hi : i < ops.size
    · rw [List.getElem?_map, List.getElem?_range hi, List.getElem?_zip_eq_some.2 ⟨by rw [Array.getElem?_toList]; exact hpr i hi, hts i hi⟩]; rfl
    · rw [List.getElem?_eq_none (by simp; omega), List.getElem?_eq_none (by simp; omega)]
  have hmem : ∀ i, i < ops.size → pr i ∈ ops.toList.zip tab := fun i hi => by
    rw [← hzip]; exact List.mem_map.2 ⟨i, List.mem_range.2 hi, rfl⟩
  have hfp : ∀ i, i < ops.size → (tab.map fun s => (s.foot, s.e.wr.map (·.1)))[i]? = some ((pr i).2.foot, (pr i).2.e.wr.map (·.1)) := fun i hi => by
    rw [List.getElem?_map, hts i hi]; rfl
  have hok' : ∀ j, j < ops.size → (∀ e, e ∈ (pr j).1.after.toList → Region.binds .any e = true → e.on < j) ∧ ∀ i, i < j → pairOK ops (clA ops.toList []) (tab.map fun s => (s.foot, s.e.wr.map (·.1))) i j = true := fun j hj => by
    have := List.all_eq_true.1 hok j (List.mem_range.2 hj)
    simp only [hpr j hj, Bool.and_eq_true, List.all_eq_true, List.mem_range] at this
    refine ⟨fun e he hb => ?_, this.2⟩
    have h1 := this.1
    rw [← Array.all_toList, List.all_eq_true] at h1
    have h2 := h1 e he
    rw [hb] at h2
    simpa using h2
  refine any_sound hT hG hB hpr (fun i hi => hd _ (by
      have := hpr i hi
      rw [← Array.getElem?_toList] at this
      exact List.mem_of_getElem? this)) (fun i hi => hpre _ (List.mem_of_getElem? (hts i hi))) (fun i hi k hk => ?_) (fun i j hij hj hb => ?_) (fun j hj => (hok' j hj).1)
    (T' := T') (H' := H') (fun a w hR => hK _ _ _ hfin hR.clear) ops.size _ s.T s.H a _ (by simp) (fun j y _ hl => by
      simp only [Array.getD_eq_getD_getElem?, Array.getElem?_replicate] at hl
      split at hl <;> simp at hl) (by rw [left_all]; simp) (by rw [left_all, hzip]; exact hrun) hR
  · obtain ⟨T0, H0, e⟩ := hrun.foot _ (hmem i hi)
    rw [← e]
    refine List.mem_append_right _ (List.mem_map.2 ⟨k, List.mem_range.2 hk, rfl⟩)
  · exact pair_apart ((hok' j hj).2 i hij) (hpr i (by omega)) (hpr j hj) (hfp i (by omega)) (hfp j hj) hb (hrun.seen _ (hmem i (by omega))) (hrun.seen _ (hmem j hj))
end
end A
end Go.Proofs.Ythgnjimpakpkjaa
namespace Go.Proofs.Ythgnjimpakpkjaa
namespace A
section
variable {P : Program} {B : Base} {pl : Nat → Place} {Z : Nat → Prop} {w : World} {H : Heap}

theorem AV.isL_eq : ∀ v : AV, v.isL = v.isList
  | .cons _ b => AV.isL_eq b
  | .undef | .unit | .val _ _ | .valc _ _ | .nils | .rop _ _ | .nilp | .nilf | .nili | .fnp1 _ _ _ _ | .fnp2 _ _ _ _ _ | .vec _ | .view _ _ _ _ _ | .ref _ _ | .refi _ _ _ _ _
  | .fn _ _ | .iface _ _ | .whn _ _ _ | .st _ | .tup _ | .own _ _ => rfl
theorem openA_noOwn : ∀ (v : AV) (n : Nat), v.noOwn = true → openA n v = (v, [], n)
  | .cons a b, n, h => by
    simp only [AV.noOwn, Bool.and_eq_true] at h
    simp only [openA, openA_noOwn a n h.1, openA_noOwn b n h.2, List.append_nil]
  | .st l, n, h => by simp only [openA, openA_noOwn l n h]
  | .tup l, n, h => by simp only [openA, openA_noOwn l n h]
  | .own _ _, _, h => by cases h
  | .undef, _, _ | .unit, _, _ | .val _ _, _, _ | .valc _ _, _, _ | .nils, _, _ | .rop _ _, _, _ | .nilp, _, _ | .nilf, _, _ | .nili, _, _ | .fnp1 _ _ _ _, _, _ | .fnp2 _ _ _ _ _, _, _ | .vec _, _, _ | .view _ _ _ _ _, _, _ | .ref _ _, _, _
  | .refi _ _ _ _ _, _, _ | .fn _ _, _, _ | .iface _ _, _, _ | .whn _ _ _, _, _ => rfl
/-- a list is opened part by part -/
theorem openA_list : ∀ (v : AV) (n : Nat), v.isL = true → openA n v = (.ofL (openList n v.toL).1, (openList n v.toL).2.1, (openList n v.toL).2.2)
  | .unit, n, _ => rfl
  | .cons a b, n, h => by
    have := openA_list b (openA n a).2.2 h
    simp only [openA, AV.toL, openList, this]
    rfl
theorem openList_n (l : List AV) : ∀ n, (openList n l).2.2 = n + (openList n l).2.1.length := by
  induction l with
  | nil => intro n; rfl
  | cons v l ih =>
    intro n
    simp only [openList, ih, (openA_owned v n).2, List.length_append, Nat.add_assoc]
theorem openList_owned (l : List AV) : ∀ n, Owned n (openList n l).2.1 := by
  induction l with
  | nil => intro n; exact Owned.nil n
  | cons v l ih =>
    intro n
    simp only [openList]
    refine (openA_owned v n).1.append ?_
    rw [← (openA_owned v n).2]
    exact ih _
theorem openList_length (l : List AV) : ∀ n, (openList n l).1.length = l.length := by
  induction l with
  | nil => intro n; rfl
  | cons v l ih => intro n; simp [openList, ih]

/-- how the vectors of a fit lie, and what is borne -/
def Fitted (pl : Nat → Place) (Z : Nat → Prop) (H : Heap) (r : FitR) (ow : Nat → List (Nat × Obj)) (bears : Nat → (Nat → Place) → (Nat → Prop) → Prop) (refs : List Nat) : Prop :=
  (∀ n, (ow n).length = r.src.length) ∧ ∃ ps : List Place, ps.length = r.src.length ∧
    (∀ k p, ps[k]? = some p → (∃ o, r.src[k]? = some (some o) ∧ p = pl o ∧ ∃ t, ∃ l : List (El t), H o = .live (.val (.sl t) l) ∧ ∀ n, (ow n)[k]? = some (n + k, .live (.val (.sl t) l))) ∨
      (r.src[k]? = some none ∧ ∃ a, p = .slc a 0 0 ∧ ∃ t, ∀ n, (ow n)[k]? = some (n + k, .live (.val (.sl t) ([] : List (El t)))))) ∧
    ∀ n pl' Z', (∀ o, o ∈ refs → pl' o = pl o) → (∀ b, Zup pl Z H r.pu b → Z' b) → (∀ k p, ps[k]? = some p → pl' (n + k) = p) → bears n pl' Z'

theorem Fitted.imp {r : FitR} {ow : Nat → List (Nat × Obj)} {b1 b2 : Nat → (Nat → Place) → (Nat → Prop) → Prop} {refs : List Nat} (h : Fitted pl Z H r ow b1 refs) (hb : ∀ n pl' Z', b1 n pl' Z' → b2 n pl' Z') : Fitted pl Z H r ow b2 refs :=
  let ⟨h1, ps, h2, h3, h4⟩ := h
  ⟨h1, ps, h2, h3, fun n pl' Z' a b c => hb _ _ _ (h4 n pl' Z' a b c)⟩
theorem Fitted.nil {ow : Nat → List (Nat × Obj)} {b : Nat → (Nat → Place) → (Nat → Prop) → Prop} {refs : List Nat} (ho : ∀ n, ow n = []) (hb : ∀ n pl' Z', (∀ o, o ∈ refs → pl' o = pl o) → (∀ b, Z b → Z' b) → b n pl' Z') : Fitted pl Z H .nil ow b refs :=
  ⟨fun n => by rw [ho]; rfl, [], rfl, fun k p h => by simp at h, fun n pl' Z' h1 h2 _ => hb n pl' Z' h1 (fun b hb => h2 b (.inl hb))⟩
theorem Fitted.app {r1 r2 : FitR} {ow1 ow2 : Nat → List (Nat × Obj)} {b1 b2 : Nat → (Nat → Place) → (Nat → Prop) → Prop} {refs1 refs2 : List Nat} (h1 : Fitted pl Z H r1 ow1 b1 refs1) (h2 : Fitted pl Z H r2 ow2 b2 refs2) :
    Fitted pl Z H (r1.app r2) (fun n => ow1 n ++ ow2 (n + (ow1 n).length)) (fun n pl' Z' => b1 n pl' Z' ∧ b2 (n + (ow1 n).length) pl' Z') (refs1 ++ refs2) := by
  obtain ⟨l1, ps1, m1, c1, f1⟩ := h1
  obtain ⟨l2, ps2, m2, c2, f2⟩ := h2
  refine ⟨fun n => by simp [FitR.app, l1, l2], ps1 ++ ps2, by simp [FitR.app, m1, m2], fun k p hp => ?_, fun n pl' Z' hr hz hp => ⟨f1 n pl' Z' (fun o ho => hr o (List.mem_append_left _ ho)) (fun b hb => hz b (hb.sub fun o ho => List.mem_append_left _ ho)) (fun k p hk => hp k p ?_), ?_⟩⟩
  · by_cases hk : k < ps1.length
    · rw [List.getElem?_append_left hk] at hp
      rcases c1 k p hp with ⟨o, e1, e2, t, l, e3, e4⟩ | ⟨e1, a, e2, t, e3⟩
      · exact .inl ⟨o, by show (r1.src ++ r2.src)[k]? = _; rw [List.getElem?_append_left (by omega)]; exact e1, e2, t, l, e3, fun n => by rw [List.getElem?_append_left (by rw [l1]; omega)]; exact e4 n⟩
      · exact .inr ⟨by show (r1.src ++ r2.src)[k]? = _; rw [List.getElem?_append_left (by omega)]; exact e1, a, e2, t, fun n => by rw [List.getElem?_append_left (by rw [l1]; omega)]; exact e3 n⟩
    · rw [List.getElem?_append_right (by omega)] at hp
      rcases c2 _ p hp with ⟨o, e1, e2, t, l, e3, e4⟩ | ⟨e1, a, e2, t, e3⟩
      · refine .inl ⟨o, by show (r1.src ++ r2.src)[k]? = _; rw [List.getElem?_append_right (by omega), ← m1]; exact e1, e2, t, l, e3, fun n => ?_⟩
        rw [List.getElem?_append_right (by rw [l1]; omega), l1, ← m1, e4]
        exact congrArg some (Prod.ext (by show n + ps1.length + (k - ps1.length) = n + k; omega) rfl)
      · refine .inr ⟨by show (r1.src ++ r2.src)[k]? = _; rw [List.getElem?_append_right (by omega), ← m1]; exact e1, a, e2, t, fun n => ?_⟩
        rw [List.getElem?_append_right (by rw [l1]; omega), l1, ← m1, e3]
        exact congrArg some (Prod.ext (by show n + ps1.length + (k - ps1.length) = n + k; omega) rfl)
  · have hlt : k < ps1.length := by
      by_cases h : k < ps1.length
      · exact h
      · rw [List.getElem?_eq_none (by omega)] at hk; cases hk
    rw [List.getElem?_append_left hlt]; exact hk
  · refine f2 _ pl' Z' (fun o ho => hr o (List.mem_append_right _ ho)) (fun b hb => hz b (hb.sub fun o ho => List.mem_append_right _ ho)) (fun k p hk => ?_)
    have := hp (ps1.length + k) p (by rw [List.getElem?_append_right (by omega), Nat.add_sub_cancel_left]; exact hk)
    rw [l1, ← m1, Nat.add_assoc]; exact this

theorem AVs.leaves {v : AV} {cs : List Value} (h : AVs P B pl Z w v cs) : AVl P B pl Z w v.leaves cs := by
  cases v <;> try exact AVl.one.2 h
  rename_i l
  have := h.2
  rw [← AV.ofL_toL l h.1] at this
  exact (AVs.ofL _ _).1 this
theorem refs_toL' : ∀ (l : AV), l.isL = true → l.refs = refsL l.toL
  | .unit, _ => rfl
  | .cons a b, h => by simp only [AV.refs, AV.toL, refsL_cons, refs_toL' b h]
theorem openList_noOwn : ∀ (l : List AV) (n : Nat), (∀ a, a ∈ l → a.noOwn = true) → openList n l = (l, [], n)
  | [], _, _ => rfl
  | a :: l, n, h => by
    simp only [openList, openA_noOwn a n (h a (by simp)), openList_noOwn l n (fun b hb => h b (by simp [hb])), List.append_nil]
theorem noOwn_toL : ∀ (l : AV), l.noOwn = true → ∀ a, a ∈ l.toL → a.noOwn = true
  | .cons a b, h, x, hx => by
    simp only [AV.noOwn, Bool.and_eq_true] at h
    simp only [AV.toL, List.mem_cons] at hx
    rcases hx with rfl | hx
    · exact h.1
    · exact noOwn_toL b h.2 x hx
  | .undef, _, _, h | .unit, _, _, h | .val _ _, _, _, h | .valc _ _, _, _, h | .nils, _, _, h | .rop _ _, _, _, h | .nilp, _, _, h | .nilf, _, _, h | .nili, _, _, h | .fnp1 _ _ _ _, _, _, h | .fnp2 _ _ _ _ _, _, _, h | .vec _, _, _, h | .view _ _ _ _ _, _, _, h
  | .ref _ _, _, _, h | .refi _ _ _ _ _, _, _, h | .fn _ _, _, _, h | .iface _ _, _, _, h | .whn _ _ _, _, _, h | .st _, _, _, h | .tup _, _, _, h | .own _ _, _, _, h => by simp [AV.toL] at h

theorem listOf_vec {t : Ty} {o : Nat} {m : List (El t)} (h : listOf H t (.vec o) = some m) : H o = .live (.val (.sl t) m) := by
  have h : (match H o with | .live (.val (.sl a) l) => castL (a := a) t l | _ => none) = some m := h
  split at h
  · rename_i b k hk
    obtain ⟨e, rfl⟩ := castL_eq h
    cases e
    exact hk
  · cases h

/-- a value that fits is borne as the annotation says -/
theorem fit_sound (hg : ∀ o c, H o = .live c → OB P B pl Z w (pl o) c) : ∀ (f : Nat),
    (∀ (v a : AV) (r : FitR) (cs : List Value), fitA H f v a = some r → (∀ p, p ∈ r.eqs → p) → AVs P B pl Z w v cs →
      Fitted pl Z H r (fun n => (openA n a).2.1) (fun n pl' Z' => AVs P B pl' Z' w (openA n a).1 cs ∧ (openA n a).1.isSt = v.isSt) a.refs) ∧
    (∀ (vs avl : List AV) (r : FitR) (cs : List Value), fitL H f vs avl = some r → (∀ p, p ∈ r.eqs → p) → AVl P B pl Z w vs cs →
      Fitted pl Z H r (fun n => (openList n avl).2.1) (fun n pl' Z' => AVl P B pl' Z' w (openList n avl).1 cs) (refsL avl)) := by
  intro f
  induction f with
  | zero =>
    refine ⟨fun v a r cs h => by simp [fitA] at h, fun vs avl r cs h he hl => ?_⟩
    unfold fitL at h
    split at h
    · cases h; exact Fitted.nil (fun _ => rfl) fun _ _ _ _ _ => hl
    · cases h
    · rename_i e; cases e
    · cases h
  | succ f ih =>
    obtain ⟨ihA, ihL⟩ := ih
    constructor
    · intro v a r cs h he hv
      unfold fitA at h
      split at h
      · rename_i t x
        split at h
        · rename_i y hy
          cases h
          obtain ⟨g1, g2⟩ := asTy_sound hg hy hv
          have e : y = x := he _ (by simp)
          subst e
          exact ⟨fun n => rfl, [], rfl, fun k p h => by simp at h, fun n pl' Z' h1 h2 _ => ⟨g1.zmono h2, g2⟩⟩
        · cases h
      · rename_i t l
        split at h
        · rename_i o
          obtain ⟨m, hm, e⟩ := opt_map h
          subst e
          have e : m = l := he _ (by simp)
          subst e
          obtain ⟨a, n, cap, h1, h2⟩ := hv
          refine ⟨fun n => rfl, [pl o], rfl, fun k p hp => ?_, fun n' pl' Z' _ _ h5 => ⟨⟨a, n, cap, ?_, h2⟩, rfl⟩⟩
          · cases k with
            | zero =>
              simp only [List.getElem?_cons_zero, Option.some.injEq] at hp
              exact .inl ⟨o, rfl, hp.symm, t, m, listOf_vec hm, fun n => rfl⟩
            | succ k => simp at hp
          · have := h5 0 (pl o) rfl
            rw [Nat.add_zero] at this
            rw [this]; exact h1
        · cases h
          have e : [] = l := he _ (by simp)
          subst e
          obtain ⟨a, h2⟩ := hv
          refine ⟨fun n => rfl, [.slc a 0 0], rfl, fun k p hp => ?_, fun n' pl' Z' _ _ h5 => ⟨⟨a, 0, 0, ?_, h2⟩, rfl⟩⟩
          · cases k with
            | zero =>
              simp only [List.getElem?_cons_zero, Option.some.injEq] at hp
              exact .inr ⟨rfl, a, hp.symm, t, fun n => rfl⟩
            | succ k => simp at hp
          · have := h5 0 _ rfl
            rw [Nat.add_zero] at this
            exact this
        · cases h
      · rename_i l
        split at h
        · rename_i hc
          simp only [Bool.and_eq_true] at hc
          have h3 := ihL _ _ _ cs h he hv.leaves
          have e1 : ∀ n, openA n (.st l) = (.st (.ofL (openList n l.toL).1), (openList n l.toL).2.1, (openList n l.toL).2.2) := fun n => by
            have := openA_list l n hc.2
            simp only [openA]; rw [this]
          have e2 : (AV.st l).refs = refsL l.toL := refs_toL' l hc.2
          rw [e2]
          simp only [e1]
          exact h3.imp fun n pl' Z' hb => ⟨⟨AV.isList_ofL _, (AVs.ofL _ _).2 hb⟩, hc.1.symm⟩
        · cases h
      · rename_i o off
        split at h
        · rename_i o' off'
          split at h
          · rename_i hc
            simp only [Bool.and_eq_true, decide_eq_true_eq] at hc
            obtain ⟨rfl, rfl⟩ := hc
            cases h
            obtain ⟨b, h1, h2⟩ := hv
            exact Fitted.nil (fun _ => rfl) fun n pl' Z' hr _ => ⟨⟨b, (hr o (by simp [AV.refs])).trans h1, h2⟩, rfl⟩
          · cases h
        · cases h
      · split at h
        · cases h; exact Fitted.nil (fun _ => rfl) fun n pl' Z' _ _ => ⟨hv, rfl⟩
        · cases h
      · split at h
        · cases h; exact Fitted.nil (fun _ => rfl) fun n pl' Z' _ _ => ⟨hv, rfl⟩
        · cases h
      · split at h
        · cases h; exact Fitted.nil (fun _ => rfl) fun n pl' Z' _ _ => ⟨hv, rfl⟩
        · cases h
      · rename_i g c
        split at h
        · rename_i g' c'
          split at h
          · rename_i hc
            simp only [Bool.and_eq_true, decide_eq_true_eq] at hc
            obtain ⟨⟨⟨rfl, hl⟩, hl'⟩, hn⟩ := hc
            obtain ⟨us, h1, h2, h3⟩ := hv
            rw [← AV.ofL_toL c' h2] at h3
            have h4 := ihL _ _ _ us h he ((AVs.ofL _ _).1 h3)
            have e0 : ∀ n, openList n c.toL = (c.toL, [], n) := fun n => openList_noOwn _ n (noOwn_toL c hn)
            have e1 : ∀ n, openA n (.fn g c) = (.fn g c, [], n) := fun n => rfl
            have e2 : (AV.fn g c).refs = refsL c.toL := refs_toL' c hl
            rw [e2]
            simp only [e1]
            simp only [e0] at h4
            refine h4.imp fun n pl' Z' hb => ⟨⟨us, h1, by rw [← AV.isL_eq]; exact hl, ?_⟩, rfl⟩
            rw [← AV.ofL_toL c (by rw [← AV.isL_eq]; exact hl)]
            exact (AVs.ofL _ _).2 hb
          · cases h
        · cases h
      · cases h
    · intro vs avl r cs h he hl
      unfold fitL at h
      split at h
      · cases h; exact Fitted.nil (fun _ => rfl) fun _ _ _ _ _ => hl
      · cases h
      · rename_i f' v vs' a as' e
        cases e
        split at h
        · obtain ⟨x, hx, h⟩ := Option.bind_eq_some_iff.1 h
          obtain ⟨y, hy, e⟩ := opt_map h
          subst e
          obtain ⟨u, c2, e1, h1, h2⟩ := hl
          have f1 := ihA _ _ _ u hx (fun p hp => he p (List.mem_append_left _ hp)) h1
          have f2 := ihL _ _ _ c2 hy (fun p hp => he p (List.mem_append_right _ hp)) h2
          have f3 := f1.app f2
          rw [refsL_cons]
          have e2 : (fun n => (openA n a).2.1 ++ (openList (n + (openA n a).2.1.length) as').2.1) = fun n => (openList n (a :: as')).2.1 := by
            funext n; simp only [openList, (openA_owned a n).2]
          rw [← e2]
          refine f3.imp fun n pl' Z' hb => ?_
          simp only [openList, (openA_owned a n).2]
          exact ⟨u, c2, e1, hb.1.1, hb.2⟩
        · split at h
          · rename_i hs
            obtain ⟨u, c2, e1, h1, h2⟩ := hl
            exact ihL _ _ _ cs h he ((AVl.append _ _ _).2 ⟨u, c2, e1, explode1_sound hs h1, h2⟩)
          · cases h
      · cases h

/-- values and their cells -/
def AVz (P : Program) (B : Base) (pl : Nat → Place) (Z : Nat → Prop) (w : World) : List AV → List (List Value) → Prop
  | [], cs => cs = []
  | a :: l, cs => ∃ u v, cs = u :: v ∧ AVs P B pl Z w a u ∧ AVz P B pl Z w l v
theorem fitList_sound (hg : ∀ o c, H o = .live c → OB P B pl Z w (pl o) c) : ∀ (vs avl : List AV) (r : FitR) (cs : List (List Value)), fitList H vs avl = some r → (∀ p, p ∈ r.eqs → p) → AVz P B pl Z w vs cs →
    Fitted pl Z H r (fun n => (openList n avl).2.1) (fun n pl' Z' => AVz P B pl' Z' w (openList n avl).1 cs ∧ (openList n avl).1.map AV.isSt = vs.map AV.isSt) (refsL avl)
  | [], [], r, cs, h, he, hl => by
    cases h
    exact Fitted.nil (fun _ => rfl) fun _ _ _ _ _ => ⟨hl, rfl⟩
  | v :: vs, a :: avl, r, cs, h, he, hl => by
    unfold fitList at h
    obtain ⟨x, hx, h⟩ := Option.bind_eq_some_iff.1 h
    obtain ⟨y, hy, e⟩ := opt_map h
    subst e
    obtain ⟨u, c2, e1, h1, h2⟩ := hl
    have f1 := (fit_sound hg FUEL).1 _ _ _ u hx (fun p hp => he p (List.mem_append_left _ hp)) h1
    have f2 := fitList_sound hg vs avl y c2 hy (fun p hp => he p (List.mem_append_right _ hp)) h2
    have f3 := f1.app f2
    rw [refsL_cons]
    have e2 : (fun n => (openA n a).2.1 ++ (openList (n + (openA n a).2.1.length) avl).2.1) = fun n => (openList n (a :: avl)).2.1 := by
      funext n; simp only [openList, (openA_owned a n).2]
    rw [← e2]
    refine f3.imp fun n pl' Z' hb => ?_
    simp only [openList, (openA_owned a n).2]
    refine ⟨⟨u, c2, e1, hb.1.1, hb.2.1⟩, ?_⟩
    simp only [List.map_cons]
    rw [hb.1.2]
    exact congrArg _ hb.2.2
end
end A
end Go.Proofs.Ythgnjimpakpkjaa
namespace Go.Proofs.Ythgnjimpakpkjaa
namespace A
section
variable {P : Program} {B : Base} {pl : Nat → Place} {Z : Nat → Prop} {w : World} {H : Heap} {a : Act} {nt : Nat} {kp : Keep} {wk : List Nat}

theorem setH_free : ∀ (W : List (Nat × Obj)) (H : Heap) (o : Nat), (∀ p, p ∈ W → isFree p.2 = false) → isFree (H o) = false → isFree (setH H W o) = false
  | [], _, _, _, h => h
  | (i, c) :: W, H, o, hW, h => by
    refine setH_free W (put H i c) o (fun p hp => hW p (by simp [hp])) ?_
    by_cases e : o = i
    · subst e; rw [put_self]; exact hW (o, c) (by simp)
    · rw [put_other _ _ e]; exact h

theorem AVz.get : ∀ {l : List AV} {cs : List (List Value)}, AVz P B pl Z w l cs → ∀ (i : Nat) (v : AV) (c : List Value), l[i]? = some v → cs[i]? = some c → AVs P B pl Z w v c
  | [], cs, h, i, v, c, hv, _ => by simp at hv
  | a :: l, cs, ⟨u, r, e, h1, h2⟩, i, v, c, hv, hc => by
    subst e
    cases i with
    | zero => simp at hv hc; subst hv; subst hc; exact h1
    | succ i => exact AVz.get h2 i v c (by simpa using hv) (by simpa using hc)
theorem AVz.len : ∀ {l : List AV} {cs : List (List Value)}, AVz P B pl Z w l cs → cs.length = l.length
  | [], cs, h => by rw [show cs = [] from h]; rfl
  | a :: l, cs, ⟨u, r, e, h1, h2⟩ => by subst e; simp [AVz.len h2]
theorem AVz.of : ∀ {l : List AV} {R : Nat → List Value → Prop}, (∀ i v, l[i]? = some v → ∃ c, AVs P B pl Z w v c ∧ R i c) → ∃ cs, AVz P B pl Z w l cs ∧ ∀ i c, cs[i]? = some c → R i c
  | [], R, h => ⟨[], rfl, fun i c hc => by simp at hc⟩
  | a :: l, R, h => by
    obtain ⟨u, h1, h2⟩ := h 0 a rfl
    obtain ⟨r, h3, h4⟩ := AVz.of (l := l) (R := fun i c => R (i + 1) c) (fun i v hv => h (i + 1) v (by simpa using hv))
    refine ⟨u :: r, ⟨u, r, rfl, h1, h3⟩, fun i c hc => ?_⟩
    cases i with
    | zero => simp at hc; subst hc; exact h2
    | succ i => exact h4 i c (by simpa using hc)

theorem lookup_zip {β : Type} : ∀ (l : List Nat) (m : List β) (t : Nat) (v : β), (l.zip m).lookup t = some v → ∃ i : Nat, l[i]? = some t ∧ m[i]? = some v
  | [], m, t, v, h => by simp at h
  | x :: l, [], t, v, h => by simp at h
  | x :: l, y :: m, t, v, h => by
    simp only [List.zip_cons_cons, List.lookup_cons] at h
    split at h
    · rename_i e
      cases h
      exact ⟨0, by simp at e; simp [e], rfl⟩
    · obtain ⟨i, h1, h2⟩ := lookup_zip l m t v h
      exact ⟨i + 1, by simpa using h1, by simpa using h2⟩
theorem lookup_zip_none {β : Type} : ∀ (l : List Nat) (m : List β) (t : Nat), (l.zip m).lookup t = none → l.length ≤ m.length → t ∉ l
  | [], m, t, h, _ => by simp
  | x :: l, [], t, h, hl => by simp at hl
  | x :: l, y :: m, t, h, hl => by
    simp only [List.zip_cons_cons, List.lookup_cons] at h
    split at h
    · cases h
    · rename_i e
      have := lookup_zip_none l m t h (by simpa using hl)
      intro ht
      rcases List.mem_cons.1 ht with rfl | ht
      · simp at e
      · exact this ht

theorem openA_refs' : ∀ (v : AV) (n o : Nat), o ∈ (openA n v).1.refs → o ∈ v.refs ∨ o ∈ (openA n v).2.1.map (·.1)
  | .own t l, n, o, h => by simp [openA, AV.refs] at h; subst h; exact .inr (by simp [openA])
  | .cons a b, n, o, h => by
    simp only [openA, AV.refs, List.mem_append] at h
    simp only [openA, AV.refs, List.mem_append, List.map_append]
    rcases h with h | h
    · rcases openA_refs' a _ o h with h | h
      · exact .inl (.inl h)
      · exact .inr (.inl h)
    · rcases openA_refs' b _ o h with h | h
      · exact .inl (.inr h)
      · exact .inr (.inr h)
  | .st l, n, o, h => openA_refs' l n o h
  | .tup l, n, o, h => openA_refs' l n o h
  | .undef, n, o, h | .unit, n, o, h | .val _ _, n, o, h | .valc _ _, n, o, h | .nils, n, o, h | .rop _ _, n, o, h | .nilp, n, o, h | .nilf, n, o, h | .nili, n, o, h | .fnp1 _ _ _ _, n, o, h | .fnp2 _ _ _ _ _, n, o, h | .vec _, n, o, h | .view _ _ _ _ _, n, o, h
  | .ref _ _, n, o, h | .refi _ _ _ _ _, n, o, h | .fn _ _, n, o, h | .iface _ _, n, o, h | .whn _ _ _, n, o, h => .inl h
theorem openList_refs : ∀ (l : List AV) (n : Nat) (v : AV) (o : Nat), v ∈ (openList n l).1 → o ∈ v.refs → (∃ a, a ∈ l ∧ o ∈ a.refs) ∨ o ∈ (openList n l).2.1.map (·.1)
  | [], n, v, o, h, _ => by simp [openList] at h
  | a :: l, n, v, o, h, ho => by
    simp only [openList, List.mem_cons] at h
    simp only [openList, List.map_append, List.mem_append]
    rcases h with rfl | h
    · rcases openA_refs' a n o ho with h | h
      · exact .inl ⟨a, by simp, h⟩
      · exact .inr (.inl h)
    · rcases openList_refs l _ v o h ho with ⟨b, hb, h⟩ | h
      · exact .inl ⟨b, by simp [hb], h⟩
      · exact .inr (.inr h)

theorem src_inj : ∀ (l : List (Option Nat)) (i j x : Nat), (l.filterMap id).Nodup → l[i]? = some (some x) → l[j]? = some (some x) → i = j
  | [], i, j, x, _, h, _ => by simp at h
  | none :: l, i, j, x, hn, hi, hj => by
    cases i with
    | zero => simp at hi
    | succ i =>
      cases j with
      | zero => simp at hj
      | succ j => rw [src_inj l i j x (by simpa using hn) (by simpa using hi) (by simpa using hj)]
  | some y :: l, i, j, x, hn, hi, hj => by
    simp only [List.filterMap_cons, id_eq, List.nodup_cons] at hn
    have mem : ∀ k, l[k]? = some (some x) → x ∈ l.filterMap id := fun k hk => List.mem_filterMap.2 ⟨some x, List.mem_of_getElem? hk, rfl⟩
    cases i with
    | zero =>
      simp at hi
      subst hi
      cases j with
      | zero => rfl
      | succ j => exact absurd (mem j (by simpa using hj)) hn.1
    | succ i =>
      cases j with
      | zero =>
        simp at hj
        subst hj
        exact absurd (mem i (by simpa using hi)) hn.1
      | succ j => rw [src_inj l i j x hn.2 (by simpa using hi) (by simpa using hj)]

theorem Owned.mem {n : Nat} {ws : List (Nat × Obj)} (h : Owned n ws) {o : Nat} {c : Obj} (hm : (o, c) ∈ ws) : ∃ k, o = n + k ∧ ws[k]? = some (o, c) := by
  obtain ⟨k, hk⟩ := List.mem_iff_getElem?.1 hm
  exact ⟨k, (h k _ hk).1, hk⟩
theorem Owned.nodup {n : Nat} {ws : List (Nat × Obj)} (h : Owned n ws) : (ws.map (·.1)).Nodup := by
  rw [List.nodup_iff_pairwise_ne, List.pairwise_iff_getElem]
  intro i j hi hj hij e
  simp only [List.length_map] at hi hj
  simp only [List.getElem_map] at e
  have h1 := (h i _ (List.getElem?_eq_getElem hi)).1
  have h2 := (h j _ (List.getElem?_eq_getElem hj)).1
  omega

theorem plain_av {v : AV} {x : Value} {tm : Nat → Value} (hp : v.plain = true) (h : AVr P B pl Z w tm v x) : AV1 P B pl Z w v x := by
  cases v <;> first | exact h | cases hp
theorem isBoxy_box {p : Place} {c : AV} (hc : isBoxy (.live c) = true) (h : OB P B pl Z w p c) : ∃ b cs T, p = .box b ∧ ¬ Z b ∧ w.heap[b]? = some (.cells cs T (0, 0)) ∧ AVs P B pl Z w c cs.toList := by
  unfold OB at h
  split at h
  · obtain ⟨h1, cs, T, h2, h3⟩ := h
    exact ⟨_, cs.toArray, T, rfl, h1, h2, by simpa using h3⟩
  · simp [isBoxy] at hc
  · exact h.elim

/-- a state that fits an annotation is borne at its head -/
theorem Ann.enter {A : Ann} {n : Nat} {s s' : AState} {tk ds : List Nat} {p : A.P} {r : FitR} (hB : B.ro = roOf wk) (hR : Rel P B kp nt s'.T s'.H a w) (hfit : A.fit s' p = some r) (heq : conjL r.eqs) (hsane : A.sane n s p = true)
    (htk : A.takes n wk s' p r = true) (hT : ∀ t, t ∉ A.vk p → ds.contains t = false → s'.T t = s.T t)
    (hH : ∀ o c, A.heap n s tk p o = .live c → o ∉ A.ok p → o ∉ A.ids n p → s'.H o = .live c ∧ s.H o = .live c ∧ o ∉ r.taken)
    (hkP : ∀ o, kp.fk o = true → isFree (s.H o) = false) (hkT : ∀ t o, o ∈ (s.T t).refs → isFree (s.H o) = false) (hkH : ∀ o c, s.H o = .live c → ∀ o', o' ∈ c.refs → isFree (s.H o') = false) :
    Rel P B kp nt (A.state n s tk ds p).T (A.state n s tk ds p).H a w := by
  obtain ⟨pl, Z, hR, hkp⟩ := hR
  simp only [Ann.sane, Bool.and_eq_true, List.all_eq_true, Bool.or_eq_true, Bool.not_eq_true', List.contains_eq_mem, decide_eq_true_eq, decide_eq_false_iff_not] at hsane
  obtain ⟨⟨⟨hs1, hs2⟩, hs3⟩, hs4⟩ := hsane
  simp only [Ann.takes, Bool.and_eq_true, List.all_eq_true, Bool.not_eq_true', List.contains_eq_mem, decide_eq_false_iff_not, beq_iff_eq] at htk
  obtain ⟨⟨⟨⟨ht1, ht2⟩, ht3⟩, ht4⟩, ht5⟩ := htk
  have hnd := dupFree_nodup _ ht1
  have hokn := dupFree_nodup _ hs2
  -- the cells of what is taken
  let R : Nat → List Value → Prop := fun i c =>
    (∀ t, (A.vk p)[i]? = some t → if (s'.T t).isSt then a.tmps.getD t undef = .agg c.toArray else c = [a.tmps.getD t undef]) ∧
    (∀ j o, i = (A.vk p).length + j → (A.ok p)[j]? = some o → ∃ b T, pl o = .box b ∧ ¬ Z b ∧ w.heap[b]? = some (.cells c.toArray T (0, 0)))
  have hlenv : (A.vk p).length = (A.vars p).length := by simp [Ann.vk]
  have hleno : (A.ok p).length = (A.objs p).length := by simp [Ann.ok]
  have hvalv : ∀ i t, (A.vk p)[i]? = some t → (A.vals s' p)[i]? = some (s'.T t) := fun i t h => by
    unfold Ann.vk at h
    rw [List.getElem?_map] at h
    obtain ⟨x, hx, rfl⟩ := Option.map_eq_some_iff.1 h
    have hi : i < (A.vars p).length := (List.getElem?_eq_some_iff.1 hx).1
    unfold Ann.vals
    rw [List.getElem?_append_left (by simpa using hi), List.getElem?_map, hx]; rfl
  have hvalo : ∀ j o, (A.ok p)[j]? = some o → (A.vals s' p)[(A.vk p).length + j]? = some (cont (s'.H o)) := fun j o h => by
    unfold Ann.ok at h
    rw [List.getElem?_map] at h
    obtain ⟨x, hx, rfl⟩ := Option.map_eq_some_iff.1 h
    unfold Ann.vals
    rw [List.getElem?_append_right (by simp [hlenv]), List.length_map, hlenv, Nat.add_sub_cancel_left, List.getElem?_map, hx]; rfl
  have hvallen : (A.vals s' p).length = (A.vk p).length + (A.ok p).length := by simp [Ann.vals, hlenv, hleno]
  obtain ⟨cs, hcs, hcR⟩ := AVz.of (P := P) (B := B) (pl := pl) (Z := Z) (w := w) (l := A.vals s' p) (R := R) (by
    intro i v hv
    by_cases hi : i < (A.vk p).length
    · have hti : (A.vk p)[i]? = some (A.vk p)[i] := List.getElem?_eq_getElem hi
      rw [hvalv i _ hti] at hv
      cases hv
      have h1 := plain_av (ht4 _ (List.mem_of_getElem? hti)) (hR.av (A.vk p)[i])
      unfold AV1 at h1
      split at h1
      · rename_i hst
        obtain ⟨us, e, h2⟩ := h1
        refine ⟨us, h2, fun t ht => ?_, fun j o e => by omega⟩
        rw [hti] at ht; cases ht
        rw [if_pos hst]; exact e
      · rename_i hst
        refine ⟨_, h1, fun t ht => ?_, fun j o e => by omega⟩
        rw [hti] at ht; cases ht
        rw [if_neg hst]
    · have hilt : i < (A.vals s' p).length := (List.getElem?_eq_some_iff.1 hv).1
      obtain ⟨j, rfl⟩ : ∃ j, i = (A.vk p).length + j := ⟨i - (A.vk p).length, by omega⟩
      have hj : j < (A.ok p).length := by omega
      have hoj : (A.ok p)[j]? = some (A.ok p)[j] := List.getElem?_eq_getElem hj
      rw [hvalo j _ hoj] at hv
      cases hv
      have hbx := ht3 _ (List.mem_of_getElem? hoj)
      cases hc : s'.H (A.ok p)[j] with
      | free => rw [hc] at hbx; cases hbx
      | dead => rw [hc] at hbx; cases hbx
      | live c =>
        rw [hc] at hbx
        obtain ⟨b, cs, T, e1, e2, e3, e4⟩ := isBoxy_box hbx (hR.gr.ob _ _ hc)
        refine ⟨cs.toList, e4, fun t ht => ?_, fun j' o e ho => ?_⟩
        · rw [List.getElem?_eq_none (by omega)] at ht; cases ht
        · have : j' = j := by omega
          subst this
          rw [hoj] at ho; cases ho
          exact ⟨b, T, e1, e2, by simpa using e3⟩)
  have hfs := fitList_sound hR.gr.ob _ _ _ cs hfit (conjL_all _ heq) hcs
  obtain ⟨hlen, ps, hps, hsrc, hbear⟩ := hfs
  have hown := openList_owned (A.avs p) n
  -- the places
  let pl' : Nat → Place := fun o => if o ∈ A.ids n p then (if o < n then pl o else ps.getD (o - n) (pl o)) else pl o
  have hidk : ∀ o, o ∈ A.ids n p → ∃ k q, o = n + k ∧ ps[k]? = some q ∧ pl' o = q ∧ ∃ c, (A.opn n p).2.1[k]? = some (o, c) := fun o ho => by
    have ho' := ho
    unfold Ann.ids at ho
    obtain ⟨⟨o1, c⟩, hm, rfl⟩ := List.mem_map.1 ho
    obtain ⟨k, e, hk⟩ := hown.mem hm
    have hkl : k < ps.length := by
      have := (List.getElem?_eq_some_iff.1 hk).1
      rw [hps, ← hlen n]; exact this
    refine ⟨k, ps[k], e, List.getElem?_eq_getElem hkl, ?_, c, hk⟩
    show (if _ then _ else _) = _
    have e : o1 = n + k := e
    rw [if_pos ho', if_neg (by show ¬ o1 < n; omega)]
    show ps.getD (o1 - n) _ = _
    rw [e, Nat.add_sub_cancel_left, List.getD_eq_getElem?_getD, List.getElem?_eq_getElem hkl]; rfl
  have hplk : ∀ k q, ps[k]? = some q → pl' (n + k) = q := fun k q hk => by
    have hkl : k < (openList n (A.avs p)).2.1.length := by
      rw [hlen n, ← hps]; exact (List.getElem?_eq_some_iff.1 hk).1
    have hm : n + k ∈ A.ids n p := by
      unfold Ann.ids Ann.opn
      refine List.mem_map.2 ⟨_, List.getElem_mem hkl, ?_⟩
      exact (hown k _ (List.getElem?_eq_getElem hkl)).1
    obtain ⟨k', q', e, h1, h2, _⟩ := hidk _ hm
    have : k' = k := by omega
    subst this
    rw [h2]; rw [hk] at h1; cases h1; rfl
  have hplo : ∀ o, o ∉ A.ids n p → pl' o = pl o := fun o ho => if_neg ho
  have hfreeid : ∀ o, o ∈ A.ids n p → isFree (s.H o) = true := fun o ho => hs1 o ho
  have hnid : ∀ o, isFree (s.H o) = false → o ∉ A.ids n p := fun o h hm => by rw [hfreeid o hm] at h; cases h
  have hrefs : ∀ o, o ∈ refsL (A.avs p) → (o ∈ A.ok p ∨ isFree (s.H o) = false) ∧ o ∉ A.ids n p := fun o ho => by
    obtain ⟨v, hv, ho⟩ := List.mem_flatMap.1 ho
    rcases hs4 v hv o ho with h | h
    · exact ⟨.inl h, hs3 o h⟩
    · exact ⟨.inr h, hnid o h⟩
  have hb := hbear n pl' (Zup pl Z s'.H r.pu) (fun o ho => hplo o (hrefs o ho).2) (fun b hb => hb) hplk
  obtain ⟨hbz, hbst⟩ := hb
  have hopl : (A.opn n p).1.length = (A.vk p).length + (A.ok p).length := by
    show (openList n (A.avs p)).1.length = _
    rw [openList_length]; simp [Ann.avs, hlenv, hleno]
  have hcslen := hcs.len
  -- the heap
  have hovk : (A.ov n p).map (·.1) = A.ok p := by
    unfold Ann.ov
    rw [List.map_fst_zip]
    simp [hopl]
  have hWn : ((A.ov n p ++ (A.opn n p).2.1).map (·.1)).Nodup := by
    rw [List.map_append, List.nodup_append, hovk]
    exact ⟨hokn, hown.nodup, fun x hx y hy e => hs3 x hx (e ▸ hy)⟩
  have hheap : A.heap n s tk p = setH (setH s.H ((A.gone ++ tk).map (fun o => (o, .dead)))) (A.ov n p ++ (A.opn n p).2.1) := setH_append _ _ _
  have hin : ∀ o c, (o, c) ∈ A.ov n p ++ (A.opn n p).2.1 → A.heap n s tk p o = c := fun o c hm => by rw [hheap]; exact setH_in _ _ _ _ hWn hm
  have hovm : ∀ j o, (A.ok p)[j]? = some o → ∃ v, (A.opn n p).1[(A.vk p).length + j]? = some v ∧ (o, Obj.live v) ∈ A.ov n p := fun j o h => by
    have hj : j < (A.ok p).length := (List.getElem?_eq_some_iff.1 h).1
    have hl : (A.vk p).length + j < (A.opn n p).1.length := by omega
    refine ⟨(A.opn n p).1[(A.vk p).length + j], List.getElem?_eq_getElem hl, ?_⟩
    unfold Ann.ov
    refine List.mem_of_getElem? (i := j) ?_
    rw [List.getElem?_zip_eq_some]
    refine ⟨h, ?_⟩
    rw [List.getElem?_map, List.getElem?_drop, List.getElem?_eq_getElem hl]; rfl
  have wfree : ∀ q, q ∈ (A.gone ++ tk).map (fun o => (o, Obj.dead)) ++ (A.ov n p ++ (A.opn n p).2.1) → isFree q.2 = false := fun q hq => by
    rcases List.mem_append.1 hq with hq | hq
    · obtain ⟨o, _, rfl⟩ := List.mem_map.1 hq; rfl
    · rcases List.mem_append.1 hq with hq | hq
      · unfold Ann.ov at hq
        have := (List.of_mem_zip hq).2
        obtain ⟨v, _, e⟩ := List.mem_map.1 this
        rw [← e]; rfl
      · obtain ⟨k, hk⟩ := List.mem_iff_getElem?.1 hq
        obtain ⟨_, t, l, e⟩ := hown k q hk
        rw [e]; rfl
  have hfr : ∀ o, isFree (s.H o) = false → isFree (A.heap n s tk p o) = false := fun o h => setH_free _ _ _ wfree h
  have cls : ∀ o c, A.heap n s tk p o = .live c → (∃ k q, ps[k]? = some q ∧ o = n + k ∧ (A.opn n p).2.1[k]? = some (o, .live c) ∧ o ∈ A.ids n p) ∨
      (∃ j, (A.ok p)[j]? = some o ∧ (A.opn n p).1[(A.vk p).length + j]? = some c ∧ o ∉ A.ids n p) ∨ (o ∉ A.ok p ∧ o ∉ A.ids n p ∧ s'.H o = .live c ∧ s.H o = .live c ∧ o ∉ r.taken) := by
    intro o c h
    by_cases h1 : o ∈ A.ids n p
    · obtain ⟨k, q, e, h2, h3, c', h4⟩ := hidk o h1
      have := hin o c' (List.mem_append_right _ (List.mem_of_getElem? h4))
      rw [h] at this
      subst this
      exact .inl ⟨k, q, h2, e, h4, h1⟩
    · by_cases h2 : o ∈ A.ok p
      · obtain ⟨j, hj⟩ := List.mem_iff_getElem?.1 h2
        obtain ⟨v, hv, hm⟩ := hovm j o hj
        have := hin o _ (List.mem_append_left _ hm)
        rw [h] at this
        cases this
        exact .inr (.inl ⟨j, hj, hv, h1⟩)
      · exact .inr (.inr ⟨h2, h1, hH o c h h2 h1⟩)
  -- what lies where
  have hsrcmem : ∀ k o, r.src[k]? = some (some o) → o ∈ r.taken := fun k o h => List.mem_append_left _ (List.mem_filterMap.2 ⟨some o, List.mem_of_getElem? h, rfl⟩)
  have hpumem : ∀ o, o ∈ r.pu → o ∈ r.taken := fun o h => List.mem_append_right _ h
  have hnd' := List.nodup_append.1 hnd
  let S : Nat → Nat → Prop := fun o o0 => (∃ k, o = n + k ∧ o ∈ A.ids n p ∧ r.src[k]? = some (some o0)) ∨ (o ∉ A.ids n p ∧ o0 = o ∧ o ∉ r.taken)
  have Sinj : ∀ o o' o0, S o o0 → S o' o0 → o = o' := by
    rintro o o' o0 (⟨k, e, _, h⟩ | ⟨_, e, h⟩) (⟨k', e', _, h'⟩ | ⟨_, e', h'⟩)
    · rw [e, e', src_inj _ k k' o0 hnd'.1 h h']
    · subst e'; exact absurd (hsrcmem k _ h) h'
    · subst e; exact absurd (hsrcmem k' _ h') h
    · rw [← e, ← e']
  have hsource : ∀ o c, A.heap n s tk p o = .live c → ∀ b, (pl' o).block = some b → ∃ o0 c0, s'.H o0 = .live c0 ∧ (pl o0).block = some b ∧ S o o0 := by
    intro o c h b hb
    rcases cls o c h with ⟨k, q, hq, e, hc, hid⟩ | ⟨j, hj, hc, hid⟩ | ⟨h1, h2, h3, h4, h5⟩
    · have hpq := hplk k q hq
      rw [← e] at hpq
      rcases hsrc k q hq with ⟨o0, e1, e2, t, l, e3, e4⟩ | ⟨e1, a0, e2, _⟩
      · exact ⟨o0, _, e3, by rw [← e2, ← hpq]; exact hb, .inl ⟨k, e, hid, e1⟩⟩
      · rw [hpq, e2] at hb
        have := (Place.block_slc hb).1
        exact absurd rfl this
    · have hmo := List.mem_of_getElem? hj
      rw [hplo o hid] at hb
      have hbx := ht3 o hmo
      cases hc : s'.H o with
      | free => rw [hc] at hbx; cases hbx
      | dead => rw [hc] at hbx; cases hbx
      | live c0 => exact ⟨o, c0, hc, hb, .inr ⟨hid, rfl, fun ht => (ht2 o ht).2 hmo⟩⟩
    · rw [hplo o h2] at hb
      exact ⟨o, c, h3, hb, .inr ⟨h2, rfl, h5⟩⟩
  have hnz : ∀ o0 c0 b, s'.H o0 = .live c0 → (pl o0).block = some b → o0 ∉ r.pu → ¬ Zup pl Z s'.H r.pu b := by
    rintro o0 c0 b h hb hn (hz | ⟨o1, h1, ⟨c1, h2⟩, h3⟩)
    · exact ((hR.gr.ob _ _ h).lt hb).2 hz
    · exact hR.gr.dj o0 o1 c0 c1 h h2 (fun e => hn (e ▸ h1)) b hb h3
  have hro : ∀ o, o ∈ r.taken → B.ro o = false := fun o ho => by rw [hB]; exact (ht2 o ho).1
  have hzk : ∀ b, Z b → Zup pl Z s'.H r.pu b ∧ w.heap[b]? = w.heap[b]? := fun b hb => ⟨.inl hb, rfl⟩
  refine ⟨pl', Zup pl Z s'.H r.pu, ⟨⟨?_, ?_, ?_, ?_, hR.gr.si, hR.gr.io, hR.gr.old, fun b hb => .inl (hR.gr.zz b hb), ?_, ?_⟩, ?_, ?_, hR.df, hR.nt⟩, fun o ho => ⟨(hplo o (hnid o (hkP o ho))).trans (hkp.p o ho).1, hfr o (hkP o ho)⟩, hkp.z⟩
  · rintro b (hb | ⟨o, _, ⟨c, ho⟩, hp⟩)
    · exact hR.gr.z b hb
    · exact ((hR.gr.ob o c ho).lt hp).1
  · intro o c h
    have h : A.heap n s tk p o = .live c := h
    rcases cls o c h with ⟨k, q, hq, e, hc, hid⟩ | ⟨j, hj, hc, hid⟩ | ⟨h1, h2, h3, h4, h5⟩
    · have hpq := hplk k q hq
      rw [← e] at hpq
      rw [hpq]
      rcases hsrc k q hq with ⟨o0, e1, e2, t, l, e3, e4⟩ | ⟨e1, a0, e2, t, e3⟩
      · have := e4 n
        have hc' : (openList n (A.avs p)).2.1[k]? = some (o, .live c) := hc
        rw [hc'] at this
        simp only [Option.some.injEq, Prod.mk.injEq, Obj.live.injEq] at this
        rw [this.2, e2]
        refine OB.mono hzk (fun o ho => by simp [AV.refs] at ho) (fun b hb => ⟨rfl, fun _ => hnz o0 _ b e3 hb (fun hp => ?_)⟩) (hR.gr.ob _ _ e3)
        exact hnd'.2.2 o0 (List.mem_filterMap.2 ⟨some o0, List.mem_of_getElem? e1, rfl⟩) o0 hp rfl
      · have := e3 n
        have hc' : (openList n (A.avs p)).2.1[k]? = some (o, .live c) := hc
        rw [hc'] at this
        simp only [Option.some.injEq, Prod.mk.injEq, Obj.live.injEq] at this
        rw [this.2, e2]
        exact ⟨rfl, Nat.le_refl _, by simp [LIM], .inl rfl⟩
    · rw [hplo o hid]
      have hjl : j < (A.ok p).length := (List.getElem?_eq_some_iff.1 hj).1
      have hcl : (A.vk p).length + j < cs.length := by omega
      obtain ⟨b, T, e1, e2, e3⟩ := (hcR _ _ (List.getElem?_eq_getElem hcl)).2 j o rfl hj
      have hmo := List.mem_of_getElem? hj
      rw [e1]
      have hbx := ht3 o hmo
      cases hc0 : s'.H o with
      | free => rw [hc0] at hbx; cases hbx
      | dead => rw [hc0] at hbx; cases hbx
      | live c0 =>
        refine ⟨hnz o c0 b hc0 (by rw [e1]; rfl) (fun hp => (ht2 o (hpumem o hp)).2 hmo), _, T, e3, ?_⟩
        exact hbz.get _ _ _ hc (List.getElem?_eq_getElem hcl)
    · rw [hplo o h2]
      exact OB.mono hzk (fun o' ho' => hplo o' (hnid o' (hkH o c h4 o' ho'))) (fun b hb => ⟨rfl, fun _ => hnz o c b h3 hb (fun hp => h5 (hpumem o hp))⟩) (hR.gr.ob o c h3)
  · intro o o' c c' h h' hne b hb hb'
    obtain ⟨o0, c0, h0, hb0, s0⟩ := hsource o c h b hb
    obtain ⟨o1, c1, h1, hb1, s1⟩ := hsource o' c' h' b hb'
    by_cases e : o0 = o1
    · subst e; exact hne (Sinj o o' o0 s0 s1)
    · exact hR.gr.dj o0 o1 c0 c1 h0 h1 e b hb0 hb1
  · intro o c h b hb
    obtain ⟨o0, c0, h0, hb0, s0⟩ := hsource o c h b hb
    rcases s0 with ⟨k, _, _, hk⟩ | ⟨_, e, _⟩
    · rcases hR.gr.baw h0 (hro o0 (hsrcmem k o0 hk)) hb0 with g | g
      · exact .inl g
      · exact .inr (.inl g)
    · subst e; exact hR.gr.ba o0 c0 h0 b hb0
  · rintro b (hb | ⟨o, ho, ⟨c, hc⟩, hp⟩)
    · exact hR.gr.zn b hb
    · rcases hR.gr.baw hc (hro o (hpumem o ho)) hp with g | g
      · exact .inr (.inl g)
      · exact .inr (.inr g)
  · intro o c h o' ho'
    have h : A.heap n s tk p o = .live c := h
    show isFree (A.heap n s tk p o') = false
    have opened : c ∈ (A.opn n p).1 → isFree (A.heap n s tk p o') = false := fun hm => by
      rcases openList_refs _ n c o' hm ho' with ⟨v, hv, ho⟩ | hid
      · rcases (hrefs o' (List.mem_flatMap.2 ⟨v, hv, ho⟩)).1 with h1 | h1
        · obtain ⟨j, hj⟩ := List.mem_iff_getElem?.1 h1
          obtain ⟨v', hv', hm'⟩ := hovm j o' hj
          rw [hin o' _ (List.mem_append_left _ hm')]; rfl
        · exact hfr o' h1
      · obtain ⟨k, q, _, _, _, c', h4⟩ := hidk o' hid
        rw [hin o' c' (List.mem_append_right _ (List.mem_of_getElem? h4))]
        obtain ⟨_, t, l, e⟩ := hown k _ h4
        have e : c' = .live (.val (.sl t) l) := e
        rw [e]; rfl
    rcases cls o c h with ⟨k, q, hq, e, hc, hid⟩ | ⟨j, hj, hc, hid⟩ | ⟨h1, h2, h3, h4, h5⟩
    · obtain ⟨_, t, l, e⟩ := hown k _ hc
      have e : Obj.live c = .live (.val (.sl t) l) := e
      cases e
      simp [AV.refs] at ho'
    · exact opened (List.mem_of_getElem? hc)
    · exact hfr o' (hkH o c h4 o' ho')
  · intro t
    show AVr P B pl' _ w _ (match (A.tv n p).lookup t with | some v => v | none => if ds.contains t then .undef else s.T t) _
    split
    · rename_i v hv
      obtain ⟨i, hi1, hi2⟩ := lookup_zip _ _ t v hv
      have hil : i < cs.length := by
        have := (List.getElem?_eq_some_iff.1 hi1).1
        omega
      have h1 := hbz.get i v _ hi2 (List.getElem?_eq_getElem hil)
      have h2 := (hcR i _ (List.getElem?_eq_getElem hil)).1 t hi1
      have h3 : v.isSt = (s'.T t).isSt := by
        have := congrArg (fun l => l[i]?) hbst
        simp only [List.getElem?_map] at this
        rw [hvalv i t hi1] at this
        have hi2 : (openList n (A.avs p)).1[i]? = some v := hi2
        rw [hi2] at this
        simpa using this
      refine AVn.toR (AVn.of1 ?_) _
      unfold AV1
      rw [h3]
      split
      · rename_i hst; rw [if_pos hst] at h2; exact ⟨_, h2, h1⟩
      · rename_i hst; rw [if_neg hst] at h2; rw [← h2]; exact h1
    · rename_i hv
      have hnv := lookup_zip_none _ _ t hv (by rw [hopl]; omega)
      split
      · trivial
      · rename_i hd
        have hd : ds.contains t = false := by simpa using hd
        rw [← hT t hnv hd]
        exact AVr.mono hzk _ _ _ (fun o ho => hplo o (hnid o (hkT t o (by rw [← hT t hnv hd]; exact ho)))) (hR.av t)
  · intro t o ho
    show isFree (A.heap n s tk p o) = false
    have ho : o ∈ (match (A.tv n p).lookup t with | some v => v | none => if ds.contains t then .undef else s.T t).refs := ho
    split at ho
    · rename_i v hv
      obtain ⟨i, hi1, hi2⟩ := lookup_zip _ _ t v hv
      rcases openList_refs _ n v o (List.mem_of_getElem? hi2) ho with ⟨v', hv', ho⟩ | hid
      · rcases (hrefs o (List.mem_flatMap.2 ⟨v', hv', ho⟩)).1 with h1 | h1
        · obtain ⟨j, hj⟩ := List.mem_iff_getElem?.1 h1
          obtain ⟨v', hv', hm'⟩ := hovm j o hj
          rw [hin o _ (List.mem_append_left _ hm')]; rfl
        · exact hfr o h1
      · obtain ⟨k, q, _, _, _, c', h4⟩ := hidk o hid
        rw [hin o c' (List.mem_append_right _ (List.mem_of_getElem? h4))]
        obtain ⟨_, t, l, e⟩ := hown k _ h4
        have e : c' = .live (.val (.sl t) l) := e
        rw [e]; rfl
    · split at ho
      · simp [AV.refs] at ho
      · exact hfr o (hkT t o ho)
end
end A
end Go.Proofs.Ythgnjimpakpkjaa
namespace Go.Proofs.Ythgnjimpakpkjaa
namespace A
section
variable {tb : Tab} {G : Specs} {wk : List Nat} {wrap : Bool} {ops : Array Oper}

/-- what is not listed is as it was -/
structure Log (s0 s : AState) : Prop where
  t : ∀ t, t ∉ s.lt → s.T t = s0.T t
  h : ∀ o, o ∉ s.lh → s.H o = s0.H o
/-- nothing hangs on a guard -/
def NoW (T : Nat → AV) : Prop := ∀ t, notW (T t) = true
theorem Log.refl (s : AState) : Log s s := ⟨fun _ _ => rfl, fun _ _ => rfl⟩

theorem unW_notW {d : Nat} {v : AV} (h : notW v = true) : unW d v = v := by
  cases v <;> first | rfl | cases h
theorem setT_log {T T0 : Nat → AV} {lt : List Nat} (h0 : NoW T0) (h : ∀ t, t ∉ lt → T t = T0 t) (d : Option Nat) (v : AV) : ∀ t, t ∉ d.toList ++ lt → setT T d v t = T0 t := by
  intro t ht
  cases d with
  | none => exact h t (by simpa using ht)
  | some x =>
    simp only [Option.toList_some, List.cons_append, List.nil_append, List.mem_cons, not_or] at ht
    show (if t = x then v else unW x (T t)) = T0 t
    rw [if_neg ht.1, h t ht.2, unW_notW (h0 t)]
theorem setT_noW {T : Nat → AV} (h : NoW T) {d : Option Nat} {v : AV} (hv : notW v = true) : NoW (setT T d v) := by
  intro t
  cases d with
  | none => exact h t
  | some x =>
    show notW (if t = x then v else unW x (T t)) = true
    by_cases e : t = x
    · rw [if_pos e]; exact hv
    · rw [if_neg e, unW_notW (h t)]; exact h t
theorem setH_log {H H0 : Heap} {lh : List Nat} (h : ∀ o, o ∉ lh → H o = H0 o) (W : List (Nat × Obj)) : ∀ o, o ∉ W.map (·.1) ++ lh → setH H W o = H0 o := by
  intro o ho
  simp only [List.mem_append, not_or] at ho
  rw [setH_out W H o (fun p hp e => ho.1 (List.mem_map.2 ⟨p, hp, e⟩)), h o ho.2]
theorem clearT_log {T T0 : Nat → AV} {lt : List Nat} (h0 : NoW T0) (h : ∀ t, t ∉ lt → T t = T0 t) : ∀ t, t ∉ lt → clearT ops T t = T0 t := by
  intro t ht
  unfold clearT
  split
  · dsimp only
    split
    · rename_i g b v e
      have := h0 t
      rw [← h t ht, e] at this
      cases this
    · exact h t ht
  · exact h t ht
theorem clearT_noW {T : Nat → AV} (h : ops.any (·.guard.isSome) = false → NoW T) : NoW (clearT ops T) := by
  intro t
  unfold clearT
  split
  · dsimp only
    split
    · rfl
    · rename_i hn
      cases hv : T t <;> first | rfl | exact absurd hv (hn _ _ _)
  · rename_i hc
    exact h (by simpa using hc) t

theorem withE_mono {g : Option (Bool × Bool)} {K K' : Prop} (hK : K → K') : ∀ {p : List Prop}, withE g p K → withE g p K' := by
  cases g with
  | none =>
    intro p
    induction p with
    | nil => exact hK
    | cons q l ih => exact fun h => ⟨h.1, ih h.2⟩
  | some cb =>
    obtain ⟨c, b⟩ := cb
    intro p
    induction p with
    | nil => exact hK
    | cons q l ih => exact fun h => ⟨h.1, ih h.2⟩
theorem gEff_notW {o : Oper} {T : Nat → AV} {H : Heap} {g : Option (Bool × Bool)} {e : Eff} (h : gEff tb G wrap wk ops o T H = some (g, e)) (hg : o.guard = none) : notW e.dst = true := by
  unfold gEff at h
  rw [hg] at h
  obtain ⟨e0, _, h⟩ := Option.bind_eq_some_iff.1 h
  split at h
  · rename_i hc
    cases h
    simp only [Bool.and_eq_true] at hc
    exact hc.2
  · cases h

theorem guards_none (hn : ops.any (·.guard.isSome) = false) {o : Oper} (ho : o ∈ ops.toList) : o.guard = none := by
  rw [← Array.any_toList, List.any_eq_false] at hn
  have := hn o ho
  cases h : o.guard with
  | none => rfl
  | some x => rw [h] at this; simp at this

/-- a region in its own order keeps the log -/
theorem regA_log {s0 : AState} (h0 : NoW s0.T) {K : AState → Prop} : ∀ (l : List Oper) (s : AState), (∀ o, o ∈ l → o ∈ ops.toList) → Log s0 s → (ops.any (·.guard.isSome) = false → NoW s.T) → regA tb G wrap wk ops l s K →
    regA tb G wrap wk ops l s (fun s => K s ∧ Log s0 s ∧ NoW s.T)
  | [], s, _, hl, hn, h => ⟨h, ⟨clearT_log h0 hl.t, hl.h⟩, clearT_noW hn⟩
  | o :: r, s, hm, hl, hn, h => by
    unfold regA stepA at h ⊢
    split at h
    · rename_i p n hnil
      have st : ∀ b : Bool, regA tb G wrap wk ops r (s.next o.dst ⟨[], .val .bool b, []⟩) K → regA tb G wrap wk ops r (s.next o.dst ⟨[], .val .bool b, []⟩) (fun s => K s ∧ Log s0 s ∧ NoW s.T) := fun b hk =>
        regA_log h0 r (s.next o.dst ⟨[], .val .bool b, []⟩) (fun o' ho' => hm o' (by simp [ho'])) ⟨setT_log h0 hl.t _ _, setH_log hl.h _⟩ (fun hg => setT_noW (hn hg) rfl) hk
      exact ⟨fun hn0 => st _ (h.1 hn0), st _ h.2⟩
    split at h
    case h_2 => exact h.elim
    rename_i hnone g p v wr he
    rw [frc_eq, frcW_eq] at h ⊢
    exact withE_mono (fun hk => regA_log h0 r (s.next o.dst ⟨p, v, wr⟩) (fun o' ho' => hm o' (by simp [ho'])) ⟨setT_log h0 hl.t _ _, setH_log hl.h _⟩
      (fun hg => setT_noW (hn hg) (gEff_notW he (guards_none hg (hm o (by simp))))) hk) h

theorem drawA_log {T0 : Nat → AV} {H0 : Heap} {lt lh : List Nat} (h0 : NoW T0) {K : List (List Nat × List Nat) → (Nat → AV) → Heap → Prop} : ∀ (l : List Oper) (T : Nat → AV) (H : Heap) (acc : List (List Nat × List Nat)) (dn : List Nat), (∀ o, o ∈ l → o ∈ ops.toList) →
    (∀ t, t ∉ dn ++ lt → T t = T0 t) → (∀ o, o ∉ acc.flatMap (·.2) ++ lh → H o = H0 o) → (ops.any (·.guard.isSome) = false → NoW T) → drawA tb G wrap wk ops l T H acc K →
    drawA tb G wrap wk ops l T H acc (fun acc T H => K acc T H ∧ (∀ t, t ∉ (dn ++ l.filterMap (·.dst)) ++ lt → T t = T0 t) ∧ (∀ o, o ∉ acc.flatMap (·.2) ++ lh → H o = H0 o) ∧ (ops.any (·.guard.isSome) = false → NoW T))
  | [], T, H, acc, dn, _, ht, hh, hn, h => ⟨h, by simpa using ht, hh, hn⟩
  | o :: r, T, H, acc, dn, hm, ht, hh, hn, h => by
    unfold drawA at h ⊢
    split at h
    case h_2 => exact h.elim
    rename_i g p v wr he
    rw [frc_eq, frcW_eq] at h ⊢
    have e1 : ∀ t, t ∉ (dn ++ o.dst.toList) ++ lt → setT T o.dst v t = T0 t := fun t h => setT_log h0 ht o.dst v t (by simp only [List.mem_append, not_or] at h ⊢; exact ⟨h.1.2, h.1.1, h.2⟩)
    have e2 : ∀ x, x ∉ (acc ++ [(footOf ops o (restT T (o.looksAt ops)) H, wr.map (·.1))]).flatMap (·.2) ++ lh → setH H wr x = H0 x := fun x h => setH_log hh wr x (by
      simp only [List.mem_append, not_or, List.flatMap_append, List.flatMap_cons, List.flatMap_nil, List.append_nil] at h ⊢; exact ⟨h.1.2, h.1.1, h.2⟩)
    refine withE_mono (fun hk => ?_) h
    have := drawA_log h0 r (setT T o.dst v) (setH H wr) _ (dn ++ o.dst.toList) (fun o' ho' => hm o' (by simp [ho'])) e1 e2 (fun hg => setT_noW (hn hg) (gEff_notW he (guards_none hg (hm o (by simp))))) hk
    have e3 : (dn ++ (o :: r).filterMap (·.dst)) ++ lt = ((dn ++ o.dst.toList) ++ r.filterMap (·.dst)) ++ lt := by
      cases h : o.dst <;> simp [h]
    rw [e3]
    exact this

theorem drawA_mono {K K' : List (List Nat × List Nat) → (Nat → AV) → Heap → Prop} (hK : ∀ acc T H, K acc T H → K' acc T H) : ∀ (l : List Oper) (T : Nat → AV) (H : Heap) (acc : List (List Nat × List Nat)), drawA tb G wrap wk ops l T H acc K → drawA tb G wrap wk ops l T H acc K'
  | [], T, H, acc, h => hK _ _ _ h
  | o :: r, T, H, acc, h => by
    unfold drawA at h ⊢
    split at h
    case h_2 => exact h.elim
    rename_i g p v wr he
    rw [frc_eq, frcW_eq] at h ⊢
    exact withE_mono (fun hk => drawA_mono hK r _ _ _ hk) h

/-- a region that draws its order keeps the log -/
theorem regD_log {s0 s : AState} (h0 : NoW s0.T) {K : AState → Prop} (hl : Log s0 s) (hn : NoW s.T) (h : regD tb G wrap wk ops s K) : regD tb G wrap wk ops s (fun s => K s ∧ Log s0 s ∧ NoW s.T) := by
  unfold regD at h ⊢
  refine drawA_mono (fun acc T H hk => ?_) _ _ _ _ (drawA_log (lt := s.lt) (lh := s.lh) h0 ops.toList s.T s.H [] [] (fun _ h => h) (by simpa using hl.t) (by simpa using hl.h) (fun _ => hn) h)
  obtain ⟨hk, h1, h2, h3⟩ := hk
  split
  · rename_i hok
    rw [if_pos hok] at hk
    exact ⟨hk, ⟨clearT_log h0 (by simpa using h1), h2⟩, clearT_noW h3⟩
  · rename_i hok
    rw [if_neg hok] at hk
    exact hk.elim
end
end A
end Go.Proofs.Ythgnjimpakpkjaa
