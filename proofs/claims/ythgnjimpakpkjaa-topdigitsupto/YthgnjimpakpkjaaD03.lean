/- Places, and small operations. Small operations. Append and copy. Append and copy: the operations. Copy. Objects under other numbers. What a call comes to, under the caller's numbers. A call's effect lands under the caller's numbers. Calls. Calls: the effect is sound. -/
import Derived.Test.YthgnjimpakpkjaaD02
import Derived.Deep.Upon
import Derived.Laws.IdiomCopy
import Derived.Lib.AppendZerosOnto
namespace Go.Proofs.Ythgnjimpakpkjaa
namespace A
section
variable {P : Program} {B : Base} {tb : Tab} {H Hr : Heap} {pl : Nat → Place} {Z : Nat → Prop} {w w' : World} {T : Nat → AV} {a : Act} {g : Option (Nat × Bool)} {d : Nat}

theorem run_indexAt_sl {t e n c : Nat} {f : TypeInfo} (ht : P.underlying t = some (.slice e)) (hf : P.info? e = some f) {ad : Addr} {k : IntKind} {i : Int} (h : idxRange i n) :
    (Instr.indexAt t (.slice (some ad) n c) (.int k i)).run P w = .ok (.pointer (some (ad.add (i.toNat * f.size)))) w := by
  obtain ⟨h1, h2⟩ := h
  simp [Instr.indexAt, run_underlying ht, asIntOf, sizeOf, typeInfo, hf, h1, h2]
theorem run_indexAt_arr {t e n : Nat} {f : TypeInfo} (ht : P.underlying t = some (.array n e)) (hf : P.info? e = some f) {ad : Addr} {k : IntKind} {i : Int} (h : idxRange i n) :
    (Instr.indexAt t (.pointer (some ad)) (.int k i)).run P w = .ok (.pointer (some (ad.add (i.toNat * f.size)))) w := by
  obtain ⟨h1, h2⟩ := h
  simp [Instr.indexAt, run_underlying ht, Instr.sureAddr, asIntOf, sizeOf, typeInfo, hf, h1, h2]

/-- an element of immutable memory -/
theorem rop_of {t : Ty} {l : List (El t)} {ad : Option Addr} {i : Int} (hi : idxRange i l.length) (h : l.length = 0 ∨ ∃ b off c, ad = some ⟨b, off, none⟩ ∧ Z b ∧ blk w b = some c ∧ Elts w Z t l c off) :
    ∃ ad', ad = some ad' ∧ AVn P B pl Z w (.rop t (l.getD i.toNat (dflt t))) (.pointer (some (ad'.add (i.toNat * csize t)))) := by
  obtain ⟨i0, i1⟩ := hi
  rcases h with h | ⟨b, off, c, h1, h2, h3, h4⟩
  · omega
  · subst h1
    refine ⟨_, rfl, (AVn.s rfl (by simp) (by simp)).2 ?_⟩
    have hlt : i.toNat < l.length := by omega
    have hg : l[i.toNat]? = some (l.getD i.toNat (dflt t)) := by rw [List.getD_eq_getElem?_getD]; simp [hlt]
    obtain ⟨us, u1, u2, u3⟩ := h4 i.toNat _ hg
    exact ⟨b, off + i.toNat * csize t, c, us, h2, h3, u1, u2, u3, by rw [add_none]⟩

theorem indexAddr_sound (hT : TOK P tb) (hg : GR P B pl Z w H) (hr : ∀ o v, Hr o = .live v → H o = .live v) {v iv : AV} (hkn : ∀ o, o ∈ v.refs → isFree (H o) = false) {t : Nat} {x y : Value} {e : Eff}
    (hx : AVn P B pl Z w v x) (hy : AVn P B pl Z w iv y) (hk : seqT tb t Hr v = true) (h : indexAddrEff tb Hr t v iv = some e) (hp : ∀ p, p ∈ e.pre → p) :
    ∃ u, (Instr.indexAt t x y).run P w = .ok u w ∧ Post P B H pl Z w e.wr e.dst u w := by
  unfold indexAddrEff at h
  split at h
  case h_2 => cases h
  rename_i ti k i hti
  unfold seqT at hk
  rw [hti] at hk
  simp only at hk
  obtain ⟨rfl, _⟩ := hy.int
  have elt : ∀ {t'}, isSl tb ti.k t' = true → ∃ e' f, P.underlying t = some (.slice e') ∧ P.info? e' = some f ∧ f.size = csize t' := fun h => by
    obtain ⟨e', h1, h2⟩ := isSl_of h
    obtain ⟨_, f, _, hf, f1, _⟩ := ty_info hT h2
    exact ⟨e', f, und_slice hT hti h1, hf, f1⟩
  split at h
  · rename_i t' l
    cases h
    obtain ⟨e', f, hu, hf, f1⟩ := elt hk
    obtain ⟨ad, cap, hv, q1, q2, q3⟩ := Reps.sl_iff.1 ((AVn.s rfl (by simp) (by simp)).1 hx)
    cases hv
    have hi := hp _ (List.mem_singleton.2 rfl)
    obtain ⟨ad', rfl, hrop⟩ := rop_of (P := P) (B := B) (pl := pl) hi q3
    exact ⟨_, run_indexAt_sl hu hf hi, by rw [f1]; exact Post.pure hg hrop (by simp [AV.refs])⟩
  · rename_i t' l
    cases h
    obtain ⟨e', f, hu, hf, f1⟩ := elt hk
    obtain ⟨ad0, hv0, hrep⟩ := (AVn.s rfl (by simp) (by simp)).1 hx
    obtain ⟨ad, cap, hv, q1, q2, q3⟩ := Reps.sl_iff.1 hrep
    cases hv0
    cases hv
    have hi := hp _ (List.mem_singleton.2 rfl)
    obtain ⟨ad', rfl, hrop⟩ := rop_of (P := P) (B := B) (pl := pl) hi q3
    exact ⟨_, run_indexAt_sl hu hf hi, by rw [f1]; exact Post.pure hg hrop (by simp [AV.refs])⟩
  · rename_i o _
    split at h
    case h_2 => cases h
    rename_i t' l ho
    cases h
    simp only [seqOK, ho] at hk
    obtain ⟨e', f, hu, hf, f1⟩ := elt hk
    obtain ⟨ad, n, cap, hpo, hv⟩ := (AVn.s rfl (by simp) (by simp)).1 hx
    cases hv
    have hi := hp _ (List.mem_singleton.2 rfl)
    have hob := hg.ob o _ (hr _ _ ho)
    rw [hpo] at hob
    obtain ⟨k1, k2, k3, k4⟩ := hob
    have k1 : List.length (α := El t') l = n := k1
    rw [k1] at hi
    obtain ⟨i0, i1⟩ := hi
    rcases k4 with k4 | ⟨b, arr, Tc, r1, r2, r3, r4, r5⟩
    · omega
    · subst r1
      refine ⟨_, run_indexAt_sl hu hf ⟨i0, i1⟩, Post.pure hg ((AVn.s rfl (by simp) (by simp)).2 ?_) (fun j hj => hkn j hj)⟩
      refine ⟨b, by rw [hpo]; simp only [Place.block]; rw [if_neg (by omega)], by rw [hpo]; exact ⟨rfl, by omega⟩, ?_⟩
      rw [f1, add_none]
      simp
  · rename_i o m t' lo n _
    cases h
    obtain ⟨e', f, hu, hf, f1⟩ := elt hk
    obtain ⟨ad, cap, hv, h1, h2, h3⟩ := (AVn.s rfl (by simp) (by simp)).1 hx
    cases hv
    obtain ⟨i0, i1⟩ := hp _ (List.mem_singleton.2 rfl)
    rcases h3 with h3 | ⟨b, hb, h3⟩
    · omega
    · subst h3
      refine ⟨_, run_indexAt_sl hu hf ⟨i0, i1⟩, Post.pure hg ((AVn.s rfl (by simp) (by simp)).2 ?_) (fun j hj => hkn j hj)⟩
      refine ⟨b, hb, ?_, by rw [f1, add_none, ← Nat.add_mul]; rfl⟩
      cases hpo : pl o with
      | box b' => rw [hpo] at h2; exact ⟨h2.1, by have := h2.2; omega⟩
      | slc a' n' c' => rw [hpo] at h2; exact ⟨h2.1, by have := h2.2; omega⟩
  · cases h
    exact (hp _ (List.mem_singleton.2 rfl)).elim
  · rename_i n e0 o hk0
    split at h
    case h_2 => cases h
    rename_i m t' l ho
    split at h
    case isFalse => cases h
    rename_i hm
    simp only [Bool.and_eq_true, decide_eq_true_eq] at hm
    obtain ⟨rfl, hm⟩ := hm
    cases h
    simp only [seqOK, ho] at hk
    obtain ⟨e', hk', hty⟩ := isAr_of hk
    obtain ⟨_, f, _, hf, f1, _⟩ := ty_info hT hty
    obtain ⟨b, hpo, hv⟩ := (AVn.s rfl (by simp) (by simp)).1 hx
    cases hv
    have hi := hp _ (List.mem_singleton.2 rfl)
    refine ⟨_, run_indexAt_arr (und_array hT hti hk') hf hi, Post.pure hg ((AVn.s rfl (by simp) (by simp)).2 ?_) (fun j hj => hkn j hj)⟩
    refine ⟨b, by rw [hpo]; rfl, by rw [hpo]; exact ⟨hm, by have := hi.2; have := hi.1; omega⟩, by rw [f1, add_none]; simp⟩
  · cases h

theorem fieldAddr_sound (hT : TOK P tb) (hg : GR P B pl Z w H) {v : AV} (hkn : ∀ o, o ∈ v.refs → isFree (H o) = false) {s fi : Nat} {x : Value} {e : Eff} (hx : AVn P B pl Z w v x) (h : fieldEff tb s v fi = some e) :
    ∃ u, (Instr.fieldAt s x fi).run P w = .ok u w ∧ Post P B H pl Z w e.wr e.dst u w ∧ e.pre = [] := by
  unfold fieldEff at h
  split at h
  · cases h
  rename_i ti hti
  split at h
  case h_2 => cases h
  rename_i fs hk
  split at h
  case h_2 => cases h
  rename_i off ft hfs
  split at h
  case h_2 => cases h
  rename_i fti hft
  split at h
  · cases h
  rename_i hsz
  have hu := und_of hT hti
  rw [hk] at hu
  obtain ⟨fl, hu, hfl⟩ := hu
  rw [← hfl, List.getElem?_map, Option.map_eq_some_iff] at hfs
  obtain ⟨fld, hfld, hfe⟩ := hfs
  cases hfe
  obtain ⟨f, hf, f1, _⟩ := hT.info _ _ hft
  have hfld' : fl[fi]? = some fld := by rw [← Array.getElem?_toList]; exact hfld
  have hrun : ∀ ad : Addr, (Instr.fieldAt s (.pointer (some ad)) fi).run P w = .ok (.pointer (some (ad.add fld.offset))) w := by
    intro ad
    simp [Instr.fieldAt, run_underlying hu, hfld', Instr.sureAddr, fieldPlace, sizeOf, typeInfo, hf, f1, hsz]
  split at h
  · rename_i o o'
    cases h
    obtain ⟨b, hpo, hv⟩ := (AVn.s rfl (by simp) (by simp)).1 hx
    cases hv
    refine ⟨_, hrun _, Post.pure hg ((AVn.s rfl (by simp) (by simp)).2 ⟨b, hpo, by rw [add_none]⟩) (fun j hj => hkn j hj), rfl⟩
  · rename_i o o' t i so
    cases h
    obtain ⟨b, hb, hrm, hv⟩ := (AVn.s rfl (by simp) (by simp)).1 hx
    cases hv
    refine ⟨_, hrun _, Post.pure hg ((AVn.s rfl (by simp) (by simp)).2 ⟨b, hb, hrm, by rw [add_none, Nat.add_assoc]⟩) (fun j hj => hkn j hj), rfl⟩
  · rename_i t y
    split at h
    case h_2 => cases h
    rename_i t' z hn
    cases h
    obtain ⟨b, off', c, us, hz, g1, g2, g3, g4, hv⟩ := (AVn.s rfl (by simp) (by simp)).1 hx
    cases hv
    obtain ⟨k1, k2, k3, k4⟩ := nav_sound (P := P) (B := B) (pl := pl) (cs := us) hn g4
    have k2 : Reps w Z t' z ((us.drop fld.offset).take fti.size) := k2
    have hl := k2.len
    have hlen : ((us.drop fld.offset).take fti.size).length = fti.size := by rw [List.length_take, List.length_drop]; omega
    refine ⟨_, hrun _, Post.pure hg ((AVn.s rfl (by simp) (by simp)).2 ⟨b, off' + fld.offset, c, (us.drop fld.offset).take fti.size, hz, g1, hl, fun j hj => ?_, k2, by rw [add_none]⟩) (by simp [AV.refs]), rfl⟩
    rw [hlen] at hl
    rw [Nat.add_assoc, g3 _ (by omega), List.getElem?_take_of_lt (by omega), List.getElem?_drop]
  · cases h
end
end A
end Go.Proofs.Ythgnjimpakpkjaa
namespace Go.Proofs.Ythgnjimpakpkjaa
namespace A
section
variable {P : Program} {B : Base} {tb : Tab} {H Hr : Heap} {pl : Nat → Place} {Z : Nat → Prop} {w w' : World} {T : Nat → AV} {a : Act} {g : Option (Nat × Bool)} {d : Nat}

theorem index_str_sound (hT : TOK P tb) (hg : GR P B pl Z w H) {t : Nat} {ti : TI} (ht : tb.get t = some ti) (hk : ti.k = .str) {s : List UInt8} {k : IntKind} {i : Int} {x y : Value}
    (hx : AVn P B pl Z w (.val .str s) x) (hy : AVn P B pl Z w (.val (.int k) i) y) (hp : idxRange i s.length) :
    ∃ u, (Instr.index t x y).run P w = .ok u w ∧ Post P B H pl Z w [] (.val (.int .u8) (icast (s.getD i.toNat 0).toNat)) u w := by
  obtain ⟨rfl, _⟩ := hx.str
  obtain ⟨rfl, _⟩ := hy.int
  have hsz := ba_size s
  obtain ⟨h1, h2⟩ := hp
  have hrun := run_index_string (P := P) w t ⟨s.toArray⟩ k i (und_str hT ht hk)
  rw [dif_pos ⟨h1, by rw [hsz]; exact h2⟩] at hrun
  refine ⟨_, hrun, ?_⟩
  have hlt : i.toNat < s.length := by omega
  have e : ((⟨s.toArray⟩ : ByteArray)[i.toNat]'(by rw [hsz]; exact hlt)) = s.getD i.toNat 0 := by
    rw [List.getD_eq_getElem?_getD, List.getElem?_eq_getElem hlt]
    show (s.toArray)[i.toNat]'_ = _
    simp
  rw [e]
  refine Post.int hg ⟨?_, ?_⟩
  · show (0 : Int) ≤ ((s.getD i.toNat 0).toNat : Int); omega
  · have := (s.getD i.toNat 0).toNat_lt
    show ((s.getD i.toNat 0).toNat : Int) ≤ (255 : Int)
    omega

theorem index_arn_sound (hT : TOK P tb) (hg : GR P B pl Z w H) {t : Nat} {ti : TI} (ht : tb.get t = some ti) {n : Nat} {e : Ty} (hk : isAr tb ti.k n e = true) {l : List (El e)} {k : IntKind} {i : Int} {x y : Value}
    (hx : AVn P B pl Z w (.val (.arn n e) l) x) (hy : AVn P B pl Z w (.val (.int k) i) y) (hp : idxRange i n) :
    ∃ u, (Instr.index t x y).run P w = .ok u w ∧ Post P B H pl Z w [] (.val e (l.getD i.toNat (dflt e))) u w := by
  obtain ⟨e', hk', hty⟩ := isAr_of hk
  obtain ⟨ei, f, he, hf, f1, _⟩ := ty_info hT hty
  obtain ⟨rfl, _⟩ := hy.int
  have hx : AV1 P B pl Z w (.val (.arn n e) l) x := hx
  unfold AV1 at hx
  rw [if_pos (show (AV.val (.arn n e) l).isSt = true from rfl)] at hx
  obtain ⟨us, rfl, hx2⟩ := hx
  have hx : Reps w Z (.arn n e) l us := hx2
  obtain ⟨h1, h2⟩ := hp
  obtain ⟨a1, a2, a3⟩ := Reps.arn_iff.1 hx
  have hlt : i.toNat < l.length := by omega
  have hgt : l[i.toNat]? = some (l.getD i.toNat (dflt e)) := by rw [List.getD_eq_getElem?_getD]; simp [hlt]
  have hcell := a3 _ _ hgt
  have hlen := hcell.len
  have hsz : (sizeOf e').run P w = .ok (csize e) w := by rw [run_sizeOf' hT he, ty_size hT he (by
    obtain ⟨ei2, h3, h4⟩ := Option.bind_eq_some_iff.1 hty
    have h3 : tb.get e' = some ei2 := h3
    rw [he] at h3; cases h3; exact h4)]
  have hst : A.isSt e = ei.agg := by
    have hgd := hT.good e' ei he
    obtain ⟨ei2, h3, h4⟩ := Option.bind_eq_some_iff.1 hty
    have h3 : tb.get e' = some ei2 := h3
    rw [he] at h3; cases h3
    unfold TI.good at hgd
    rw [h4] at hgd
    simp only [Bool.and_eq_true, beq_iff_eq] at hgd
    exact hgd.1.1.1.1.1
  obtain ⟨v, hv1, hv2⟩ : ∃ v, (part e' us.toArray (i.toNat * csize e)).run P w = .ok v w ∧ (if ei.agg then v = .agg ((us.drop (i.toNat * csize e)).take (csize e)).toArray else (us.drop (i.toNat * csize e)).take (csize e) = [v]) := by
    by_cases ha : ei.agg = true
    · refine ⟨_, ?_, by rw [if_pos ha]⟩
      simp only [part, Sem.run_bind, und_agg hT he, ha, Result.andThen_ok, if_true, hsz]
      simp [List.extract_eq_take_drop]
    · have ha : ei.agg = false := by simpa using ha
      have hs1 := size_of_agg hT he ha
      have hone : csize e = 1 := by
        rw [← f1, show f.size = ei.size from by
          obtain ⟨f', hf', q1, _⟩ := hT.info _ _ he
          rw [hf] at hf'; cases hf'; exact q1, hs1]
      have hlen := hlen.trans hone
      obtain ⟨v, hm⟩ := List.length_eq_one_iff.1 hlen
      · refine ⟨v, ?_, by rw [ha]; simp [hm]⟩
        have hu : us[i.toNat * csize e + 0]? = some v := drop_take_getElem? us _ (csize e) 0 v (by rw [hm]; rfl)
        rw [Nat.add_zero] at hu
        simp only [part, Sem.run_bind, und_agg hT he, ha, Result.andThen_ok]
        simp [hu]
  refine ⟨v, ?_, Post.pure hg (AVn.of1 (AV1_of_cells (v := .val e (l.getD i.toNat (dflt e))) hst hcell hv2)) (by simp [AV.refs])⟩
  simp only [Instr.index, asIntOf, Sem.run_bind, Sem.run_pure, Result.andThen_ok, run_underlying (und_array hT ht hk')]
  rw [if_pos ⟨h1, h2⟩]
  simp only [Sem.run_bind, hsz, Result.andThen_ok, hv1]

theorem extract_sound (hg : GR P B pl Z w H) {l v : AV} {i : Nat} {x : Value} (hkn : ∀ o, o ∈ (AV.tup l).refs → isFree (H o) = false) (hx : AVn P B pl Z w (.tup l) x) (h : l.toL[i]? = some v) :
    ∃ u, (Instr.extract x i).run P w = .ok u w ∧ Post P B H pl Z w [] v u w := by
  obtain ⟨us, rfl, ht⟩ := hx
  have gen : ∀ (l : AV) (us : List Value) (i : Nat), AVt P B pl Z w l us → l.toL[i]? = some v → ∃ u, us[i]? = some u ∧ AV1 P B pl Z w v u ∧ ∀ o, o ∈ v.refs → o ∈ l.refs := by
    intro l
    induction l with
    | cons p q _ ihq =>
      intro us i ht h
      obtain ⟨u, r, rfl, h1, h2⟩ := ht
      cases i with
      | zero =>
        simp only [AV.toL, List.getElem?_cons_zero, Option.some.injEq] at h
        subst h
        exact ⟨u, rfl, h1, fun o ho => by simp [AV.refs, ho]⟩
      | succ i =>
        simp only [AV.toL, List.getElem?_cons_succ] at h
        obtain ⟨u', g1, g2, g3⟩ := ihq r i h2 h
        exact ⟨u', by rw [List.getElem?_cons_succ]; exact g1, g2, fun o ho => by simp [AV.refs, g3 o ho]⟩
    | _ => intro us i _ h; simp [AV.toL] at h
  obtain ⟨u, h1, h2, h3⟩ := gen l us i ht h
  refine ⟨u, ?_, Post.pure hg (AVn.of1 h2) (fun o ho => hkn o (h3 o ho))⟩
  simp [Instr.extract, h1]

theorem un_sound {wrap : Bool} (hg : GR P B pl Z w H) {op : UnOp} {v : AV} {x : Value} {e : Eff} (hx : AVn P B pl Z w v x) (h : unEff wrap op v = some e) (hp : ∀ p, p ∈ e.pre → p) :
    ∃ u, (Op.unary op x).run P w = .ok u w ∧ Post P B H pl Z w e.wr e.dst u w := by
  unfold unEff at h
  split at h
  · cases h
    obtain rfl := hx.bool
    exact ⟨_, by simp [Op.unary], Post.pure hg (AVn.mkBool _) (by simp [AV.refs])⟩
  · rename_i k n
    obtain ⟨rfl, _⟩ := hx.int
    refine ⟨_, ?_, arith_sound hg h hp⟩
    have e0 : (0 : Int) - (show Int from n) = ineg n := Int.zero_sub _
    simp only [Op.unary, Op.intArith]
    simp only [Sem.run_pure]
    exact congrArg (fun z => Result.ok (Value.int k (k.wrap z)) w) e0
  · cases h

theorem convert_sound {wrap : Bool} (hT : TOK P tb) (hg : GR P B pl Z w H) {s t : Nat} {v : AV} {x : Value} {e : Eff}
    (h : (match tb.k s, tb.k t, v with
      | some (.int _), some (.int k), .val (.int k') n => if k = k' then aPure (.val (.int k) n) else if wrap then aPure (.val (.int k) (k.wrap n)) else some ⟨[inR k n], .val (.int k) n, []⟩
      | some .str, some .str, .val .str s => aPure (.val .str s)
      | _, _, _ => none) = some e) (hx : AVn P B pl Z w v x) (hp : ∀ p, p ∈ e.pre → p) :
    ∃ u, (convert s t x).run P w = .ok u w ∧ Post P B H pl Z w e.wr e.dst u w := by
  have hk : ∀ {t k}, tb.k t = some k → ∃ ti, tb.get t = some ti ∧ ti.k = k := fun h => opt_map h
  split at h
  · rename_i k0 k k' n hs ht
    obtain ⟨si, hs, hs'⟩ := hk hs
    obtain ⟨ti, ht, ht'⟩ := hk ht
    have hu := und_of hT hs
    rw [hs'] at hu
    have hu2 := und_of hT ht
    rw [ht'] at hu2
    obtain ⟨rfl, hn⟩ := hx.int
    have hrun : (convert s t (.int k' n)).run P w = .ok (.int k (k.wrap n)) w := by
      simp only [convert, Sem.run_bind, run_underlying hu, run_underlying hu2, Result.andThen_ok]
      simp [Conv.intToInt]
    split at h
    · rename_i hkk
      subst hkk
      cases h
      rw [wrap_inR hn] at hrun
      exact ⟨_, hrun, Post.int hg hn⟩
    · split at h
      · cases h; exact ⟨_, hrun, Post.int hg (inR_wrap k n)⟩
      · cases h
        have := hp _ (List.mem_singleton.2 rfl)
        rw [wrap_inR this] at hrun
        exact ⟨_, hrun, Post.int hg this⟩
  · rename_i l hs ht
    obtain ⟨si, hs, hs'⟩ := hk hs
    obtain ⟨ti, ht, ht'⟩ := hk ht
    have hu := und_of hT hs
    rw [hs'] at hu
    have hu2 := und_of hT ht
    rw [ht'] at hu2
    cases h
    obtain ⟨rfl, hn⟩ := hx.str
    refine ⟨.string ⟨List.toArray l⟩, ?_, Post.pure hg hx (by simp [AV.refs])⟩
    simp [convert, run_underlying hu, run_underlying hu2]
  · cases h

theorem inR_max {k : IntKind} {n y : Int} (h1 : inR k n) (h2 : inR k y) : inR k (imax n y) := by
  unfold imax; rw [Int.max_def]; split <;> assumption
theorem inR_min {k : IntKind} {n y : Int} (h1 : inR k n) (h2 : inR k y) : inR k (imin n y) := by
  unfold imin; rw [Int.min_def]; split <;> assumption
theorem if_max (n y : Int) : (if y > n then y else n) = imax n y := by unfold imax; rw [Int.max_def]; split <;> split <;> omega
theorem if_min (n y : Int) : (if y < n then y else n) = imin n y := by unfold imin; rw [Int.min_def]; split <;> split <;> omega

theorem minMax_sound (hg : GR P B pl Z w H) {mx : Bool} {ts : Array TypeId} {ty : TypeId} {vs : List AV} {xs : Array Value} {e : Eff} (h : minMax mx vs = some e)
    (hx : vs.length = xs.toList.length ∧ ∀ (i : Nat) (v : AV) (x : Value), vs[i]? = some v → xs.toList[i]? = some x → AVn P B pl Z w v x) :
    ∃ u, (if mx then Builtin.max_ ts ty xs else Builtin.min_ ts ty xs).run P w = .ok u w ∧ Post P B H pl Z w e.wr e.dst u w ∧ e.pre = [] := by
  have gen : ∀ (vs : List AV) (xs : List Value) (k : IntKind) (n : Int), inR k n → minMax.go mx k n vs = some e → (vs.length = xs.length ∧ ∀ (i : Nat) (v : AV) (x : Value), vs[i]? = some v → xs[i]? = some x → AVn P B pl Z w v x) →
      ∃ u, (xs.foldlM (if mx then Builtin.max2 else Builtin.min2) (.int k n)).run P w = .ok u w ∧ Post P B H pl Z w e.wr e.dst u w ∧ e.pre = [] := by
    intro vs
    induction vs with
    | nil =>
      intro xs k n hn h hx
      simp only [minMax.go] at h
      cases h
      match xs, hx.1 with
      | [], _ => exact ⟨.int k n, by simp, Post.int hg hn, rfl⟩
    | cons v vs ih =>
      intro xs k n hn h hx
      match xs, hx.1 with
      | x :: xs, hl =>
        have hv := hx.2 0 v x rfl rfl
        cases v <;> try (simp [minMax.go] at h; done)
        rename_i t y
        cases t <;> try (simp [minMax.go] at h; done)
        rename_i k'
        simp only [minMax.go] at h
        split at h
        case isFalse => cases h
        rename_i hkk
        subst hkk
        obtain ⟨rfl, hm⟩ := hv.int
        cases mx with
        | true =>
          have hin : inR k (imax n y) := inR_max hn hm
          obtain ⟨u, h1, h2⟩ := ih xs k _ hin h ⟨by simpa using hl, fun i v x hi hj => hx.2 (i + 1) v x (by simpa using hi) (by simpa using hj)⟩
          refine ⟨u, ?_, h2⟩
          have e1 : (if (show Int from y) > n then (show Int from y) else n) = imax n y := if_max n y
          simp only [if_true] at h1 ⊢
          simp only [List.foldlM_cons, Builtin.max2, Sem.run_bind, Sem.run_pure, Result.andThen_ok]
          exact (congrArg (fun z => Sem.run P (List.foldlM Builtin.max2 (.int k z) xs) w = _) e1).mpr h1
        | false =>
          have hin : inR k (imin n y) := inR_min hn hm
          obtain ⟨u, h1, h2⟩ := ih xs k _ hin h ⟨by simpa using hl, fun i v x hi hj => hx.2 (i + 1) v x (by simpa using hi) (by simpa using hj)⟩
          refine ⟨u, ?_, h2⟩
          have e1 : (if (show Int from y) < n then (show Int from y) else n) = imin n y := if_min n y
          simp only [Bool.false_eq_true, if_false] at h1 ⊢
          simp only [List.foldlM_cons, Builtin.min2, Sem.run_bind, Sem.run_pure, Result.andThen_ok]
          exact (congrArg (fun z => Sem.run P (List.foldlM Builtin.min2 (.int k z) xs) w = _) e1).mpr h1
  unfold minMax at h
  split at h
  case h_2 => cases h
  rename_i k n vs'
  match hxs : xs.toList, hx with
  | x :: xs', hx =>
    obtain ⟨rfl, hn⟩ := (hx.2 0 _ x rfl rfl).int
    obtain ⟨u, h1, h2⟩ := gen vs' xs' k n hn h ⟨by simpa using hx.1, fun i v x hi hj => hx.2 (i + 1) v x (by simpa using hi) (by simpa using hj)⟩
    refine ⟨u, ?_, h2⟩
    cases mx with
    | true => simp only [if_true] at h1 ⊢; simp only [Builtin.max_, hxs]; exact h1
    | false => simp only [Bool.false_eq_true, if_false] at h1 ⊢; simp only [Builtin.min_, hxs]; exact h1
  | [], hx => simp at hx
end
end A
end Go.Proofs.Ythgnjimpakpkjaa
namespace Go.Proofs.Ythgnjimpakpkjaa
namespace A
section
variable {P : Program} {B : Base} {tb : Tab} {H Hr : Heap} {pl : Nat → Place} {Z : Nat → Prop} {w w' : World} {T : Nat → AV} {a : Act} {g : Option (Nat × Bool)} {d : Nat}

/-- where the elements behind a slice lie -/
def Lies (w : World) (Z : Nat → Prop) (t : Ty) (l : List (El t)) (x : Value) : Prop :=
  ∃ ad cap, x = .slice ad l.length cap ∧ l.length ≤ cap ∧ l.length < LIM ∧ (l.length = 0 ∨ ∃ b off c, ad = some ⟨b, off, none⟩ ∧ blk w b = some c ∧ Elts w Z t l c off)

theorem Lies.of {t : Ty} {l : List (El t)} {x : Value} (h : Reps w Z (.sl t) l [x]) : Lies w Z t l x := by
  obtain ⟨ad, cap, hv, q1, q2, q3⟩ := Reps.sl_iff.1 h
  cases hv
  exact ⟨ad, cap, rfl, q1, q2, q3.imp id fun ⟨b, off, c, h1, _, h3, h4⟩ => ⟨b, off, c, h1, h3, h4⟩⟩

theorem listOf_lies {H : Heap} {t : Ty} {v : AV} {l : List (El t)} {x : Value} (hg : ∀ o c, H o = .live c → OB P B pl Z w (pl o) c) (h : listOf H t v = some l) (hv : AVs P B pl Z w v [x]) : Lies w Z t l x := by
  unfold listOf at h
  split at h
  · rename_i a l0
    obtain ⟨rfl, rfl⟩ := castL_eq h
    exact Lies.of hv
  · rename_i a l0
    obtain ⟨rfl, rfl⟩ := castL_eq h
    obtain ⟨a', h1, h2⟩ := hv
    exact Lies.of h2
  · simp only [Option.some.injEq] at h
    subst h
    obtain ⟨a, ha⟩ := hv
    cases ha
    exact ⟨a, 0, rfl, Nat.le_refl _, by simp [LIM], .inl rfl⟩
  · rename_i o
    split at h
    · rename_i a l0 ho
      obtain ⟨rfl, rfl⟩ := castL_eq h
      obtain ⟨a', n, cap, h1, h2⟩ := hv
      cases h2
      have hob := hg o _ ho
      rw [h1] at hob
      obtain ⟨g1, g2, g3, g4⟩ := hob
      have g1 : List.length l = n := g1
      refine ⟨a', cap, by rw [← g1], by rw [← g1] at g2; exact g2, by rw [← g1] at g3; exact g3, ?_⟩
      rcases g4 with g4 | ⟨b, arr, T, e1, e2, e3, e4, e5⟩
      · exact .inl (by omega)
      · exact .inr ⟨b, 0, arr, e1, blk_of_heap e3, e5⟩
    · cases h
  · rename_i o m a lo n
    obtain ⟨ad, cap, h1, h2, h0, h3⟩ := hv
    cases h1
    split at h
    · rename_i b l0 ho
      split at h
      · rename_i hab
        simp only [Bool.and_eq_true, decide_eq_true_eq] at hab
        obtain ⟨rfl, rfl⟩ := hab
        rw [Option.map_eq_some_iff] at h
        obtain ⟨l1, h4, h5⟩ := h
        obtain ⟨rfl, rfl⟩ := castL_eq h4
        subst h5
        have hob := hg o _ ho
        cases hp : pl o with
        | box b => rw [hp] at h0; exact absurd h0.1 (Nat.lt_irrefl _)
        | slc a' n' cap' =>
          rw [hp] at h0 h3 hob
          obtain ⟨_, h0⟩ := h0
          obtain ⟨g1, g2, g3, g4⟩ := hob
          have hlen : (List.take n (List.drop lo (show List (El a) from l1))).length = n := by
            rw [List.length_take, List.length_drop]
            have : (show List (El a) from l1).length = n' := g1
            omega
          refine ⟨ad, cap, by rw [show (List.take n (List.drop lo (show List (El a) from l1))).length = n from hlen], ?_, ?_, ?_⟩
          · exact Nat.le_trans (Nat.le_of_eq hlen) h2
          · exact Nat.lt_of_le_of_lt (Nat.le_of_eq hlen) (by omega)
          · rcases h3 with h3 | ⟨b, hb, ha⟩
            · exact .inl (hlen.trans h3)
            · rcases g4 with g4 | ⟨b', arr, T, e1, e2, e3, e4, e5⟩
              · exfalso
                cases a' <;> simp only [Place.block] at hb
                · cases hb
                · rw [if_pos g4] at hb; cases hb
              · have hbb : b' = b := by
                  rw [e1] at hb
                  simp only [Place.block] at hb
                  split at hb
                  · cases hb
                  · exact Option.some.inj hb
                subst hbb
                refine .inr ⟨b', lo * csize a, arr, ha, blk_of_heap e3, ?_⟩
                have := (e5.drop (k := lo)).take (k := n)
                rw [Nat.zero_add] at this
                exact this
      · cases h
    · rename_i k b l0 ho
      split at h
      · rename_i hab
        simp only [Bool.and_eq_true, decide_eq_true_eq] at hab
        obtain ⟨⟨⟨rfl, rfl⟩, hm⟩, hm2⟩ := hab
        rw [Option.map_eq_some_iff] at h
        obtain ⟨l1, h4, h5⟩ := h
        obtain ⟨rfl, rfl⟩ := castL_eq h4
        subst h5
        have hob := hg o _ ho
        cases hp : pl o with
        | slc a' n' cap' => rw [hp] at h0; exact absurd h0.1 (by omega)
        | box b =>
          rw [hp] at h0 h3 hob
          obtain ⟨_, h0⟩ := h0
          obtain ⟨g1, cs, T, g2, g3⟩ := hob
          have g3 : Reps w Z (.arn m a) l1 cs := g3
          have harn := Reps.arn_iff.1 g3
          have hlen : (List.take n (List.drop lo (show List (El a) from l1))).length = n := by
            rw [List.length_take, List.length_drop]
            have : (show List (El a) from l1).length = m := harn.1
            omega
          have hlim : n < LIM := by have : LIM = 4294967296 := rfl; omega
          refine ⟨ad, cap, by rw [show (List.take n (List.drop lo (show List (El a) from l1))).length = n from hlen], Nat.le_trans (Nat.le_of_eq hlen) h2, Nat.lt_of_le_of_lt (Nat.le_of_eq hlen) hlim, ?_⟩
          by_cases hn : n = 0
          · exact .inl (hlen.trans hn)
          · rcases h3 with h3 | ⟨b', hb, ha⟩
            · exact absurd h3 hn
            · simp only [Place.block, Option.some.injEq] at hb
              subst hb
              refine .inr ⟨b, lo * csize a, cs.toArray, ha, blk_of_heap g2, ?_⟩
              have h6 := Reps.arn_elts (pre := []) (post := []) g3
              have h7 := (h6.drop (k := lo)).take (k := n)
              simp only [List.nil_append, List.append_nil, List.length_nil, Nat.zero_add] at h7
              exact h7
      · cases h
    · cases h
  · cases h

/-- the cells of a row of elements -/
theorem Elts.cells {t : Ty} {l : List (El t)} {c : Array Value} {off : Nat} (h : Elts w Z t l c off) : ∃ news : List Value, news.length = l.length * csize t ∧ (∀ j u, news[j]? = some u → c[off + j]? = some u) ∧
    (∀ u, u ∈ news → u.oneCell' = true) ∧ Elts w Z t l news.toArray 0 := by
  have cell : ∀ p, p < l.length * csize t → ∃ u, c[off + p]? = some u ∧ u.oneCell' = true := by
    intro p hp
    have hpos : 0 < csize t := by
      rcases Nat.eq_zero_or_pos (csize t) with h | h
      · rw [h, Nat.mul_zero] at hp; omega
      · exact h
    have hm : p / csize t < l.length := Nat.div_lt_of_lt_mul (by rwa [Nat.mul_comm])
    obtain ⟨us, u1, u2, u3⟩ := h (p / csize t) l[p / csize t] (List.getElem?_eq_getElem hm)
    have hj := Nat.mod_lt p hpos
    have hus : us[p % csize t]? = some us[p % csize t] := List.getElem?_eq_getElem (by omega)
    refine ⟨us[p % csize t], ?_, u3.one _ (List.getElem_mem _)⟩
    rw [← hus, ← u2 _ hj, Nat.add_assoc]
    congr 2
    rw [Nat.mul_comm]; exact (Nat.div_add_mod p _).symm
  have hlen : ((c.toList.drop off).take (l.length * csize t)).length = l.length * csize t := by
    rw [List.length_take, List.length_drop]
    by_cases h0 : l.length * csize t = 0
    · omega
    · obtain ⟨u, hu, _⟩ := cell (l.length * csize t - 1) (by omega)
      have := (Array.getElem?_eq_some_iff.1 hu).1
      simp only [Array.length_toList]
      omega
  have hget : ∀ j u, ((c.toList.drop off).take (l.length * csize t))[j]? = some u → c[off + j]? = some u := by
    intro j u hu
    have := drop_take_getElem? _ _ _ _ _ hu
    simpa using this
  refine ⟨_, hlen, hget, fun u hu => ?_, fun i x hx => ?_⟩
  · obtain ⟨j, hj, rfl⟩ := List.mem_iff_getElem.1 hu
    rw [hlen] at hj
    have h1 := hget j _ (List.getElem?_eq_getElem (by rw [hlen]; exact hj))
    obtain ⟨u', h2, h3⟩ := cell j hj
    rw [h1] at h2
    cases h2
    exact h3
  · obtain ⟨us, u1, u2, u3⟩ := h i x hx
    refine ⟨us, u1, fun j hj => ?_, u3⟩
    have hi : i < l.length := by
      by_cases hi : i < l.length
      · exact hi
      · rw [List.getElem?_eq_none (by omega)] at hx; cases hx
    have hb : (i + 1) * csize t ≤ l.length * csize t := Nat.mul_le_mul_right _ (by omega)
    rw [Nat.add_mul, Nat.one_mul] at hb
    rw [← u2 j hj, List.getElem?_toArray, List.getElem?_take_of_lt (by omega), List.getElem?_drop]
    simp [Nat.add_assoc]

theorem Elts.append {t : Ty} {l m : List (El t)} {c1 c2 c3 : List Value} (h1 : Elts w Z t l c1.toArray 0) (hl : c1.length = l.length * csize t) (h2 : Elts w Z t m c2.toArray 0) (hm : c2.length = m.length * csize t) :
    Elts w Z t (l ++ m) (c1 ++ c2 ++ c3).toArray 0 := by
  intro i x hx
  have hcase : ∀ {n : List (El t)} {i : Nat} {x : El t}, n[i]? = some x → i < n.length := fun {n i x} hx => by
    by_cases hi : i < n.length
    · exact hi
    · rw [List.getElem?_eq_none (by omega)] at hx; cases hx
  by_cases hi : i < l.length
  · rw [List.getElem?_append_left hi] at hx
    obtain ⟨us, u1, u2, u3⟩ := h1 i x hx
    refine ⟨us, u1, fun j hj => ?_, u3⟩
    have hb : (i + 1) * csize t ≤ l.length * csize t := Nat.mul_le_mul_right _ (by omega)
    rw [Nat.add_mul, Nat.one_mul] at hb
    rw [← u2 j hj, List.getElem?_toArray, List.getElem?_toArray, List.append_assoc, List.getElem?_append_left (by omega)]
  · rw [List.getElem?_append_right (by omega)] at hx
    have hi2 := hcase hx
    obtain ⟨us, u1, u2, u3⟩ := h2 _ x hx
    refine ⟨us, u1, fun j hj => ?_, u3⟩
    have hb : (i - l.length + 1) * csize t ≤ m.length * csize t := Nat.mul_le_mul_right _ (by omega)
    rw [Nat.add_mul, Nat.one_mul] at hb
    have hs : i * csize t = l.length * csize t + (i - l.length) * csize t := by rw [← Nat.add_mul]; congr 1; omega
    rw [← u2 j hj, List.getElem?_toArray, List.getElem?_toArray, List.append_assoc, List.getElem?_append_right (by omega), List.getElem?_append_left (by omega)]
    congr 1
    omega

theorem Lies.cells {t : Ty} {l : List (El t)} {x : Value} (h : Lies w Z t l x) : ∃ (ad : Option Addr) (cap : Nat) (news : List Value), x = .slice ad l.length cap ∧ l.length ≤ cap ∧ l.length < LIM ∧ news.length = l.length * csize t ∧
    (l.length = 0 ∨ ∃ a', ad = some a') ∧ (∀ a', ad = some a' → ∀ j u, news[j]? = some u → w.cell? (a'.add j) = some u) ∧ (∀ u, u ∈ news → u.oneCell' = true) ∧ Elts w Z t l news.toArray 0 := by
  obtain ⟨ad, cap, h1, h2, h3, h4⟩ := h
  rcases h4 with h4 | ⟨b, off, c, e1, e2, e3⟩
  · refine ⟨ad, cap, [], h1, h2, h3, by rw [h4]; simp, .inl h4, (fun _ _ j u hu => by simp at hu), (fun u hu => by cases hu), fun i x hx => ?_⟩
    rw [List.length_eq_zero_iff.1 h4] at hx
    simp at hx
  · obtain ⟨news, n1, n2, n3, n4⟩ := e3.cells
    refine ⟨ad, cap, news, h1, h2, h3, n1, .inr ⟨_, e1⟩, fun a' ha' j u hu => ?_, n3, n4⟩
    rw [e1] at ha'
    cases ha'
    rw [add_none, cell_of_blk e2]
    exact n2 j u hu

theorem Lies.src {t : Ty} {l : List (El t)} {x : Value} (h : Lies w Z t l x) {tx e' : TypeId} (hk : P.underlying tx = some (.slice e')) : ∃ news : List Value, Src P (csize t) tx x l.length news w ∧ Elts w Z t l news.toArray 0 := by
  obtain ⟨ad, cap, news, h1, h2, h3, h4, h5, h6, h7, h8⟩ := h.cells
  refine ⟨news, ?_, h8⟩
  subst h1
  cases ad with
  | some a' => exact Src.ofSlice w hk a' _ cap news h4 (h6 a' rfl) h7
  | none =>
    rcases h5 with h5 | ⟨a', h5⟩
    · rw [h5]
      rw [h5, Nat.zero_mul, List.length_eq_zero_iff] at h4
      subst h4
      exact Src.ofNil w hk cap
    · cases h5
end
end A
end Go.Proofs.Ythgnjimpakpkjaa
namespace Go.Proofs.Ythgnjimpakpkjaa
namespace A
section
variable {P : Program} {B : Base} {tb : Tab} {H Hr : Heap} {pl : Nat → Place} {Z : Nat → Prop} {w w' : World} {T : Nat → AV} {a : Act} {g : Option (Nat × Bool)} {d : Nat}

theorem run_append_room' {t tx ty e : TypeId} {i : TypeInfo} (ht : P.underlying t = some (.slice e)) (hi : P.info? e = some i) {b sLen sCap : Nat} {x : Value} {n : Nat} {news : List Value} (hs : Src P i.size tx x n news w)
    {cur : Array Value} {Tc : TypeId} (hg : w.heap[b]? = some (.cells cur Tc (0, 0))) (hroom : sLen + n ≤ sCap) (hfit : sLen * i.size + news.length ≤ cur.size) :
    (Builtin.append_ #[t, tx] ty #[.slice (some ⟨b, 0, none⟩) sLen sCap, x]).run P w =
      .ok (.slice (some ⟨b, 0, none⟩) (sLen + n) sCap) (w.setRow b (cur.toList.take (sLen * i.size) ++ news ++ cur.toList.drop (sLen * i.size + news.length)).toArray) := by
  have hst := run_storeCells_at P b (sLen * i.size) Tc news 0 cur w hg (by simpa using hfit) hs.one
  simp only [Nat.add_zero] at hst
  rcases hs.kind with ⟨e', hk⟩ | hk <;> simp [Builtin.append_, run_underlying ht, run_underlying hk, sizeOf, typeInfo, hi, hs.len, hroom, hs.cells, Addr.add_lit, hst]

theorem Elts.appendR {t : Ty} {l m : List (El t)} {cur : Array Value} {news : List Value} (h1 : Elts w Z t l cur 0) (h2 : Elts w Z t m news.toArray 0) (hm : news.length = m.length * csize t) (hfit : l.length * csize t + news.length ≤ cur.size) :
    Elts w Z t (l ++ m) (cur.toList.take (l.length * csize t) ++ news ++ cur.toList.drop (l.length * csize t + news.length)).toArray 0 := by
  refine Elts.append (c1 := cur.toList.take (l.length * csize t)) ?_ (by rw [List.length_take]; simp; omega) h2 hm
  intro i x hx
  obtain ⟨us, u1, u2, u3⟩ := h1 i x hx
  refine ⟨us, u1, fun j hj => ?_, u3⟩
  have hi : i < l.length := by
    by_cases hi : i < l.length
    · exact hi
    · rw [List.getElem?_eq_none (by omega)] at hx; cases hx
  have hb : (i + 1) * csize t ≤ l.length * csize t := Nat.mul_le_mul_right _ (by omega)
  rw [Nat.add_mul, Nat.one_mul] at hb
  rw [← u2 j hj, List.getElem?_toArray, List.getElem?_take_of_lt (by omega)]
  simp

/-- a row in a block of its own grows into a new one -/
theorem grow_run {t tx ty e : TypeId} {f : TypeInfo} {z : Value} (ht : P.underlying t = some (.slice e)) (hf : P.info? e = some f) (hz : f.zero = some z) (hby : f.bytes ≤ 32768) {u : Ty} (hsz : f.size = csize u) (hzs : z.cells.size = csize u)
    {l m : List (El u)} {x y : Value} (hl : Lies w Z u l x) (hm : Lies w Z u m y) {e' : TypeId} (hk : P.underlying tx = some (.slice e')) (hlt : (l ++ m).length < LIM) {ad : Option Addr} {cap : Nat} (hx : x = .slice ad l.length cap) (hg : cap < l.length + m.length) :
    ∃ cap' cs Tc w', (Builtin.append_ #[t, tx] ty #[x, y]).run P w = .ok (.slice (some ⟨w.heap.size, 0, none⟩) (l ++ m).length cap') w' ∧ (w'.heap = w.heap.push (.cells cs Tc) ∧ Io w w') ∧ cs.size = cap' * csize u ∧ (l ++ m).length ≤ cap' ∧ Elts w Z u (l ++ m) cs 0 := by
  obtain ⟨ad1, cap1, olds, hx1, _, _, o1, o2, o3, o4, o5⟩ := hl.cells
  rw [hx] at hx1
  cases hx1
  obtain ⟨news, hs, n1⟩ := hm.src hk
  rw [← hsz] at hs
  have hlen : (l ++ m).length = l.length + m.length := List.length_append
  rw [hlen] at hlt
  have hold : (Builtin.firstCells f.size l.length (.slice ad l.length cap)).run P w.drew = .ok olds.toArray w.drew := by
    cases ad with
    | some a' => exact run_firstCells_some w.drew f.size _ a' _ cap olds (by rw [hsz]; exact o1) (by simpa using o3 a' rfl)
    | none =>
      rcases o2 with o2 | ⟨a', o2⟩
      · rw [o2, Nat.zero_mul, List.length_eq_zero_iff] at o1
        subst o1
        exact run_firstCells_none w.drew f.size _ _ cap
      · cases o2
  unfold LIM at hlt
  have hfit : Builtin.nextslicecap (l.length + m.length) cap * f.bytes ≤ 281474976710656 := by
    refine growslice_fits hg ?_
    have h1 : (l.length + m.length) * f.bytes ≤ 4294967296 * 32768 := Nat.mul_le_mul (by omega) hby
    omega
  have hrun := run_append_grow_src (P := P) w t tx ty e f z ht hf hz ad l.length cap olds hold y m.length news hs hg (by omega) hfit
  have hge := grownCap_ge w (l.length + m.length) cap e
  refine ⟨grownCap w (l.length + m.length) cap e, (olds ++ news).toArray ++ Builtin.zeroCells z.cells (grownCap w (l.length + m.length) cap e - (l.length + m.length)), e, _, by rw [hx, hrun, hlen], ?_, ?_, ?_, ?_⟩
  · exact ⟨rfl, rfl, rfl⟩
  · simp only [Array.size_append, List.size_toArray, List.length_append, size_zeroCells, o1, hs.newsLen, hzs, hsz]
    rw [← Nat.add_mul, ← Nat.add_mul]
    congr 1
    omega
  · rw [hlen]; exact hge
  · have hrep : ((olds ++ news).toArray ++ Builtin.zeroCells z.cells (grownCap w (l.length + m.length) cap e - (l.length + m.length))) = (olds ++ news ++ (Builtin.zeroCells z.cells (grownCap w (l.length + m.length) cap e - (l.length + m.length))).toList).toArray := by
      apply Array.ext'
      simp
    rw [hrep]
    exact o5.append o1 n1 (by rw [hs.newsLen, hsz])

theorem append_sound (hT : TOK P tb) (hg : GR P B pl Z w H) (hlive : ∀ o v, Hr o = .live v → H o = .live v) (hfr : ∀ k, k < 16 → Hr (fam d k) = H (fam d k)) {v1 v2 : AV} (hkn1 : ∀ o, o ∈ v1.refs → isFree (H o) = false)
    {t tx ty e : TypeId} {ti : TI} {u : Ty} (ht : tb.get t = some ti) (hk : ti.k = .slice e) (hty : tb.ty e = some u) (hk2 : seqT tb tx Hr v2 = true) {x y : Value} {ef : Eff}
    (hx : AVn P B pl Z w v1 x) (hy : AVn P B pl Z w v2 y) (h : appEff Hr d u v1 v2 = some ef) (hp : ∀ p, p ∈ ef.pre → p) (hro : ∀ p, p ∈ ef.wr → B.ro p.1 = false) :
    ∃ r w', (Builtin.append_ #[t, tx] ty #[x, y]).run P w = .ok r w' ∧ Post P B H pl Z w ef.wr ef.dst r w' := by
  have hu := und_slice hT ht hk
  obtain ⟨ei, f, he, hf, f1, f3, f2, z6⟩ := ty_info hT hty
  have hzs : ei.zval.cells.size = csize u := by rw [← (Reps.zero (w := w) (Z := Z) u).len, ← z6]; simp
  have hob : ∀ o c, Hr o = .live c → OB P B pl Z w (pl o) c := fun o c ho => hg.ob o c (hlive o c ho)
  unfold appEff at h
  split at h
  · cases h
  rename_i m hm
  have hsz2 := listOf_size hm
  have hy1 : AVs P B pl Z w v2 [y] := by
    refine (AVn.s hsz2.2 ?_ ?_).1 hy
    · rintro rfl; simp [AV.size] at hsz2
    · rintro l rfl; simp [AV.size] at hsz2
  have hLm := listOf_lies hob hm hy1
  have hk2' : ∃ e', P.underlying tx = some (.slice e') := by
    unfold seqT at hk2
    split at hk2
    case h_2 => cases hk2
    rename_i tj htj
    unfold seqOK at hk2
    unfold listOf at hm
    split at hk2
    · simp at hm
    · obtain ⟨e', h1, _⟩ := isSl_of hk2; exact ⟨e', und_slice hT htj h1⟩
    · obtain ⟨e', h1, _⟩ := isSl_of hk2; exact ⟨e', und_slice hT htj h1⟩
    · split at hk2
      · rename_i e' h1; exact ⟨e', und_slice hT htj h1⟩
      · cases hk2
    · split at hk2
      · obtain ⟨e', h1, _⟩ := isSl_of hk2; exact ⟨e', und_slice hT htj h1⟩
      · cases hk2
    · obtain ⟨e', h1, _⟩ := isSl_of hk2; exact ⟨e', und_slice hT htj h1⟩
    · simp at hm
    · cases hk2
  obtain ⟨e', hu2⟩ := hk2'
  -- nothing is appended
  have none_run : m.length = 0 → ∀ {ad n cap}, x = .slice ad n cap → n ≤ cap → (Builtin.append_ #[t, tx] ty #[x, y]).run P w = .ok x w := by
    intro h0 ad n cap hx hle
    obtain ⟨news, hs, _⟩ := hLm.src hu2
    have hn : news = [] := by have := hs.newsLen; rw [h0, Nat.zero_mul] at this; exact List.length_eq_zero_iff.1 this
    rw [hn, h0, ← f1] at hs
    rw [hx]
    exact run_append_nothing w t tx ty e f hu hf ad n cap hle y hs
  split at h
  · -- onto nil
    obtain ⟨i, hi, h⟩ := opt_map h
    cases h
    have hlt := hp _ (List.mem_singleton.2 rfl)
    obtain ⟨ad, hv⟩ := (AVn.s rfl (by simp) (by simp)).1 hx
    cases hv
    by_cases h0 : m.length = 0
    · refine ⟨_, _, none_run h0 rfl (Nat.le_refl _), updP pl i (.slc ad 0 0), Z, ?_, updP_free (newId_free hfr hi), fun b hb => ⟨hb, rfl⟩, ?_, ?_, fun o ho => free_put (H := H) rfl o ho⟩
      · refine (hg.place (updP_free (newId_free hfr hi))).put ?_ (fun i' c' hi' hne b hb => ?_) (fun b hb => ?_) (fun o ho => by simp [AV.refs] at ho)
        · rw [updP_self]; exact ⟨h0, Nat.le_refl _, by unfold LIM; omega, .inl rfl⟩
        · rw [updP_self] at hb; obtain ⟨hc, _⟩ := Place.block_slc hb; exact absurd rfl hc
        · rw [updP_self] at hb; obtain ⟨hc, _⟩ := Place.block_slc hb; exact absurd rfl hc
      · exact (AVn.s rfl (by simp) (by simp)).2 ⟨_, _, _, updP_self _ _ _, rfl⟩
      · intro o ho
        have : o = i := by simpa [AV.refs] using ho
        subst this
        show isFree (A.put H o (.live _) o) = false
        rw [put_self]; rfl
    · have hL0 : Lies w Z u ([] : List (El u)) (.slice ad 0 0) := ⟨ad, 0, rfl, Nat.le_refl _, by simp [LIM], .inl rfl⟩
      obtain ⟨cap', cs, Tc, w', r1, r2, r3, r4, r5⟩ := grow_run (ty := ty) hu hf f3 f2 f1 hzs hL0 hLm hu2 (by simpa using hlt) rfl (by simp; omega)
      simp only [List.nil_append] at r1 r4 r5
      exact ⟨_, _, r1, new_vec hg (newId_free hfr hi) r4 hlt r3 r2.1 r2.2 (r5.mono' fun b hb => ⟨hb, push_old r2.1 b (hg.z b hb)⟩)⟩
  · -- onto a vector
    rename_i o
    split at h
    case h_2 => cases h
    rename_i t' l0 ho
    split at h
    case h_2 => cases h
    rename_i l hl
    obtain ⟨rfl, rfl⟩ := castL_eq hl
    obtain ⟨i, hi, h⟩ := opt_map h
    cases h
    have hlt := hp _ (List.mem_singleton.2 rfl)
    have hifree := newId_free hfr hi
    have hio : i ≠ o := fun e => by rw [e, hlive _ _ ho] at hifree; cases hifree
    obtain ⟨ad, n, cap, hpo, hv⟩ := (AVn.s rfl (by simp) (by simp)).1 hx
    cases hv
    have hob1 := hob o _ ho
    rw [hpo] at hob1
    have hob1' := hob1
    obtain ⟨k1, k2, k3, k4⟩ := hob1
    have k1 : List.length l = n := k1
    subst k1
    have hLl : Lies w Z t' l (.slice ad l.length cap) := by
      have := listOf_lies (pl := pl) (P := P) (B := B) (Z := Z) (w := w) hob (t := t') (v := .vec o) (l := l) (x := .slice ad l.length cap) (by simp only [listOf, ho]; exact hl) ⟨ad, l.length, cap, hpo, rfl⟩
      exact this
    have hk := hg.kill o
    have hifree' : isFree (A.put H o .dead i) = true := by rw [put_other _ _ hio]; exact hifree
    have hrefs : ∀ j, j ∈ (AV.vec i).refs → isFree (setH H [(o, .dead), (i, .live (.val (.sl t') (l ++ m)))] j) = false := by
      intro j hj
      have : j = i := by simpa [AV.refs] using hj
      subst this
      show isFree (A.put (A.put H o .dead) j (.live _) j) = false
      rw [put_self]; rfl
    have hfree : ∀ j, isFree (H j) = false → isFree (setH H [(o, .dead), (i, .live (.val (.sl t') (l ++ m)))] j) = false := fun j hj =>
      free_put (H := A.put H o .dead) rfl j (free_put (H := H) rfl j hj)
    by_cases h0 : m.length = 0
    · have hm0 : m = [] := List.length_eq_zero_iff.1 h0
      refine ⟨_, _, none_run h0 rfl k2, updP pl i (.slc ad l.length cap), Z, ?_, updP_free hifree, fun b hb => ⟨hb, rfl⟩, (AVn.s rfl (by simp) (by simp)).2 ⟨_, _, _, updP_self _ _ _, rfl⟩, hrefs, hfree⟩
      rw [hm0, List.append_nil]
      show GR P B _ Z w (A.put (A.put H o .dead) i (.live (.val (.sl t') l)))
      refine (hk.place (updP_free hifree')).put ?_ (fun i' c' hi' hne b hb => ?_) (fun b hb => ?_) (fun o ho => by simp [AV.refs] at ho)
      · rw [updP_self]; exact hob1'
      · rw [updP_self] at hb
        rw [updP_other _ _ hne]
        by_cases e1 : i' = o
        · subst e1; rw [put_self] at hi'; cases hi'
        · rw [put_other _ _ e1] at hi'
          exact hg.dj o i' _ _ (hlive _ _ ho) hi' (Ne.symm e1) b (by rw [hpo]; exact hb)
      · rw [updP_self] at hb
        exact (hg.baw (hlive _ _ ho) (hro (o, .dead) (by simp)) (by rw [hpo]; exact hb)).imp id .inl
    · by_cases hroom : l.length + m.length ≤ cap
      · rcases k4 with k4 | ⟨b, arr, Tc, r1, r2, r3, r4, r5⟩
        · omega
        · subst r1
          obtain ⟨news, hs, n1⟩ := hLm.src hu2
          have hnl := hs.newsLen
          rw [← f1] at hs
          have hfit : l.length * csize t' + news.length ≤ arr.size := by
            rw [hnl, r4, ← Nat.add_mul]
            exact Nat.mul_le_mul_right _ hroom
          have hrun := run_append_room' (ty := ty) hu hf hs r3 hroom (by rw [f1]; exact hfit)
          rw [f1] at hrun
          have hpb : (pl o).block = some b := by rw [hpo]; simp only [Place.block]; rw [if_neg (by omega)]
          have hZb : ¬ Z b := r2
          have hkeep := setRow_keeps (w := w) (new := (arr.toList.take (l.length * csize t') ++ news ++ arr.toList.drop (l.length * csize t' + news.length)).toArray) hZb
          have hdis : ∀ i' c', A.put H o .dead i' = .live c' → (pl i').block ≠ some b := by
            intro i' c' hi'
            by_cases e1 : i' = o
            · subst e1; rw [put_self] at hi'; cases hi'
            · rw [put_other _ _ e1] at hi'
              exact hg.dj o i' _ _ (hlive _ _ ho) hi' (Ne.symm e1) b hpb
          have ht1 : GR P B pl Z (w.setRow b (arr.toList.take (l.length * csize t') ++ news ++ arr.toList.drop (l.length * csize t' + news.length)).toArray) (A.put H o .dead) :=
            hk.touch (b := b) (by simp) ⟨rfl, rfl⟩ (fun k hk => setRow_ne hk) hZb (fun i' c' hi' => hdis i' c' hi') (hg.baw (hlive _ _ ho) (hro (o, .dead) (by simp)) hpb)
          refine ⟨_, _, hrun, updP pl i (.slc (some ⟨b, 0, none⟩) (l.length + m.length) cap), Z, ?_, updP_free hifree, hkeep, (AVn.s rfl (by simp) (by simp)).2 ⟨_, _, _, updP_self _ _ _, rfl⟩, hrefs, hfree⟩
          show GR P B _ Z _ (A.put (A.put H o .dead) i (.live (.val (.sl t') (l ++ m))))
          have hpb' : (Place.slc (some ⟨b, 0, none⟩) (l.length + m.length) cap).block = some b := by simp only [Place.block]; rw [if_neg (by omega)]
          refine (ht1.place (updP_free hifree')).put ?_ (fun i' c' hi' hne b' hb' => ?_) (fun b' hb' => ?_) (fun o ho => by simp [AV.refs] at ho)
          · rw [updP_self]
            refine ⟨List.length_append, hroom, by rw [List.length_append] at hlt; exact hlt, .inr ⟨b, _, Tc, rfl, hZb, setRow_heap w b _ _ Tc _ r3, ?_, ?_⟩⟩
            · simp only [List.size_toArray, List.length_append, List.length_take, List.length_drop, Array.length_toList]
              rw [← r4]; omega
            · exact (Elts.appendR r5 n1 hnl hfit).mono' hkeep
          · rw [updP_self, hpb'] at hb'
            cases hb'
            rw [updP_other _ _ hne]
            exact hdis i' c' hi'
          · rw [updP_self, hpb'] at hb'
            cases hb'
            exact (hg.baw (hlive _ _ ho) (hro (o, .dead) (by simp)) hpb).imp id .inl
      · obtain ⟨cap', cs, Tc, w', r1, r2, r3, r4, r5⟩ := grow_run (ty := ty) hu hf f3 f2 f1 hzs hLl hLm hu2 hlt rfl (by omega)
        obtain ⟨pl', Z', q1, q2, q3, q4, q5, q6⟩ := new_vec hk hifree' r4 hlt r3 r2.1 r2.2 (r5.mono' fun b hb => ⟨hb, push_old r2.1 b (hg.z b hb)⟩)
        exact ⟨_, _, r1, pl', Z', q1, fun j hj => q2 j (free_put (H := H) rfl j hj), q3, q4, hrefs, hfree⟩
  · -- onto a slice that is full
    rename_i t' l0
    split at h
    case h_2 => cases h
    rename_i l hl
    obtain ⟨rfl, rfl⟩ := castL_eq hl
    cases h
    have hlt := hp _ (List.mem_singleton.2 rfl)
    obtain ⟨ad, hv, hrep⟩ := (AVn.s rfl (by simp) (by simp)).1 hx
    cases hv
    by_cases h0 : m.length = 0
    · have hm0 : m = [] := List.length_eq_zero_iff.1 h0
      refine ⟨_, _, none_run h0 rfl (Nat.le_refl _), Post.pure hg ((AVn.s rfl (by simp) (by simp)).2 ?_) (by simp [AV.refs])⟩
      rw [hm0, List.append_nil]
      exact hrep
    · have hLl := Lies.of hrep
      obtain ⟨cap', cs, Tc, w', r1, r2, r3, r4, r5⟩ := grow_run (ty := ty) hu hf f3 f2 f1 hzs hLl hLm hu2 hlt rfl (by omega)
      have hold : ∀ b, Z b → (Z b ∨ b = w.heap.size) ∧ w'.heap[b]? = w.heap[b]? := fun b hb => ⟨.inl hb, push_old r2.1 b (hg.z b hb)⟩
      refine ⟨_, _, r1, pl, fun b => Z b ∨ b = w.heap.size, ?_, fun _ _ => rfl, hold, ?_, by simp [AV.refs], fun _ h => h⟩
      · refine hg.later (by rw [r2.1, Array.size_push]; omega) r2.2 (push_old r2.1) (fun _ h => .inl h) (fun b hb => hb.imp id (fun h => by omega)) (fun b hb => ?_)
        rw [r2.1, Array.size_push]
        rcases hb with hb | hb
        · exact Nat.lt_succ_of_lt (hg.z b hb)
        · omega
      · refine (AVn.s rfl (by simp) (by simp)).2 ?_
        refine Reps.sl_iff.2 ⟨some ⟨w.heap.size, 0, none⟩, cap', rfl, r4, hlt, .inr ⟨w.heap.size, 0, cs, rfl, .inr rfl, blk_of_heap (push_new r2.1), r5.mono' hold⟩⟩
  · cases h
end
end A
end Go.Proofs.Ythgnjimpakpkjaa
namespace Go.Proofs.Ythgnjimpakpkjaa
namespace A
section
variable {P : Program} {B : Base} {tb : Tab} {H Hr : Heap} {pl : Nat → Place} {Z : Nat → Prop} {w w' : World} {T : Nat → AV} {a : Act} {g : Option (Nat × Bool)} {d : Nat}

theorem splice_get' {α : Type} (cur vs : List α) (off : Nat) (hfit : off + vs.length ≤ cur.length) (p : Nat) :
    (cur.take off ++ (vs ++ cur.drop (off + vs.length)))[p]? = if p < off then cur[p]? else if p < off + vs.length then vs[p - off]? else cur[p]? := by
  have ht : (cur.take off).length = off := by rw [List.length_take]; omega
  split
  · rename_i h
    rw [List.getElem?_append_left (by omega), List.getElem?_take_of_lt h]
  · rename_i h
    rw [List.getElem?_append_right (by omega), ht]
    split
    · rename_i h2
      rw [List.getElem?_append_left (by omega)]
    · rename_i h2
      rw [List.getElem?_append_right (by omega), List.getElem?_drop]
      congr 1
      omega

theorem put_same {o : Nat} {c : Obj} (h : H o = c) : put H o c = H := by
  funext i; by_cases e : i = o
  · subst e; rw [put_self, h]
  · rw [put_other _ _ e]

theorem copy_at (hT : TOK P tb) (hg : GR P B pl Z w H) (hlive : ∀ o v, Hr o = .live v → H o = .live v) {t tx ty e : TypeId} {ti : TI} {u : Ty} (ht : tb.get t = some ti) (hk : ti.k = .slice e) (hty : tb.ty e = some u) (h1 : csize u = 1)
    {o lo n cap : Nat} {a0 : Option Addr} {N cap0 : Nat} (hpo : pl o = .slc a0 N cap0) {ad : Option Addr} {l m : List (El u)} {y : Value} (ho : Hr o = .live (.val (.sl u) l)) (hn : lo + n ≤ l.length) (had : n = 0 ∨ ∃ b, (pl o).block = some b ∧ ad = some ⟨b, lo, none⟩) (hm : Lies w Z u m y) (hro : B.ro o = false) :
    ∃ r w', (Builtin.copy_ #[t, tx] ty #[.slice ad n cap, y]).run P w = .ok r w' ∧
      Post P B H pl Z w [(o, .live (.val (.sl u) (l.take lo ++ (m.take n ++ l.drop (lo + min m.length n)))))] (.val I64 (icast (min m.length n))) r w' := by
  have hu := und_slice hT ht hk
  obtain ⟨ei, f, he, hf, f1, f3, f2, z6⟩ := ty_info hT hty
  have hs1 : (P.info? e).map (·.size) = some 1 := by rw [hf]; simp [f1, h1]
  obtain ⟨ad2, cap2, news, hy, q1, q2, n1, n2, n3, n4, n5⟩ := hm.cells
  subst hy
  rw [h1, Nat.mul_one] at n1
  have hob := hg.ob o _ (hlive _ _ ho)
  have hmin : min m.length n < LIM := by omega
  by_cases h0 : min m.length n = 0
  · refine ⟨_, w, run_copy_none w t tx ty e ad ad2 n cap m.length cap2 hu hs1 h0, ?_⟩
    have e1 : l.take lo ++ (m.take n ++ l.drop (lo + min m.length n)) = l := by
      have : m.take n = [] := by apply List.length_eq_zero_iff.1; rw [List.length_take]; omega
      rw [this, h0]; simp
    rw [e1]
    refine ⟨pl, Z, ?_, fun _ _ => rfl, fun _ hb => ⟨hb, rfl⟩, ?_, by simp [AV.refs], fun i hi => free_put (H := H) rfl i hi⟩
    · show GR P B pl Z w (A.put H o (.live (.val (.sl u) l)))
      rw [put_same (hlive _ _ ho)]; exact hg
    · rw [h0]; exact AVn.mkInt (inR_len (n := 0) (by unfold LIM; omega))
  · rcases had with had | ⟨b, hb, had⟩
    · omega
    · subst had
      rcases n2 with n2 | ⟨a2, n2⟩
      · omega
      · subst n2
        · rw [hpo] at hob hb
          obtain ⟨k1, k2, k3, k4⟩ := hob
          have k1 : List.length l = N := k1
          rcases k4 with k4 | ⟨b', arr, Tc, r1, r2, r3, r4, r5⟩
          · omega
          · subst r1
            have hbb : b' = b := by
              simp only [Place.block] at hb
              split at hb
              · cases hb
              · exact Option.some.inj hb
            subst hbb
            have hcl : (news.take (min m.length n)).length = min m.length n := by rw [List.length_take]; omega
            rw [h1, Nat.mul_one] at r4
            have hfit : lo + (news.take (min m.length n)).length ≤ arr.size := by rw [hcl]; omega
            have hrun := run_copy_row (P := P) w t tx ty e b' lo n cap a2 m.length cap2 arr Tc (news.take (min m.length n)) hu hs1 r3 hcl
              (fun j v hv => n3 a2 rfl j v (by
                have hj : j < min m.length n := by
                  by_cases hj : j < min m.length n
                  · exact hj
                  · rw [List.getElem?_eq_none (by omega)] at hv; cases hv
                rwa [List.getElem?_take_of_lt hj] at hv)) hfit (fun v hv => n4 v (List.mem_of_mem_take hv))
            have hkeep := setRow_keeps (w := w) (new := (arr.toList.take lo ++ news.take (min m.length n) ++ arr.toList.drop (lo + (news.take (min m.length n)).length)).toArray) r2
            have hml : (m.take n).length = min m.length n := by rw [List.length_take]; omega
            refine ⟨_, _, hrun, pl, Z, ?_, fun _ _ => rfl, hkeep, ?_, by simp [AV.refs], fun i hi => free_put (H := H) rfl i hi⟩
            · refine hg.change (hlive _ _ ho) hro (b := b') (by rw [hpo]; exact hb) r3 ?_ (fun i hi => by simp [AV.refs] at hi)
              rw [hpo]
              refine ⟨?_, k2, k3, .inr ⟨b', _, Tc, rfl, r2, setRow_heap w b' _ _ Tc _ r3, ?_, ?_⟩⟩
              · show List.length (l.take lo ++ (m.take n ++ l.drop (lo + min m.length n))) = N
                simp only [List.length_append, List.length_take, List.length_drop]
                omega
              · simp only [List.size_toArray, List.length_append, List.length_take, List.length_drop, Array.length_toList]
                rw [h1, Nat.mul_one, ← r4]; omega
              · intro i x hx
                have hx' : (l.take lo ++ (m.take n ++ l.drop (lo + (m.take n).length)))[i]? = some x := by rw [hml]; exact hx
                rw [splice_get' _ _ _ (by rw [hml]; omega), hml] at hx'
                have hcell : ∀ p, ((arr.toList.take lo ++ news.take (min m.length n) ++ arr.toList.drop (lo + (news.take (min m.length n)).length)).toArray)[p]? =
                    if p < lo then arr[p]? else if p < lo + min m.length n then news[p - lo]? else arr[p]? := by
                  intro p
                  rw [List.getElem?_toArray, splice_get _ _ _ (by simpa using hfit), hcl]
                  split
                  · simp
                  · split
                    · rw [List.getElem?_take_of_lt (by omega)]
                    · simp
                split at hx'
                · rename_i hi
                  obtain ⟨us, u1, u2, u3⟩ := r5 i x hx'
                  refine ⟨us, u1, fun j hj => ?_, u3.mono' hkeep⟩
                  rw [← u2 j hj, hcell, if_pos (by rw [h1] at hj ⊢; omega)]
                · rename_i hi
                  split at hx'
                  · rename_i hi2
                    rw [List.getElem?_take_of_lt (by omega)] at hx'
                    obtain ⟨us, u1, u2, u3⟩ := n5 (i - lo) x hx'
                    refine ⟨us, u1, fun j hj => ?_, u3.mono' hkeep⟩
                    rw [← u2 j hj, hcell, if_neg (by rw [h1] at hj ⊢; omega), if_pos (by rw [h1] at hj ⊢; omega), List.getElem?_toArray]
                    congr 1
                    rw [h1] at hj ⊢; omega
                  · rename_i hi2
                    obtain ⟨us, u1, u2, u3⟩ := r5 i x hx'
                    refine ⟨us, u1, fun j hj => ?_, u3.mono' hkeep⟩
                    rw [← u2 j hj, hcell, if_neg (by rw [h1] at hj ⊢; omega), if_neg (by rw [h1] at hj ⊢; omega)]
            · rw [hcl]; exact AVn.mkInt (inR_len hmin)

theorem copy_sound (hT : TOK P tb) (hg : GR P B pl Z w H) (hlive : ∀ o v, Hr o = .live v → H o = .live v) {v1 v2 : AV}
    {t tx ty e : TypeId} {ti : TI} {u : Ty} (ht : tb.get t = some ti) (hk : ti.k = .slice e) (hty : tb.ty e = some u) (h1 : csize u = 1) {x y : Value} {ef : Eff}
    (hx : AVn P B pl Z w v1 x) (hy : AVn P B pl Z w v2 y) (h : copyEff Hr u v1 v2 = some ef) (hro : ∀ p, p ∈ ef.wr → B.ro p.1 = false) :
    ∃ r w', (Builtin.copy_ #[t, tx] ty #[x, y]).run P w = .ok r w' ∧ Post P B H pl Z w ef.wr ef.dst r w' ∧ ef.pre = [] := by
  have hob : ∀ o c, Hr o = .live c → OB P B pl Z w (pl o) c := fun o c ho => hg.ob o c (hlive o c ho)
  unfold copyEff at h
  split at h
  · cases h
  rename_i m hm
  have hsz2 := listOf_size hm
  have hy1 : AVs P B pl Z w v2 [y] := by
    refine (AVn.s hsz2.2 ?_ ?_).1 hy
    · rintro rfl; simp [AV.size] at hsz2
    · rintro l rfl; simp [AV.size] at hsz2
  have hLm := listOf_lies hob hm hy1
  split at h
  · rename_i o
    split at h
    case h_2 => cases h
    rename_i t' l0 ho
    split at h
    case h_2 => cases h
    rename_i l hl
    obtain ⟨rfl, rfl⟩ := castL_eq hl
    cases h
    obtain ⟨ad, n, cap, hpo, hv⟩ := (AVn.s rfl (by simp) (by simp)).1 hx
    cases hv
    have hob1 := hob o _ ho
    rw [hpo] at hob1
    obtain ⟨k1, k2, k3, k4⟩ := hob1
    have k1 : List.length l = n := k1
    subst k1
    obtain ⟨r, w', q1, q2⟩ := copy_at (tx := tx) (ty := ty) hT hg hlive ht hk hty h1 hpo (lo := 0) (n := l.length) (cap := cap) (ad := ad) ho (by omega) (by
      rcases k4 with k4 | ⟨b, arr, Tc, r1, _⟩
      · exact .inl (by omega)
      · by_cases h0 : cap = 0
        · exact .inl (by omega)
        · refine .inr ⟨b, ?_, r1⟩
          rw [hpo, r1]; simp only [Place.block]; rw [if_neg h0]) hLm (hro _ (List.mem_singleton.2 rfl))
    refine ⟨r, w', q1, ?_, rfl⟩
    have e1 : l.take 0 ++ (m.take l.length ++ l.drop (0 + min m.length l.length)) = m.take l.length ++ l.drop m.length := by
      simp only [List.take_zero, List.nil_append, Nat.zero_add]
      congr 1
      by_cases hc : m.length ≤ l.length
      · rw [Nat.min_eq_left hc]
      · rw [List.drop_eq_nil_of_le (by omega), List.drop_eq_nil_of_le (by omega)]
    rw [e1] at q2
    exact q2
  · rename_i o k t2 lo n
    split at h
    case h_2 => cases h
    rename_i t' l0 ho
    split at h
    case h_2 => cases h
    rename_i l hl
    obtain ⟨rfl, rfl⟩ := castL_eq hl
    split at h
    case isFalse => cases h
    rename_i hc
    simp only [Bool.and_eq_true, decide_eq_true_eq] at hc
    obtain ⟨rfl, rfl⟩ := hc
    cases h
    obtain ⟨ad, cap, hv, g1, g2, g3⟩ := (AVn.s rfl (by simp) (by simp)).1 hx
    cases hv
    have hob1 := hob o _ ho
    cases hpo : pl o with
    | box b => rw [hpo] at g2; exact absurd g2.1 (by omega)
    | slc a0 N cap0 =>
      rw [hpo] at g2 hob1
      have k1 : List.length l = N := hob1.1
      obtain ⟨r, w', q1, q2⟩ := copy_at (tx := tx) (ty := ty) hT hg hlive ht hk hty h1 hpo (lo := lo) (n := n) (cap := cap) (ad := ad) ho (by have := g2.2; omega) (by
        refine g3.imp id fun ⟨b, h3, h4⟩ => ⟨b, h3, by rw [h4, h1, Nat.mul_one]⟩) hLm (hro _ (List.mem_singleton.2 rfl))
      exact ⟨r, w', q1, q2, rfl⟩
  · cases h
/-- a nil slice is lengthened by zeros -/
theorem appendz_sound (hT : TOK P tb) (hg : GR P B pl Z w H) (hfr : ∀ k, k < 16 → Hr (fam d k) = H (fam d k)) {t tn ty e : TypeId} {ti : TI} {u : Ty} (ht : tb.get t = some ti) (hk : ti.k = .slice e) (hty : tb.ty e = some u) (hcs : csize u ≠ 0)
    {kn : IntKind} (hn : P.underlying tn = some (.int kn)) {x : Value} (hx : AVn P B pl Z w .nils x) {n : Int} (hp : mkok n n) {i : Nat} (hi : newId Hr d = some i) :
    ∃ r w', (Builtin.append_ #[t, tn] ty #[x, .int .i64 n]).run P w = .ok r w' ∧ Post P B H pl Z w [(i, .live (.val (.sl u) (List.replicate (Int.toNat n) (dflt u))))] (.vec i) r w' := by
  have hu := und_slice hT ht hk
  obtain ⟨ei, f, he, hf, f1, f3, f2, z6⟩ := ty_info hT hty
  have hzs : ei.zval.cells.size = csize u := by rw [← (Reps.zero (w := w) (Z := Z) u).len, ← z6]; simp
  obtain ⟨ad, hv⟩ := (AVn.s rfl (by simp) (by simp)).1 hx
  cases hv
  obtain ⟨p1, _, p3⟩ := hp
  have hLIM : (LIM : Int) = 4294967296 := rfl
  have hlen : (List.replicate (Int.toNat n) (dflt u)).length = n.toNat := List.length_replicate
  by_cases h0 : n = 0
  · subst h0
    have hrun : (Builtin.append_ #[t, tn] ty #[.slice ad 0 0, .int .i64 0]).run P w = .ok (.slice ad 0 0) w := by
      have hw : IntKind.i64.wrap 0 = 0 := by rw [IntKind.wrap_i64]; rfl
      cases ad <;> simp [Builtin.append_, run_underlying hu, run_underlying hn, sizeOf, typeInfo, hf, asInt, asIntOf, hw, storeCells]
    refine ⟨_, _, hrun, updP pl i (.slc ad 0 0), Z, ?_, updP_free (newId_free hfr hi), fun b hb => ⟨hb, rfl⟩, (AVn.s rfl (by simp) (by simp)).2 ⟨_, _, _, updP_self _ _ _, rfl⟩, ?_, fun o ho => free_put (H := H) rfl o ho⟩
    · refine (hg.place (updP_free (newId_free hfr hi))).put ?_ (fun i' c' hi' hne b hb => ?_) (fun b hb => ?_) (fun o ho => by simp [AV.refs] at ho)
      · rw [updP_self]; exact ⟨rfl, Nat.le_refl _, by unfold LIM; omega, .inl rfl⟩
      · rw [updP_self] at hb; obtain ⟨hc, _⟩ := Place.block_slc hb; exact absurd rfl hc
      · rw [updP_self] at hb; obtain ⟨hc, _⟩ := Place.block_slc hb; exact absurd rfl hc
    · intro o ho
      have : o = i := by simpa [AV.refs] using ho
      subst this
      show isFree (A.put H o (.live _) o) = false
      rw [put_self]; rfl
  · obtain ⟨k, rfl⟩ : ∃ k : Nat, n = k := ⟨n.toNat, by omega⟩
    have hk0 : 0 < k := by omega
    have hby : k * f.bytes ≤ 281474976710656 := by
      have h1 : k * f.bytes ≤ 4294967296 * 32768 := Nat.mul_le_mul (by omega) f2
      omega
    have hrun := Go.Lib.run_append_grow_zeros (P := P) w t tn ty e f ei.zval .i64 kn hu hn hf f3 ad 0 0 [] (by
      cases ad with
      | none => exact run_firstCells_none w.drew f.size _ _ _
      | some a' => exact run_firstCells_some w.drew f.size _ a' _ _ [] (by simp) (fun j v hj => by simp at hj)) k hk0 (by omega) (by omega) (by omega) hby (growslice_fits (by omega) (by rw [Nat.zero_add]; have : k * f.bytes ≤ 4294967296 * 32768 := Nat.mul_le_mul (by omega) f2; omega))
    rw [Nat.zero_add] at hrun
    have hge := grownCap_ge w k 0 e
    rw [Int.toNat_natCast] at hlen ⊢
    refine ⟨_, _, hrun, ?_⟩
    have := new_vec (P := P) (B := B) (pl := pl) (Z := Z) (w := w) (w' := w.drew.alloc (.cells ((([] : List Value).toArray) ++ Builtin.zeroCells ei.zval.cells k ++ Builtin.zeroCells ei.zval.cells (grownCap w k 0 e - k)) e)) hg (newId_free hfr hi) (t := u) (l := List.replicate k (dflt u)) (cap := grownCap w k 0 e)
      (by rw [hlen]; omega) (by rw [hlen]; unfold LIM; omega) (by
        simp only [Array.size_append, List.size_toArray, List.length_nil, size_zeroCells, hzs]
        rw [Nat.zero_add, ← Nat.add_mul]
        congr 1
        omega) rfl ⟨rfl, rfl⟩ (fun q x hx => ?_)
    · rw [hlen] at this; exact this
    · have hq : q < k := by
        rw [← hlen]
        by_cases hk : q < (List.replicate k (dflt u)).length
        · exact hk
        · rw [List.getElem?_eq_none (by omega)] at hx; cases hx
      rw [List.getElem?_replicate, if_pos hq] at hx
      cases hx
      refine ⟨zcells u, (Reps.zero (w := w) (Z := Z) u).len, fun j hj => ?_, Reps.zero u⟩
      have hb : q * csize u + j < k * csize u := by
        have : (q + 1) * csize u ≤ k * csize u := Nat.mul_le_mul_right _ (by omega)
        rw [Nat.add_mul, Nat.one_mul] at this
        omega
      have hz : Builtin.zeroCells ei.zval.cells k = madeCells ei.zval.cells (k * csize u) := by rw [← hzs]; rfl
      rw [Nat.zero_add, Array.getElem?_append_left (by simp only [Array.size_append, List.size_toArray, List.length_nil, size_zeroCells, hzs]; omega), Array.getElem?_append_right (by simp)]
      simp only [List.size_toArray, List.length_nil, Nat.sub_zero]
      rw [hz, made_get _ _ _ hb (by omega), hzs, show (q * csize u + j) % csize u = j from by rw [Nat.mul_comm, Nat.mul_add_mod]; exact Nat.mod_eq_of_lt hj, ← z6, Array.getElem?_toList]
end
end A
end Go.Proofs.Ythgnjimpakpkjaa
namespace Go.Proofs.Ythgnjimpakpkjaa
namespace A
section
variable {P : Program} {B B2 : Base} {tb : Tab} {H Hr : Heap} {pl pl2 : Nat → Place} {Z Z2 : Nat → Prop} {w w2 : World}

theorem AV.ren_refs (m : Nat → Nat) : ∀ v : AV, (v.ren m).refs = v.refs.map m
  | .vec o | .view o _ _ _ _ | .ref o _ | .refi o _ _ _ _ => rfl
  | .fn _ c => AV.ren_refs m c
  | .cons a b => by simp only [AV.ren, AV.refs, List.map_append, AV.ren_refs m a, AV.ren_refs m b]
  | .st l => AV.ren_refs m l
  | .tup l => AV.ren_refs m l
  | .iface _ v => AV.ren_refs m v
  | .whn _ _ v => AV.ren_refs m v
  | .undef | .unit | .val _ _ | .valc _ _ | .nils | .rop _ _ | .nilp | .nilf | .nili | .fnp1 _ _ _ _ | .fnp2 _ _ _ _ _ | .own _ _ => rfl
theorem AV.ren_isSt (m : Nat → Nat) (v : AV) : (v.ren m).isSt = v.isSt := by cases v <;> rfl
theorem AV.ren_isList (m : Nat → Nat) : ∀ v : AV, (v.ren m).isList = v.isList
  | .cons a b => AV.ren_isList m b
  | .undef | .unit | .val _ _ | .valc _ _ | .nils | .rop _ _ | .nilp | .nilf | .nili | .fnp1 _ _ _ _ | .fnp2 _ _ _ _ _ | .own _ _ | .vec _ | .view _ _ _ _ _ | .ref _ _ | .refi _ _ _ _ _ | .fn _ _ | .st _ | .tup _ | .iface _ _ | .whn _ _ _ => rfl

theorem Place.room_eq {p q : Place} (h : p = q) {m k : Nat} (hr : q.room m k) : p.room m k := h ▸ hr

/-- the same under other numbers, in a later world -/
theorem AVs.ren (hz : ∀ b, Z b → Z2 b ∧ w2.heap[b]? = w.heap[b]?) (m : Nat → Nat) :
    ∀ (v : AV) (cs : List Value), v.hasF = false → (∀ o, o ∈ v.refs → pl2 (m o) = pl o) → AVs P B pl Z w v cs → AVs P B2 pl2 Z2 w2 (v.ren m) cs
  | .val t x, cs, _, _, h => Reps.mono' hz h
  | .valc t l, cs, _, _, ⟨a, h1, h2⟩ => ⟨a, h1, Reps.mono' hz h2⟩
  | .nils, cs, _, _, h => h
  | .vec o, cs, _, hp, ⟨a, n, cap, h1, h2⟩ => ⟨a, n, cap, (hp o (by simp [AV.refs])).trans h1, h2⟩
  | .view o k t lo n, cs, _, hp, ⟨a, cap, h1, h2, h0, h3⟩ => ⟨a, cap, h1, h2, by rw [hp o (by simp [AV.refs])]; exact h0, h3.imp id fun ⟨b, hb, ha⟩ => ⟨b, by rw [hp o (by simp [AV.refs])]; exact hb, ha⟩⟩
  | .ref o off, cs, _, hp, ⟨b, h1, h2⟩ => ⟨b, (hp o (by simp [AV.refs])).trans h1, h2⟩
  | .refi o k t i so, cs, _, hp, ⟨b, h1, h0, h2⟩ => ⟨b, by rw [hp o (by simp [AV.refs])]; exact h1, by rw [hp o (by simp [AV.refs])]; exact h0, h2⟩
  | .rop t x, cs, _, _, ⟨b, off, c, us, h1, h2, h3, h4, h5, h6⟩ => ⟨b, off, c, us, (hz b h1).1, (blk_of (hz b h1).2).trans h2, h3, h4, Reps.mono' hz h5, h6⟩
  | .nilp, cs, _, _, h => h
  | .nilf, cs, _, _, h => h
  | .nili, cs, _, _, h => h
  | .fn f c, cs, hF, hp, ⟨us, h1, hl, h2⟩ => ⟨us, h1, by rw [AV.ren_isList]; exact hl, AVs.ren hz m c us hF (fun o ho => hp o ho) h2⟩
  | .fnp1 a b pre F, cs, hF, _, _ => by simp [AV.hasF] at hF
  | .fnp2 a b c pre F, cs, hF, _, _ => by simp [AV.hasF] at hF
  | .cons a b, cs, hF, hp, ⟨u, v, h1, h2, h3⟩ => by
    simp only [AV.hasF, Bool.or_eq_false_iff] at hF
    exact ⟨u, v, h1, AVs.ren hz m a u hF.1 (fun o ho => hp o (by simp [AV.refs, ho])) h2, AVs.ren hz m b v hF.2 (fun o ho => hp o (by simp [AV.refs, ho])) h3⟩
  | .st l, cs, hF, hp, h => ⟨by rw [AV.ren_isList]; exact h.1, AVs.ren hz m l cs hF (fun o ho => hp o ho) h.2⟩
  | .iface T v, cs, hF, hp, ⟨x, h1, h2⟩ => ⟨x, h1, by
      have hp' : ∀ o, o ∈ v.refs → pl2 (m o) = pl o := fun o ho => hp o ho
      rw [AV.ren_isSt]
      split
      · rename_i hs; rw [if_pos hs] at h2; obtain ⟨us, h3, h4⟩ := h2; exact ⟨us, h3, AVs.ren hz m v us hF hp' h4⟩
      · rename_i hs; rw [if_neg hs] at h2; exact AVs.ren hz m v [x] hF hp' h2⟩
  | .unit, cs, _, _, h => h

theorem AV1.ren (hz : ∀ b, Z b → Z2 b ∧ w2.heap[b]? = w.heap[b]?) (m : Nat → Nat) {v : AV} {x : Value} (hF : v.hasF = false) (hp : ∀ o, o ∈ v.refs → pl2 (m o) = pl o) (h : AV1 P B pl Z w v x) :
    AV1 P B2 pl2 Z2 w2 (v.ren m) x := by
  unfold AV1 at *
  rw [AV.ren_isSt]
  split
  · rename_i hs; rw [if_pos hs] at h; obtain ⟨us, h3, h4⟩ := h; exact ⟨us, h3, AVs.ren hz m v us hF hp h4⟩
  · rename_i hs; rw [if_neg hs] at h; exact AVs.ren hz m v [x] hF hp h
theorem AVt.ren (hz : ∀ b, Z b → Z2 b ∧ w2.heap[b]? = w.heap[b]?) (m : Nat → Nat) :
    ∀ (v : AV) (us : List Value), v.hasF = false → (∀ o, o ∈ v.refs → pl2 (m o) = pl o) → AVt P B pl Z w v us → AVt P B2 pl2 Z2 w2 (v.ren m) us
  | .unit, us, _, _, h => h
  | .cons a b, us, hF, hp, ⟨u, r, h1, h2, h3⟩ => by
    simp only [AV.hasF, Bool.or_eq_false_iff] at hF
    exact ⟨u, r, h1, AV1.ren hz m hF.1 (fun o ho => hp o (by simp [AV.refs, ho])) h2, AVt.ren hz m b r hF.2 (fun o ho => hp o (by simp [AV.refs, ho])) h3⟩
theorem AVn.ren (hz : ∀ b, Z b → Z2 b ∧ w2.heap[b]? = w.heap[b]?) (m : Nat → Nat) {v : AV} {x : Value} (hF : v.hasF = false) (hp : ∀ o, o ∈ v.refs → pl2 (m o) = pl o) (h : AVn P B pl Z w v x) :
    AVn P B2 pl2 Z2 w2 (v.ren m) x := by
  cases v <;> try exact AVn.of1 (AV1.ren hz m hF hp h)
  case undef => trivial
  case tup l => obtain ⟨us, h1, h2⟩ := h; exact ⟨us, h1, AVt.ren hz m l us hF hp h2⟩

/-- an object under other numbers -/
theorem OB.ren {p : Place} {c : AV} (hz : ∀ b, Z b → Z2 b ∧ w2.heap[b]? = w.heap[b]?) (m : Nat → Nat) (hF : c.hasF = false) (hp : ∀ o, o ∈ c.refs → pl2 (m o) = pl o)
    (hb : ∀ b, p.block = some b → w2.heap[b]? = w.heap[b]? ∧ (¬ Z b → ¬ Z2 b)) (h : OB P B pl Z w p c) : OB P B2 pl2 Z2 w2 p (c.ren m) := by
  cases p with
  | box b =>
    obtain ⟨h1, cs, T, h2, h3⟩ := h
    obtain ⟨g1, g2⟩ := hb _ rfl
    exact ⟨g2 h1, cs, T, g1.trans h2, AVs.ren hz m c cs hF hp h3⟩
  | slc a n cap =>
    cases c <;> try exact h.elim
    rename_i t x
    cases t <;> try exact h.elim
    rename_i t
    obtain ⟨h1, h2, h3, h4⟩ := h
    refine ⟨h1, h2, h3, ?_⟩
    rcases h4 with h4 | ⟨b, arr, T, e1, e2, e3, e4, e5⟩
    · exact .inl h4
    · by_cases hc : cap = 0
      · exact .inl hc
      · obtain ⟨g1, g2⟩ := hb b (by rw [e1]; simp [Place.block, hc])
        exact .inr ⟨b, arr, T, e1, g2 e2, g1.trans e3, e4, e5.mono' hz⟩

/-- lists without duplicates, and their numbers -/
theorem dupFree_nodup : ∀ (l : List Nat), dupFree l = true → l.Nodup
  | [], _ => List.nodup_nil
  | a :: l, h => by
    simp only [dupFree, Bool.and_eq_true, Bool.not_eq_true', List.contains_eq_mem, decide_eq_false_iff_not] at h
    exact List.nodup_cons.2 ⟨h.1, dupFree_nodup l h.2⟩
theorem ofC_toC {L : List Nat} {o : Nat} (h : o ∈ L) : ofC L (toC L o) = o := by
  unfold ofC toC
  rw [Nat.add_sub_cancel_left, List.getD_eq_getElem?_getD, List.getElem?_eq_getElem (List.idxOf_lt_length_of_mem h)]
  simp
theorem toC_ofC {L : List Nat} (hd : L.Nodup) {i : Nat} (h1 : OBJB ≤ i) (h2 : i < OBJB + L.length) : toC L (ofC L i) = i := by
  unfold toC ofC
  have hlt : i - OBJB < L.length := by omega
  rw [List.getD_eq_getElem?_getD, List.getElem?_eq_getElem hlt, Option.getD_some, hd.idxOf_getElem]
  omega
theorem ofC_mem {L : List Nat} {i : Nat} (h1 : OBJB ≤ i) (h2 : i < OBJB + L.length) : ofC L i ∈ L := by
  unfold ofC
  have hlt : i - OBJB < L.length := by omega
  rw [List.getD_eq_getElem?_getD, List.getElem?_eq_getElem hlt, Option.getD_some]
  exact List.getElem_mem _
theorem toC_rng {L : List Nat} {o : Nat} (h : o ∈ L) : OBJB ≤ toC L o ∧ toC L o < OBJB + L.length := by
  unfold toC
  have := List.idxOf_lt_length_of_mem h
  omega
theorem heapC_get {L : List Nat} {i : Nat} (h1 : OBJB ≤ i) (h2 : i < OBJB + L.length) : heapC Hr L i = (Hr (ofC L i)).ren (toC L) := by
  unfold heapC
  rw [if_pos (by simp [h1, h2])]
theorem heapC_out {L : List Nat} {i : Nat} (h : ¬ (OBJB ≤ i ∧ i < OBJB + L.length)) : heapC Hr L i = .free := by
  unfold heapC
  rw [if_neg (by simpa using h)]
theorem heapC_live {L : List Nat} {i : Nat} {c : AV} (h : heapC Hr L i = .live c) : (OBJB ≤ i ∧ i < OBJB + L.length) ∧ ∃ c0, Hr (ofC L i) = .live c0 ∧ c = c0.ren (toC L) := by
  by_cases hr : OBJB ≤ i ∧ i < OBJB + L.length
  · rw [heapC_get hr.1 hr.2] at h
    refine ⟨hr, ?_⟩
    cases hh : Hr (ofC L i) with
    | live c0 => rw [hh] at h; cases h; exact ⟨c0, rfl, rfl⟩
    | free => rw [hh] at h; cases h
    | dead => rw [hh] at h; cases h
  · rw [heapC_out hr] at h; cases h

/-- what 'closedL' says -/
structure Closed (H : Heap) (L : List Nat) (refs : List Nat) : Prop where
  nd : L.Nodup
  ln : L.length < 1000
  rf : ∀ o, o ∈ refs → o ∈ L
  lv : ∀ o c, o ∈ L → H o = .live c → c.hasF = false ∧ ∀ i, i ∈ c.refs → i ∈ L
  fr : ∀ o, o ∈ L → isFree (H o) = false
theorem Closed.of {L refs : List Nat} (h : closedL H L refs = true) : Closed H L refs := by
  unfold closedL at h
  simp only [Bool.and_eq_true, decide_eq_true_eq] at h
  obtain ⟨⟨⟨h1, h2⟩, h3⟩, h4⟩ := h
  refine ⟨dupFree_nodup L h1, h2, fun o ho => by simpa using List.all_eq_true.1 h3 o ho, fun o c ho hc => ?_, fun o ho => ?_⟩
  · have := List.all_eq_true.1 h4 o ho
    rw [hc] at this
    simp only [Bool.and_eq_true, Bool.not_eq_true'] at this
    exact ⟨this.1, fun i hi => by simpa using List.all_eq_true.1 this.2 i hi⟩
  · have := List.all_eq_true.1 h4 o ho
    cases hh : H o with
    | live c => rfl
    | dead => rfl
    | free => rw [hh] at this; cases this

/-- the called function's world: its objects under its numbers -/
theorem GR.canon (hg : GR P B pl Z w H) (hlive : ∀ o v, Hr o = .live v → H o = .live v) {L refs : List Nat} (hc : Closed Hr L refs) {V : List Nat} (hV : ∀ o, o ∈ V → o ∉ L) {X : Nat → Prop} {ro : Nat → Bool}
    (hX : ∀ i c, heapC Hr L i = .live c → ro i = false → ∀ b, (pl (ofC L i)).block = some b → X b) {w1 : World} {Z1 : Nat → Prop} (he : Ext w (Zup pl Z Hr V) w1 Z1) (hl : ∀ b, Z1 b → b < w1.heap.size) :
    GR P ⟨w1, Z1, X, ro⟩ (fun i => pl (ofC L i)) Z1 w1 (heapC Hr L) := by
  refine ⟨hl, fun i c hi => ?_, fun i j c c' hi hj hne b hb => ?_, fun i c hi b hb => ?_, Nat.le_refl _, Io.refl _, fun _ _ _ => rfl, fun _ h => h, fun _ h => .inl h, fun i c hi j hj => ?_⟩
  · obtain ⟨hr, c0, h0, rfl⟩ := heapC_live hi
    have hm := ofC_mem hr.1 hr.2
    obtain ⟨hF, hcl⟩ := hc.lv _ _ hm h0
    refine OB.ren (fun b hb => ⟨he.zz b (.inl hb), he.old b (hg.z b hb)⟩) (toC L) hF (fun o ho => by rw [ofC_toC (hcl o ho)]) (fun b hb => ?_) (hg.ob _ _ (hlive _ _ h0))
    have hlt := ((hg.ob _ _ (hlive _ _ h0)).lt hb).1
    refine ⟨he.old b hlt, fun hnz hz => ?_⟩
    rcases he.zn b hz with hz | hz
    · rcases hz with hz | ⟨o, hoV, ⟨c', ho⟩, hp⟩
      · exact hnz hz
      · exact hg.dj _ o _ c' (hlive _ _ h0) (hlive _ _ ho) (fun e => hV o hoV (e ▸ hm)) b hb hp
    · omega
  · obtain ⟨hr, c0, h0, _⟩ := heapC_live hi
    obtain ⟨hr', c1, h1, _⟩ := heapC_live hj
    refine hg.dj _ _ _ _ (hlive _ _ h0) (hlive _ _ h1) (fun e => hne ?_) b hb
    rw [← toC_ofC hc.nd hr.1 hr.2, ← toC_ofC hc.nd hr'.1 hr'.2, e]
  · cases hro : ro i with
    | true => exact .inr (.inr hro)
    | false => exact .inr (.inl (hX i c hi hro b hb))
  · obtain ⟨hr, c0, h0, rfl⟩ := heapC_live hi
    have hm := ofC_mem hr.1 hr.2
    rw [AV.ren_refs] at hj
    obtain ⟨o, ho, rfl⟩ := List.mem_map.1 hj
    have hoL := (hc.lv _ _ hm h0).2 o ho
    obtain ⟨q1, q2⟩ := toC_rng hoL
    rw [heapC_get q1 q2, ofC_toC hoL]
    have := hc.fr o hoL
    cases hh : Hr o with
    | live c => rfl
    | dead => rfl
    | free => rw [hh] at this; cases this
end
end A
end Go.Proofs.Ythgnjimpakpkjaa
namespace Go.Proofs.Ythgnjimpakpkjaa
namespace A
section
variable {P : Program} {B : Base} {tb : Tab} {H Hr : Heap} {pl : Nat → Place} {Z : Nat → Prop} {w w' : World}

/-- arguments -/
def AV1s (P : Program) (B : Base) (pl : Nat → Place) (Z : Nat → Prop) (w : World) : List AV → List Value → Prop
  | [], [] => True
  | a :: l, x :: xs => AV1 P B pl Z w a x ∧ AV1s P B pl Z w l xs
  | _, _ => False

/-- a function answers to a specification -/
def Sat (P : Program) (f : Nat) (sp : Spec) : Prop :=
  ∀ (w : World) (Z X : Nat → Prop) (pl : Nat → Place) (H : Heap) (avl : List AV) (vs : List Value) (e : Eff), sp avl H = some e → (∀ p, p ∈ e.pre → p) →
    GR P ⟨w, Z, X, roOf (e.wr.map (·.1))⟩ pl Z w H → AV1s P ⟨w, Z, X, roOf (e.wr.map (·.1))⟩ pl Z w avl vs → (∀ a, a ∈ avl → ∀ o, o ∈ a.refs → isFree (H o) = false) →
    (∀ o, isFree (H o) = false → OBJB ≤ o ∧ o < OBJB + 1000) →
    (callFunc f vs.toArray).run P w = .ok (.enter f vs.toArray) w ∧
    Calls P f vs.toArray w (fun ex w' => ∃ v, ex = .returned v ∧ Post P ⟨w, Z, X, roOf (e.wr.map (·.1))⟩ H pl Z w (openE e).wr (openE e).dst v w')

theorem setH_out : ∀ (W : List (Nat × Obj)) (H : Heap) (o : Nat), (∀ p, p ∈ W → p.1 ≠ o) → setH H W o = H o
  | [], _, _, _ => rfl
  | (i, c) :: W, H, o, h => by
    show setH (put H i c) W o = H o
    rw [setH_out W _ o (fun p hp => h p (List.mem_cons_of_mem _ hp)), put_other _ _ (Ne.symm (h (i, c) List.mem_cons_self))]
theorem setH_in : ∀ (W : List (Nat × Obj)) (H : Heap) (i : Nat) (c : Obj), (W.map (·.1)).Nodup → (i, c) ∈ W → setH H W i = c
  | [], _, _, _, _, h => by cases h
  | (j, d) :: W, H, i, c, hn, h => by
    rw [List.map_cons, List.nodup_cons] at hn
    show setH (put H j d) W i = c
    rcases List.mem_cons.1 h with e | h
    · obtain ⟨rfl, rfl⟩ := Prod.mk.inj e
      rw [setH_out W _ i (fun p hp e => hn.1 (e ▸ List.mem_map.2 ⟨p, hp, rfl⟩)), put_self]
    · exact setH_in W _ i c hn.2 h

/-- what is opened -/
def Owned (n : Nat) (ws : List (Nat × Obj)) : Prop := ∀ k p, ws[k]? = some p → p.1 = n + k ∧ ∃ t, ∃ l : List (El t), p.2 = .live (.val (.sl t) l)
theorem Owned.nil (n : Nat) : Owned n [] := fun k p h => by simp at h
theorem Owned.append {n : Nat} {a b : List (Nat × Obj)} (ha : Owned n a) (hb : Owned (n + a.length) b) : Owned n (a ++ b) := by
  intro k p h
  by_cases hk : k < a.length
  · rw [List.getElem?_append_left hk] at h; exact ha k p h
  · rw [List.getElem?_append_right (by omega)] at h
    obtain ⟨h1, h2⟩ := hb _ p h
    exact ⟨by omega, h2⟩
theorem openA_owned : ∀ (v : AV) (n : Nat), Owned n (openA n v).2.1 ∧ (openA n v).2.2 = n + (openA n v).2.1.length
  | .own t l, n => ⟨fun k p h => by
      cases k with
      | zero => simp only [openA, List.getElem?_cons_zero, Option.some.injEq] at h; subst h; exact ⟨rfl, t, l, rfl⟩
      | succ k => simp [openA] at h, rfl⟩
  | .cons a b, n => by
    obtain ⟨h1, h2⟩ := openA_owned a n
    obtain ⟨h3, h4⟩ := openA_owned b (openA n a).2.2
    simp only [openA]
    refine ⟨h1.append (by rw [← h2]; exact h3), by rw [h4, List.length_append, ← Nat.add_assoc]; exact congrArg (· + _) h2⟩
  | .st l, n => openA_owned l n
  | .tup l, n => openA_owned l n
  | .undef, n | .unit, n | .val _ _, n | .valc _ _, n | .nils, n | .rop _ _, n | .nilp, n | .nilf, n | .nili, n | .fnp1 _ _ _ _, n | .fnp2 _ _ _ _ _, n | .vec _, n | .view _ _ _ _ _, n | .ref _ _, n | .refi _ _ _ _ _, n
  | .fn _ _, n | .iface _ _, n | .whn _ _ _, n => ⟨Owned.nil n, rfl⟩
theorem openW_owned : ∀ (W : List (Nat × Obj)) (n : Nat), Owned n (openW n W).2.1 ∧ (openW n W).2.2 = n + (openW n W).2.1.length ∧ (openW n W).1.map (·.1) = W.map (·.1)
  | [], n => ⟨Owned.nil n, rfl, rfl⟩
  | (o, .live c) :: r, n => by
    obtain ⟨h1, h2⟩ := openA_owned c n
    obtain ⟨h3, h4, h5⟩ := openW_owned r (openA n c).2.2
    simp only [openW]
    refine ⟨h1.append (by rw [← h2]; exact h3), by rw [h4, List.length_append, ← Nat.add_assoc]; exact congrArg (· + _) h2, by simp [h5]⟩
  | (o, .dead) :: r, n => by
    obtain ⟨h3, h4, h5⟩ := openW_owned r n
    simp only [openW]
    exact ⟨h3, h4, by simp [h5]⟩
  | (o, .free) :: r, n => by
    obtain ⟨h3, h4, h5⟩ := openW_owned r n
    simp only [openW]
    exact ⟨h3, h4, by simp [h5]⟩

theorem openA_hasF : ∀ (v : AV) (n : Nat), (openA n v).1.hasF = v.hasF
  | .own t l, n => rfl
  | .cons a b, n => by simp only [openA, AV.hasF, openA_hasF a, openA_hasF b]
  | .st l, n => openA_hasF l n
  | .tup l, n => openA_hasF l n
  | .undef, n | .unit, n | .val _ _, n | .valc _ _, n | .nils, n | .rop _ _, n | .nilp, n | .nilf, n | .nili, n | .fnp1 _ _ _ _, n | .fnp2 _ _ _ _ _, n | .vec _, n | .view _ _ _ _ _, n | .ref _ _, n | .refi _ _ _ _ _, n
  | .fn _ _, n | .iface _ _, n | .whn _ _ _, n => rfl
def objF : Obj → Bool | .live c => !c.hasF | .dead => true | .free => false
theorem openW_objF : ∀ (W : List (Nat × Obj)) (n : Nat), (∀ p, p ∈ W → objF p.2 = true) → ∀ p, p ∈ (openW n W).1 → objF p.2 = true
  | [], n, _, p, hp => by simp [openW] at hp
  | (o, .live c) :: r, n, h, p, hp => by
    simp only [openW, List.mem_cons] at hp
    rcases hp with rfl | hp
    · have := h (o, .live c) List.mem_cons_self
      simp only [objF] at this ⊢
      rw [openA_hasF]; exact this
    · exact openW_objF r _ (fun p hp => h p (List.mem_cons_of_mem _ hp)) p hp
  | (o, .dead) :: r, n, h, p, hp => by
    simp only [openW, List.mem_cons] at hp
    rcases hp with rfl | hp
    · rfl
    · exact openW_objF r _ (fun p hp => h p (List.mem_cons_of_mem _ hp)) p hp
  | (o, .free) :: r, n, h, p, hp => by
    have := h (o, .free) List.mem_cons_self
    simp [objF] at this

/-- an effect, opened: what was handed in, and what is new -/
structure Opened (e : Eff) (wr res : List (Nat × Obj)) : Prop where
  eq : (openE e).wr = wr ++ res
  keys : wr.map (·.1) = e.wr.map (·.1)
  own : Owned RESB res
  nof : (∀ p, p ∈ e.wr → objF p.2 = true) → ∀ p, p ∈ wr → objF p.2 = true
theorem openE_opened (e : Eff) : ∃ wr res, Opened e wr res := by
  obtain ⟨h1, h2⟩ := openA_owned e.dst RESB
  obtain ⟨h3, h4, h5⟩ := openW_owned e.wr (openA RESB e.dst).2.2
  exact ⟨_, _, rfl, h5, h1.append (by rw [← h2]; exact h3), fun h => openW_objF _ _ h⟩

/-- nothing in it lies in immutable memory -/
def AV.zfree : AV → Bool
  | .val t _ => t.flat
  | .vec _ | .unit => true
  | .cons a b => a.zfree && b.zfree
  | .tup l => l.zfree
  | _ => false
theorem openA_zfree : ∀ (v : AV) (n : Nat), flatAV v = true → (openA n v).1.zfree = true
  | .val t x, n, h => h
  | .own t l, n, _ => rfl
  | .cons a b, n, h => by
    simp only [flatAV, Bool.and_eq_true] at h
    simp only [openA, AV.zfree, Bool.and_eq_true]
    exact ⟨openA_zfree a _ h.1, openA_zfree b _ h.2⟩
  | .tup l, n, h => openA_zfree l n h
  | .unit, n, _ => rfl
def objFlat : Obj → Bool | .live (.val (.sl t) _) => t.flat | _ => false
theorem openA_flat : ∀ (v : AV) (n : Nat), flatAV v = true → ∀ p, p ∈ (openA n v).2.1 → objFlat p.2 = true
  | .val t x, n, _, p, hp => by simp [openA] at hp
  | .own t l, n, h, p, hp => by simp only [openA, List.mem_singleton] at hp; subst hp; exact h
  | .cons a b, n, h, p, hp => by
    simp only [flatAV, Bool.and_eq_true] at h
    simp only [openA, List.mem_append] at hp
    rcases hp with hp | hp
    · exact openA_flat a _ h.1 p hp
    · exact openA_flat b _ h.2 p hp
  | .tup l, n, h, p, hp => openA_flat l n h p hp
  | .unit, n, _, p, hp => by simp [openA] at hp

theorem Rep.flat {Z2 : Nat → Prop} : ∀ n t (x : El t) vs, t.flat = true → Rep w Z n t x vs → Rep w Z2 n t x vs := by
  intro n
  induction n with
  | zero => intro t x vs _ h; exact h.elim
  | succ n ih =>
    intro t x vs hf hr
    cases t with
    | int k => exact hr
    | bool => exact hr
    | str => exact hr
    | unit => exact hr
    | sl t => simp [Ty.flat] at hf
    | pair a b =>
      simp only [Ty.flat, Bool.and_eq_true] at hf
      obtain ⟨p, q, hv, h1, h2⟩ := hr
      exact ⟨p, q, hv, ih _ _ _ hf.1 h1, ih _ _ _ hf.2 h2⟩
    | rc r => simp [Ty.flat] at hf
    | arn m t =>
      obtain ⟨h1, h2, h3⟩ := hr
      exact ⟨h1, h2, fun i y hy => ih _ _ _ hf (h3 i y hy)⟩
theorem Reps.flat {Z2 : Nat → Prop} {t : Ty} {x : El t} {vs : List Value} (hf : t.flat = true) (h : Reps w Z t x vs) : Reps w Z2 t x vs := let ⟨n, h⟩ := h; ⟨n, Rep.flat n t x vs hf h⟩
theorem AVs.zfree {Z2 : Nat → Prop} : ∀ (v : AV) (cs : List Value), v.zfree = true → AVs P B pl Z w v cs → AVs P B pl Z2 w v cs
  | .val t x, cs, hf, h => Reps.flat hf h
  | .vec o, cs, _, h => h
  | .unit, cs, _, h => h
  | .cons a b, cs, hf, ⟨u, v, h1, h2, h3⟩ => by
    simp only [AV.zfree, Bool.and_eq_true] at hf
    exact ⟨u, v, h1, AVs.zfree a u hf.1 h2, AVs.zfree b v hf.2 h3⟩
theorem AV1.zfree {Z2 : Nat → Prop} {v : AV} {x : Value} (hf : v.zfree = true) (h : AV1 P B pl Z w v x) : AV1 P B pl Z2 w v x := by
  unfold AV1 at *
  split
  · rename_i hs; rw [if_pos hs] at h; obtain ⟨us, h3, h4⟩ := h; exact ⟨us, h3, AVs.zfree v us hf h4⟩
  · rename_i hs; rw [if_neg hs] at h; exact AVs.zfree v [x] hf h
theorem AVt.zfree {Z2 : Nat → Prop} : ∀ (v : AV) (us : List Value), v.zfree = true → AVt P B pl Z w v us → AVt P B pl Z2 w v us
  | .unit, us, _, h => h
  | .cons a b, us, hf, ⟨u, r, h1, h2, h3⟩ => by
    simp only [AV.zfree, Bool.and_eq_true] at hf
    exact ⟨u, r, h1, AV1.zfree hf.1 h2, AVt.zfree b r hf.2 h3⟩
theorem AVn.zfree {Z2 : Nat → Prop} {v : AV} {x : Value} (hf : v.zfree = true) (h : AVn P B pl Z w v x) : AVn P B pl Z2 w v x := by
  cases v <;> try exact AVn.of1 (AV1.zfree hf h)
  case undef => trivial
  case tup l => obtain ⟨us, h1, h2⟩ := h; exact ⟨us, h1, AVt.zfree l us hf h2⟩

/-- a row's object depends on nothing else -/
theorem OB.row {B2 : Base} {pl2 : Nat → Place} {Z2 : Nat → Prop} {p : Place} {t : Ty} {l : List (El t)} (hp : ∃ a n cap, p = .slc a n cap) (hz : ∀ b, Z b → Z2 b ∨ t.flat = true) (hn : ∀ b, p.block = some b → ¬ Z b → ¬ Z2 b)
    (h : OB P B pl Z w p (.val (.sl t) l)) : OB P B2 pl2 Z2 w p (.val (.sl t) l) := by
  obtain ⟨a, n, cap, rfl⟩ := hp
  obtain ⟨h1, h2, h3, h4⟩ := h
  refine ⟨h1, h2, h3, ?_⟩
  rcases h4 with h4 | ⟨b, arr, T, e1, e2, e3, e4, e5⟩
  · exact .inl h4
  · by_cases hc : cap = 0
    · exact .inl hc
    · refine .inr ⟨b, arr, T, e1, hn b (by rw [e1]; simp [Place.block, hc]) e2, e3, e4, ?_⟩
      by_cases hf : t.flat = true
      · intro i x hx
        obtain ⟨us, u1, u2, u3⟩ := e5 i x hx
        exact ⟨us, u1, u2, u3.flat hf⟩
      · exact e5.mono' fun b hb => ⟨(hz b hb).resolve_right hf, rfl⟩
end
end A
end Go.Proofs.Ythgnjimpakpkjaa
namespace Go.Proofs.Ythgnjimpakpkjaa
namespace A
section
variable {P : Program} {B : Base} {tb : Tab} {H Hr : Heap} {pl : Nat → Place} {Z : Nat → Prop} {w w' : World} {d : Nat}

theorem AVs.slc : ∀ (v : AV) (cs : List Value), v.zfree = true → AVs P B pl Z w v cs → ∀ o, o ∈ v.refs → ∃ a n cap, pl o = .slc a n cap
  | .val t x, cs, _, _, o, ho => by simp [AV.refs] at ho
  | .vec i, cs, _, ⟨a, n, cap, h1, _⟩, o, ho => by
    have : o = i := by simpa [AV.refs] using ho
    subst this
    exact ⟨a, n, cap, h1⟩
  | .unit, cs, _, _, o, ho => by simp [AV.refs] at ho
  | .cons a b, cs, hf, ⟨u, v, h1, h2, h3⟩, o, ho => by
    simp only [AV.zfree, Bool.and_eq_true] at hf
    simp only [AV.refs, List.mem_append] at ho
    rcases ho with ho | ho
    · exact AVs.slc a u hf.1 h2 o ho
    · exact AVs.slc b v hf.2 h3 o ho
theorem AV1.slc {v : AV} {x : Value} (hf : v.zfree = true) (h : AV1 P B pl Z w v x) : ∀ o, o ∈ v.refs → ∃ a n cap, pl o = .slc a n cap := by
  unfold AV1 at h
  split at h
  · obtain ⟨us, _, h4⟩ := h; exact AVs.slc v us hf h4
  · exact AVs.slc v [x] hf h
theorem AVt.slc : ∀ (v : AV) (us : List Value), v.zfree = true → AVt P B pl Z w v us → ∀ o, o ∈ v.refs → ∃ a n cap, pl o = .slc a n cap
  | .unit, us, _, h, o, ho => by simp [AV.refs] at ho
  | .cons a b, us, hf, ⟨u, r, h1, h2, h3⟩, o, ho => by
    simp only [AV.zfree, Bool.and_eq_true] at hf
    simp only [AV.refs, List.mem_append] at ho
    rcases ho with ho | ho
    · exact AV1.slc hf.1 h2 o ho
    · exact AVt.slc b r hf.2 h3 o ho
theorem AVn.slc {v : AV} {x : Value} (hf : v.zfree = true) (h : AVn P B pl Z w v x) : ∀ o, o ∈ v.refs → ∃ a n cap, pl o = .slc a n cap := by
  cases v <;> try exact AV1.slc hf h
  case undef => intro o ho; simp [AV.refs] at ho
  case tup l => obtain ⟨us, h1, h2⟩ := h; exact AVt.slc l us hf h2
theorem openA_refs : ∀ (v : AV) (n : Nat), flatAV v = true → ∀ p, p ∈ (openA n v).2.1 → p.1 ∈ (openA n v).1.refs
  | .val t x, n, _, p, hp => by simp [openA] at hp
  | .own t l, n, h, p, hp => by simp only [openA, List.mem_singleton] at hp; subst hp; simp [openA, AV.refs]
  | .cons a b, n, h, p, hp => by
    simp only [flatAV, Bool.and_eq_true] at h
    simp only [openA, List.mem_append] at hp
    simp only [openA, AV.refs, List.mem_append]
    rcases hp with hp | hp
    · exact .inl (openA_refs a _ h.1 p hp)
    · exact .inr (openA_refs b _ h.2 p hp)
  | .tup l, n, h, p, hp => openA_refs l n h p hp
  | .unit, n, _, p, hp => by simp [openA] at hp

theorem freeIds_free (hfr : ∀ k, k < 16 → Hr (fam d k) = H (fam d k)) {x : Nat} (h : x ∈ freeIds Hr d) : isFree (H x) = true := by
  unfold freeIds at h
  obtain ⟨h1, h2⟩ := List.mem_filter.1 h
  obtain ⟨k, hk, rfl⟩ := List.mem_map.1 h1
  rw [← hfr k (List.mem_range.1 hk)]
  exact h2
theorem freeIds_nodup (d : Nat) : (freeIds Hr d).Nodup := by
  unfold freeIds
  refine List.Pairwise.filter _ ?_
  rw [List.pairwise_map]
  refine List.Pairwise.imp ?_ (List.nodup_iff_pairwise_ne.1 (List.nodup_range (n := 16)))
  intro a b hab e
  unfold fam at e
  omega
theorem freeIds_length (d : Nat) : (freeIds Hr d).length ≤ 16 := by
  unfold freeIds
  refine Nat.le_trans (List.length_filter_le _ _) ?_
  simp

theorem Obj.ren_free (m : Nat → Nat) (o : Obj) : isFree (o.ren m) = isFree o := by cases o <;> rfl

/-- the blocks that a call may change -/
def XOf (pl : Nat → Place) (Hr : Heap) (L : List Nat) (ks : List Nat) : Nat → Prop := fun b => ∃ i c, heapC Hr L i = .live c ∧ i ∈ ks ∧ (pl (ofC L i)).block = some b

theorem land_sound (hg : GR P B pl Z w H) (hr : ∀ o, Hr o = H o ∨ Hr o = .free) (hfr : ∀ k, k < 16 → Hr (fam d k) = H (fam d k)) {L refs : List Nat} (hc : Closed Hr L refs) {V : List Nat} (hV1 : ∀ o, o ∈ V → o ∉ L) (hV2 : ∀ o, o ∈ V → isFree (H o) = false)
    {e : Eff} {wr res : List (Nat × Obj)} (ho : Opened e wr res) (hk1 : ∀ p, p ∈ e.wr → (OBJB ≤ p.1 ∧ p.1 < OBJB + L.length) ∧ objF p.2 = true) (hk2 : (e.wr.map (·.1)).Nodup) (hk3 : res.length ≤ (freeIds Hr d).length) (hk4 : (openE e).dst.hasF = false)
    {v : Value} (hpost : Post P ⟨w, Zup pl Z Hr V, XOf pl Hr L (e.wr.map (·.1)), roOf (e.wr.map (·.1))⟩ (heapC Hr L) (fun i => pl (ofC L i)) (Zup pl Z Hr V) w (openE e).wr (openE e).dst v w') {kills : List Nat}
    (hm : (flatAV e.dst = true ∧ e.wr = [] ∧ kills = []) ∨ kills = V) (hro1 : ∀ i, i ∈ e.wr.map (·.1) → B.ro (ofC L i) = false) (hro2 : ∀ o, o ∈ kills → B.ro o = false) :
    Post P B H pl Z w ((openE e).wr.map (fun p => (ofR L (freeIds Hr d) p.1, p.2.ren (ofR L (freeIds Hr d)))) ++ kills.map (fun o => (o, .dead))) ((openE e).dst.ren (ofR L (freeIds Hr d))) v w' := by
  have hlive : ∀ o v, Hr o = .live v → H o = .live v := fun o v h => by
    rcases hr o with h' | h'
    · rw [← h']; exact h
    · rw [h] at h'; cases h'
  have hLfree : ∀ o, o ∈ L → isFree (H o) = false := fun o ho => by
    have := hc.fr o ho
    rcases hr o with h' | h'
    · rw [← h']; exact this
    · rw [h'] at this; cases this
  obtain ⟨pl', Z', q1, q2, q3, q4, q5, q6⟩ := hpost
  rw [ho.eq] at q1 q5 q6 ⊢
  unfold Post
  generalize hF : freeIds Hr d = F at *
  have hF1 : ∀ x, x ∈ F → isFree (H x) = true := fun x hx => freeIds_free hfr (by rw [hF]; exact hx)
  have hF2 : F.Nodup := by rw [← hF]; exact freeIds_nodup d
  have hF3 : F.length ≤ 16 := by rw [← hF]; exact freeIds_length d
  have hRO : RESB + 16 < OBJB := by decide
  -- the numbers
  have rL : ∀ i, OBJB ≤ i → ofR L F i = ofC L i := fun i hi => by unfold ofR ofC; rw [if_pos hi]
  have rF : ∀ k (hk : k < F.length), ofR L F (RESB + k) = F[k] := fun k hk => by
    unfold ofR
    rw [if_neg (by omega), Nat.add_sub_cancel_left, List.getD_eq_getElem?_getD, List.getElem?_eq_getElem hk]
    rfl
  have kw : ∀ p, p ∈ wr → OBJB ≤ p.1 ∧ p.1 < OBJB + L.length := fun p hp => by
    have : p.1 ∈ e.wr.map (·.1) := by rw [← ho.keys]; exact List.mem_map.2 ⟨p, hp, rfl⟩
    obtain ⟨p', hp', e'⟩ := List.mem_map.1 this
    rw [← e']; exact (hk1 p' hp').1
  have kwk : ∀ p, p ∈ wr → p.1 ∈ e.wr.map (·.1) := fun p hp => by rw [← ho.keys]; exact List.mem_map.2 ⟨p, hp, rfl⟩
  have kres : ∀ p, p ∈ res → ∃ k, k < res.length ∧ p.1 = RESB + k ∧ ∃ t, ∃ l : List (El t), p.2 = .live (.val (.sl t) l) := fun p hp => by
    obtain ⟨k, hk, rfl⟩ := List.mem_iff_getElem.1 hp
    exact ⟨k, hk, ho.own k _ (List.getElem?_eq_getElem hk)⟩
  have kF : ∀ p, p ∈ wr → objF p.2 = true := ho.nof (fun p hp => (hk1 p hp).2)
  have inL : ∀ p, p ∈ wr → ofR L F p.1 ∈ L := fun p hp => by rw [rL _ (kw p hp).1]; exact ofC_mem (kw p hp).1 (kw p hp).2
  have inF : ∀ p, p ∈ res → ofR L F p.1 ∈ F := fun p hp => by
    obtain ⟨k, hk, e1, _⟩ := kres p hp
    rw [e1, rF k (by omega)]; exact List.getElem_mem _
  have notLF : ∀ o, o ∈ L → o ∉ F := fun o h1 h2 => by
    have := hLfree o h1
    rw [hF1 o h2] at this; cases this
  -- the numbers are distinct
  have inj : ∀ p q, p ∈ wr ++ res → q ∈ wr ++ res → ofR L F p.1 = ofR L F q.1 → p.1 = q.1 := by
    intro p q hp hq e1
    rcases List.mem_append.1 hp with hp | hp <;> rcases List.mem_append.1 hq with hq | hq
    · rw [rL _ (kw p hp).1, rL _ (kw q hq).1] at e1
      rw [← toC_ofC hc.nd (kw p hp).1 (kw p hp).2, ← toC_ofC hc.nd (kw q hq).1 (kw q hq).2, e1]
    · exact absurd (e1 ▸ inF q hq) (notLF _ (inL p hp))
    · exact absurd (e1 ▸ inF p hp) (notLF _ (inL q hq))
    · obtain ⟨k, hk, e2, _⟩ := kres p hp
      obtain ⟨k', hk', e3, _⟩ := kres q hq
      rw [e2, e3, rF k (by omega), rF k' (by omega)] at e1
      have : k = k' := by
        have h1 := hF2.idxOf_getElem k (by omega)
        have h2 := hF2.idxOf_getElem k' (by omega)
        rw [e1] at h1
        omega
      rw [e2, e3, this]
  have nodupK : ((wr ++ res).map (·.1)).Nodup := by
    rw [List.map_append, List.nodup_append]
    refine ⟨by rw [ho.keys]; exact hk2, ?_, fun a ha b hb e1 => ?_⟩
    · rw [List.nodup_iff_pairwise_ne, List.pairwise_iff_getElem]
      intro i j hi hj hij e1
      simp only [List.length_map] at hi hj
      simp only [List.getElem_map] at e1
      have h1 := (ho.own i _ (List.getElem?_eq_getElem hi)).1
      have h2 := (ho.own j _ (List.getElem?_eq_getElem hj)).1
      omega
    · obtain ⟨p, hp, rfl⟩ := List.mem_map.1 ha
      obtain ⟨q, hq, rfl⟩ := List.mem_map.1 hb
      obtain ⟨k, hk, e2, _⟩ := kres q hq
      have := (kw p hp).1
      omega
  have nodupK' : (((wr ++ res).map (fun p => (ofR L F p.1, p.2.ren (ofR L F)))).map (·.1)).Nodup := by
    rw [List.map_map, List.nodup_iff_pairwise_ne, List.pairwise_map]
    have := nodupK
    rw [List.nodup_iff_pairwise_ne, List.pairwise_map] at this
    rw [List.pairwise_iff_getElem] at this ⊢
    intro i j hi hj hij e1
    exact this i j hi hj hij (inj _ _ (List.getElem_mem _) (List.getElem_mem _) e1)
  have killV : ∀ o, o ∈ kills → o ∈ V := fun o hk => by
    rcases hm with ⟨_, _, h⟩ | h
    · rw [h] at hk; cases hk
    · rw [← h]; exact hk
  have wfree : ∀ p, p ∈ wr ++ res → isFree p.2 = false := fun p hp => by
    rcases List.mem_append.1 hp with hp | hp
    · have := kF p hp
      cases h : p.2 with
      | free => rw [h] at this; cases this
      | dead => rfl
      | live c => rfl
    · obtain ⟨_, _, _, t, l, h⟩ := kres p hp
      rw [h]; rfl
  -- the heaps
  have H2in : ∀ p, p ∈ wr ++ res → setH (heapC Hr L) (wr ++ res) p.1 = p.2 := fun p hp => setH_in _ _ _ _ nodupK hp
  have H3in : ∀ p, p ∈ wr ++ res → setH H ((wr ++ res).map (fun p => (ofR L F p.1, p.2.ren (ofR L F))) ++ kills.map (fun o => (o, .dead))) (ofR L F p.1) = p.2.ren (ofR L F) := fun p hp => by
    rw [setH_append]
    have hk : ofR L F p.1 ∉ kills := fun hk => by
      rcases List.mem_append.1 hp with hp | hp
      · exact hV1 _ (killV _ hk) (inL p hp)
      · have := hV2 _ (killV _ hk)
        rw [hF1 _ (inF p hp)] at this; cases this
    have := killL_get (setH H ((wr ++ res).map (fun p => (ofR L F p.1, p.2.ren (ofR L F))))) kills (ofR L F p.1)
    unfold killL at this
    rw [this, if_neg hk]
    exact setH_in _ _ _ _ nodupK' (List.mem_map.2 ⟨p, hp, rfl⟩)
  have H3out : ∀ o, (∀ p, p ∈ wr ++ res → ofR L F p.1 ≠ o) → setH H ((wr ++ res).map (fun p => (ofR L F p.1, p.2.ren (ofR L F))) ++ kills.map (fun o => (o, .dead))) o = if o ∈ kills then .dead else H o := fun o h => by
    rw [setH_append]
    have := killL_get (setH H ((wr ++ res).map (fun p => (ofR L F p.1, p.2.ren (ofR L F))))) kills o
    unfold killL at this
    rw [this, setH_out _ H o (fun p hp => by obtain ⟨p', hp', rfl⟩ := List.mem_map.1 hp; exact h p' hp')]
  generalize hH3 : setH H ((wr ++ res).map (fun p => (ofR L F p.1, p.2.ren (ofR L F))) ++ kills.map (fun o => (o, .dead))) = H3 at *
  have cls : ∀ o c, H3 o = .live c → (∃ p, p ∈ wr ++ res ∧ ofR L F p.1 = o ∧ ∃ c', p.2 = .live c' ∧ c = c'.ren (ofR L F)) ∨ ((∀ p, p ∈ wr ++ res → ofR L F p.1 ≠ o) ∧ o ∉ kills ∧ H o = .live c) := by
    intro o c h
    by_cases hx : ∃ p, p ∈ wr ++ res ∧ ofR L F p.1 = o
    · obtain ⟨p, hp, rfl⟩ := hx
      refine .inl ⟨p, hp, rfl, ?_⟩
      rw [H3in p hp] at h
      cases hp2 : p.2 with
      | free => rw [hp2] at h; cases h
      | dead => rw [hp2] at h; cases h
      | live c' => rw [hp2] at h; cases h; exact ⟨c', rfl, rfl⟩
    · have hx' : ∀ p, p ∈ wr ++ res → ofR L F p.1 ≠ o := fun p hp e1 => hx ⟨p, hp, e1⟩
      rw [H3out o hx'] at h
      split at h
      · cases h
      · rename_i hk; exact .inr ⟨hx', hk, h⟩
  have free3' : ∀ o, isFree (H o) = false → isFree (H3 o) = false := fun o h => by
    by_cases hx : ∃ p, p ∈ wr ++ res ∧ ofR L F p.1 = o
    · obtain ⟨p, hp, rfl⟩ := hx
      rw [H3in p hp, Obj.ren_free]; exact wfree p hp
    · rw [H3out o (fun p hp e1 => hx ⟨p, hp, e1⟩)]
      split
      · rfl
      · exact h
  have c2 : ∀ j, isFree (setH (heapC Hr L) (wr ++ res) j) = false → (∃ p, p ∈ wr ++ res ∧ p.1 = j) ∨ (OBJB ≤ j ∧ j < OBJB + L.length) := fun j h => by
    by_cases hx : ∃ p, p ∈ wr ++ res ∧ p.1 = j
    · exact .inl hx
    · rw [setH_out _ _ j (fun p hp e1 => hx ⟨p, hp, e1⟩)] at h
      by_cases hrg : OBJB ≤ j ∧ j < OBJB + L.length
      · exact .inr hrg
      · rw [heapC_out hrg] at h; cases h
  have free3 : ∀ j, isFree (setH (heapC Hr L) (wr ++ res) j) = false → isFree (H3 (ofR L F j)) = false := fun j h => by
    rcases c2 j h with ⟨p, hp, rfl⟩ | hrg
    · rw [H3in p hp, Obj.ren_free]; exact wfree p hp
    · rw [rL j hrg.1]; exact free3' _ (hLfree _ (ofC_mem hrg.1 hrg.2))
  -- the places
  let plN : Nat → Place := fun o => if o ∈ F then pl' (RESB + F.idxOf o) else pl o
  have plO : ∀ o, isFree (H o) = false → plN o = pl o := fun o h => if_neg (fun hf => by rw [hF1 o hf] at h; cases h)
  have plR : ∀ j, isFree (setH (heapC Hr L) (wr ++ res) j) = false → plN (ofR L F j) = pl' j := fun j h => by
    have rng : (OBJB ≤ j ∧ j < OBJB + L.length) → plN (ofR L F j) = pl' j := fun hrg => by
      rw [rL j hrg.1, plO _ (hLfree _ (ofC_mem hrg.1 hrg.2))]
      refine (q2 j ?_).symm
      rw [heapC_get hrg.1 hrg.2, Obj.ren_free]
      exact hc.fr _ (ofC_mem hrg.1 hrg.2)
    rcases c2 j h with ⟨p, hp, rfl⟩ | hrg
    · rcases List.mem_append.1 hp with hp | hp
      · exact rng (kw p hp)
      · obtain ⟨k, hk, e1, _⟩ := kres p hp
        show (if ofR L F p.1 ∈ F then pl' (RESB + F.idxOf (ofR L F p.1)) else pl (ofR L F p.1)) = pl' p.1
        rw [if_pos (inF p hp), e1, rF k (by omega), hF2.idxOf_getElem]
    · exact rng hrg
  -- blocks
  have notX : ∀ o c, (∀ p, p ∈ wr ++ res → ofR L F p.1 ≠ o) → H o = .live c → ∀ b, (pl o).block = some b → ¬ XOf pl Hr L (e.wr.map (·.1)) b := by
    rintro o c hx hl b hb ⟨i, c', hi, hik, hib⟩
    obtain ⟨hrg, c0, h0, _⟩ := heapC_live hi
    rw [← ho.keys] at hik
    obtain ⟨p, hp, e1⟩ := List.mem_map.1 hik
    have e1 : p.1 = i := e1
    refine hg.dj o (ofC L i) c c0 hl (hlive _ _ h0) (fun e2 => hx p (List.mem_append_left _ hp) ?_) b hb hib
    rw [e1, rL i hrg.1, e2]
  have Xba : ∀ b, XOf pl Hr L (e.wr.map (·.1)) b → B.w.heap.size ≤ b ∨ B.X b := by
    rintro b ⟨i, c', hi, hik, hib⟩
    obtain ⟨hrg, c0, h0, _⟩ := heapC_live hi
    exact hg.baw (hlive _ _ h0) (hro1 i hik) hib
  have notro : ∀ p, p ∈ wr ++ res → roOf (e.wr.map (·.1)) p.1 = true → False := fun p hp h => by
    unfold roOf at h
    simp only [Bool.and_eq_true, Nat.ble_eq, Bool.not_eq_true', List.contains_eq_mem, decide_eq_false_iff_not] at h
    rcases List.mem_append.1 hp with hp | hp
    · exact h.2 (kwk p hp)
    · obtain ⟨k, hk, e1, _⟩ := kres p hp
      have := h.1.1
      omega
  -- the memory that is immutable
  obtain ⟨ZN, hZ1, hZ2, hZ3⟩ : ∃ ZN : Nat → Prop, (∀ b, Z b → ZN b) ∧ (∀ b, ZN b → Z' b) ∧ ((ZN = Z' ∧ kills = V) ∨ (ZN = Z ∧ flatAV e.dst = true ∧ e.wr = [])) := by
    rcases hm with ⟨h1, h2, _⟩ | h
    · exact ⟨Z, fun _ h => h, fun b hb => (q3 b (.inl hb)).1, .inr ⟨rfl, h1, h2⟩⟩
    · exact ⟨Z', fun b hb => (q3 b (.inl hb)).1, fun _ h => h, .inl ⟨rfl, h⟩⟩
  have keep : ∀ b, Z b → ZN b ∧ w'.heap[b]? = w.heap[b]? := fun b hb => ⟨hZ1 b hb, (q3 b (.inl hb)).2⟩
  have resEq : ∀ p, p ∈ res → e.wr = [] → p ∈ (openA RESB e.dst).2.1 := fun p hp he => by
    have h1 := ho.eq
    have hw : wr = [] := by have := ho.keys; rw [he] at this; simpa using this
    rw [hw, List.nil_append] at h1
    unfold openE at h1
    rw [he] at h1
    simp only [openW, List.nil_append, List.append_nil] at h1
    rw [h1]; exact hp
  have dstEq : (openE e).dst = (openA RESB e.dst).1 := rfl
  refine ⟨plN, ZN, ?_, plO, keep, ?_, ?_, free3'⟩
  · refine ⟨fun b hb => q1.z b (hZ2 b hb), fun o c hl => ?_, fun o o' c c' hl hl' hne b hb hb' => ?_, fun o c hl b hb => ?_, Nat.le_trans hg.si q1.si, hg.io.trans q1.io, fun b hb hx => ?_, fun b hb => hZ1 b (hg.zz b hb), fun b hb => ?_, fun o c hl o' ho' => ?_⟩
    · rcases cls o c hl with ⟨p, hp, rfl, c', hp2, rfl⟩ | ⟨hx, hk, hl0⟩
      · have hlive2 : setH (heapC Hr L) (wr ++ res) p.1 = .live c' := by rw [H2in p hp, hp2]
        have hob := q1.ob _ _ hlive2
        rw [plR _ (by rw [hlive2]; rfl)]
        rcases hZ3 with ⟨rfl, _⟩ | ⟨rfl, hfl, he⟩
        · refine OB.ren (fun b hb => ⟨hb, rfl⟩) _ ?_ (fun j hj => plR j (q1.kn _ _ hlive2 j hj)) (fun b hb => ⟨rfl, id⟩) hob
          rcases List.mem_append.1 hp with hp | hp
          · have := kF p hp
            rw [hp2] at this
            simpa [objF] using this
          · obtain ⟨_, _, _, t, l, h⟩ := kres p hp
            rw [hp2] at h; cases h; rfl
        · have hw : wr = [] := by have := ho.keys; rw [he] at this; simpa using this
          have hp : p ∈ res := by rw [hw] at hp; exact hp
          obtain ⟨_, _, _, t, l, h⟩ := kres p hp
          rw [hp2] at h
          cases h
          have hpd := resEq p hp he
          have hft : t.flat = true := by
            have := openA_flat e.dst RESB hfl p hpd
            rw [hp2] at this; exact this
          have hsl := AVn.slc (openA_zfree e.dst RESB hfl) (dstEq ▸ q4) p.1 (openA_refs e.dst RESB hfl p hpd)
          exact OB.row hsl (fun _ _ => .inr hft) (fun b hb hnz hz => hnz (hZ2 b hz)) hob
      · rw [plO o (by rw [hl0]; rfl)]
        refine OB.mono keep (fun j hj => plO j (hg.kn o c hl0 j hj)) (fun b hb => ?_) (hg.ob o c hl0)
        have hlt := (hg.ob o c hl0).lt hb
        refine ⟨q1.old b hlt.1 (notX o c hx hl0 b hb), fun hnz hz => ?_⟩
        rcases hZ3 with ⟨rfl, hkV⟩ | ⟨rfl, _, _⟩
        · rcases q1.zn b hz with h | h | h
          · rcases h with h | ⟨j, hj, ⟨cj, hcj⟩, hjb⟩
            · exact hnz h
            · exact hg.dj o j c cj hl0 (hlive _ _ hcj) (fun e1 => hk (by rw [hkV, e1]; exact hj)) b hb hjb
          · have : w.heap.size ≤ b := h
            omega
          · exact notX o c hx hl0 b hb h
        · exact hnz hz
    · -- distinct
      have ab : ∀ p, p ∈ wr ++ res → ∀ c1, p.2 = .live c1 → ∀ o c, (∀ q, q ∈ wr ++ res → ofR L F q.1 ≠ o) → H o = .live c → (pl' p.1).block = some b → (pl o).block = some b → False := by
        intro p hp c1 hp2 o c hx hl0 hb1 hb2
        have hlive2 : setH (heapC Hr L) (wr ++ res) p.1 = .live c1 := by rw [H2in p hp, hp2]
        have hlt := ((hg.ob o c hl0).lt hb2).1
        rcases q1.ba _ _ hlive2 b hb1 with h | h | h
        · have : w.heap.size ≤ b := h
          omega
        · exact notX o c hx hl0 b hb2 h
        · exact notro p hp h
      rcases cls o c hl with ⟨p, hp, rfl, c1, hp2, rfl⟩ | ⟨hx, hk, hl0⟩
      · have hlive2 : setH (heapC Hr L) (wr ++ res) p.1 = .live c1 := by rw [H2in p hp, hp2]
        rw [plR _ (by rw [hlive2]; rfl)] at hb
        rcases cls o' c' hl' with ⟨q, hq, rfl, c2, hq2, rfl⟩ | ⟨hx', hk', hl0'⟩
        · have hlive3 : setH (heapC Hr L) (wr ++ res) q.1 = .live c2 := by rw [H2in q hq, hq2]
          rw [plR _ (by rw [hlive3]; rfl)] at hb'
          exact q1.dj _ _ _ _ hlive2 hlive3 (fun e1 => hne (by rw [e1])) b hb hb'
        · rw [plO o' (by rw [hl0']; rfl)] at hb'
          exact ab p hp c1 hp2 o' c' hx' hl0' hb hb'
      · rw [plO o (by rw [hl0]; rfl)] at hb
        rcases cls o' c' hl' with ⟨q, hq, rfl, c2, hq2, rfl⟩ | ⟨hx', hk', hl0'⟩
        · have hlive3 : setH (heapC Hr L) (wr ++ res) q.1 = .live c2 := by rw [H2in q hq, hq2]
          rw [plR _ (by rw [hlive3]; rfl)] at hb'
          exact ab q hq c2 hq2 o c hx hl0 hb' hb
        · rw [plO o' (by rw [hl0']; rfl)] at hb'
          exact hg.dj o o' c c' hl0 hl0' hne b hb hb'
    · rcases cls o c hl with ⟨p, hp, rfl, c1, hp2, rfl⟩ | ⟨hx, hk, hl0⟩
      · have hlive2 : setH (heapC Hr L) (wr ++ res) p.1 = .live c1 := by rw [H2in p hp, hp2]
        rw [plR _ (by rw [hlive2]; rfl)] at hb
        rcases q1.ba _ _ hlive2 b hb with h | h | h
        · exact .inl (Nat.le_trans hg.si h)
        · exact (Xba b h).imp id .inl
        · exact (notro p hp h).elim
      · rw [plO o (by rw [hl0]; rfl)] at hb
        exact hg.ba o c hl0 b hb
    · refine (q1.old b (Nat.lt_of_lt_of_le hb hg.si) (fun hX => ?_)).trans (hg.old b hb hx)
      rcases Xba b hX with h | h
      · omega
      · exact hx h
    · rcases hZ3 with ⟨rfl, hkV⟩ | ⟨rfl, _, _⟩
      · rcases q1.zn b hb with h | h | h
        · rcases h with h | ⟨j, hj, ⟨cj, hcj⟩, hjb⟩
          · exact hg.zn b h
          · exact .inr (hg.baw (hlive _ _ hcj) (hro2 j (by rw [hkV]; exact hj)) hjb)
        · exact .inr (.inl (Nat.le_trans hg.si h))
        · exact .inr (Xba b h)
      · exact hg.zn b hb
    · rcases cls o c hl with ⟨p, hp, rfl, c1, hp2, rfl⟩ | ⟨hx, hk, hl0⟩
      · have hlive2 : setH (heapC Hr L) (wr ++ res) p.1 = .live c1 := by rw [H2in p hp, hp2]
        rw [AV.ren_refs] at ho'
        obtain ⟨j, hj, rfl⟩ := List.mem_map.1 ho'
        exact free3 j (q1.kn _ _ hlive2 j hj)
      · exact free3' o' (hg.kn o c hl0 o' ho')
  · have hq : AVn P ⟨w, Zup pl Z Hr V, XOf pl Hr L (e.wr.map (·.1)), roOf (e.wr.map (·.1))⟩ pl' ZN w' (openE e).dst v := by
      rcases hZ3 with ⟨rfl, _⟩ | ⟨rfl, hfl, _⟩
      · exact q4
      · exact AVn.zfree (openA_zfree e.dst RESB hfl) (dstEq ▸ q4)
    exact AVn.ren (fun b hb => ⟨hb, rfl⟩) _ hk4 (fun o ho => plR o (q5 o ho)) hq
  · intro o ho'
    rw [AV.ren_refs] at ho'
    obtain ⟨j, hj, rfl⟩ := List.mem_map.1 ho'
    exact free3 j (q5 j hj)
end
end A
end Go.Proofs.Ythgnjimpakpkjaa
namespace Go.Proofs.Ythgnjimpakpkjaa
namespace A
section
variable {P : Program} {B B2 : Base} {tb : Tab} {H Hr : Heap} {pl pl2 : Nat → Place} {Z Z2 : Nat → Prop} {w w2 w' : World} {d : Nat} {G : Specs}

theorem GR.ext (hg : GR P B pl Z w H) (hX : ∀ b, ¬ B.X b) : Ext B.w B.Z w Z :=
  ⟨hg.si, hg.io, fun b hb => hg.old b hb (hX b), hg.zz, fun b hb => (hg.zn b hb).elim .inl (fun h => h.elim .inr (fun h => (hX b h).elim))⟩
theorem Fnp1OK.later {w0 w1 : World} {Z0 Z1 : Nat → Prop} {a b : Ty} {pre : El a → Prop} {F : El a → El b} {v : Value} (he : Ext w0 Z0 w1 Z1) (h : Fnp1OK P w0 Z0 a b pre F v) : Fnp1OK P w1 Z1 a b pre F v :=
  let ⟨f, caps, hv, h⟩ := h; ⟨f, caps, hv, fun w Z x u h1 => h w Z x u (he.trans h1)⟩
theorem Fnp2OK.later {w0 w1 : World} {Z0 Z1 : Nat → Prop} {a b c : Ty} {pre : El a → El b → Prop} {F : El a → El b → El c} {v : Value} (he : Ext w0 Z0 w1 Z1) (h : Fnp2OK P w0 Z0 a b c pre F v) : Fnp2OK P w1 Z1 a b c pre F v :=
  let ⟨f, caps, hv, h⟩ := h; ⟨f, caps, hv, fun w Z x y u u' h1 => h w Z x y u u' (he.trans h1)⟩

/-- a closure's captured values -/
theorem caps_av1s : ∀ (c : AV) (us : List Value), c.isList = true → capsOK c = true → AVs P B pl Z w c us → AV1s P B pl Z w c.toL us
  | .unit, us, _, _, h => by rw [show us = [] from h]; trivial
  | .cons a b, us, hl, hk, ⟨u, v, h1, h2, h3⟩ => by
    simp only [capsOK, AV.toL, List.all_cons, Bool.and_eq_true, beq_iff_eq, Bool.not_eq_true'] at hk
    obtain ⟨⟨⟨k1, k2⟩, k3⟩, k4⟩ := hk
    obtain ⟨x, rfl⟩ := one_cell h2 k1
    subst h1
    exact ⟨by unfold AV1; rw [if_neg (by rw [k2]; simp)]; exact h2, caps_av1s b v hl k4 h3⟩
theorem AV1s.ren (hz : ∀ b, Z b → Z2 b ∧ w2.heap[b]? = w.heap[b]?) (m : Nat → Nat) : ∀ (l : List AV) (xs : List Value), (∀ v, v ∈ l → v.hasF = false) → (∀ v, v ∈ l → ∀ o, o ∈ v.refs → pl2 (m o) = pl o) → AV1s P B pl Z w l xs → AV1s P B2 pl2 Z2 w2 (l.map (AV.ren m)) xs
  | [], [], _, _, h => h
  | a :: l, x :: xs, hF, hp, h => ⟨AV1.ren hz m (hF a (by simp)) (hp a (by simp)) h.1, AV1s.ren hz m l xs (fun v hv => hF v (by simp [hv])) (fun v hv => hp v (by simp [hv])) h.2⟩
theorem AV1s.append : ∀ (l m : List AV) (xs ys : List Value), AV1s P B pl Z w l xs → AV1s P B pl Z w m ys → AV1s P B pl Z w (l ++ m) (xs ++ ys)
  | [], m, [], ys, _, h => h
  | a :: l, m, x :: xs, ys, h, h2 => ⟨h.1, AV1s.append l m xs ys h.2 h2⟩

theorem R1v.of {t : Ty} {x : El t} {v : Value} (h : AVn P B pl Z w (.val t x) v) : R1v w Z t x v := by
  have h : AV1 P B pl Z w (.val t x) v := h
  unfold AV1 at h
  exact h
theorem AV1.of_R1v {t : Ty} {x : El t} {v : Value} (h : R1v w Z t x v) : AV1 P B pl Z w (.val t x) v := by
  unfold AV1; unfold R1v at h; exact h

/-- a specification, called: what is asked and what is said -/
theorem callSp_eq {sp : Spec} {args : List AV} {e : Eff} (h : callSp sp Hr args = some e) :
    Closed Hr (reach Hr FUEL (args.flatMap AV.refs) []) (args.flatMap AV.refs) ∧ sp (args.map (AV.ren (toC (reach Hr FUEL (args.flatMap AV.refs) [])))) (heapC Hr (reach Hr FUEL (args.flatMap AV.refs) [])) = some e := by
  unfold callSp at h
  simp only at h
  split at h
  · rename_i hc; exact ⟨Closed.of hc, h⟩
  · cases h

theorem conjL_all : ∀ (l : List Prop), conjL l → ∀ p, p ∈ l → p
  | [], _, p, h => by cases h
  | q :: l, h, p, hp => by
    rcases List.mem_cons.1 hp with e | hp
    · rw [e]; exact h.1
    · exact conjL_all l h.2 p hp

/-- a pure closure, called in any later world -/
theorem clos_calls (hg : GR P B pl Z w H) (hlive : ∀ o v, Hr o = .live v → H o = .live v) {f : Nat} {sp : Spec} (hS : Sat P f sp) {args : List AV} {c : AV} {V : List Nat} (hV : ∀ o, o ∈ V → o ∉ reach Hr FUEL (c.toL.flatMap AV.refs) [])
    (ha : ∀ v, v ∈ args → v.refs = [] ∧ v.hasF = false) (hcap : capsOK c = true) (hlist : c.isList = true) {us : List Value} (hus : AVs P B pl Z w c us) {t : Ty} (hok : resOk t (callSp sp Hr (args ++ c.toL)))
    {w1 : World} {Z1 : Nat → Prop} (he : Ext w (Zup pl Z Hr V) w1 Z1) (hl : ∀ b, Z1 b → b < w1.heap.size) {xs : List Value} (hxs : ∀ B pl, AV1s P B pl Z1 w1 args xs) :
    (callFunc f (xs ++ us).toArray).run P w1 = .ok (.enter f (xs ++ us).toArray) w1 ∧
    Calls P f (xs ++ us).toArray w1 (fun ex w' => ∃ r Z', ex = .returned r ∧ Ext w1 Z1 w' Z' ∧ (∀ b, Z' b → b < w'.heap.size) ∧ R1v w' Z' t (resTy t (callSp sp Hr (args ++ c.toL))) r) := by
  have hrefs : (args ++ c.toL).flatMap AV.refs = c.toL.flatMap AV.refs := by
    rw [List.flatMap_append, (List.flatMap_eq_nil_iff.2 fun v hv => (ha v hv).1), List.nil_append]
  unfold resOk at hok
  split at hok
  case h_2 => exact hok.elim
  rename_i p t' y hcs
  split at hok
  case isFalse => exact hok.elim
  rename_i htt
  subst htt
  rw [hcs]
  obtain ⟨hc, hsp⟩ := callSp_eq hcs
  rw [hrefs] at hc hsp
  generalize hL : reach Hr FUEL (c.toL.flatMap AV.refs) [] = L at *
  have hgc := hg.canon hlive hc hV (X := fun _ => False) (ro := roOf []) (fun i c hi hro b hb => by
    obtain ⟨hr, _⟩ := heapC_live hi
    have := hc.ln
    have : roOf [] i = true := by
      simp only [roOf, Bool.and_eq_true, Nat.ble_eq, Nat.blt_eq]
      exact ⟨⟨hr.1, by omega⟩, rfl⟩
    rw [this] at hro; cases hro) he hl
  have hcl : AV1s P ⟨w1, Z1, fun _ => False, roOf []⟩ (fun i => pl (ofC L i)) Z1 w1 (c.toL.map (AV.ren (toC L))) us := by
    refine AV1s.ren (B := B) (pl := pl) (Z := Z) (w := w) (fun b hb => ⟨he.zz b (.inl hb), he.old b (hg.z b hb)⟩) (toC L) _ _ (fun v hv => ?_) (fun v hv o ho => ?_) (caps_av1s c us hlist hcap hus)
    · have := List.all_eq_true.1 hcap v hv
      simp only [Bool.and_eq_true, Bool.not_eq_true'] at this
      exact this.2
    · rw [ofC_toC (hc.rf o (List.mem_flatMap.2 ⟨v, hv, ho⟩))]
  have hal : AV1s P ⟨w1, Z1, fun _ => False, roOf []⟩ (fun i => pl (ofC L i)) Z1 w1 (args.map (AV.ren (toC L))) xs := by
    refine AV1s.ren (B := B) (pl := fun i => pl (ofC L (toC L i))) (Z := Z1) (w := w1) (fun b hb => ⟨hb, rfl⟩) (toC L) _ _ (fun v hv => (ha v hv).2) (fun v hv o ho => rfl) (hxs _ _)
  obtain ⟨h1, h2⟩ := hS w1 Z1 (fun _ => False) (fun i => pl (ofC L i)) (heapC Hr L) _ (xs ++ us) _ hsp (conjL_all p hok) hgc (by rw [List.map_append]; exact AV1s.append _ _ _ _ hal hcl) (fun v hv o ho => by
    rw [List.map_append, List.mem_append] at hv
    rcases hv with hv | hv
    · obtain ⟨v0, hv0, rfl⟩ := List.mem_map.1 hv
      rw [AV.ren_refs, (ha v0 hv0).1] at ho; cases ho
    · obtain ⟨v0, hv0, rfl⟩ := List.mem_map.1 hv
      rw [AV.ren_refs] at ho
      obtain ⟨i, hi, rfl⟩ := List.mem_map.1 ho
      have hiL := hc.rf i (List.mem_flatMap.2 ⟨v0, hv0, hi⟩)
      obtain ⟨q1, q2⟩ := toC_rng hiL
      rw [heapC_get q1 q2, ofC_toC hiL, Obj.ren_free]
      exact hc.fr i hiL) (fun o ho => by
    by_cases hrg : OBJB ≤ o ∧ o < OBJB + L.length
    · have := hc.ln; omega
    · rw [heapC_out hrg] at ho; cases ho)
  refine ⟨h1, h2.mono ?_⟩
  rintro ex w' ⟨r, rfl, pl', Z', q1, q2, q3, q4, q5, q6⟩
  refine ⟨r, Z', rfl, q1.ext (fun _ h => h), q1.z, ?_⟩
  have : R1v w' Z' t' y r := R1v.of q4
  unfold resTy
  simp only [castT, dif_pos]
  exact this
end
end A
end Go.Proofs.Ythgnjimpakpkjaa
namespace Go.Proofs.Ythgnjimpakpkjaa
namespace A
section
variable {P : Program} {B B2 : Base} {tb : Tab} {H Hr : Heap} {pl pl2 : Nat → Place} {Z Z2 : Nat → Prop} {w w2 w' : World} {d : Nat} {G : Specs}

def AVns (P : Program) (B : Base) (pl : Nat → Place) (Z : Nat → Prop) (w : World) : List AV → List Value → Prop
  | [], [] => True
  | a :: l, x :: xs => AVn P B pl Z w a x ∧ AVns P B pl Z w l xs
  | _, _ => False

theorem zup_ext (hg : GR P B pl Z w H) (hlive : ∀ o v, Hr o = .live v → H o = .live v) {V : List Nat} (hX : ∀ b, ¬ B.X b) (hV : ∀ o, o ∈ V → B.ro o = false) : Ext B.w B.Z w (Zup pl Z Hr V) := by
  refine ⟨hg.si, hg.io, fun b hb => hg.old b hb (hX b), fun b hb => .inl (hg.zz b hb), fun b hb => ?_⟩
  rcases hb with hb | ⟨o, ho, ⟨c, hc⟩, hb⟩
  · exact (hg.zn b hb).elim .inl (fun h => h.elim .inr (fun h => (hX b h).elim))
  · exact (hg.baw (hlive _ _ hc) (hV o ho) hb).elim .inr (fun h => (hX b h).elim)

theorem argAV_sound (hg : GR P B pl Z w H) (hlive : ∀ o v, Hr o = .live v → H o = .live v) (hG : ∀ f sp, G.lookup f = some sp → Sat P f sp) {V : List Nat} {v : AV} (hVv : ∀ o, o ∈ v.vecs → o ∈ V) (hVK : ∀ o, o ∈ V → o ∉ closR Hr v)
    {ty : Nat} {a : AV} {x : Value} {kn : Bool} (h : argAV tb G Hr kn ty v = some a) (hx : AVn P B pl Z w v x) (hV : a.hasF = true → ∀ o, o ∈ V → B.ro o = false) {Bc : Base} {plc : Nat → Place} {m : Nat → Nat} (hw : Bc.w = w) (hZ : Bc.Z = Zup pl Z Hr V)
    (hX : a.hasF = true → ∀ b, ¬ Bc.X b) (hm : ∀ o, o ∈ a.refs → plc (m o) = pl o) : AV1 P Bc plc (Zup pl Z Hr V) w (a.ren m) x := by
  have hz : ∀ b, Z b → Zup pl Z Hr V b ∧ w.heap[b]? = w.heap[b]? := fun b hb => ⟨.inl hb, rfl⟩
  have hob : ∀ o c, Hr o = .live c → OB P B pl Z w (pl o) c := fun o c ho => hg.ob o c (hlive o c ho)
  have simple : ∀ {a}, a.hasF = false → a ≠ .undef → (∀ l, a ≠ .tup l) → (∀ o, o ∈ a.refs → plc (m o) = pl o) → AVn P B pl Z w a x → AV1 P Bc plc (Zup pl Z Hr V) w (a.ren m) x := fun hF h1 h2 hm hx => AV1.ren hz m hF hm (hx.to1 h1 h2)
  have ty_case : (match tb.ty ty with | some t => (asTy Hr t v).map fun x => AV.val t x | none => none) = some a → AV1 P Bc plc (Zup pl Z Hr V) w (a.ren m) x := by
    intro h
    split at h
    case h_2 => cases h
    rename_i t _
    obtain ⟨y, h1, rfl⟩ := opt_map h
    have hne := asTy_ne h1
    have := asTy_1 hob h1 (hx.to1 hne.1 hne.2)
    refine AV1.of_R1v ?_
    unfold R1v at this ⊢
    split
    · rename_i hs; rw [if_pos hs] at this; obtain ⟨us, e1, e2⟩ := this; exact ⟨us, e1, e2.mono' fun b hb => ⟨Zup.sub hVv hb, rfl⟩⟩
    · rename_i hs; rw [if_neg hs] at this; exact this.mono' fun b hb => ⟨Zup.sub hVv hb, rfl⟩
  cases v with
  | val t y => cases h; exact simple rfl (by simp) (by simp) hm hx
  | ref o off => cases h; exact simple rfl (by simp) (by simp) hm hx
  | nilp => cases h; exact simple rfl (by simp) (by simp) hm hx
  | rop t y => cases h; exact simple rfl (by simp) (by simp) hm hx
  | nilf => cases h; exact simple rfl (by simp) (by simp) hm hx
  | nili => cases h; exact simple rfl (by simp) (by simp) hm hx
  | fnp1 a b pre F =>
    cases h
    obtain ⟨v, h1, h2, h3⟩ := (AVn.s rfl (by simp) (by simp)).1 hx
    have he := zup_ext hg hlive h2 (hV rfl)
    refine (AV1.s rfl).2 ⟨v, h1, hX rfl, ?_⟩
    rw [hw, hZ]
    exact h3.later he
  | fnp2 a b c pre F =>
    cases h
    obtain ⟨v, h1, h2, h3⟩ := (AVn.s rfl (by simp) (by simp)).1 hx
    have he := zup_ext hg hlive h2 (hV rfl)
    refine (AV1.s rfl).2 ⟨v, h1, hX rfl, ?_⟩
    rw [hw, hZ]
    exact h3.later he
  | iface T u =>
    simp only [argAV] at h
    split at h
    · cases h
    · rename_i hF
      cases h
      exact simple (by simpa [AV.hasF] using hF) (by simp) (by simp) hm hx
  | fn f c =>
    obtain ⟨us, hv, hlist, hus⟩ := (AVn.s rfl (by simp) (by simp)).1 hx
    cases hv
    simp only [argAV] at h
    split at h
    · cases h
    rename_i hcap
    have hcap : capsOK c = true := by simpa using hcap
    split at h
    · rename_i ta tb' hk
      split at h
      case h_2 => cases h
      rename_i a b sp _ _ hsp
      cases h
      refine (AV1.s rfl).2 ⟨_, rfl, hX rfl, f, us.toArray, rfl, ?_⟩
      intro w1 Z1 y u he hl hpre hR
      rw [hw, hZ] at he
      have := clos_calls (xs := [u]) hg hlive (hG f sp hsp) (args := [.val a y]) (c := c) (V := V) hVK (by simp [AV.refs, AV.hasF]) hcap hlist hus hpre he hl (fun B pl => ⟨AV1.of_R1v hR, trivial⟩)
      have e1 : ([u] ++ us).toArray = #[u] ++ us.toArray := by simp
      rw [e1] at this
      exact this
    · rename_i ta tb' tc hk
      split at h
      case h_2 => cases h
      rename_i a b c' sp _ _ _ hsp
      cases h
      refine (AV1.s rfl).2 ⟨_, rfl, hX rfl, f, us.toArray, rfl, ?_⟩
      intro w1 Z1 y y' u u' he hl hpre hR hR'
      rw [hw, hZ] at he
      have := clos_calls (xs := [u, u']) hg hlive (hG f sp hsp) (args := [.val a y, .val b y']) (c := c) (V := V) hVK (by simp [AV.refs, AV.hasF]) hcap hlist hus hpre he hl (fun B pl => ⟨AV1.of_R1v hR, AV1.of_R1v hR', trivial⟩)
      have e1 : ([u, u'] ++ us).toArray = #[u, u'] ++ us.toArray := by simp
      rw [e1] at this
      exact this
    · cases h
  | undef => exact ty_case h
  | unit => exact ty_case h
  | valc t l => exact ty_case h
  | nils =>
    simp only [argAV] at h
    split at h
    · cases h; exact simple rfl (by simp) (by simp) hm hx
    · exact ty_case h
  | vec o => exact ty_case h
  | view o k t lo n => exact ty_case h
  | refi o k t i so => exact ty_case h
  | cons a b => exact ty_case h
  | st l => exact ty_case h
  | tup l => exact ty_case h
  | whn g b u => exact ty_case h
  | own t l => exact ty_case h

theorem argsAV_sound (hg : GR P B pl Z w H) (hlive : ∀ o v, Hr o = .live v → H o = .live v) (hG : ∀ f sp, G.lookup f = some sp → Sat P f sp) {V : List Nat} {Bc : Base} {plc : Nat → Place} {m : Nat → Nat} {kn : Bool} (hw : Bc.w = w) (hZ : Bc.Z = Zup pl Z Hr V) :
    ∀ (tys : List Nat) (args avl : List AV) (xs : List Value), argsAV tb G Hr kn tys args = some avl → AVns P B pl Z w args xs → (∀ v, v ∈ args → ∀ o, o ∈ v.vecs → o ∈ V) → (∀ v, v ∈ args → ∀ o, o ∈ V → o ∉ closR Hr v) →
    ((∃ a, a ∈ avl ∧ a.hasF = true) → (∀ o, o ∈ V → B.ro o = false) ∧ ∀ b, ¬ Bc.X b) → (∀ a, a ∈ avl → ∀ o, o ∈ a.refs → plc (m o) = pl o) → AV1s P Bc plc (Zup pl Z Hr V) w (avl.map (AV.ren m)) xs
  | [], [], avl, xs, h, hx, _, _, _, _ => by
    cases h
    cases xs with
    | nil => trivial
    | cons _ _ => exact hx.elim
  | ty :: tys, v :: args, avl, xs, h, hx, hv, hk, hF, hm => by
    simp only [argsAV] at h
    obtain ⟨a, h1, h2⟩ := Option.bind_eq_some_iff.1 h
    obtain ⟨as', h3, rfl⟩ := opt_map h2
    cases xs with
    | nil => exact hx.elim
    | cons x xs =>
      refine ⟨argAV_sound hg hlive hG (hv v (by simp)) (hk v (by simp)) h1 hx.1 (fun hf => (hF ⟨a, by simp, hf⟩).1) hw hZ (fun hf => (hF ⟨a, by simp, hf⟩).2) (hm a (by simp)), ?_⟩
      exact argsAV_sound hg hlive hG hw hZ tys args as' xs h3 hx.2 (fun u hu => hv u (by simp [hu])) (fun u hu => hk u (by simp [hu])) (fun ⟨u, hu, hf⟩ => hF ⟨u, by simp [hu], hf⟩) (fun u hu => hm u (by simp [hu]))
  | [], _ :: _, _, _, h, _, _, _, _, _ => by simp [argsAV] at h
  | _ :: _, [], _, _, h, _, _, _, _, _ => by simp [argsAV] at h

theorem callEff_sound (hg : GR P B pl Z w H) (hr : ∀ o, Hr o = H o ∨ Hr o = .free) (hfr : ∀ k, k < 16 → Hr (fam d k) = H (fam d k)) (hG : ∀ f sp, G.lookup f = some sp → Sat P f sp) (hroB : ∀ o, B.ro o = true → OBJB ≤ o ∧ o < OBJB + 1000)
    {f : Nat} {tys : List Nat} {args : List AV} {caps : AV} {ef : Eff} {xs us : List Value} (h : callEff tb G Hr d f tys args caps = some ef) (hxs : AVns P B pl Z w args xs) (hkn : ∀ v, v ∈ args → ∀ o, o ∈ v.refs → isFree (H o) = false)
    (hul : caps.isList = true) (hus : AVs P B pl Z w caps us) (hp : ∀ p, p ∈ ef.pre → p) (hro : ∀ p, p ∈ ef.wr → B.ro p.1 = false) :
    (callFunc f (xs ++ us).toArray).run P w = .ok (.enter f (xs ++ us).toArray) w ∧
    Calls P f (xs ++ us).toArray w (fun ex w' => ∃ v, ex = .returned v ∧ Post P B H pl Z w ef.wr ef.dst v w') := by
  have hlive : ∀ o v, Hr o = .live v → H o = .live v := fun o v h => by
    rcases hr o with h' | h'
    · rw [← h']; exact h
    · rw [h] at h'; cases h'
  unfold callEff at h
  split at h
  case h_2 => cases h
  rename_i sp avl hsp has
  simp only at h
  split at h
  case h_2 => cases h
  rename_i e he
  split at h
  case isFalse => cases h
  rename_i hchk
  simp only [Bool.and_eq_true] at hchk
  obtain ⟨⟨hcap, hVall⟩, hFchk⟩ := hchk
  obtain ⟨e', hland, rfl⟩ := opt_map h
  obtain ⟨hc, hspe⟩ := callSp_eq he
  generalize hL : reach Hr FUEL ((avl ++ caps.toL).flatMap AV.refs) [] = L at *
  generalize hV : args.flatMap AV.vecs = V at *
  have hV0 : ∀ o, o ∈ V → o ∉ L ∧ o ∉ args.flatMap (closR Hr) ∧ isLive (Hr o) = true := fun o ho => by
    have := List.all_eq_true.1 hVall o ho
    simp only [Bool.and_eq_true, Bool.not_eq_true', List.contains_eq_mem, decide_eq_false_iff_not] at this
    exact ⟨this.1.1, this.1.2, this.2⟩
  unfold landE at hland
  simp only at hland
  split at hland
  case isFalse => cases hland
  rename_i hlk
  simp only [Bool.and_eq_true, decide_eq_true_eq, Bool.not_eq_true'] at hlk
  obtain ⟨⟨⟨l1, l2⟩, l3⟩, l4⟩ := hlk
  cases hland
  obtain ⟨wr, res, hop⟩ := openE_opened e
  have hk1 : ∀ p, p ∈ e.wr → (OBJB ≤ p.1 ∧ p.1 < OBJB + L.length) ∧ objF p.2 = true := fun p hp => by
    have := List.all_eq_true.1 l1 p hp
    simp only [Bool.and_eq_true, decide_eq_true_eq] at this
    refine ⟨this.1, ?_⟩
    have h2 := this.2
    unfold objF
    exact h2
  have hk3 : res.length ≤ (freeIds Hr d).length := by
    rw [hop.eq, List.length_append, show wr.length = e.wr.length from by rw [← List.length_map (f := fun p : Nat × Obj => p.1), hop.keys, List.length_map]] at l3
    omega
  -- what may be changed of what is handed on
  have hX : ∀ i c, heapC Hr L i = .live c → roOf (e.wr.map (·.1)) i = false → ∀ b, (pl (ofC L i)).block = some b → XOf pl Hr L (e.wr.map (·.1)) b := fun i c hi hro b hb => by
    obtain ⟨hrg, _⟩ := heapC_live hi
    have hln := hc.ln
    refine ⟨i, c, hi, ?_, hb⟩
    by_cases hm : i ∈ e.wr.map (·.1)
    · exact hm
    · have : roOf (e.wr.map (·.1)) i = true := by
        simp only [roOf, Bool.and_eq_true, Nat.ble_eq, Nat.blt_eq, Bool.not_eq_true', List.contains_eq_mem, decide_eq_false_iff_not]
        exact ⟨⟨hrg.1, by omega⟩, hm⟩
      rw [this] at hro; cases hro
  have hzl : ∀ b, Zup pl Z Hr V b → b < w.heap.size := fun b hb => by
    rcases hb with hb | ⟨o, _, ⟨c, ho⟩, hp⟩
    · exact hg.z b hb
    · exact ((hg.ob o c (hlive o c ho)).lt hp).1
  have hgc := hg.canon hlive hc (V := V) (fun o ho => (hV0 o ho).1) hX (Ext.refl w _) hzl
  have hwr0 : (∃ a, a ∈ avl ∧ a.hasF = true) → e.wr = [] ∧ ∀ o, o ∈ V → B.ro o = false := fun ⟨a, ha, hf⟩ => by
    simp only [Bool.or_eq_true, Bool.and_eq_true] at hFchk
    rcases hFchk with h | ⟨h1, h2⟩
    · have := List.all_eq_true.1 h a ha
      rw [hf] at this; cases this
    · refine ⟨by simpa using h1, fun o ho => ?_⟩
      have := List.all_eq_true.1 h2 o ho
      simp only [Bool.not_eq_true', Bool.and_eq_false_iff] at this
      cases hb : B.ro o with
      | false => rfl
      | true =>
        obtain ⟨g1, g2⟩ := hroB o hb
        rcases this with this | this
        · rw [Nat.ble_eq_true_of_le g1] at this; cases this
        · have h3 : Nat.blt o (OBJB + 1000) = true := by simpa [Nat.blt_eq] using g2
          rw [h3] at this; cases this
  have plc : ∀ o, o ∈ L → pl (ofC L (toC L o)) = pl o := fun o ho => by rw [ofC_toC ho]
  have ha1 := argsAV_sound (tb := tb) (V := V) (Bc := ⟨w, Zup pl Z Hr V, XOf pl Hr L (e.wr.map (·.1)), roOf (e.wr.map (·.1))⟩) (plc := fun i => pl (ofC L i)) (m := toC L) hg hlive hG rfl rfl tys args avl xs has hxs
    (fun v hv o ho => by rw [← hV]; exact List.mem_flatMap.2 ⟨v, hv, ho⟩) (fun v hv o ho hcl => (hV0 o ho).2.1 (List.mem_flatMap.2 ⟨v, hv, hcl⟩))
    (fun hf => ⟨(hwr0 hf).2, fun b hb => by
      obtain ⟨i, c, _, hi, _⟩ := hb
      rw [(hwr0 hf).1] at hi; cases hi⟩) (fun a ha o ho => plc o (hc.rf o (List.mem_flatMap.2 ⟨a, List.mem_append_left _ ha, ho⟩)))
  have ha2 : AV1s P ⟨w, Zup pl Z Hr V, XOf pl Hr L (e.wr.map (·.1)), roOf (e.wr.map (·.1))⟩ (fun i => pl (ofC L i)) (Zup pl Z Hr V) w (caps.toL.map (AV.ren (toC L))) us := by
    refine AV1s.ren (B := B) (pl := pl) (Z := Z) (w := w) (fun b hb => ⟨.inl hb, rfl⟩) (toC L) _ _ (fun v hv => ?_) (fun v hv o ho => plc o (hc.rf o (List.mem_flatMap.2 ⟨v, List.mem_append_right _ hv, ho⟩))) (caps_av1s caps us hul hcap hus)
    have := List.all_eq_true.1 hcap v hv
    simp only [Bool.and_eq_true, Bool.not_eq_true'] at this
    exact this.2
  obtain ⟨h1, h2⟩ := hG f sp hsp w (Zup pl Z Hr V) (XOf pl Hr L (e.wr.map (·.1))) (fun i => pl (ofC L i)) (heapC Hr L) _ (xs ++ us) e hspe hp hgc (by rw [List.map_append]; exact AV1s.append _ _ _ _ ha1 ha2) (fun v hv o ho => by
    obtain ⟨v0, hv0, rfl⟩ := List.mem_map.1 hv
    rw [AV.ren_refs] at ho
    obtain ⟨i, hi, rfl⟩ := List.mem_map.1 ho
    have hiL := hc.rf i (List.mem_flatMap.2 ⟨v0, hv0, hi⟩)
    obtain ⟨q1, q2⟩ := toC_rng hiL
    rw [heapC_get q1 q2, ofC_toC hiL, Obj.ren_free]
    exact hc.fr i hiL) (fun o ho => by
    by_cases hrg : OBJB ≤ o ∧ o < OBJB + L.length
    · have := hc.ln; omega
    · rw [heapC_out hrg] at ho; cases ho)
  refine ⟨h1, h2.mono ?_⟩
  rintro ex w' ⟨v, rfl, hpost⟩
  refine ⟨v, rfl, ?_⟩
  refine land_sound hg hr hfr hc (fun o ho => (hV0 o ho).1) (fun o ho => ?_) hop hk1 (dupFree_nodup _ l2) hk3 l4 hpost ?_ (fun i hi => ?_) (fun o ho => ?_)
  · have := (hV0 o ho).2.2
    cases hh : Hr o with
    | live c => rw [hlive o c hh]; rfl
    | dead => rw [hh] at this; cases this
    | free => rw [hh] at this; cases this
  · by_cases hcase : (flatAV e.dst && e.wr.isEmpty) = true
    · have h2 := hcase
      simp only [Bool.and_eq_true, List.isEmpty_iff] at h2
      exact .inl ⟨h2.1, h2.2, by rw [if_pos hcase]⟩
    · exact .inr (by rw [if_neg hcase])
  · have hi' : i ∈ wr.map (·.1) := by rw [hop.keys]; exact hi
    obtain ⟨p, hp1, rfl⟩ := List.mem_map.1 hi'
    obtain ⟨p0, hp0, e0⟩ := List.mem_map.1 hi
    have hge := (hk1 p0 hp0).1.1
    rw [e0] at hge
    have := hro (ofR L (freeIds Hr d) p.1, p.2.ren (ofR L (freeIds Hr d))) (by
      refine List.mem_append_left _ (List.mem_map.2 ⟨p, ?_, rfl⟩)
      rw [hop.eq]; exact List.mem_append_left _ hp1)
    have e1 : ofR L (freeIds Hr d) p.1 = ofC L p.1 := by unfold ofR ofC; rw [if_pos hge]
    rw [← e1]; exact this
  · exact hro (o, .dead) (List.mem_append_right _ (List.mem_map.2 ⟨o, ho, rfl⟩))
end
end A
end Go.Proofs.Ythgnjimpakpkjaa
