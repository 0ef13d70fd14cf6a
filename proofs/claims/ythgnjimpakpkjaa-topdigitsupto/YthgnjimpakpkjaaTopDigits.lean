/- TopDigits holds: for every array that is read with a bulk of at most 1048576, the law returns true and the array reads as before. No further condition. -/
import Derived.Test.YthgnjimpakpkjaaD08
namespace Go.Proofs.Ythgnjimpakpkjaa
namespace TopDigits
open A
open Go.ChangeShapes Go.WideShapes Go.ChangeAt Go.RowKit
set_option maxRecDepth 100000 in
theorem contract (H : Type) (enc : TypeId × Value → H) (W : World) (base : Nat) (args : Array Value) (ds gs : List (DataW H)) (before : List MemPlace)
    (hval : ∀ (j : Nat) t v, Try.f5.params[j]? = some t → args[j]? = some v → Value.okWide Try.prog W .any base t v)
    (hW : DataW.Whole enc Try.prog Try.f5.params.toList Rows.topDigitsSpec.vars false W args.toList ds gs before) (hk : Rows.uptoSmall H (ds ++ gs) = true) :
    Calls Try.prog 5 args W fun e W' => ∃ v, e = .returned v ∧ Rows.topDigitsSpec.post enc Try.prog Try.f5 false true false false W args v W' := by
  have hW' := hW
  obtain ⟨p, q, hA0, hV, rfl, hfz, hnd⟩ := hW
  have hA : DataW.TrodAll enc Try.prog W 0 (fun _ => true) true [26] args.toList ds p := hA0
  have hparams : Try.f5.params = #[26] := by kernel_rfl
  obtain ⟨v0, vs0, d0, ds0, p0, q0, hargs, rfl, rfl, h0, r0⟩ := trodAll_cons hA
  obtain ⟨rfl, rfl, rfl⟩ := trodAll_nil r0
  obtain rfl : args = #[v0] := by cases args; simp_all
  obtain ⟨rfl, rfl⟩ := trodVars_none hV
  have hb : Rows.uptoBulk d0 ≤ 1048576 := by
    simp only [List.append_nil] at hk
    have h : Rows.uptoBulkAll [d0] ≤ 1048576 := of_decide_eq_true hk
    have := bulk_le (d := d0) (l := [d0]) (by simp)
    omega
  have h26 : Value.okWide Try.prog W .any base 26 v0 := by
    refine hval 0 26 v0 ?_ ?_
    · rw [hparams]; rfl
    · rfl
  obtain ⟨y, hy⟩ := arr_arg (enc := enc) arrT h26 h0 hb
  refine (calls1 (e := e3) satTopDigits (y := y) rfl hy).mono fun e W' ⟨he, hl⟩ => ?_
  subst he
  refine ⟨_, rfl, post_true bool4 hW' hl (by kernel_rfl) rfl rfl rfl rfl rfl fun sp hsp => ?_⟩
  have hlt := hW'.lt
  simp only [List.append_nil] at hsp hlt ⊢
  exact ⟨p0, [], WideElems.Trod_stays laid rec26 size26 h0 (fun x hx => hl.same (hlt x hx)) (fun x hx => hsp x hx), rfl, by simp⟩
set_option maxRecDepth 100000 in
theorem lifted (os : Os) (started : os.Started) (H : Type) (enc : TypeId × Value → H) (F : Stop.Interp) :
    ReturnsInHanded {} Try.checked os 5 .any ((Rows.OpenSpec.upto Rows.topDigitsSpec).pre6 enc Try.prog Try.f5 Rows.topDigitsUptoRow.domain false) (((Rows.OpenSpec.upto Rows.topDigitsSpec).at F).post enc Try.prog Try.f5 false true false false) := by
  refine returnsInHanded_of_cond (C := Try.checked) (s := Rows.OpenSpec.upto Rows.topDigitsSpec) (k := Rows.uptoSmall) rfl own started (by kernel_rfl) Try.func5
    (OpenSpec.witness (enc := enc) (C := Try.checked) (s := Rows.OpenSpec.upto Rows.topDigitsSpec) (k := Rows.uptoSmall) rfl false ⟨#[], #[.agg #[.int .i64 0, .slice none 0 0, .slice none 0 0, .slice none 0 0]], []⟩ 8 (by kernel_rfl) (by kernel_rfl) (by kernel_rfl)
      (x := ([.agg [.lit (.int .i64 0), .nil, .nil, .nil]], [], [])) (by kernel_rfl) rfl (by kernel_rfl)) ?_
  intro W base args ds gs before hval hW _ hk _
  exact contract H enc W base args ds gs before hval hW hk
theorem proved : Rows.TopDigitsUptoSaid :=
  OpenClaim.holds_of_cond 5 Try.f5 rfl rfl rfl rfl rfl rfl rfl ⟨rfl, rfl, rfl, rfl, rfl⟩ rfl rfl rfl rfl rfl (by kernel_rfl) Try.func5 (by kernel_rfl)
    (of_decide_eq_true (by kernel_rfl)) (by unfold Func.isWrapper; first | (rw [if_pos (by decide +kernel)]; kernel_rfl) | (rw [if_neg (by decide +kernel)]; exact ⟨rfl, rfl⟩))
    (fun os started H enc _ F => lifted os started H enc F)
end TopDigits
end Go.Proofs.Ythgnjimpakpkjaa
