/- postelaw21.KeepErrors returns true for every input and leaves its arguments as they were; no conditions. -/
import Derived.Test.YtnamfghgemhljaaGreatQe
import Derived.Test.YtnamfghgemhljaaGreatQa
import Derived.WideKeyArgs
import Derived.Test.YtnamfghgemhljaaGreatRows
import Derived.WalkKit
import Derived.ProofKit
import Derived.OpenShut
namespace Go.Proofs.YtnamfghgemhljaaGreat.keepErrors
open Go.ChangeShapes Go.WideShapes Go.ChangeAt Go.RowKit
set_option linter.unusedVariables false      -- a walk need not use every 'w<i>' (that an integer argument fits its kind)

theorem own : ownKnob Tryz.prog.godebug = none := by kernel_rfl

theorem laid : laidOutB Tryz.prog = true := by kernel_rfl
theorem reads47 : Tryz.prog.readableRec 47 = true := by kernel_rfl
theorem row47 : 47 < Tryz.prog.types.size := of_decide_eq_true (by kernel_rfl)
theorem stays {H : Type} {enc : TypeId × Value → H} {base : Nat} {W W' : World} {sp' : Nat → Bool} {v : Value} {d : DataW H} {ps : List MemPlace}
    (h : DataW.Trod enc Tryz.prog W base (fun _ => true) true 47 v d ps) (hsame : ∀ p ∈ ps, W.sameAt W' p) (hs : ∀ p ∈ ps, sp' p.block = true) : DataW.Trod enc Tryz.prog W' base sp' true 47 v d ps :=
  Go.WideElems.Trod_stays laid reads47 row47 h hsame hs
theorem opened {H : Type} {enc : TypeId × Value → H} {base : Nat} {W : World} {sp : Nat → Bool} {a : Option Addr} {n c : Nat} {d : DataW H} {ps : List MemPlace}
    (h : DataW.Trod enc Tryz.prog W base sp true 47 (.slice a n c) d ps) : ∃ l : List Go.Pst.Eff, n = l.length ∧ Go.Pst.SlA W (.slice a l.length c) 13 l.length (l.flatMap Go.Pst.cEff) ∧ l.length ≤ c := by
  obtain ⟨nn, h⟩ := h
  obtain ⟨a', l, c', hv, hA1, hlc⟩ := Go.Pst.open_effs rfl h
  cases hv
  exact ⟨l, rfl, hA1, hlc⟩

set_option maxRecDepth 100000 in
theorem lifted (os : Os) (started : os.Started) (H : Type) (enc : TypeId × Value → H) :
    ReturnsInHanded {} Tryz.checked os 5 .any (Rows.keepErrorsSpec.pre6 enc Tryz.prog Tryz.f5 Rows.keepErrorsRow.domain false) (Rows.keepErrorsSpec.post enc Tryz.prog Tryz.f5 false true false false) := by
  refine returnsInHanded_of_change (C := Tryz.checked) own started (by kernel_rfl) Tryz.func5
    (ChangeSpec.witness6 (enc := enc) (C := Tryz.checked) false ⟨#[], #[.slice none 0 0, .int .i64 0], []⟩ 8 (by kernel_rfl) (by kernel_rfl) (by kernel_rfl) (by kernel_rfl)) ?_
  intro W base args ds gs before hval0 hW hcnd _
  have hval : ∀ (j : Nat) t v, Tryz.f5.params[j]? = some t → args[j]? = some v → Value.okWide Tryz.prog W .any base t v := hval0
  have hW' := hW
  obtain ⟨p, q, hA0, hV, rfl, hfz, hnd⟩ := hW
  have hA : DataW.TrodAll enc Tryz.prog W 0 (fun _ => true) true Tryz.f5.params.toList args.toList ds p := hA0
  rw [Tryz.params5] at hA hval
  obtain ⟨v0, vs0, d0, ds0, p0, q0, hargs, rfl, rfl, h0, r0⟩ := trodAll_cons hA
  obtain ⟨v1, vs1, d1, ds1, p1, q1, rfl, rfl, rfl, h1, r1⟩ := trodAll_cons r0
  obtain ⟨rfl, rfl, rfl⟩ := trodAll_nil r1
  obtain rfl : args = #[v0, v1] := by cases args; simp_all
  obtain ⟨rfl, rfl⟩ := trodVars_none hV
  obtain ⟨a1, rfl, rfl, rfl, w1⟩ := open_int Tryz.underlying3 (hval 1 3 v1 rfl rfl) h1
  obtain ⟨ax, lx, cx, rfl⟩ := okWide_slice Tryz.underlying47 (hval 0 47 v0 rfl rfl)
  obtain ⟨l, rfl, hA1, hlc⟩ := opened h0
  clear hA0 hval0
  have hlt := hW'.lt
  simp only [List.append_nil] at hW' hlt
  refine (Go.Pst.lw_errors W ax l cx hA1 hlc a1).yes.mono fun e W' ⟨he, hx⟩ => ?_
  have hg := hx.grown
  subst he
  exact ⟨_, rfl, post_of_same (pa := p0 ++ ([] ++ [])) (pv := []) hW' (fun _ _ _ => (trodAll_cons_mk (shut_bool Tryz.underlying4 _) trodAll_mk0))
    (fun sp hsp => (trodAll_cons_mk (stays h0 (fun p hp => hx.sameAt (hlt p hp)) hsp) (trodAll_cons_mk (shut_int Tryz.underlying3 w1) trodAll_mk0))) (fun _ _ => rfl) (by simp)
    (hg.frame _) hg.2.1 (ok_one (by kernel_rfl) rfl (okWide_bool_mk Tryz.underlying4 _))⟩

theorem over : Rows.keepErrorsRow.holds Tryz.pinned (OpenSpec.ofChange Rows.keepErrorsSpec) :=
  OpenClaim.holds_of_wide 5 Tryz.f5 rfl rfl rfl rfl rfl rfl rfl ⟨rfl, rfl, rfl, rfl, rfl⟩ rfl rfl rfl rfl rfl (by kernel_rfl) Tryz.func5 (by kernel_rfl)
    (of_decide_eq_true (by kernel_rfl)) (by unfold Func.isWrapper; first | (rw [if_pos (by decide +kernel)]; kernel_rfl) | (rw [if_neg (by decide +kernel)]; exact ⟨rfl, rfl⟩))
    (fun os started H enc _ => lifted os started H enc)

/--the statement-/
theorem proved : Rows.KeepErrorsSaid :=
  over
#print axioms proved
end Go.Proofs.YtnamfghgemhljaaGreat.keepErrors
