/- FnExactDeskNew: for every input the law returns true, and its argument reads as before. -/
import Derived.Test.YtgcdlkpjjnglbaaRows
import Derived.WalkKit
import Derived.ProofKit
import Derived.OpenShut
import Derived.ShutString
import Derived.ChangeOld
import Derived.Below
import Derived.SizedLaws
import Derived.Lib.SmallJoins
import Derived.Test.YtgcdlkpjjnglbaaBFnExactDeskNew0
import Derived.Test.YtgcdlkpjjnglbaaBFnExactDeskNew6

/- FnExactDeskNew: for every input the law returns true, and its argument reads as before. -/

namespace Go.Proofs.Ytgcdlkpjjnglbaa.fnExactDeskNew
open Go.ChangeShapes Go.WideShapes Go.ChangeAt Go.RowKit
open Go.ChangeMaps (open_string shut_string)
open Go.Proofs.YtgcdlkpjjnglbaaW.PrintWords
set_option linter.unusedVariables false
theorem own : ownKnob Try.prog.godebug = none := by kernel_rfl
theorem laidOut : laidOutB Try.prog = true := by kernel_rfl
theorem opensMark {H : Type} (enc : TypeId × Value → H) (w : World) : PA.Opens enc Try.prog w PA.k112 (fun m => PA.fits m.f0 ∧ PA.fits m.f1) 112 :=
  PA.opens_mono (PA.opens_iso (fun a => ⟨a.1, a.2⟩) (fun _ => rfl) (PA.opens_pair Try.underlying112 rfl rfl (by kernel_rfl) (by kernel_rfl) (by kernel_rfl) (PA.opens_int Try.underlying3) (PA.opens_int Try.underlying3))) (fun _ h => ⟨PA.wf_bounds h.1, PA.wf_bounds h.2⟩)
theorem opensClaim {H : Type} (enc : TypeId × Value → H) (w : World) : PA.Opens enc Try.prog w PA.k79 (fun c => c.f1.length ≤ 9223372036854775807 ∧ ∀ m ∈ c.f1, PA.fits m.f0 ∧ PA.fits m.f1) 79 :=
  PA.opens_mono (PA.opens_iso (fun a => ⟨a.1, a.2⟩) (fun _ => rfl) (PA.opens_pair Try.underlying79 rfl rfl (by kernel_rfl) (by kernel_rfl) (by kernel_rfl) (PA.opens_int Try.underlying3) (PA.opens_slice Try.underlying77 (by kernel_rfl) (opensMark enc w)))) (fun _ h => h.2)
theorem opensClaims {H : Type} (enc : TypeId × Value → H) (w : World) : PA.Opens enc Try.prog w (Kd.slice 79 PA.k79) (fun l => l.length ≤ 9223372036854775807 ∧ ∀ c ∈ l, c.f1.length ≤ 9223372036854775807 ∧ ∀ m ∈ c.f1, PA.fits m.f0 ∧ PA.fits m.f1) 30 :=
  PA.opens_slice Try.underlying30 (by kernel_rfl) (opensClaim enc w)
set_option maxRecDepth 100000 in
theorem lifted (os : Os) (started : os.Started) (H : Type) (enc : TypeId × Value → H) :
    ReturnsInHanded {} Try.checked os 4 .any (Rows.fnExactDeskNewSpec.pre6 enc Try.prog Try.f4 Rows.fnExactDeskNewRow.domain false) (Rows.fnExactDeskNewSpec.post enc Try.prog Try.f4 false true false false) := by
  refine returnsInHanded_of_change_sized (C := Try.checked) own started (by kernel_rfl) Try.func4
    (ChangeSpec.witness6 (enc := enc) (C := Try.checked) false ⟨#[], #[.agg #[.int .i64 0, .slice none 0 0]], []⟩ 8 (by kernel_rfl) (by kernel_rfl) (by kernel_rfl) (by kernel_rfl)) ?_
  intro W base args ds gs before hval0 hW hcnd hsz0 _
  have hval : ∀ (j : Nat) t v, Try.f4.params[j]? = some t → args[j]? = some v → Value.okWide Try.prog W .any base t v := hval0
  have hW' := hW
  obtain ⟨p, q, hA0, hV, rfl, hfz, hnd⟩ := hW
  have hA : DataW.TrodAll enc Try.prog W 0 (fun _ => true) true Try.f4.params.toList args.toList ds p := hA0
  rw [Try.params4] at hA hval
  obtain ⟨v0, vs0, d0, ds0, p0, q0, hargs, rfl, rfl, h0, r0⟩ := trodAll_cons hA
  obtain ⟨rfl, rfl, rfl⟩ := trodAll_nil r0
  obtain rfl : args = #[v0] := by cases args; simp_all
  obtain ⟨rfl, rfl⟩ := trodVars_none hV
  have k0 := h0
  have lt0 : ∀ x ∈ p0, x.block < W.heap.size := by obtain ⟨m, hm⟩ := k0; exact DataW.trod_lt m _ _ _ hm
  obtain ⟨c0, c1, y0, y1, m, rfl, _, _, hy0, hy1⟩ := Go.Joins.open_agg2 Try.underlying32 (by kernel_rfl) (by kernel_rfl) (hval 0 32 v0 rfl rfl) h0
  obtain ⟨pe, hk0, _⟩ := PA.opens_int (w := W) Try.underlying3 _ _ _ hy0
  obtain ⟨l, hk1, hg1, hg2⟩ := opensClaims enc W _ _ _ hy1
  have e0 : [c0] = [Value.int .i64 pe] := hk0
  injection e0 with e0 _
  subst e0
  obtain ⟨A, c, e1, hc, hC⟩ := hk1
  injection e1 with e1 _
  subst e1
  clear hA0 hval0 hsz0
  refine (PA.FnExactDeskNew_any pe A c l W hC hc hg1 (fun c hc => (hg2 c hc).1) (fun c hc => (hg2 c hc).2)).mono fun e W' ⟨he, bel⟩ => ?_
  subst he
  exact ⟨_, rfl, _, _, _, [], _, [], hW', trodAll_mk1 (shut_bool Try.underlying4 _), (trodAll_cons_mk (Below.trod laidOut (by kernel_rfl) (of_decide_eq_true (by kernel_rfl)) k0 bel lt0) trodAll_mk0), rfl, bel.frame _, fun h => by cases h⟩
theorem over : Rows.fnExactDeskNewRow.holds Try.pinned (OpenSpec.ofChange Rows.fnExactDeskNewSpec) :=
  OpenClaim.holds_of_wide 4 Try.f4 rfl rfl rfl rfl rfl rfl rfl ⟨rfl, rfl, rfl, rfl, rfl⟩ rfl rfl rfl rfl rfl (by kernel_rfl) Try.func4 (by kernel_rfl)
    (of_decide_eq_true (by kernel_rfl)) (by unfold Func.isWrapper; first | (rw [if_pos (by decide +kernel)]; kernel_rfl) | (rw [if_neg (by decide +kernel)]; exact ⟨rfl, rfl⟩))
    (fun os started H enc _ => lifted os started H enc)
theorem proved : Rows.FnExactDeskNewSaid := over
#print axioms proved
end Go.Proofs.Ytgcdlkpjjnglbaa.fnExactDeskNew
namespace Go.Proofs.Ytgcdlkpjjnglbaa
/-- The row, under a short name, for the claim. -/
theorem fnExactDeskNew_holds : Rows.FnExactDeskNewSaid := fnExactDeskNew.proved
end Go.Proofs.Ytgcdlkpjjnglbaa
