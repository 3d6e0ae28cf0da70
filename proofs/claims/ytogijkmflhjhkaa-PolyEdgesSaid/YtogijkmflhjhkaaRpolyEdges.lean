/- The row of polyEdges: printed by a program of ours (rows.py). No condition. -/
import Derived.Test.YtogijkmflhjhkaaRows
import Derived.Test.YtogijkmflhjhkaaEnt
import Derived.Test.YtogijkmflhjhkaaL26k
namespace Go.Proofs.Ytogijkmflhjhkaa.polyEdges
open Go.Sx Go.ChangeShapes Go.WideShapes Go.ChangeAt Go.RowKit
set_option linter.unusedVariables false
set_option linter.unusedSimpArgs false
set_option linter.unnecessarySimpa false
set_option maxRecDepth 100000
theorem law_w (x0 : Int) (w0 : wfN .i64 x0) (x1 : Int) (w1 : wfN .u8 x1) (x2 : Int) (w2 : wfN .u8 x2) (x3 : Int) (w3 : wfN .u8 x3) : FCalls Try.prog 22 [.sc (.int .i64 x0), .sc (.int .u8 x1), .sc (.int .u8 x2), .sc (.int .u8 x3)] [] 0 isTrue := polyEdges_law x0 x1 x2 x3 (wf_i64 w0) (wf_u8 w1) (wf_u8 w2) (wf_u8 w3)
theorem own : ownKnob Try.prog.godebug = none := by kernel_rfl
theorem laid : laidOutB Try.prog = true := by kernel_rfl
theorem lifted (os : Os) (started : os.Started) (H : Type) (enc : TypeId × Value → H) :
    ReturnsInHanded {} Try.checked os 22 .any (Rows.polyEdgesSpec.pre6 enc Try.prog Try.f22 Rows.polyEdgesRow.domain false) (Rows.polyEdgesSpec.post enc Try.prog Try.f22 false true false false) := by
  refine returnsInHanded_of_change_sized (C := Try.checked) own started (by kernel_rfl) Try.func22
    (ChangeSpec.witness6 (enc := enc) (C := Try.checked) false ⟨#[], #[.int .i64 0, .int .u8 0, .int .u8 0, .int .u8 0], []⟩ 8 (by kernel_rfl) (by kernel_rfl) (by kernel_rfl) (by kernel_rfl)) ?_
  intro W base args ds gs before hval0 hW hcnd hsz0 _
  have hval : ∀ (j : Nat) t v, Try.f22.params[j]? = some t → args[j]? = some v → Value.okWide Try.prog W .any base t v := hval0
  have hW' := hW
  obtain ⟨p, q, hA0, hV, rfl, hfz, hnd⟩ := hW
  have hA : DataW.TrodAll enc Try.prog W 0 (fun _ => true) true Try.f22.params.toList args.toList ds p := hA0
  have hA1 := hA
  rw [Try.params22] at hA hval
  obtain ⟨rfl, rfl⟩ := trodVars_none hV
  clear hA0 hval0 hsz0
  obtain ⟨cs, hcs, hrel⟩ := open_all (P := Try.prog) (ts := [3, 5, 5, 5]) (aks := [.int .i64, .int .u8, .int .u8, .int .u8]) ⟨Try.underlying3, Try.underlying5, Try.underlying5, Try.underlying5, trivial⟩ (fun j t v h1 h2 => hval j t v (by simpa using h1) (by simpa using h2)) hA
  have hlen := trod_len hA
  obtain ⟨d0, d1, d2, d3, rfl⟩ : ∃ d0 d1 d2 d3, ds = [d0, d1, d2, d3] := by
    match ds, hlen with
    | [d0, d1, d2, d3], _ => exact ⟨d0, d1, d2, d3, rfl⟩
  obtain ⟨c0, cs0, rfl, h0, k0⟩ := holdsL_cons hcs
  obtain ⟨x0, e0, w0⟩ := h0
  subst e0
  obtain ⟨c1, cs1, rfl, h1, k1⟩ := holdsL_cons k0
  obtain ⟨x1, e1, w1⟩ := h1
  subst e1
  obtain ⟨c2, cs2, rfl, h2, k2⟩ := holdsL_cons k1
  obtain ⟨x2, e2, w2⟩ := h2
  subst e2
  obtain ⟨c3, cs3, rfl, h3, k3⟩ := holdsL_cons k2
  obtain ⟨x3, e3, w3⟩ := h3
  subst e3
  obtain rfl := holdsL_nil k3
  have hrun := law_w x0 w0 x1 w1 x2 w2 x3 w3 (rho0 W) W args.toList (good0 W) hrel trivial
  rw [Array.toArray_toList] at hrun
  refine hrun.mono fun e W' ⟨v, he, ρ', heff, hv⟩ => ?_
  subst he
  have hv : v = .bool true := hv _ rfl
  subst hv
  have hb := below_of_eff heff
  refine ⟨_, rfl, _, _, _, [], _, [], hW', trodAll_mk1 (shut_bool Try.underlying4 _), all_below laid hb (fun t ht => ?_) hA1 (fun x hx => hW'.lt x (by simpa using hx)), rfl, hb.frame _, fun h => by cases h⟩
  rw [Try.params22] at ht
  simp only [List.mem_cons, List.not_mem_nil, or_false] at ht
  rcases ht with rfl | rfl | rfl | rfl
  all_goals exact ⟨by kernel_rfl, of_decide_eq_true (by kernel_rfl)⟩
theorem closed : joinedFacts Try.checked.prog 22 Try.f22 Rows.polyEdgesSpec Rows.polyEdgesRow = true :=
  joined_of (by kernel_rfl) (by kernel_rfl) (by kernel_rfl) (by kernel_rfl) (by kernel_rfl) (by kernel_rfl) (by kernel_rfl) (by kernel_rfl) (by kernel_rfl) (by kernel_rfl) (by kernel_rfl) (by kernel_rfl) (by kernel_rfl) (by kernel_rfl) (by kernel_rfl) (by kernel_rfl)
    (by kernel_rfl) (by kernel_rfl) (by kernel_rfl) (by kernel_rfl) (by kernel_rfl) (by kernel_rfl) (by kernel_rfl) (by kernel_rfl) (by kernel_rfl) mayEnter_eq final_eq rfl make_eq rfl (by kernel_rfl) (by kernel_rfl) (by kernel_rfl) (by kernel_rfl)
theorem over : Rows.polyEdgesRow.holds Try.pinned (OpenSpec.ofChange Rows.polyEdgesSpec) :=
  OpenClaim.holds_of_wide 22 Try.f22 rfl rfl rfl rfl rfl rfl rfl ⟨rfl, rfl, rfl, rfl, rfl⟩ rfl rfl rfl rfl rfl (by kernel_rfl) Try.func22 closed
    (of_decide_eq_true (by kernel_rfl)) (by unfold Func.isWrapper; first | (rw [if_pos (by decide +kernel)]; kernel_rfl) | (rw [if_neg (by decide +kernel)]; exact ⟨rfl, rfl⟩))
    (fun os started H enc _ => lifted os started H enc)
theorem proved : Rows.PolyEdgesSaid := over
end Go.Proofs.Ytogijkmflhjhkaa.polyEdges
namespace Go.Proofs.Ytogijkmflhjhkaa
/-- The row, under a short name, for the claim. -/
theorem polyEdges_holds : Rows.PolyEdgesSaid := polyEdges.proved
#print axioms polyEdges_holds
end Go.Proofs.Ytogijkmflhjhkaa
