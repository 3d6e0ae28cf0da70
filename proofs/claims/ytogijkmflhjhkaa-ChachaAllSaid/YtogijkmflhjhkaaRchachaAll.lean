/- The row of chachaAll: printed by a program of ours (rows.py). No condition. -/
import Derived.Test.YtogijkmflhjhkaaRows
import Derived.Test.YtogijkmflhjhkaaEnt
import Derived.Test.YtogijkmflhjhkaaKB6
namespace Go.Proofs.Ytogijkmflhjhkaa.chachaAll
open Go.Sx Go.ChangeShapes Go.WideShapes Go.ChangeAt Go.RowKit
set_option linter.unusedVariables false
set_option linter.unusedSimpArgs false
set_option linter.unnecessarySimpa false
set_option maxRecDepth 100000
theorem law_w (x0 : Int) (w0 : wfN .u32 x0) (x1 : Int) (w1 : wfN .u32 x1) (x2 : Int) (w2 : wfN .u32 x2) (x3 : Int) (w3 : wfN .u32 x3) (nl4 : Bool) (f4 : Nat → Int) (n4 : Nat) (w4 : ∀ j, j < n4 → wfN .u8 (f4 j)) (nl5 : Bool) (f5 : Nat → Int) (n5 : Nat) (w5 : ∀ j, j < n5 → wfN .u8 (f5 j)) (nl6 : Bool) (f6 : Nat → Int) (n6 : Nat) (w6 : ∀ j, j < n6 → wfN .u8 (f6 j)) : FCalls Try.prog 19 [.sc (.int .u32 x0), .sc (.int .u32 x1), .sc (.int .u32 x2), .sc (.int .u32 x3), .sc (.im nl4 .u8 f4 n4), .sc (.im nl5 .u8 f5 n5), .sc (.im nl6 .u8 f6 n6)] [] 0 isTrue := chachaAll_law x0 x1 x2 x3 nl4 f4 n4 nl5 f5 n5 nl6 f6 n6 (wf_u32 w0) (wf_u32 w1) (wf_u32 w2) (wf_u32 w3) (fun j hj => wf_u8 (w4 j hj)) (fun j hj => wf_u8 (w5 j hj)) (fun j hj => wf_u8 (w6 j hj))
theorem own : ownKnob Try.prog.godebug = none := by kernel_rfl
theorem laid : laidOutB Try.prog = true := by kernel_rfl
theorem lifted (os : Os) (started : os.Started) (H : Type) (enc : TypeId × Value → H) :
    ReturnsInHanded {} Try.checked os 19 .any (Rows.chachaAllSpec.pre6 enc Try.prog Try.f19 Rows.chachaAllRow.domain false) (Rows.chachaAllSpec.post enc Try.prog Try.f19 false true false false) := by
  refine returnsInHanded_of_change_sized (C := Try.checked) own started (by kernel_rfl) Try.func19
    (ChangeSpec.witness6 (enc := enc) (C := Try.checked) false ⟨#[], #[.int .u32 0, .int .u32 0, .int .u32 0, .int .u32 0, .slice none 0 0, .slice none 0 0, .slice none 0 0], []⟩ 8 (by kernel_rfl) (by kernel_rfl) (by kernel_rfl) (by kernel_rfl)) ?_
  intro W base args ds gs before hval0 hW hcnd hsz0 _
  have hval : ∀ (j : Nat) t v, Try.f19.params[j]? = some t → args[j]? = some v → Value.okWide Try.prog W .any base t v := hval0
  have hW' := hW
  obtain ⟨p, q, hA0, hV, rfl, hfz, hnd⟩ := hW
  have hA : DataW.TrodAll enc Try.prog W 0 (fun _ => true) true Try.f19.params.toList args.toList ds p := hA0
  have hA1 := hA
  rw [Try.params19] at hA hval
  obtain ⟨rfl, rfl⟩ := trodVars_none hV
  clear hA0 hval0 hsz0
  obtain ⟨cs, hcs, hrel⟩ := open_all (P := Try.prog) (ts := [57, 57, 57, 57, 23, 23, 23]) (aks := [.int .u32, .int .u32, .int .u32, .int .u32, .ints .u8, .ints .u8, .ints .u8]) ⟨Try.underlying57, Try.underlying57, Try.underlying57, Try.underlying57, ⟨5, Try.underlying23, Try.underlying5, by kernel_rfl⟩, ⟨5, Try.underlying23, Try.underlying5, by kernel_rfl⟩, ⟨5, Try.underlying23, Try.underlying5, by kernel_rfl⟩, trivial⟩ (fun j t v h1 h2 => hval j t v (by simpa using h1) (by simpa using h2)) hA
  have hlen := trod_len hA
  obtain ⟨d0, d1, d2, d3, d4, d5, d6, rfl⟩ : ∃ d0 d1 d2 d3 d4 d5 d6, ds = [d0, d1, d2, d3, d4, d5, d6] := by
    match ds, hlen with
    | [d0, d1, d2, d3, d4, d5, d6], _ => exact ⟨d0, d1, d2, d3, d4, d5, d6, rfl⟩
  obtain ⟨c0, cs0, rfl, h0, k0⟩ := holdsL_cons hcs
  obtain ⟨x0, e0, w0⟩ := h0
  subst e0
  obtain ⟨c1, cs1, rfl, h1, k1⟩ := holdsL_cons k0
  obtain ⟨x1, e1, w1⟩ := h1
  subst e1
  obtain ⟨c2, cs2, rfl, h2, k2⟩ := holdsL_cons k1
  obtain ⟨x2, e2, w2⟩ := h2
  subst e2
  obtain ⟨c3, cs3, rfl, h3, k3⟩ := holdsL_cons k2
  obtain ⟨x3, e3, w3⟩ := h3
  subst e3
  obtain ⟨c4, cs4, rfl, h4, k4⟩ := holdsL_cons k3
  obtain ⟨nl4, f4, n4, e4, w4⟩ := h4
  subst e4
  obtain ⟨c5, cs5, rfl, h5, k5⟩ := holdsL_cons k4
  obtain ⟨nl5, f5, n5, e5, w5⟩ := h5
  subst e5
  obtain ⟨c6, cs6, rfl, h6, k6⟩ := holdsL_cons k5
  obtain ⟨nl6, f6, n6, e6, w6⟩ := h6
  subst e6
  obtain rfl := holdsL_nil k6
  have hrun := law_w x0 w0 x1 w1 x2 w2 x3 w3 nl4 f4 n4 w4 nl5 f5 n5 w5 nl6 f6 n6 w6 (rho0 W) W args.toList (good0 W) hrel trivial
  rw [Array.toArray_toList] at hrun
  refine hrun.mono fun e W' ⟨v, he, ρ', heff, hv⟩ => ?_
  subst he
  have hv : v = .bool true := hv _ rfl
  subst hv
  have hb := below_of_eff heff
  refine ⟨_, rfl, _, _, _, [], _, [], hW', trodAll_mk1 (shut_bool Try.underlying4 _), all_below laid hb (fun t ht => ?_) hA1 (fun x hx => hW'.lt x (by simpa using hx)), rfl, hb.frame _, fun h => by cases h⟩
  rw [Try.params19] at ht
  simp only [List.mem_cons, List.not_mem_nil, or_false] at ht
  rcases ht with rfl | rfl | rfl | rfl | rfl | rfl | rfl
  all_goals exact ⟨by kernel_rfl, of_decide_eq_true (by kernel_rfl)⟩
theorem closed : joinedFacts Try.checked.prog 19 Try.f19 Rows.chachaAllSpec Rows.chachaAllRow = true :=
  joined_of (by kernel_rfl) (by kernel_rfl) (by kernel_rfl) (by kernel_rfl) (by kernel_rfl) (by kernel_rfl) (by kernel_rfl) (by kernel_rfl) (by kernel_rfl) (by kernel_rfl) (by kernel_rfl) (by kernel_rfl) (by kernel_rfl) (by kernel_rfl) (by kernel_rfl) (by kernel_rfl)
    (by kernel_rfl) (by kernel_rfl) (by kernel_rfl) (by kernel_rfl) (by kernel_rfl) (by kernel_rfl) (by kernel_rfl) (by kernel_rfl) (by kernel_rfl) mayEnter_eq final_eq rfl make_eq rfl (by kernel_rfl) (by kernel_rfl) (by kernel_rfl) (by kernel_rfl)
theorem over : Rows.chachaAllRow.holds Try.pinned (OpenSpec.ofChange Rows.chachaAllSpec) :=
  OpenClaim.holds_of_wide 19 Try.f19 rfl rfl rfl rfl rfl rfl rfl ⟨rfl, rfl, rfl, rfl, rfl⟩ rfl rfl rfl rfl rfl (by kernel_rfl) Try.func19 closed
    (of_decide_eq_true (by kernel_rfl)) (by unfold Func.isWrapper; first | (rw [if_pos (by decide +kernel)]; kernel_rfl) | (rw [if_neg (by decide +kernel)]; exact ⟨rfl, rfl⟩))
    (fun os started H enc _ => lifted os started H enc)
theorem proved : Rows.ChachaAllSaid := over
end Go.Proofs.Ytogijkmflhjhkaa.chachaAll
namespace Go.Proofs.Ytogijkmflhjhkaa
/-- The row, under a short name, for the claim. -/
theorem chachaAll_holds : Rows.ChachaAllSaid := chachaAll.proved
#print axioms chachaAll_holds
end Go.Proofs.Ytogijkmflhjhkaa
