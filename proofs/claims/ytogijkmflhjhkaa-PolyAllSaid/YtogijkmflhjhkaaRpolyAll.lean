/- The row of polyAll: printed by a program of ours (rows.py). No condition. -/
import Derived.Test.YtogijkmflhjhkaaRows
import Derived.Test.YtogijkmflhjhkaaEnt
import Derived.Test.YtogijkmflhjhkaaKC7
namespace Go.Proofs.Ytogijkmflhjhkaa.polyAll
open Go.Sx Go.ChangeShapes Go.WideShapes Go.ChangeAt Go.RowKit
set_option linter.unusedVariables false
set_option linter.unusedSimpArgs false
set_option linter.unnecessarySimpa false
set_option maxRecDepth 100000
theorem law_w (nl0 : Bool) (f0 : Nat → Int) (n0 : Nat) (w0 : ∀ j, j < n0 → wfN .u8 (f0 j)) (nl1 : Bool) (f1 : Nat → Int) (n1 : Nat) (w1 : ∀ j, j < n1 → wfN .u8 (f1 j)) : FCalls Try.prog 21 [.sc (.im nl0 .u8 f0 n0), .sc (.im nl1 .u8 f1 n1)] [] 0 isTrue := polyAll_law nl0 f0 n0 nl1 f1 n1 (fun j hj => wf_u8 (w0 j hj)) (fun j hj => wf_u8 (w1 j hj))
theorem own : ownKnob Try.prog.godebug = none := by kernel_rfl
theorem laid : laidOutB Try.prog = true := by kernel_rfl
theorem lifted (os : Os) (started : os.Started) (H : Type) (enc : TypeId × Value → H) :
    ReturnsInHanded {} Try.checked os 21 .any (Rows.polyAllSpec.pre6 enc Try.prog Try.f21 Rows.polyAllRow.domain false) (Rows.polyAllSpec.post enc Try.prog Try.f21 false true false false) := by
  refine returnsInHanded_of_change_sized (C := Try.checked) own started (by kernel_rfl) Try.func21
    (ChangeSpec.witness6 (enc := enc) (C := Try.checked) false ⟨#[], #[.slice none 0 0, .slice none 0 0], []⟩ 8 (by kernel_rfl) (by kernel_rfl) (by kernel_rfl) (by kernel_rfl)) ?_
  intro W base args ds gs before hval0 hW hcnd hsz0 _
  have hval : ∀ (j : Nat) t v, Try.f21.params[j]? = some t → args[j]? = some v → Value.okWide Try.prog W .any base t v := hval0
  have hW' := hW
  obtain ⟨p, q, hA0, hV, rfl, hfz, hnd⟩ := hW
  have hA : DataW.TrodAll enc Try.prog W 0 (fun _ => true) true Try.f21.params.toList args.toList ds p := hA0
  have hA1 := hA
  rw [Try.params21] at hA hval
  obtain ⟨rfl, rfl⟩ := trodVars_none hV
  clear hA0 hval0 hsz0
  obtain ⟨cs, hcs, hrel⟩ := open_all (P := Try.prog) (ts := [23, 23]) (aks := [.ints .u8, .ints .u8]) ⟨⟨5, Try.underlying23, Try.underlying5, by kernel_rfl⟩, ⟨5, Try.underlying23, Try.underlying5, by kernel_rfl⟩, trivial⟩ (fun j t v h1 h2 => hval j t v (by simpa using h1) (by simpa using h2)) hA
  have hlen := trod_len hA
  obtain ⟨d0, d1, rfl⟩ : ∃ d0 d1, ds = [d0, d1] := by
    match ds, hlen with
    | [d0, d1], _ => exact ⟨d0, d1, rfl⟩
  obtain ⟨c0, cs0, rfl, h0, k0⟩ := holdsL_cons hcs
  obtain ⟨nl0, f0, n0, e0, w0⟩ := h0
  subst e0
  obtain ⟨c1, cs1, rfl, h1, k1⟩ := holdsL_cons k0
  obtain ⟨nl1, f1, n1, e1, w1⟩ := h1
  subst e1
  obtain rfl := holdsL_nil k1
  have hrun := law_w nl0 f0 n0 w0 nl1 f1 n1 w1 (rho0 W) W args.toList (good0 W) hrel trivial
  rw [Array.toArray_toList] at hrun
  refine hrun.mono fun e W' ⟨v, he, ρ', heff, hv⟩ => ?_
  subst he
  have hv : v = .bool true := hv _ rfl
  subst hv
  have hb := below_of_eff heff
  refine ⟨_, rfl, _, _, _, [], _, [], hW', trodAll_mk1 (shut_bool Try.underlying4 _), all_below laid hb (fun t ht => ?_) hA1 (fun x hx => hW'.lt x (by simpa using hx)), rfl, hb.frame _, fun h => by cases h⟩
  rw [Try.params21] at ht
  simp only [List.mem_cons, List.not_mem_nil, or_false] at ht
  rcases ht with rfl | rfl
  all_goals exact ⟨by kernel_rfl, of_decide_eq_true (by kernel_rfl)⟩
theorem closed : joinedFacts Try.checked.prog 21 Try.f21 Rows.polyAllSpec Rows.polyAllRow = true :=
  joined_of (by kernel_rfl) (by kernel_rfl) (by kernel_rfl) (by kernel_rfl) (by kernel_rfl) (by kernel_rfl) (by kernel_rfl) (by kernel_rfl) (by kernel_rfl) (by kernel_rfl) (by kernel_rfl) (by kernel_rfl) (by kernel_rfl) (by kernel_rfl) (by kernel_rfl) (by kernel_rfl)
    (by kernel_rfl) (by kernel_rfl) (by kernel_rfl) (by kernel_rfl) (by kernel_rfl) (by kernel_rfl) (by kernel_rfl) (by kernel_rfl) (by kernel_rfl) mayEnter_eq final_eq rfl make_eq rfl (by kernel_rfl) (by kernel_rfl) (by kernel_rfl) (by kernel_rfl)
theorem over : Rows.polyAllRow.holds Try.pinned (OpenSpec.ofChange Rows.polyAllSpec) :=
  OpenClaim.holds_of_wide 21 Try.f21 rfl rfl rfl rfl rfl rfl rfl ⟨rfl, rfl, rfl, rfl, rfl⟩ rfl rfl rfl rfl rfl (by kernel_rfl) Try.func21 closed
    (of_decide_eq_true (by kernel_rfl)) (by unfold Func.isWrapper; first | (rw [if_pos (by decide +kernel)]; kernel_rfl) | (rw [if_neg (by decide +kernel)]; exact ⟨rfl, rfl⟩))
    (fun os started H enc _ => lifted os started H enc)
theorem proved : Rows.PolyAllSaid := over
end Go.Proofs.Ytogijkmflhjhkaa.polyAll
namespace Go.Proofs.Ytogijkmflhjhkaa
/-- The row, under a short name, for the claim. -/
theorem polyAll_holds : Rows.PolyAllSaid := polyAll.proved
#print axioms polyAll_holds
end Go.Proofs.Ytogijkmflhjhkaa
