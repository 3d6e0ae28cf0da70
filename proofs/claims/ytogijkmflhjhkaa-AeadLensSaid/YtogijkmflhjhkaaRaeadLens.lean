/- The row of aeadLens: printed by a program of ours (rows.py). No condition. -/
import Derived.Test.YtogijkmflhjhkaaRows
import Derived.Test.YtogijkmflhjhkaaEnt
import Derived.Test.YtogijkmflhjhkaaL29k
namespace Go.Proofs.Ytogijkmflhjhkaa.aeadLens
open Go.Sx Go.ChangeShapes Go.WideShapes Go.ChangeAt Go.RowKit
set_option linter.unusedVariables false
set_option linter.unusedSimpArgs false
set_option linter.unnecessarySimpa false
set_option maxRecDepth 100000
theorem law_w (nl0 : Bool) (f0 : Nat → Int) (n0 : Nat) (w0 : ∀ j, j < n0 → wfN .u8 (f0 j)) (nl1 : Bool) (f1 : Nat → Int) (n1 : Nat) (w1 : ∀ j, j < n1 → wfN .u8 (f1 j)) (nl2 : Bool) (f2 : Nat → Int) (n2 : Nat) (w2 : ∀ j, j < n2 → wfN .u8 (f2 j)) (x3 : Int) (w3 : wfN .i64 x3) : FCalls Try.prog 29 [.sc (.im nl0 .u8 f0 n0), .sc (.im nl1 .u8 f1 n1), .sc (.im nl2 .u8 f2 n2), .sc (.int .i64 x3)] [] 0 isTrue := aeadLens_law nl0 f0 n0 nl1 f1 n1 nl2 f2 n2 x3 (fun j hj => wf_u8 (w0 j hj)) (fun j hj => wf_u8 (w1 j hj)) (fun j hj => wf_u8 (w2 j hj)) (wf_i64 w3)
theorem own : ownKnob Try.prog.godebug = none := by kernel_rfl
theorem laid : laidOutB Try.prog = true := by kernel_rfl
theorem lifted (os : Os) (started : os.Started) (H : Type) (enc : TypeId × Value → H) :
    ReturnsInHanded {} Try.checked os 29 .any (Rows.aeadLensSpec.pre6 enc Try.prog Try.f29 Rows.aeadLensRow.domain false) (Rows.aeadLensSpec.post enc Try.prog Try.f29 false true false false) := by
  refine returnsInHanded_of_change_sized (C := Try.checked) own started (by kernel_rfl) Try.func29
    (ChangeSpec.witness6 (enc := enc) (C := Try.checked) false ⟨#[], #[.slice none 0 0, .slice none 0 0, .slice none 0 0, .int .i64 0], []⟩ 8 (by kernel_rfl) (by kernel_rfl) (by kernel_rfl) (by kernel_rfl)) ?_
  intro W base args ds gs before hval0 hW hcnd hsz0 _
  have hval : ∀ (j : Nat) t v, Try.f29.params[j]? = some t → args[j]? = some v → Value.okWide Try.prog W .any base t v := hval0
  have hW' := hW
  obtain ⟨p, q, hA0, hV, rfl, hfz, hnd⟩ := hW
  have hA : DataW.TrodAll enc Try.prog W 0 (fun _ => true) true Try.f29.params.toList args.toList ds p := hA0
  have hA1 := hA
  rw [Try.params29] at hA hval
  obtain ⟨rfl, rfl⟩ := trodVars_none hV
  clear hA0 hval0 hsz0
  obtain ⟨cs, hcs, hrel⟩ := open_all (P := Try.prog) (ts := [23, 23, 23, 3]) (aks := [.ints .u8, .ints .u8, .ints .u8, .int .i64]) ⟨⟨5, Try.underlying23, Try.underlying5, by kernel_rfl⟩, ⟨5, Try.underlying23, Try.underlying5, by kernel_rfl⟩, ⟨5, Try.underlying23, Try.underlying5, by kernel_rfl⟩, Try.underlying3, trivial⟩ (fun j t v h1 h2 => hval j t v (by simpa using h1) (by simpa using h2)) hA
  have hlen := trod_len hA
  obtain ⟨d0, d1, d2, d3, rfl⟩ : ∃ d0 d1 d2 d3, ds = [d0, d1, d2, d3] := by
    match ds, hlen with
    | [d0, d1, d2, d3], _ => exact ⟨d0, d1, d2, d3, rfl⟩
  obtain ⟨c0, cs0, rfl, h0, k0⟩ := holdsL_cons hcs
  obtain ⟨nl0, f0, n0, e0, w0⟩ := h0
  subst e0
  obtain ⟨c1, cs1, rfl, h1, k1⟩ := holdsL_cons k0
  obtain ⟨nl1, f1, n1, e1, w1⟩ := h1
  subst e1
  obtain ⟨c2, cs2, rfl, h2, k2⟩ := holdsL_cons k1
  obtain ⟨nl2, f2, n2, e2, w2⟩ := h2
  subst e2
  obtain ⟨c3, cs3, rfl, h3, k3⟩ := holdsL_cons k2
  obtain ⟨x3, e3, w3⟩ := h3
  subst e3
  obtain rfl := holdsL_nil k3
  have hrun := law_w nl0 f0 n0 w0 nl1 f1 n1 w1 nl2 f2 n2 w2 x3 w3 (rho0 W) W args.toList (good0 W) hrel trivial
  rw [Array.toArray_toList] at hrun
  refine hrun.mono fun e W' ⟨v, he, ρ', heff, hv⟩ => ?_
  subst he
  have hv : v = .bool true := hv _ rfl
  subst hv
  have hb := below_of_eff heff
  refine ⟨_, rfl, _, _, _, [], _, [], hW', trodAll_mk1 (shut_bool Try.underlying4 _), all_below laid hb (fun t ht => ?_) hA1 (fun x hx => hW'.lt x (by simpa using hx)), rfl, hb.frame _, fun h => by cases h⟩
  rw [Try.params29] at ht
  simp only [List.mem_cons, List.not_mem_nil, or_false] at ht
  rcases ht with rfl | rfl | rfl | rfl
  all_goals exact ⟨by kernel_rfl, of_decide_eq_true (by kernel_rfl)⟩
theorem closed : joinedFacts Try.checked.prog 29 Try.f29 Rows.aeadLensSpec Rows.aeadLensRow = true :=
  joined_of (by kernel_rfl) (by kernel_rfl) (by kernel_rfl) (by kernel_rfl) (by kernel_rfl) (by kernel_rfl) (by kernel_rfl) (by kernel_rfl) (by kernel_rfl) (by kernel_rfl) (by kernel_rfl) (by kernel_rfl) (by kernel_rfl) (by kernel_rfl) (by kernel_rfl) (by kernel_rfl)
    (by kernel_rfl) (by kernel_rfl) (by kernel_rfl) (by kernel_rfl) (by kernel_rfl) (by kernel_rfl) (by kernel_rfl) (by kernel_rfl) (by kernel_rfl) mayEnter_eq final_eq rfl make_eq rfl (by kernel_rfl) (by kernel_rfl) (by kernel_rfl) (by kernel_rfl)
theorem over : Rows.aeadLensRow.holds Try.pinned (OpenSpec.ofChange Rows.aeadLensSpec) :=
  OpenClaim.holds_of_wide 29 Try.f29 rfl rfl rfl rfl rfl rfl rfl ⟨rfl, rfl, rfl, rfl, rfl⟩ rfl rfl rfl rfl rfl (by kernel_rfl) Try.func29 closed
    (of_decide_eq_true (by kernel_rfl)) (by unfold Func.isWrapper; first | (rw [if_pos (by decide +kernel)]; kernel_rfl) | (rw [if_neg (by decide +kernel)]; exact ⟨rfl, rfl⟩))
    (fun os started H enc _ => lifted os started H enc)
theorem proved : Rows.AeadLensSaid := over
end Go.Proofs.Ytogijkmflhjhkaa.aeadLens
namespace Go.Proofs.Ytogijkmflhjhkaa
/-- The row, under a short name, for the claim. -/
theorem aeadLens_holds : Rows.AeadLensSaid := aeadLens.proved
#print axioms aeadLens_holds
end Go.Proofs.Ytogijkmflhjhkaa
