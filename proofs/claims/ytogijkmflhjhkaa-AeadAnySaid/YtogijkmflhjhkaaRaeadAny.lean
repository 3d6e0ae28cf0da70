/- The row of aeadAny: printed by a program of ours (rows.py). No condition. -/
import Derived.Test.YtogijkmflhjhkaaRows
import Derived.Test.YtogijkmflhjhkaaEnt
import Derived.Test.YtogijkmflhjhkaaL29k
namespace Go.Proofs.Ytogijkmflhjhkaa.aeadAny
open Go.Sx Go.ChangeShapes Go.WideShapes Go.ChangeAt Go.RowKit
set_option linter.unusedVariables false
set_option linter.unusedSimpArgs false
set_option linter.unnecessarySimpa false
set_option maxRecDepth 100000
theorem law_w (nl0 : Bool) (f0 : Nat → Int) (n0 : Nat) (w0 : ∀ j, j < n0 → wfN .u8 (f0 j)) (nl1 : Bool) (f1 : Nat → Int) (n1 : Nat) (w1 : ∀ j, j < n1 → wfN .u8 (f1 j)) (nl2 : Bool) (f2 : Nat → Int) (n2 : Nat) (w2 : ∀ j, j < n2 → wfN .u8 (f2 j)) (nl3 : Bool) (f3 : Nat → Int) (n3 : Nat) (w3 : ∀ j, j < n3 → wfN .u8 (f3 j)) (nl4 : Bool) (f4 : Nat → Int) (n4 : Nat) (w4 : ∀ j, j < n4 → wfN .u8 (f4 j)) (x5 : Int) (w5 : wfN .i64 x5) (x6 : Int) (w6 : wfN .u8 x6) : FCalls Try.prog 24 [.sc (.im nl0 .u8 f0 n0), .sc (.im nl1 .u8 f1 n1), .sc (.im nl2 .u8 f2 n2), .sc (.im nl3 .u8 f3 n3), .sc (.im nl4 .u8 f4 n4), .sc (.int .i64 x5), .sc (.int .u8 x6)] [] 0 isTrue := aeadAny_law nl0 f0 n0 nl1 f1 n1 nl2 f2 n2 nl3 f3 n3 nl4 f4 n4 x5 x6 (fun j hj => wf_u8 (w0 j hj)) (fun j hj => wf_u8 (w1 j hj)) (fun j hj => wf_u8 (w2 j hj)) (fun j hj => wf_u8 (w3 j hj)) (fun j hj => wf_u8 (w4 j hj)) (wf_i64 w5) (wf_u8 w6)
theorem own : ownKnob Try.prog.godebug = none := by kernel_rfl
theorem laid : laidOutB Try.prog = true := by kernel_rfl
theorem lifted (os : Os) (started : os.Started) (H : Type) (enc : TypeId × Value → H) :
    ReturnsInHanded {} Try.checked os 24 .any (Rows.aeadAnySpec.pre6 enc Try.prog Try.f24 Rows.aeadAnyRow.domain false) (Rows.aeadAnySpec.post enc Try.prog Try.f24 false true false false) := by
  refine returnsInHanded_of_change_sized (C := Try.checked) own started (by kernel_rfl) Try.func24
    (ChangeSpec.witness6 (enc := enc) (C := Try.checked) false ⟨#[], #[.slice none 0 0, .slice none 0 0, .slice none 0 0, .slice none 0 0, .slice none 0 0, .int .i64 0, .int .u8 0], []⟩ 8 (by kernel_rfl) (by kernel_rfl) (by kernel_rfl) (by kernel_rfl)) ?_
  intro W base args ds gs before hval0 hW hcnd hsz0 _
  have hval : ∀ (j : Nat) t v, Try.f24.params[j]? = some t → args[j]? = some v → Value.okWide Try.prog W .any base t v := hval0
  have hW' := hW
  obtain ⟨p, q, hA0, hV, rfl, hfz, hnd⟩ := hW
  have hA : DataW.TrodAll enc Try.prog W 0 (fun _ => true) true Try.f24.params.toList args.toList ds p := hA0
  have hA1 := hA
  rw [Try.params24] at hA hval
  obtain ⟨rfl, rfl⟩ := trodVars_none hV
  clear hA0 hval0 hsz0
  obtain ⟨cs, hcs, hrel⟩ := open_all (P := Try.prog) (ts := [23, 23, 23, 23, 23, 3, 5]) (aks := [.ints .u8, .ints .u8, .ints .u8, .ints .u8, .ints .u8, .int .i64, .int .u8]) ⟨⟨5, Try.underlying23, Try.underlying5, by kernel_rfl⟩, ⟨5, Try.underlying23, Try.underlying5, by kernel_rfl⟩, ⟨5, Try.underlying23, Try.underlying5, by kernel_rfl⟩, ⟨5, Try.underlying23, Try.underlying5, by kernel_rfl⟩, ⟨5, Try.underlying23, Try.underlying5, by kernel_rfl⟩, Try.underlying3, Try.underlying5, trivial⟩ (fun j t v h1 h2 => hval j t v (by simpa using h1) (by simpa using h2)) hA
  have hlen := trod_len hA
  obtain ⟨d0, d1, d2, d3, d4, d5, d6, rfl⟩ : ∃ d0 d1 d2 d3 d4 d5 d6, ds = [d0, d1, d2, d3, d4, d5, d6] := by
    match ds, hlen with
    | [d0, d1, d2, d3, d4, d5, d6], _ => exact ⟨d0, d1, d2, d3, d4, d5, d6, rfl⟩
  obtain ⟨c0, cs0, rfl, h0, k0⟩ := holdsL_cons hcs
  obtain ⟨nl0, f0, n0, e0, w0⟩ := h0
  subst e0
  obtain ⟨c1, cs1, rfl, h1, k1⟩ := holdsL_cons k0
  obtain ⟨nl1, f1, n1, e1, w1⟩ := h1
  subst e1
  obtain ⟨c2, cs2, rfl, h2, k2⟩ := holdsL_cons k1
  obtain ⟨nl2, f2, n2, e2, w2⟩ := h2
  subst e2
  obtain ⟨c3, cs3, rfl, h3, k3⟩ := holdsL_cons k2
  obtain ⟨nl3, f3, n3, e3, w3⟩ := h3
  subst e3
  obtain ⟨c4, cs4, rfl, h4, k4⟩ := holdsL_cons k3
  obtain ⟨nl4, f4, n4, e4, w4⟩ := h4
  subst e4
  obtain ⟨c5, cs5, rfl, h5, k5⟩ := holdsL_cons k4
  obtain ⟨x5, e5, w5⟩ := h5
  subst e5
  obtain ⟨c6, cs6, rfl, h6, k6⟩ := holdsL_cons k5
  obtain ⟨x6, e6, w6⟩ := h6
  subst e6
  obtain rfl := holdsL_nil k6
  have hrun := law_w nl0 f0 n0 w0 nl1 f1 n1 w1 nl2 f2 n2 w2 nl3 f3 n3 w3 nl4 f4 n4 w4 x5 w5 x6 w6 (rho0 W) W args.toList (good0 W) hrel trivial
  rw [Array.toArray_toList] at hrun
  refine hrun.mono fun e W' ⟨v, he, ρ', heff, hv⟩ => ?_
  subst he
  have hv : v = .bool true := hv _ rfl
  subst hv
  have hb := below_of_eff heff
  refine ⟨_, rfl, _, _, _, [], _, [], hW', trodAll_mk1 (shut_bool Try.underlying4 _), all_below laid hb (fun t ht => ?_) hA1 (fun x hx => hW'.lt x (by simpa using hx)), rfl, hb.frame _, fun h => by cases h⟩
  rw [Try.params24] at ht
  simp only [List.mem_cons, List.not_mem_nil, or_false] at ht
  rcases ht with rfl | rfl | rfl | rfl | rfl | rfl | rfl
  all_goals exact ⟨by kernel_rfl, of_decide_eq_true (by kernel_rfl)⟩
theorem closed : joinedFacts Try.checked.prog 24 Try.f24 Rows.aeadAnySpec Rows.aeadAnyRow = true :=
  joined_of (by kernel_rfl) (by kernel_rfl) (by kernel_rfl) (by kernel_rfl) (by kernel_rfl) (by kernel_rfl) (by kernel_rfl) (by kernel_rfl) (by kernel_rfl) (by kernel_rfl) (by kernel_rfl) (by kernel_rfl) (by kernel_rfl) (by kernel_rfl) (by kernel_rfl) (by kernel_rfl)
    (by kernel_rfl) (by kernel_rfl) (by kernel_rfl) (by kernel_rfl) (by kernel_rfl) (by kernel_rfl) (by kernel_rfl) (by kernel_rfl) (by kernel_rfl) mayEnter_eq final_eq rfl make_eq rfl (by kernel_rfl) (by kernel_rfl) (by kernel_rfl) (by kernel_rfl)
theorem over : Rows.aeadAnyRow.holds Try.pinned (OpenSpec.ofChange Rows.aeadAnySpec) :=
  OpenClaim.holds_of_wide 24 Try.f24 rfl rfl rfl rfl rfl rfl rfl ⟨rfl, rfl, rfl, rfl, rfl⟩ rfl rfl rfl rfl rfl (by kernel_rfl) Try.func24 closed
    (of_decide_eq_true (by kernel_rfl)) (by unfold Func.isWrapper; first | (rw [if_pos (by decide +kernel)]; kernel_rfl) | (rw [if_neg (by decide +kernel)]; exact ⟨rfl, rfl⟩))
    (fun os started H enc _ => lifted os started H enc)
theorem proved : Rows.AeadAnySaid := over
end Go.Proofs.Ytogijkmflhjhkaa.aeadAny
namespace Go.Proofs.Ytogijkmflhjhkaa
/-- The row, under a short name, for the claim. -/
theorem aeadAny_holds : Rows.AeadAnySaid := aeadAny.proved
#print axioms aeadAny_holds
end Go.Proofs.Ytogijkmflhjhkaa
