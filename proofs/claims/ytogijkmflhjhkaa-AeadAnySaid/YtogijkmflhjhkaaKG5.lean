/- Many texts in one: F9, F10, F36, F37, F48, Str, F49, F17, F38, F50, L27, L28, Lnk. No condition. -/
import Derived.Test.YtogijkmflhjhkaaKG4
import Derived.ProofKit
import Derived.OpenShut
import Derived.ShutString
import Derived.ChangeOld
import Derived.SizedLaws
import Derived.Carry

/- Functions through the evaluator: HKDF's Expand. No condition. -/
namespace Go.Proofs.Ytogijkmflhjhkaa
open Go.Sx Go.RowKit
set_option linter.unusedSimpArgs false
set_option maxRecDepth 100000
set_option linter.unusedVariables false

/-- The blocks of RFC 5869. -/
def hkT (k f : List B8) : Nat → List B8
  | 0 => []
  | i + 1 => hmac k (hkT k f i ++ f ++ [BitVec.ofNat 8 (i + 1)])
def hkO (k f : List B8) : Nat → List B8
  | 0 => []
  | i + 1 => hkO k f i ++ hkT k f (i + 1)
theorem hmac_length (k d : List B8) : (hmac k d).length = 32 := sha_length _
theorem hkT_length (k f : List B8) (i : Nat) : (hkT k f (i + 1)).length = 32 := hmac_length _ _
theorem hkO_length (k f : List B8) (i : Nat) : (hkO k f i).length = 32 * i := by
  induction i with
  | zero => rfl
  | succ i ih => rw [hkO, List.length_append, ih, hkT_length]; omega
theorem hkO_front (k f : List B8) (i : Nat) : ∀ m, i ≤ m → (hkO k f m).take (32 * i) = hkO k f i
  | 0, h => by rw [Nat.le_zero.1 h]; rfl
  | m + 1, h => by
    by_cases e : i = m + 1
    · rw [e, List.take_of_length_le (by rw [hkO_length]; omega)]
    · rw [hkO, List.take_append_of_le_length (by rw [hkO_length]; omega), hkO_front k f i m (by omega)]
theorem cat3 (r1 r2 r3 : Row) : cat (putR (fun _ => r1) 1 (putR (fun _ => r2) 1 (fun _ => r3))) 3 = L8 r1.f r1.n ++ (L8 r2.f r2.n ++ L8 r3.f r3.n) := by
  rw [show (3 : Nat) = 1 + (1 + 1) from rfl, cat_put1, cat_put1]
  rfl
theorem R8_3 {r1 r2 r3 : Row} (h1 : R8 r1.f r1.n) (h2 : R8 r2.f r2.n) (h3 : R8 r3.f r3.n) : ∀ j, j < 3 → R8 (putR (fun _ => r1) 1 (putR (fun _ => r2) 1 (fun _ => r3)) j).f (putR (fun _ => r1) 1 (putR (fun _ => r2) 1 (fun _ => r3)) j).n :=
  put1_R8 (m := 2) h1 (put1_R8 (m := 1) h2 fun _ _ => h3)
theorem R8_b {x : Int} (h : 0 ≤ x ∧ x < 256) : R8 (fun j => listI [x].reverse (0 + j)) 1 := fun j hj => by
  have : j = 0 := by omega
  subst this
  exact h
theorem out_app {A B : List B8} {a b : Nat} (ha : a = A.length) (hb : b = B.length) (j : Nat) (hj : j < a + b) : UL (A ++ B) j = put_ (UL A) a b (fun j => UL B (0 + j)) j := by
  subst ha; subst hb
  rw [← UL_app A B j hj, show (fun j => UL B (0 + j)) = UL B from funext fun j => by rw [Nat.zero_add]]
theorem out_app0 {B : List B8} {b : Nat} (j : Nat) (hj : j < b) : UL B j = put_ (fun _ => 0) 0 b (fun j => UL B (0 + j)) j := by
  rw [put_0 hj, Nat.zero_add]
theorem UL_take {l : List B8} {n j : Nat} (h : j < n) : UL (l.take n) j = UL l j := by
  unfold UL; rw [List.getD_eq_getElem?_getD, List.getD_eq_getElem?_getD, List.getElem?_take_of_lt h]
/-- None; how many; which. -/
def xNil (N : Int) : Bool := decide (N < 1 ∨ 8160 < N)
def xLen (N : Int) : Nat := if N < 1 ∨ 8160 < N then 0 else N.toNat
def expandS : Summary := mkS false [.r .u8, .r .u8, .v] fun
  | [.r nl g n, .r nl2 h m, .v (.sc (.int .i64 N))] => some ⟨.and (.p (R8 g n)) (.and (.p (n ≤ 100000)) (.and (.p (R8 h m)) (.and (.p (m ≤ 100000)) (.p (-9223372036854775808 ≤ N ∧ N ≤ 9223372036854775807))))),
      some (.sa (.sc (.sl (xNil N) false false 0 0 0 (xLen N) (xLen N)))), [(0, .gd (decide (0 < xLen N)) (.own 5 [.ints .u8 (UL (hkO (L8 g n) (L8 h m) 255)) (xLen N)] true))], 1⟩
  | _ => none
theorem expandS_ok : SumOk Try.prog 40 expandS := by
  unfold expandS
  apply sum_ok
  intro vs A H n o r hb h
  split at h
  rotate_left
  · cases h
  rename_i nl g n0 nl2 h m N
  injection h with h
  subst h
  cases hb
  refine fsound_of_run tt_ok cok8 mixed_ok Try.call40 Try.func40 rfl (rs := _) Try.results40 (size := 37) Try.ntmps40 (Nat.le_of_ble_eq_true rfl) rfl fun hp hfa hfh => ?_
  obtain ⟨hg, hn, hh, hm, hN⟩ := hp
  have hg : R8 g n0 := hg
  have hn : n0 ≤ 100000 := hn
  have hh : R8 h m := hh
  have hm : m ≤ 100000 := hm
  repeat ((conv => whnf); (with_reducible refine And.intro ?_ ?_); · first | (intro hg0; simp only [hg0, Bool.not_false, Bool.not_true]; done) | (intro _; refine ⟨?_, True.intro⟩; omega))
  conv => whnf
  refine ⟨fun h1 => ?_, fun h1 => ?_⟩
  · have hx : N < 1 ∨ 8160 < N := by
      cases hq : decide (N < 1) with
      | true => exact .inl (of_decide_eq_true hq)
      | false => rw [hq] at h1; exact .inr (of_decide_eq_true h1)
    have e1 : xNil N = true := decide_eq_true hx
    have e2 : xLen N = 0 := if_pos hx
    repeat ((conv => whnf); (with_reducible refine And.intro ?_ ?_); · omega)
    conv => whnf
    refine ⟨[], ?_⟩
    simp only [e1, e2]
    repeat ((conv => whnf); (with_reducible refine And.intro ?_ ?_); · first | with_reducible rfl | (intro h; exact absurd h (by decide)) | omega | (refine decide_eq_false ?_; omega))
    conv => whnf
    exact True.intro
  · have hx : ¬ (N < 1 ∨ 8160 < N) := by
      cases hq : decide (N < 1) with
      | true => rw [hq] at h1; cases h1
      | false =>
        rw [hq] at h1
        have q1 := of_decide_eq_false hq
        have q2 : ¬ N > 8160 := of_decide_eq_false h1
        omega
    have e1 : xNil N = false := decide_eq_false hx
    have e2 : xLen N = N.toNat := if_neg hx
    repeat ((conv => whnf); (with_reducible refine And.intro ?_ ?_); · omega)
    conv => whnf
    refine ⟨1, ?_⟩
    repeat ((conv => whnf); (with_reducible refine And.intro ?_ ?_); · omega)
    conv => whnf
    refine ⟨fun h2 => ?_, fun h2 => absurd (of_decide_eq_false h2) (by omega)⟩
    have hc1 : cat (putR (fun x => ⟨true, fun x => 0, 0⟩) 1 (putR (fun x => ⟨nl2, h, m⟩) 1 fun x => ⟨false, fun j => listI [1].reverse (0 + j), 1⟩)) 3 = hkT (L8 g n0) (L8 h m) 0 ++ L8 h m ++ [BitVec.ofNat 8 (0 + 1)] := by
      rw [cat3, List.append_assoc]; rfl
    have hcl1 : (cat (putR (fun x => ⟨true, fun x => 0, 0⟩) 1 (putR (fun x => ⟨nl2, h, m⟩) 1 fun x => ⟨false, fun j => listI [1].reverse (0 + j), 1⟩)) 3).length ≤ 800000 := by
      rw [hc1]; simp only [List.length_append, L8_length, hkT, List.length_nil, List.length_singleton]; omega
    repeat ((conv => whnf); (with_reducible refine And.intro ?_ ?_); · first | assumption | omega | (intro _; refine ⟨True.intro, ?_⟩; omega) | (intro hg0; (repeat ((conv => whnf); (with_reducible refine And.intro ?_ ?_); · omega)); (conv => whnf); exact True.intro) | exact R8_3 (fun j hj => absurd hj (by show ¬ j < 0; omega)) hh (R8_b (by decide)))
    conv => whnf
    simp only [hc1]
    refine ⟨Nat, fun i => ⟨37, [(0, .sa (.sc (.im nl .u8 g n0))), (1, .sa (.sc (.im nl2 .u8 h m))), (2, .sa (.sc (.int .i64 N))), (7, .sa (.sc (ownA false (32 * i) 0))), (8, .sa (.sc (.sl false true false 1 0 0 32 32))), (9, .sa (.sc (.int .u8 (IntKind.u8.wrap (i + 1)))))],
      [(0, ownB 5 .u8 (UL (hkO (L8 g n0) (L8 h m) i)) (32 * i)), (1, .own 30 [.ints .u8 (UL (hkT (L8 g n0) (L8 h m) i)) 32] false)], 2⟩, fun i => 1 ≤ i ∧ (32 * i : Int) < N + 32, fun i => 255 - i, ⟨1, ⟨by omega, by omega⟩, le_of [(0, 3), (1, 2)] ?_⟩, fun i hi => ?_⟩
    · repeat ((conv => whnf); (with_reducible refine And.intro ?_ ?_); · first | with_reducible rfl | exact (Bool.and_false _).symm | (intro _ _; with_reducible rfl) | (intro h; exact absurd h (by decide)) | omega | (intro _; refine ⟨?_, True.intro⟩; omega) | (simp only [w_i64, w_u64, w_u32, w_u8]; omega) | exact fun j _ => rfl | (intro hgd; (try replace hgd := of_decide_eq_true hgd); (repeat ((conv => whnf); (with_reducible refine And.intro ?_ ?_); · first | omega | (simp [appG]; done) | exact fun j hj => out_app0 (b := 32) j hj)); (conv => whnf); exact True.intro))
      conv => whnf
      exact True.intro
    obtain ⟨hi1, hi2⟩ := hi
    have hi2 : (32 * i : Int) < N + 32 := hi2
    repeat ((conv => whnf); (with_reducible refine And.intro ?_ ?_); · omega)
    conv => whnf
    refine ⟨fun h3 => ?_, fun h3 => ?_⟩
    · replace h3 := of_decide_eq_true h3
      have hi3 : i ≤ 254 := by omega
      have hb : L8 (fun j => listI [IntKind.u8.wrap ((i : Int) + 1)].reverse (0 + j)) 1 = [BitVec.ofNat 8 (i + 1)] := by
        show [BitVec.ofInt 8 (IntKind.u8.wrap ((i : Int) + 1))] = _
        rw [show ((i : Int) + 1) = ((i + 1 : Nat) : Int) by omega, w8_cast, ofInt_toNat]
      have hwb : 0 ≤ IntKind.u8.wrap ((i : Int) + 1) ∧ IntKind.u8.wrap ((i : Int) + 1) < 256 := by rw [w_u8]; omega
      have hTl : (hkT (L8 g n0) (L8 h m) i).length = 32 := by
        cases i with
        | zero => omega
        | succ i => exact hkT_length _ _ _
      have hc2 : cat (putR (fun x => ⟨false, fun j => UL (hkT (L8 g n0) (L8 h m) i) (0 + j), 32⟩) 1 (putR (fun x => ⟨nl2, h, m⟩) 1 fun x => ⟨false, fun j => listI [IntKind.u8.wrap ((i : Int) + 1)].reverse (0 + j), 1⟩)) 3 =
          hkT (L8 g n0) (L8 h m) i ++ L8 h m ++ [BitVec.ofNat 8 (i + 1)] := by
        rw [cat3, List.append_assoc]
        exact congr (congrArg (· ++ ·) (L8_z hTl.symm)) (congrArg (L8 h m ++ ·) hb)
      have hcl2 : (cat (putR (fun x => ⟨false, fun j => UL (hkT (L8 g n0) (L8 h m) i) (0 + j), 32⟩) 1 (putR (fun x => ⟨nl2, h, m⟩) 1 fun x => ⟨false, fun j => listI [IntKind.u8.wrap ((i : Int) + 1)].reverse (0 + j), 1⟩)) 3).length ≤ 800000 := by
        rw [hc2, List.length_append, List.length_append, L8_length, hTl, List.length_singleton]; omega
      repeat ((conv => whnf); (with_reducible refine And.intro ?_ ?_); · first | assumption | omega | (intro _; refine ⟨True.intro, ?_⟩; omega) | (intro _; refine ⟨decide_eq_true ?_, ?_⟩ <;> omega) | (intro hg0; (repeat ((conv => whnf); (with_reducible refine And.intro ?_ ?_); · omega)); (conv => whnf); exact True.intro) | exact R8_3 (R8_z _ _) hh (R8_b hwb))
      conv => whnf
      refine ⟨i + 1, ⟨⟨by omega, by show (32 * ((i + 1 : Nat) : Int)) < N + 32; omega⟩, by show 255 - (i + 1) < 255 - i; omega⟩, le_of [(0, 5), (1, 4)] ?_⟩
      simp only [hc2]
      repeat ((conv => whnf); (with_reducible refine And.intro ?_ ?_); · first | with_reducible rfl | exact (Bool.and_false _).symm | (intro _ _; with_reducible rfl) | (intro h; exact absurd h (by decide)) | omega | (intro _; refine ⟨?_, True.intro⟩; omega) | (simp only [w_i64, w_u64, w_u32, w_u8]; omega) | exact fun j _ => rfl | (intro hgd; (try replace hgd := of_decide_eq_true hgd); (repeat ((conv => whnf); (with_reducible refine And.intro ?_ ?_); · first | omega | (simp [appG]; done) | exact fun j hj => out_app (b := 32) (hkO_length _ _ _).symm (hkT_length _ _ _).symm j hj)); (conv => whnf); exact True.intro))
      conv => whnf
      exact True.intro
    · replace h3 := of_decide_eq_false h3
      repeat ((conv => whnf); (with_reducible refine And.intro ?_ ?_); · omega)
      conv => whnf
      refine ⟨[], ?_⟩
      simp only [e1, e2]
      have hi255 : i ≤ 255 := by omega
      have hf := hkO_front (L8 g n0) (L8 h m) i 255 hi255
      have hcont : ∀ j, j < N.toNat → UL (hkO (L8 g n0) (L8 h m) 255) j = UL (hkO (L8 g n0) (L8 h m) i) j := fun j hj => by
        rw [← hf, UL_take (by omega)]
      repeat ((conv => whnf); (with_reducible refine And.intro ?_ ?_); · first | with_reducible rfl | (intro h; exact absurd h (by decide)) | omega | (intro _; refine ⟨?_, True.intro⟩; omega) | (intro hgd; (try replace hgd := of_decide_eq_true hgd); (repeat ((conv => whnf); (with_reducible refine And.intro ?_ ?_); · first | assumption | omega | (refine decide_eq_true ?_; omega))); (conv => whnf); exact True.intro))
      conv => whnf
      exact True.intro
end Go.Proofs.Ytogijkmflhjhkaa

/- Functions through the evaluator: Short; the document's small functions of SHA-256. No condition. -/
namespace Go.Proofs.Ytogijkmflhjhkaa
open Go.Sx Go.RowKit
set_option linter.unusedSimpArgs false
set_option maxRecDepth 100000
set_option linter.unusedVariables false

/-- indenturelaw1.Short. -/
def shortS : Summary := mkS true [.r .u8, .v] fun
  | [.r nl g n, .v (.sc (.int .i64 k))] => some ⟨.p (0 ≤ k ∧ k < 1000000), some (.sa (.sc (.im nl .u8 g (min n k.toNat)))), [], 0⟩
  | _ => none
theorem shortS_ok : SumOk Try.prog 31 shortS := by
  unfold shortS
  apply sum_ok
  intro vs A H n o r hb h
  split at h
  rotate_left
  · cases h
  rename_i nl g n0 k
  injection h with h
  subst h
  cases hb
  refine fsound_of_run tt_ok cok_nil mixed_ok Try.call31 Try.func31 rfl (rs := _) Try.results31 (size := 13) Try.ntmps31 (Nat.le_of_ble_eq_true rfl) rfl fun hp hfa hfh => ?_
  have hk : 0 ≤ k ∧ k < 1000000 := hp
  obtain ⟨⟨hnl, _⟩, _⟩ := hfa
  repeat ((conv => whnf); (with_reducible refine And.intro ?_ ?_); · omega)
  conv => whnf
  refine ⟨fun h1 => ?_, fun h1 => ?_⟩
  · have h2 : (n0 : Int) > k := of_decide_eq_true h1
    repeat ((conv => whnf); (with_reducible refine And.intro ?_ ?_); · omega)
    conv => whnf
    refine ⟨[], ?_⟩
    repeat ((conv => whnf); (with_reducible refine And.intro ?_ ?_); · first | with_reducible rfl | omega | (simp [appG]; done))
    conv => whnf
    exact True.intro
  · have h2 : ¬ (n0 : Int) > k := of_decide_eq_false h1
    repeat ((conv => whnf); (with_reducible refine And.intro ?_ ?_); · omega)
    conv => whnf
    refine ⟨[], ?_⟩
    repeat ((conv => whnf); (with_reducible refine And.intro ?_ ?_); · first | with_reducible rfl | (intro _ _; with_reducible rfl) | omega)
    conv => whnf
    exact True.intro

/-- indentureref1.right. -/
def rightS : Summary := mkS false [.v, .v] fun
  | [.v (.sc (.int .u32 x)), .v (.sc (.int .u64 k))] => some ⟨.and (.p (0 ≤ x ∧ x < 4294967296)) (.p (1 ≤ k ∧ k ≤ 31)), some (.sa (.sc (.int .u32 (U (rotl (BitVec.ofInt 32 x) (32 - k.toNat)))))), [], 0⟩
  | _ => none
theorem right_eq {x k : Int} (hx : 0 ≤ x ∧ x < 4294967296) (hk : 1 ≤ k ∧ k ≤ 31) :
    bits .or .u32 (x / 2 ^ min k.toNat IntKind.u32.bits) (IntKind.u32.wrap (x * 2 ^ min (IntKind.u64.wrap (32 - k)).toNat IntKind.u32.bits)) = U (rotl (BitVec.ofInt 32 x) (32 - k.toNat)) := by
  have e : x = U (BitVec.ofInt 32 x) := (U_ofInt32 hx.1 hx.2).symm
  have e1 : min k.toNat IntKind.u32.bits = k.toNat := by show min _ 32 = _; omega
  have e2 : min (IntKind.u64.wrap (32 - k)).toNat IntKind.u32.bits = 32 - k.toNat := by rw [w_u64, Int.emod_eq_of_lt (by omega) (by omega)]; show min _ 32 = _; omega
  rw [e1, e2]
  generalize BitVec.ofInt 32 x = X at *
  subst e
  rw [shr32, shl32, or32, rotl, BitVec.or_comm, show 32 - (32 - k.toNat) = k.toNat by omega]
theorem rightS_ok : SumOk Try.prog 93 rightS := by
  unfold rightS
  apply sum_ok
  intro vs A H n o r hb h
  split at h
  rotate_left
  · cases h
  rename_i x k
  injection h with h
  subst h
  cases hb
  refine fsound_of_run tt_ok cok_nil mixed_ok Try.call93 Try.func93 rfl (rs := _) Try.results93 (size := 13) Try.ntmps93 (Nat.le_of_ble_eq_true rfl) rfl fun hp hfa hfh => ?_
  obtain ⟨hx, hk⟩ := hp
  have hx : 0 ≤ x ∧ x < 4294967296 := hx
  have hk : 1 ≤ k ∧ k ≤ 31 := hk
  have hw : 0 ≤ IntKind.u64.wrap (32 - k) := by rw [w_u64]; omega
  repeat ((conv => whnf); (with_reducible refine And.intro ?_ ?_); · first | with_reducible assumption | omega)
  conv => whnf
  refine ⟨[], ?_⟩
  repeat ((conv => whnf); (with_reducible refine And.intro ?_ ?_); · exact (right_eq hx hk).symm)
  conv => whnf
  exact True.intro

/-- indentureref1.word. -/
def wordS : Summary := mkS false [.r .u8] fun
  | [.r nl g n] => some ⟨.and (.p (R8 g n)) (.p (4 ≤ n)), some (.sa (.sc (.int .u32 (U (be (L8 g n) 0))))), [], 0⟩
  | _ => none
theorem wordS_ok : SumOk Try.prog 92 wordS := by
  unfold wordS
  apply sum_ok
  intro vs A H n o r hb h
  split at h
  rotate_left
  · cases h
  rename_i nl g n0
  injection h with h
  subst h
  cases hb
  refine fsound_of_run tt_ok cok_nil mixed_ok Try.call92 Try.func92 rfl (rs := _) Try.results92 (size := 25) Try.ntmps92 (Nat.le_of_ble_eq_true rfl) rfl fun hp hfa hfh => ?_
  obtain ⟨hg, hn⟩ := hp
  have hg : R8 g n0 := hg
  have hn : 4 ≤ n0 := hn
  refine ⟨[(0, ⟨0, some 3, []⟩), (1, ⟨1, some 4, []⟩), (2, ⟨3, some 5, []⟩), (3, ⟨7, some 6, []⟩), (4, ⟨15, some 7, []⟩), (5, ⟨0, some 8, []⟩), (6, ⟨32, some 9, []⟩), (7, ⟨96, some 10, []⟩), (8, ⟨224, some 11, []⟩), (9, ⟨480, some 12, []⟩), (10, ⟨1023, some 13, []⟩), (11, ⟨0, some 14, []⟩), (12, ⟨2048, some 15, []⟩), (13, ⟨6144, some 16, []⟩), (14, ⟨14336, some 17, []⟩), (15, ⟨30720, some 18, []⟩), (16, ⟨65535, some 19, []⟩), (17, ⟨0, some 20, []⟩), (18, ⟨131072, some 21, []⟩), (19, ⟨393216, some 22, []⟩), (20, ⟨917504, some 23, []⟩), (21, ⟨2097151, some 24, []⟩), (22, ⟨4194303, some 2, []⟩)], 368, ?_⟩
  repeat ((conv => whnf); (with_reducible refine And.intro ?_ ?_); · omega)
  conv => whnf
  refine ⟨[], ?_⟩
  have g' : ∀ j, j < n0 → g j = U ((L8 g n0).getD j 0) := fun j hj => (UL_L8 hg j hj).symm
  have g0 : g (Int.toNat 0) = U ((L8 g n0).getD 0 0) := g' 0 (by omega)
  have g1 : g (Int.toNat 1) = U ((L8 g n0).getD 1 0) := g' 1 (by omega)
  have g2 : g (Int.toNat 2) = U ((L8 g n0).getD 2 0) := g' 2 (by omega)
  have g3 : g (Int.toNat 3) = U ((L8 g n0).getD 3 0) := g' 3 (by omega)
  simp only [g0, g1, g2, g3, sh24, sh16, sh8, wide32, shl32, w32_self', or32]
  repeat ((conv => whnf); (with_reducible refine And.intro ?_ ?_); · rfl)
  conv => whnf
  exact True.intro

/-- indentureref1.k256. -/
def k256S : Summary := mkS false [] fun
  | [] => some ⟨.tt, some (.sa (.sc (.sl false true true 0 0 0 64 64))), [(0, .own 57 [.ints .u32 (UL K256) 64] false)], 1⟩
  | _ => none
theorem k256S_ok : SumOk Try.prog 90 k256S := by
  unfold k256S
  apply sum_ok
  intro vs A H n o r hb h
  split at h
  rotate_left
  · cases h
  injection h with h
  subst h
  cases hb
  refine fsound_of_run tt_ok cok_nil mixed_ok Try.call90 Try.func90 rfl (rs := _) Try.results90 (size := 2) Try.ntmps90 (Nat.le_of_ble_eq_true rfl) rfl fun hp hfa hfh => ?_
  repeat ((conv => whnf); (with_reducible refine And.intro ?_ ?_); · omega)
  conv => whnf
  refine ⟨[], ?_⟩
  repeat ((conv => whnf); (with_reducible refine And.intro ?_ ?_); · omega)
  conv => whnf
  refine ⟨by decide +kernel, ?_⟩
  repeat ((conv => whnf); (with_reducible refine And.intro ?_ ?_); · first | with_reducible rfl | (intro h; exact absurd h (by decide)) | (intro _; refine ⟨?_, True.intro⟩; omega))
  conv => whnf
  exact True.intro
end Go.Proofs.Ytogijkmflhjhkaa

/- Functions through the evaluator: bytes filled up, lengths put. No condition. -/
namespace Go.Proofs.Ytogijkmflhjhkaa
open Go.Sx Go.RowKit
set_option maxRecDepth 100000
set_option maxHeartbeats 1000000
set_option linter.unusedVariables false
set_option linter.unusedSimpArgs false

theorem app1k {f g : Nat → Int} {m : Nat} {b : B8} (hf : R8 f m) (hz : g 0 = U b) (j : Nat) (hj : j < m + 1) : UL (L8 f m ++ [b]) j = put_ f m 1 g j := by
  rw [app1 (L8_length f m).symm hz j hj]
  simp only [put_]
  split
  · rfl
  · exact UL_L8 hf j (by omega)
theorem put_zero {f : Nat → Int} {n m : Nat} (hf : R8 f n) (j : Nat) (hj : j < n + m) : UL (L8 f n ++ List.replicate m 0) j = put_ f n m (fun _ => 0) j := by
  rw [← UL_app _ _ _ (by rw [L8_length, List.length_replicate]; exact hj), L8_length, List.length_replicate]
  unfold put_
  split
  · rw [UL_getD, show (List.replicate m (0 : B8)).getD (j - n) 0 = 0 by simp [List.getD_eq_getElem?_getD, show j - n < m by omega]]; rfl
  · exact UL_L8 hf j (by omega)
theorem fillN_lt (n : Nat) : fillN n < 16 := Nat.mod_lt _ (by omega)
/-- aead.fill. -/
def fillS : Summary := mkS false [.a 5 .u8] fun
  | [.a nl f n] => some ⟨.and (.p (R8 f n)) (.p (n ≤ 1000000)), some (.sa (.sc (ownA (nl && Nat.beq (fillN n) 0) (n + fillN n) 1))), [(0, .dead), (1, ownB 5 .u8 (UL (fill (L8 f n))) (n + fillN n))], 2⟩
  | _ => none
theorem fillS_ok : SumOk Try.prog 101 fillS := by
  unfold fillS
  apply sum_ok
  intro vs A H n o r hb h
  split at h
  rotate_left
  · cases h
  rename_i nl f n0
  injection h with h
  subst h
  cases hb
  refine fsound_of_run tt_ok cok_nil mixed_ok Try.call101 Try.func101 rfl (rs := _) Try.results101 (size := 10) Try.ntmps101 (Nat.le_of_ble_eq_true rfl) rfl fun hp hfa hfh => ?_
  obtain ⟨hf, hn⟩ := hp
  have hf : R8 f n0 := hf
  have hn : n0 ≤ 1000000 := hn
  have q1 : IntKind.i64.wrap (16 - ((n0 : Nat) : Int).tmod 16) = ((16 - n0 % 16 : Nat) : Int) := by rw [show ((n0 : Nat) : Int).tmod 16 = ((n0 % 16 : Nat) : Int) from rfl, w_i64]; omega
  have q2 : ((16 - n0 % 16 : Nat) : Int).tmod 16 = ((fillN n0 : Nat) : Int) := rfl
  have hl := fillN_lt n0
  have hnl : nl = true → n0 = 0 := hfa.1.1
  have hz : (nl && Nat.beq (fillN n0) 0) = true → n0 + fillN n0 = 0 := fun h => by
    obtain ⟨h1, h2⟩ := Bool.and_eq_true _ _ |>.mp h
    have := hnl h1
    rw [Nat.beq_eq] at h2
    omega
  repeat ((conv => whnf); (with_reducible refine And.intro ?_ ?_); · first | omega | (intro _; refine ⟨decide_eq_true ?_, ?_⟩ <;> omega) | (simp only [q1, q2, Int.toNat_natCast]; omega))
  conv => whnf
  refine ⟨[], ?_⟩
  simp only [q1, q2, Int.toNat_natCast]
  have hfin : ∀ j, j < n0 + fillN n0 → UL (fill (L8 f n0)) j = put_ f n0 (fillN n0) (fun _ => 0) j := fun j hj => by
    unfold fill; rw [L8_length]; exact put_zero hf j hj
  repeat ((conv => whnf); (with_reducible refine And.intro ?_ ?_); · first | with_reducible rfl | assumption | (intro _; refine ⟨?_, True.intro⟩; omega) | (intro hgd; (try replace hgd := of_decide_eq_true hgd); (repeat ((conv => whnf); (with_reducible refine And.intro ?_ ?_); · first | assumption | omega | (refine decide_eq_true ?_; omega))); (conv => whnf); exact True.intro))
  conv => whnf
  exact True.intro
theorem leB_succ (i v : Nat) : leB (i + 1) v = leB i v ++ [BitVec.ofNat 8 (v / 256 ^ i)] := by simp [leB, List.range_succ]
theorem byte_sh {m i : Nat} (hm : m < 9223372036854775808) (hi : i < 8) : IntKind.u8.wrap (IntKind.u64.wrap (m : Int) / 2 ^ min (8 * i) IntKind.u64.bits) = U (BitVec.ofNat 8 (m / 256 ^ i)) := by
  rw [w_u8, w_u64, show min (8 * i) IntKind.u64.bits = 8 * i from Nat.min_eq_left (by show _ ≤ 64; omega)]
  unfold U
  rw [BitVec.toNat_ofNat, show ((m : Nat) : Int) % 18446744073709551616 = ((m : Nat) : Int) by omega, show (2 : Int) ^ (8 * i) = ((256 ^ i : Nat) : Int) by rw [Int.pow_mul]; rfl]
  omega
/-- aead.length. -/
def lengthS : Summary := mkS false [.a 5 .u8, .v] fun
  | [.a nl f n, .v (.sc (.int .i64 m))] => some ⟨.and (.p (R8 f n)) (.and (.p (n ≤ 1000000)) (.p (0 ≤ m ∧ m < 9223372036854775808))), some (.sa (.sc (ownA false (n + 8) 1))), [(0, .dead), (1, ownB 5 .u8 (UL (L8 f n ++ leB 8 m.toNat)) (n + 8))], 2⟩
  | _ => none
theorem lengthS_ok : SumOk Try.prog 102 lengthS := by
  unfold lengthS
  apply sum_ok
  intro vs A H n o r hb h
  split at h
  rotate_left
  · cases h
  rename_i nl f n0 m
  injection h with h
  subst h
  cases hb
  refine fsound_of_run tt_ok cok_nil mixed_ok Try.call102 Try.func102 rfl (rs := _) Try.results102 (size := 20) Try.ntmps102 (Nat.le_of_ble_eq_true rfl) rfl fun hp hfa hfh => ?_
  obtain ⟨hf, hn, hm0, hm⟩ := hp
  have hf : R8 f n0 := hf
  have hn : n0 ≤ 1000000 := hn
  obtain ⟨M, rfl⟩ := Int.eq_ofNat_of_zero_le hm0
  have hM : M < 9223372036854775808 := by omega
  have hnl : nl = true → n0 = 0 := hfa.1.1
  rw [Int.toNat_natCast]
  repeat ((conv => whnf); (with_reducible refine And.intro ?_ ?_); · omega)
  conv => whnf
  refine ⟨1, ?_⟩
  repeat ((conv => whnf); (with_reducible refine And.intro ?_ ?_); · omega)
  conv => whnf
  refine ⟨fun _ => ?_, fun h => absurd h (by decide)⟩
  repeat ((conv => whnf); (with_reducible refine And.intro ?_ ?_); · first | omega | (intro _; refine ⟨True.intro, ?_⟩; omega) | (intro _; refine ⟨decide_eq_true ?_, ?_⟩ <;> omega) | (simp only [w_i64, w_u64, w_u32, w_u8]; omega))
  conv => whnf
  have hb0 : IntKind.u8.wrap (IntKind.u64.wrap (M : Int) / 2 ^ min (IntKind.i64.wrap (8 * 0)).toNat IntKind.u64.bits) = U (BitVec.ofNat 8 (M / 256 ^ 0)) := by
    have e0 : (IntKind.i64.wrap (8 * 0)).toNat = 0 := rfl
    have e1 := byte_sh (i := 0) hM (by omega)
    rw [Nat.mul_zero] at e1
    rw [e0, e1]
  refine ⟨Nat, fun i => ⟨20, [(0, .sa (.sc (ownA false (n0 + i) 1))), (1, .sa (.sc (.int .i64 M))), (6, .sa (.sc (.int .i64 i)))],
    [(0, .dead), (1, ownB 5 .u8 (UL (L8 f n0 ++ leB i M)) (n0 + i))], 2⟩, fun i => 1 ≤ i ∧ i ≤ 8, fun i => 8 - i, ⟨1, ⟨by omega, by omega⟩, le_of [(1, 2)] ?_⟩, fun i hi => ?_⟩
  · have h0 : ∀ j, j < n0 + 1 → UL (L8 f n0 ++ leB 1 M) j = put_ f n0 1 (fun j => listI [U (BitVec.ofNat 8 (M / 256 ^ 0))].reverse (0 + j)) j := fun j hj => by
      exact app1k hf rfl j hj
    simp only [hb0]
    repeat ((conv => whnf); (with_reducible refine And.intro ?_ ?_); · first | with_reducible rfl | exact (Bool.and_false _).symm | (intro h; exact absurd h (by decide)) | (intro _; refine ⟨?_, True.intro⟩; omega) | (simp only [w_i64, w_u64, w_u32, w_u8]; omega) | (intro hgd; (try replace hgd := of_decide_eq_true hgd); (repeat ((conv => whnf); (with_reducible refine And.intro ?_ ?_); · first | assumption | omega)); (conv => whnf); exact True.intro))
    conv => whnf
    exact True.intro
  obtain ⟨hi1, hi2⟩ := hi
  have hi1 : 1 ≤ i := hi1
  have hi2 : i ≤ 8 := hi2
  have hl : (L8 f n0 ++ leB i M).length = n0 + i := by rw [List.length_append, L8_length, leB_length]
  repeat ((conv => whnf); (with_reducible refine And.intro ?_ ?_); · omega)
  conv => whnf
  refine ⟨fun h1 => ?_, fun h1 => ?_⟩
  · replace h1 := of_decide_eq_true h1
    have w0 : IntKind.i64.wrap (8 * (i : Int)) = ((8 * i : Nat) : Int) := by rw [w_i64]; omega
    have hb := byte_sh (i := i) hM (by omega)
    repeat ((conv => whnf); (with_reducible refine And.intro ?_ ?_); · first | omega | (intro _; refine ⟨True.intro, ?_⟩; omega) | (intro _; refine ⟨decide_eq_true ?_, ?_⟩ <;> omega))
    conv => whnf
    refine ⟨i + 1, ⟨⟨by show 1 ≤ i + 1; omega, by show i + 1 ≤ 8; omega⟩, by show 8 - (i + 1) < 8 - i; omega⟩, le_of [(1, 3)] ?_⟩
    have hfin : ∀ j, j < n0 + i + 1 → UL (L8 f n0 ++ leB (i + 1) M) j = put_ (UL (L8 f n0 ++ leB i M)) (n0 + i) 1 (fun j => listI [U (BitVec.ofNat 8 (M / 256 ^ i))].reverse (0 + j)) j := fun j hj => by
      rw [leB_succ, ← List.append_assoc]
      exact app1 hl.symm rfl j hj
    simp only [w0, Int.toNat_natCast, hb, ← Nat.add_assoc]
    repeat ((conv => whnf); (with_reducible refine And.intro ?_ ?_); · first | with_reducible rfl | exact (Bool.and_false _).symm | (intro h; exact absurd h (by decide)) | (intro _; refine ⟨?_, True.intro⟩; omega) | (simp only [w_i64, w_u64, w_u32, w_u8]; omega) | (intro hgd; (try replace hgd := of_decide_eq_true hgd); (repeat ((conv => whnf); (with_reducible refine And.intro ?_ ?_); · first | assumption | omega)); (conv => whnf); exact True.intro))
    conv => whnf
    exact True.intro
  · replace h1 := of_decide_eq_false h1
    have hi8 : i = 8 := by omega
    subst hi8
    repeat ((conv => whnf); (with_reducible refine And.intro ?_ ?_); · omega)
    conv => whnf
    refine ⟨[], ?_⟩
    repeat ((conv => whnf); (with_reducible refine And.intro ?_ ?_); · first | with_reducible rfl | (intro h; exact absurd h (by decide)) | (intro _; refine ⟨?_, True.intro⟩; omega) | (intro hgd; (try replace hgd := of_decide_eq_true hgd); (repeat ((conv => whnf); (with_reducible refine And.intro ?_ ?_); · first | (intro _ _; with_reducible rfl) | assumption | omega)); (conv => whnf); exact True.intro))
    conv => whnf
    exact True.intro
end Go.Proofs.Ytogijkmflhjhkaa

/- Functions through the evaluator: sealed bytes, opened ones. No condition. -/
namespace Go.Proofs.Ytogijkmflhjhkaa
open Go.Sx Go.RowKit
set_option maxRecDepth 100000
set_option maxHeartbeats 2000000
set_option linter.unusedVariables false
set_option linter.unusedSimpArgs false

theorem cok40 : COk Try.prog (tab [(55, blockS), (101, fillS), (102, lengthS), (59, tagS)]) := cok_cons blockS_ok (cok_cons fillS_ok (cok_cons lengthS_ok (cok_cons tagS_ok cok_nil)))
/-- aead.mark. -/
noncomputable def markS : Summary := mkS false [.v, .v, .r .u8, .r .u8] fun
  | [.v (.agg [.ints .u8 k 32]), .v (.agg [.ints .u8 n 12]), .r nl1 a l, .r nl2 c m] => some ⟨.and (.p (R8 k 32)) (.and (.p (R8 n 12)) (.and (.p (R8 a l)) (.and (.p (R8 c m)) (.p (l ≤ 10000 ∧ m ≤ 10000))))),
      some (.sa (.agg [.ints .u8 (UL (aeMark (L8 k 32) (L8 n 12) (L8 a l) (L8 c m))) 16])), [], 0⟩
  | _ => none
theorem markS_ok : SumOk Try.prog 86 markS := by
  unfold markS
  apply sum_ok
  intro vs A H n o r hb h
  split at h
  rotate_left
  · cases h
  rename_i k n nl1 a l nl2 c m
  injection h with h
  subst h
  cases hb
  refine fsound_of_run tt_ok cok40 mixed_ok Try.call86 Try.func86 rfl (rs := _) Try.results86 (size := 35) Try.ntmps86 (Nat.le_of_ble_eq_true rfl) rfl fun hp hfa hfh => ?_
  obtain ⟨hk, hn, ha, hc, hl, hm⟩ := hp
  have hk : R8 k 32 := hk
  have hn : R8 n 12 := hn
  have ha : R8 a l := ha
  have hc : R8 c m := hc
  have u0 : u32R 0 := ⟨by decide, by decide⟩
  repeat ((conv => whnf); (with_reducible refine And.intro ?_ ?_); · with_reducible assumption)
  conv => whnf
  obtain ⟨Bk, hB⟩ : ∃ Bk, Bk = chBlock (L8 k 32) (BitVec.ofInt 32 0) (L8 n 12) := ⟨_, rfl⟩
  have hBl : Bk.length = 64 := by rw [hB, chBlock_length]
  simp only [← hB]
  refine ⟨[(0, ⟨0, some 15, []⟩), (1, ⟨0, some 16, []⟩), (2, ⟨3, some 17, [4]⟩)], 53, ?_⟩
  repeat ((conv => whnf); (with_reducible refine And.intro ?_ ?_); · first | omega | (intro _; refine ⟨True.intro, ?_⟩; omega) | (intro _; refine ⟨?_, ?_⟩ <;> first | omega | (simp [appG, Cd.holds]; done)))
  conv => whnf
  have hA : R8 (put_ (listI [].reverse) 0 l a) (0 + l) := fun j hj => by rw [put_0 (by omega)]; exact ha _ (by omega)
  have eA : L8 (put_ (listI [].reverse) 0 l a) l = L8 a l := L8_congr fun j hj => put_0 hj
  refine ⟨hA, ?_⟩
  simp only [Nat.zero_add, eA]
  obtain ⟨A, hAe⟩ : ∃ A, A = L8 a l := ⟨_, rfl⟩
  have hAl : A.length = l := by rw [hAe, L8_length]
  obtain ⟨C, hCe⟩ : ∃ C, C = L8 c m := ⟨_, rfl⟩
  have hCl : C.length = m := by rw [hCe, L8_length]
  simp only [← hAe, ← hCe]
  have hfl := fillN_lt l
  have hfl2 := fillN_lt (l + fillN l + m)
  have hFl : (fill A).length = l + fillN l := by rw [fill_length, hAl]
  have hC : R8 (put_ (UL (fill A)) (l + fillN l) m c) (l + fillN l + m) := R8_put (R8_UL _ _) hc
  have eC : L8 (put_ (UL (fill A)) (l + fillN l) m c) (l + fillN l + m) = fill A ++ C := by rw [L8_put, L8_UL' hFl.symm, hCe]
  repeat ((conv => whnf); (with_reducible refine And.intro ?_ ?_); · first | with_reducible assumption | omega | (intro _; refine ⟨decide_eq_true ?_, ?_⟩ <;> omega))
  conv => whnf
  simp only [eC]
  have hDl : (fill (fill A ++ C)).length = l + fillN l + m + fillN (l + fillN l + m) := by rw [fill_length, List.length_append, hFl, hCl]
  obtain ⟨D, hD⟩ : ∃ D, D = fill (fill A ++ C) := ⟨_, rfl⟩
  have hM : aeM A C = D ++ leB 8 l ++ leB 8 m := by unfold aeM; rw [← hD, hAl, hCl]
  rw [← hD] at hDl
  simp only [← hD]
  obtain ⟨d, hd⟩ : ∃ d, d = l + fillN l + m + fillN (l + fillN l + m) := ⟨_, rfl⟩
  have hd2 : d ≤ 100000 := by omega
  rw [← hd] at hDl
  simp only [← hd]
  refine ⟨[(0, ⟨0, some 26, []⟩), (1, ⟨0, some 27, []⟩), (2, ⟨0, some 28, []⟩), (3, ⟨4, some 29, []⟩), (4, ⟨14, some 30, [57, 122]⟩), (5, ⟨0, some 31, []⟩), (6, ⟨32, some 32, []⟩), (7, ⟨126, some 33, [122, 170]⟩), (8, ⟨255, some 34, []⟩), (9, ⟨511, none, [2]⟩)], 218, ?_⟩
  have hKj : ∀ j, j < 32 → (put_ (fun _ => 0) (Int.toNat 0) (min (64 - Int.toNat 0) (32 - Int.toNat 0)) fun j => UL Bk (Int.toNat 0 + j)) j = UL Bk j := fun j hj => by
    unfold put_
    rw [if_pos ⟨Nat.zero_le _, by show j < 0 + 32; omega⟩]
    show UL Bk (0 + (j - 0)) = _
    rw [Nat.zero_add, Nat.sub_zero]
  have hK8 : R8 (put_ (fun _ => 0) (Int.toNat 0) (min (64 - Int.toNat 0) (32 - Int.toNat 0)) fun j => UL Bk (Int.toNat 0 + j)) 32 := fun j hj => by rw [hKj j hj]; exact R8_UL Bk 32 j hj
  have eK : L8 (put_ (fun _ => 0) (Int.toNat 0) (min (64 - Int.toNat 0) (32 - Int.toNat 0)) fun j => UL Bk (Int.toNat 0 + j)) 32 = aeK (L8 k 32) (L8 n 12) := by
    rw [L8_congr hKj, L8_take _ 64 32 (by omega), L8_UL' hBl.symm, hB]
    rfl
  have eM : L8 (fun j => UL (L8 (UL (L8 (UL D) d ++ leB 8 (Int.toNat (l : Int)))) (d + 8) ++ leB 8 (Int.toNat (m : Int))) (0 + j)) (d + 8 + 8) = aeM A C := by
    rw [hM, Int.toNat_natCast, Int.toNat_natCast, L8_UL' hDl.symm, L8_UL' (l := D ++ leB 8 l) (by rw [List.length_append, hDl, leB_length])]
    rw [show (fun j => UL (D ++ leB 8 l ++ leB 8 m) (0 + j)) = UL (D ++ leB 8 l ++ leB 8 m) from funext fun j => by rw [Nat.zero_add]]
    exact L8_UL' (by rw [List.length_append, List.length_append, hDl, leB_length, leB_length])
  repeat ((conv => whnf); (with_reducible refine And.intro ?_ ?_); · first | with_reducible assumption | omega | (intro _; refine ⟨decide_eq_true ?_, ?_⟩ <;> omega) | exact R8_UL _ _ | exact fun j hj => ⟨U_nonneg _, U_lt8 _⟩)
  conv => whnf
  refine ⟨[], ?_⟩
  simp only [eK, eM]
  repeat ((conv => whnf); (with_reducible refine And.intro ?_ ?_); · first | exact fun _ _ => rfl | with_reducible rfl)
  conv => whnf
  exact True.intro

theorem cok41 : COk Try.prog (tab [(57, xorS), (86, markS), (41, sameS)]) := cok_cons xorS_ok (cok_cons markS_ok (cok_cons sameS_ok cok_nil))
/-- aead.Seal. -/
noncomputable def sealS : Summary := mkS false [.v, .v, .r .u8, .r .u8] fun
  | [.v (.agg [.ints .u8 k 32]), .v (.agg [.ints .u8 n 12]), .r nl1 a l, .r nl2 c m] => some ⟨.and (.p (R8 k 32)) (.and (.p (R8 n 12)) (.and (.p (R8 a l)) (.and (.p (R8 c m)) (.p (l ≤ 10000 ∧ m ≤ 10000))))),
      some (.sa (.sc (.sl false true false 0 0 0 (m + 16) (m + 16)))), [(0, ownB 5 .u8 (UL (aeSeal (L8 k 32) (L8 n 12) (L8 a l) (L8 c m))) (m + 16))], 1⟩
  | _ => none
theorem sealS_ok : SumOk Try.prog 61 sealS := by
  unfold sealS
  apply sum_ok
  intro vs A H n o r hb h
  split at h
  rotate_left
  · cases h
  rename_i k n nl1 a l nl2 c m
  injection h with h
  subst h
  cases hb
  refine fsound_of_run tt_ok cok41 mixed_ok Try.call61 Try.func61 rfl (rs := _) Try.results61 (size := 23) Try.ntmps61 (Nat.le_of_ble_eq_true rfl) rfl fun hp hfa hfh => ?_
  obtain ⟨hk, hn, ha, hc, hl, hm⟩ := hp
  have hk : R8 k 32 := hk
  have hn : R8 n 12 := hn
  have ha : R8 a l := ha
  have hc : R8 c m := hc
  have hl : l ≤ 10000 := hl
  have hm : m ≤ 10000 := hm
  have u1 : u32R 1 := ⟨by decide, by decide⟩
  repeat ((conv => whnf); (with_reducible refine And.intro ?_ ?_); · first | with_reducible assumption | omega | (intro _; refine ⟨True.intro, ?_⟩; omega) | exact fun j hj => ⟨U_nonneg _, U_lt8 _⟩)
  conv => whnf
  obtain ⟨X, hX⟩ : ∃ X, X = chXor (L8 k 32) (BitVec.ofInt 32 1) (L8 n 12) (L8 c m) := ⟨_, rfl⟩
  have hXl : X.length = m := by rw [hX, chXor_length, L8_length]
  have eX : L8 (fun j => UL X (0 + j)) m = X := by
    rw [show (fun j => UL X (0 + j)) = UL X from funext fun j => by rw [Nat.zero_add]]
    exact L8_UL' hXl.symm
  have hS : aeSeal (L8 k 32) (L8 n 12) (L8 a l) (L8 c m) = X ++ aeMark (L8 k 32) (L8 n 12) (L8 a l) X := by rw [hX]; rfl
  obtain ⟨S, hSe⟩ : ∃ S, S = aeMark (L8 k 32) (L8 n 12) (L8 a l) X := ⟨_, rfl⟩
  have hSl : S.length = 16 := by rw [hSe, aeMark_length]
  have hfin : ∀ j, j < m + 16 → UL (X ++ S) j = put_ (UL X) m (16 - Int.toNat 0) (fun j => UL S (Int.toNat 0 + j)) j := fun j hj => by
    rw [← UL_app X S j (by omega), hXl, hSl]
    congr 1
    funext j
    show UL S j = UL S (0 + j)
    rw [Nat.zero_add]
  refine ⟨[(0, 4)], ?_⟩
  simp only [← hX, eX, hS, ← hSe]
  repeat ((conv => whnf); (with_reducible refine And.intro ?_ ?_); · first | exact (Bool.and_false _).symm | (intro h; exact absurd h (by decide)) | omega | (intro _; refine ⟨?_, True.intro⟩; omega) | (intro hgd; (try replace hgd := of_decide_eq_true hgd); (repeat ((conv => whnf); (with_reducible refine And.intro ?_ ?_); · first | assumption | omega | (simp [appG]; done))); (conv => whnf); exact True.intro))
  conv => whnf
  exact True.intro

/-- What Open gives. -/
noncomputable def openS : Summary := mkS false [.v, .v, .r .u8, .r .u8] fun
  | [.v (.agg [.ints .u8 k 32]), .v (.agg [.ints .u8 n 12]), .r nl1 a l, .r nl2 c m] => some ⟨.and (.p (R8 k 32)) (.and (.p (R8 n 12)) (.and (.p (R8 a l)) (.and (.p (R8 c m)) (.p (l ≤ 10000 ∧ m ≤ 10000))))),
      some (.tup [.sc (.sl (!(aeIs (L8 k 32) (L8 n 12) (L8 a l) (L8 c m))) false false 0 0 0 (aeOut (L8 k 32) (L8 n 12) (L8 a l) (L8 c m)).length (aeOut (L8 k 32) (L8 n 12) (L8 a l) (L8 c m)).length), .sc (.bool (aeIs (L8 k 32) (L8 n 12) (L8 a l) (L8 c m)))]),
      [(0, ownB 5 .u8 (UL (aeOut (L8 k 32) (L8 n 12) (L8 a l) (L8 c m))) (aeOut (L8 k 32) (L8 n 12) (L8 a l) (L8 c m)).length)], 1⟩
  | _ => none
theorem openS_ok : SumOk Try.prog 62 openS := by
  unfold openS
  apply sum_ok
  intro vs A H n o r hb h
  split at h
  rotate_left
  · cases h
  rename_i k n nl1 a l nl2 c m
  injection h with h
  subst h
  cases hb
  refine fsound_of_run tt_ok cok41 mixed_ok Try.call62 Try.func62 rfl (rs := _) Try.results62 (size := 36) Try.ntmps62 (Nat.le_of_ble_eq_true rfl) rfl fun hp hfa hfh => ?_
  obtain ⟨hk, hn, ha, hc, hl, hm⟩ := hp
  have hk : R8 k 32 := hk
  have hn : R8 n 12 := hn
  have ha : R8 a l := ha
  have hc : R8 c m := hc
  have hl : l ≤ 10000 := hl
  have hm : m ≤ 10000 := hm
  have u1 : u32R 1 := ⟨by decide, by decide⟩
  have hCl : (L8 c m).length = m := L8_length _ _
  have hout : ∀ C, aeOut (L8 k 32) (L8 n 12) (L8 a l) C = if aeIs (L8 k 32) (L8 n 12) (L8 a l) C = true then chXor (L8 k 32) 1 (L8 n 12) (C.take (C.length - 16)) else [] := fun _ => aeOut_eq _ _ _ _
  have his : aeIs (L8 k 32) (L8 n 12) (L8 a l) (L8 c m) = decide (16 ≤ m ∧ aeMark (L8 k 32) (L8 n 12) (L8 a l) ((L8 c m).take (m - 16)) = (L8 c m).drop (m - 16)) := by rw [aeIs_eq, hCl]
  have ho := hout (L8 c m)
  rw [hCl] at ho
  obtain ⟨B, hB⟩ : ∃ B, B = aeIs (L8 k 32) (L8 n 12) (L8 a l) (L8 c m) := ⟨_, rfl⟩
  obtain ⟨O, hO⟩ : ∃ O, O = aeOut (L8 k 32) (L8 n 12) (L8 a l) (L8 c m) := ⟨_, rfl⟩
  rw [← hB] at his
  rw [← hB, ← hO] at ho
  simp only [← hB, ← hO]
  have w0 : IntKind.i64.wrap ((m : Int) - 16) = (m : Int) - 16 := by rw [w_i64]; omega
  repeat ((conv => whnf); (with_reducible refine And.intro ?_ ?_); · omega)
  conv => whnf
  refine ⟨fun h1 => ?_, fun h1 => ?_⟩
  · replace h1 := of_decide_eq_true h1
    rw [w0] at h1
    have hBf : B = false := by rw [his]; exact decide_eq_false fun h => by omega
    rw [hBf] at ho ⊢
    rw [if_neg (by decide)] at ho
    subst ho
    repeat ((conv => whnf); (with_reducible refine And.intro ?_ ?_); · omega)
    conv => whnf
    refine ⟨[], ?_⟩
    repeat ((conv => whnf); (with_reducible refine And.intro ?_ ?_); · first | with_reducible rfl | (intro h; exact absurd h (by decide)) | (simp [appG]; done))
    conv => whnf
    exact True.intro
  · replace h1 := of_decide_eq_false h1
    rw [w0] at h1
    have h16 : 16 ≤ m := by omega
    have hm16 : IntKind.i64.wrap ((m : Int) - 16) = ((m - 16 : Nat) : Int) := by rw [w0]; omega
    repeat ((conv => whnf); (with_reducible refine And.intro ?_ ?_); · omega)
    conv => whnf
    simp only [hm16, Int.toNat_natCast]
    have hT8 : R8 (fun j => c (Int.toNat 0 + j)) (Int.toNat ((m - 16 : Nat) : Int) - Int.toNat 0) := fun j hj => hc (0 + j) (by have : j < m - 16 - 0 := hj; omega)
    have eT : L8 (fun j => c (Int.toNat 0 + j)) (Int.toNat ((m - 16 : Nat) : Int) - Int.toNat 0) = (L8 c m).take (m - 16) := by
      rw [← L8_take c m (m - 16) (by omega)]
      show L8 (fun j => c (0 + j)) (m - 16) = _
      exact L8_congr fun j _ => by rw [Nat.zero_add]
    have hD8 : R8 (fun j => c (Int.toNat ((m - 16 : Nat) : Int) + j)) (m - Int.toNat ((m - 16 : Nat) : Int)) := fun j hj => hc (m - 16 + j) (by have : j < m - (m - 16) := hj; omega)
    have eD : L8 (fun j => c (Int.toNat ((m - 16 : Nat) : Int) + j)) (m - Int.toNat ((m - 16 : Nat) : Int)) = (L8 c m).drop (m - 16) := L8_drop c m (m - 16)
    obtain ⟨S, hS⟩ : ∃ S, S = aeMark (L8 k 32) (L8 n 12) (L8 a l) ((L8 c m).take (m - 16)) := ⟨_, rfl⟩
    have hSl : S.length = 16 := by rw [hS, aeMark_length]
    have eS : L8 (fun j => UL S (Int.toNat 0 + j)) (16 - Int.toNat 0) = S := by
      rw [show (fun j => UL S (Int.toNat 0 + j)) = UL S from funext fun j => by show UL S (0 + j) = _; rw [Nat.zero_add]]
      exact L8_UL' hSl.symm
    rw [← hS] at his
    refine ⟨[(0, ⟨0, some 17, []⟩), (1, ⟨0, some 18, []⟩), (2, ⟨0, some 19, []⟩), (3, ⟨0, some 20, []⟩), (4, ⟨0, some 21, []⟩), (5, ⟨24, some 22, []⟩), (6, ⟨63, some 23, []⟩), (7, ⟨0, some 11, [114]⟩), (8, ⟨255, none, [114]⟩)], 146, ?_⟩
    repeat ((conv => whnf); (with_reducible refine And.intro ?_ ?_); · first | with_reducible assumption | omega)
    conv => whnf
    simp only [eT, ← hS]
    refine ⟨[(0, ⟨0, some 24, []⟩), (1, ⟨0, some 25, []⟩), (2, ⟨0, some 26, []⟩), (3, ⟨6, some 27, []⟩), (4, ⟨15, some 28, []⟩), (5, ⟨31, some 29, []⟩)], 242, ?_⟩
    repeat ((conv => whnf); (with_reducible refine And.intro ?_ ?_); · first | with_reducible assumption | omega | (intro _; refine ⟨True.intro, ?_⟩; omega) | exact fun j hj => ⟨U_nonneg _, U_lt8 _⟩)
    conv => whnf
    simp only [eS, eD]
    refine ⟨fun h2 => ?_, fun h2 => ?_⟩
    · have hBf : B = false := by
        rw [his]
        refine decide_eq_false fun h => ?_
        rw [Bool.not_eq_true', decide_eq_false_iff_not] at h2
        exact h2 h.2
      rw [hBf] at ho ⊢
      rw [if_neg (by decide)] at ho
      subst ho
      repeat ((conv => whnf); (with_reducible refine And.intro ?_ ?_); · omega)
      conv => whnf
      refine ⟨[], ?_⟩
      repeat ((conv => whnf); (with_reducible refine And.intro ?_ ?_); · first | with_reducible rfl | (intro h; exact absurd h (by decide)) | (simp [appG]; done))
      conv => whnf
      exact True.intro
    · have hBt : B = true := by
        rw [his]
        refine decide_eq_true ⟨h16, ?_⟩
        rw [Bool.not_eq_false', decide_eq_true_iff] at h2
        exact h2
      rw [hBt] at ho ⊢
      rw [if_pos rfl] at ho
      have hOl : O.length = m - 16 := by rw [ho, chXor_length, List.length_take, hCl, Nat.min_eq_left (by omega)]
      repeat ((conv => whnf); (with_reducible refine And.intro ?_ ?_); · omega)
      conv => whnf
      refine ⟨[(0, ⟨0, some 30, []⟩), (1, ⟨0, some 31, []⟩), (2, ⟨0, some 32, []⟩), (3, ⟨0, some 33, []⟩), (4, ⟨12, some 34, []⟩), (5, ⟨31, some 35, [322]⟩), (6, ⟨63, some 8, []⟩), (7, ⟨127, some 9, []⟩)], 370, ?_⟩
      repeat ((conv => whnf); (with_reducible refine And.intro ?_ ?_); · first | with_reducible assumption | omega)
      conv => whnf
      simp only [eT]
      refine ⟨[(0, 322)], ?_⟩
      have ho2 : chXor (L8 k 32) (BitVec.ofInt 32 1) (L8 n 12) (List.take (m - 16) (L8 c m)) = O := by rw [ho]; rfl
      simp only [ho2, hOl]
      repeat ((conv => whnf); (with_reducible refine And.intro ?_ ?_); · first | with_reducible rfl | (intro h; exact absurd h (by decide)) | omega | (intro _; refine ⟨?_, True.intro⟩; omega) | (simp [appG]; done) | (intro hgd; (try replace hgd := of_decide_eq_true hgd); (repeat ((conv => whnf); (with_reducible refine And.intro ?_ ?_); · first | (intro _ _; with_reducible rfl) | omega)); (conv => whnf); exact True.intro))
      conv => whnf
      exact True.intro
end Go.Proofs.Ytogijkmflhjhkaa

/- Functions through the evaluator: the document's sealed bytes. No condition. -/
namespace Go.Proofs.Ytogijkmflhjhkaa
open Go.Sx Go.RowKit
set_option maxRecDepth 100000
set_option maxHeartbeats 2000000
set_option linter.unusedVariables false
set_option linter.unusedSimpArgs false

/-- indentureref4.eight. -/
def eightS : Summary := mkS false [.v] fun
  | [.v (.sc (.int .i64 m))] => some ⟨.p (0 ≤ m ∧ m ≤ 9223372036854775807), some (.sa (.sc (ownA false 8 0))), [(0, ownB 5 .u8 (UL (leB 8 m.toNat)) 8)], 1⟩
  | _ => none
theorem eightS_ok : SumOk Try.prog 103 eightS := by
  unfold eightS
  apply sum_ok
  intro vs A H n o r hb h
  split at h
  rotate_left
  · cases h
  rename_i m
  injection h with h
  subst h
  cases hb
  refine fsound_of_run tt_ok cok_nil mixed_ok Try.call103 Try.func103 rfl (rs := _) Try.results103 (size := 18) Try.ntmps103 (Nat.le_of_ble_eq_true rfl) rfl fun hp hfa hfh => ?_
  obtain ⟨hm0, hm1⟩ := hp
  obtain ⟨M, rfl⟩ := Int.eq_ofNat_of_zero_le hm0
  have hM : M ≤ 9223372036854775807 := by omega
  rw [Int.toNat_natCast]
  repeat ((conv => whnf); (with_reducible refine And.intro ?_ ?_); · omega)
  conv => whnf
  refine ⟨0, Nat, fun i => ⟨18, [(0, .sa (.sc (.int .i64 ((M / 256 ^ i : Nat) : Int)))), (3, .sa (.sc (ownA (Nat.beq i 0) i 0))), (4, .sa (.sc (.int .i64 i)))], [(0, ownB 5 .u8 (UL (leB i M)) i)], 1⟩, fun i => i ≤ 8, fun i => 8 - i, ⟨0, by omega, le_of [] ?_⟩, fun i hi => ?_⟩
  · simp only [Nat.pow_zero, Nat.div_one]
    repeat ((conv => whnf); (with_reducible refine And.intro ?_ ?_); · first | with_reducible rfl | (intro h; exact absurd h (by decide)) | omega | (refine decide_eq_false ?_; omega) | (simp [appG]; done))
    conv => whnf
    exact True.intro
  have hi : i ≤ 8 := hi
  have hb0 : Nat.beq i 0 = true → i = 0 := fun h => by rw [Nat.beq_eq] at h; exact h
  repeat ((conv => whnf); (with_reducible refine And.intro ?_ ?_); · omega)
  conv => whnf
  refine ⟨fun h1 => ?_, fun h1 => ?_⟩
  · replace h1 := of_decide_eq_true h1
    obtain ⟨Q, hQ⟩ : ∃ Q, Q = M / 256 ^ i := ⟨_, rfl⟩
    have hQl : Q ≤ 9223372036854775807 := by rw [hQ]; exact Nat.le_trans (Nat.div_le_self _ _) hM
    have hb : IntKind.u8.wrap (((Q : Nat) : Int).tmod 256) = U (BitVec.ofNat 8 Q) := by
      rw [show ((Q : Nat) : Int).tmod 256 = ((Q % 256 : Nat) : Int) from rfl, w_u8]
      unfold U
      rw [BitVec.toNat_ofNat]; omega
    have hd : IntKind.i64.wrap (((Q : Nat) : Int).tdiv 256) = ((Q / 256 : Nat) : Int) := by rw [show ((Q : Nat) : Int).tdiv 256 = ((Q / 256 : Nat) : Int) from rfl, w_i64]; omega
    have hQ2 : M / 256 ^ (i + 1) = Q / 256 := by rw [Nat.pow_succ, ← Nat.div_div_eq_div_mul, hQ]
    have hfin : ∀ j, j < i + 1 → UL (leB (i + 1) M) j = put_ (UL (leB i M)) i 1 (fun j => listI [U (BitVec.ofNat 8 Q)].reverse (0 + j)) j := fun j hj => by
      rw [leB_succ, ← hQ]
      exact app1 (leB_length i M).symm rfl j hj
    simp only [← hQ]
    repeat ((conv => whnf); (with_reducible refine And.intro ?_ ?_); · first | omega | (intro _; refine ⟨True.intro, ?_⟩; omega) | (intro _; refine ⟨decide_eq_true ?_, ?_⟩ <;> omega))
    conv => whnf
    refine ⟨i + 1, ⟨by show i + 1 ≤ 8; omega, by show 8 - (i + 1) < 8 - i; omega⟩, le_of [(0, 2)] ?_⟩
    simp only [hb, hd, hQ2]
    repeat ((conv => whnf); (with_reducible refine And.intro ?_ ?_); · first | with_reducible rfl | exact (Bool.and_false _).symm | (intro _; refine ⟨?_, True.intro⟩; omega) | (simp only [w_i64, w_u64, w_u32, w_u8]; omega) | (simp [appG]; done) | (intro hgd; (try replace hgd := of_decide_eq_true hgd); (repeat ((conv => whnf); (with_reducible refine And.intro ?_ ?_); · first | assumption | omega | (simp [appG]; done))); (conv => whnf); exact True.intro))
    conv => whnf
    exact True.intro
  · replace h1 := of_decide_eq_false h1
    have hi8 : i = 8 := by omega
    subst hi8
    repeat ((conv => whnf); (with_reducible refine And.intro ?_ ?_); · omega)
    conv => whnf
    refine ⟨[], ?_⟩
    repeat ((conv => whnf); (with_reducible refine And.intro ?_ ?_); · first | with_reducible rfl | assumption | (intro _; refine ⟨?_, True.intro⟩; omega) | rfl | (intro hgd; (try replace hgd := of_decide_eq_true hgd); (repeat ((conv => whnf); (with_reducible refine And.intro ?_ ?_); · first | (intro _ _; with_reducible rfl) | assumption | (refine decide_eq_true ?_; omega))); (conv => whnf); exact True.intro))
    conv => whnf
    exact True.intro

theorem cok48 : COk Try.prog (tab [(56, rblockS), (103, eightS), (60, rtagS)]) := cok_cons rblockS_ok (cok_cons eightS_ok (cok_cons rtagS_ok cok_nil))
theorem mod_ne {a : Nat} : (!(((a : Nat) : Int).tmod 16 == 0)) = decide (a % 16 ≠ 0) := by
  rw [show ((a : Nat) : Int).tmod 16 = ((a % 16 : Nat) : Int) from rfl]
  by_cases h : a % 16 = 0
  · rw [h]; rfl
  · rw [decide_eq_true h]
    have h2 : (((a % 16 : Nat) : Int) == 0) = false := beq_eq_false_iff_ne.2 (by omega)
    rw [h2]; rfl
theorem fill_at {a r : Nat} (h : r ≤ fillN a) : (a + r) % 16 ≠ 0 ↔ r < fillN a := by unfold fillN at *; omega
/-- A list, so many noughts behind it. -/
def zfL (A : List B8) (r : Nat) : List B8 := A ++ List.replicate r 0
theorem zfL_length (A : List B8) (r : Nat) : (zfL A r).length = A.length + r := by simp [zfL]
theorem zfL_succ (A : List B8) (r : Nat) : zfL A (r + 1) = zfL A r ++ [0] := by unfold zfL; rw [List.replicate_succ', List.append_assoc]
/-- indentureref4.mark. -/
noncomputable def rmarkS : Summary := mkS false [.v, .v, .r .u8, .r .u8] fun
  | [.v (.agg [.ints .u8 k 32]), .v (.agg [.ints .u8 n 12]), .r nl1 a l, .r nl2 c m] => some ⟨.and (.p (R8 k 32)) (.and (.p (R8 n 12)) (.and (.p (R8 a l)) (.and (.p (R8 c m)) (.p (l ≤ 10000 ∧ m ≤ 10000))))),
      some (.sa (.sc (.sl false true false 0 0 0 16 16))), [(0, .own 68 [.ints .u8 (UL (aeMark (L8 k 32) (L8 n 12) (L8 a l) (L8 c m))) 16] false)], 1⟩
  | _ => none
theorem rmarkS_ok : SumOk Try.prog 87 rmarkS := by
  unfold rmarkS
  apply sum_ok
  intro vs A H n o r hb h
  split at h
  rotate_left
  · cases h
  rename_i k n nl1 a l nl2 c m
  injection h with h
  subst h
  cases hb
  refine fsound_of_run tt_ok cok48 mixed_ok Try.call87 Try.func87 rfl (rs := _) Try.results87 (size := 50) Try.ntmps87 (Nat.le_of_ble_eq_true rfl) rfl fun hp hfa hfh => ?_
  obtain ⟨hk, hn, ha, hc, hl, hm⟩ := hp
  have hk : R8 k 32 := hk
  have hn : R8 n 12 := hn
  have ha : R8 a l := ha
  have hc : R8 c m := hc
  have hl : l ≤ 10000 := hl
  have hm : m ≤ 10000 := hm
  have u0 : u32R 0 := ⟨by decide, by decide⟩
  repeat ((conv => whnf); (with_reducible refine And.intro ?_ ?_); · with_reducible with_reducible assumption)
  conv => whnf
  obtain ⟨Bk, hB⟩ : ∃ Bk, Bk = chBlock (L8 k 32) (BitVec.ofInt 32 0) (L8 n 12) := ⟨_, rfl⟩
  have hBl : Bk.length = 64 := by rw [hB, chBlock_length]
  simp only [← hB]
  refine ⟨[(0, ⟨0, some 16, []⟩), (1, ⟨0, some 17, []⟩), (2, ⟨3, some 18, [3]⟩)], 52, ?_⟩
  repeat ((conv => whnf); (with_reducible refine And.intro ?_ ?_); · first | omega | (intro _; refine ⟨True.intro, ?_⟩; omega))
  conv => whnf
  have hKj : ∀ j, j < 32 → (put_ (fun _ => 0) (Int.toNat 0) (min (Int.toNat 32 - Int.toNat 0) (32 - Int.toNat 0)) fun j => UL Bk (Int.toNat 0 + j)) j = UL Bk j := fun j hj => by
    unfold put_
    rw [if_pos ⟨Nat.zero_le _, by show j < 0 + 32; omega⟩]
    show UL Bk (0 + (j - 0)) = _
    rw [Nat.zero_add, Nat.sub_zero]
  obtain ⟨Kk, hKk⟩ : ∃ Kk, Kk = aeK (L8 k 32) (L8 n 12) := ⟨_, rfl⟩
  have hKk2 : Kk = Bk.take 32 := by rw [hKk, hB]; rfl
  have hKl : Kk.length = 32 := by rw [hKk2, List.length_take, hBl]; rfl
  have hK2 : ∀ j, j < 32 → UL Kk j = (put_ (fun _ => 0) (Int.toNat 0) (min (Int.toNat 32 - Int.toNat 0) (32 - Int.toNat 0)) fun j => UL Bk (Int.toNat 0 + j)) j := fun j hj => by
    rw [hKj j hj, hKk2, UL_getD, getD_take _ _ _ _ hj]; rfl
  have eK : L8 (UL Kk) 32 = aeK (L8 k 32) (L8 n 12) := by rw [L8_UL' hKl.symm, hKk]
  obtain ⟨A, hAe⟩ : ∃ A, A = L8 a l := ⟨_, rfl⟩
  have hAl : A.length = l := by rw [hAe, L8_length]
  have hAj : ∀ j, j < l → UL (zfL A 0) j = put_ (fun _ => 0) 0 l a j := fun j hj => by
    rw [put_0 hj]
    unfold zfL
    rw [List.replicate_zero, List.append_nil, hAe, UL_L8 ha j hj]
  obtain ⟨C, hCe⟩ : ∃ C, C = L8 c m := ⟨_, rfl⟩
  have hCl : C.length = m := by rw [hCe, L8_length]
  simp only [← hAe, ← hCe]
  refine ⟨0, Nat, fun r => ⟨50, [(2, .sa (.sc (.im nl1 .u8 a l))), (3, .sa (.sc (.im nl2 .u8 c m))), (10, .sa (.sc (.ptr 3 0 0))), (11, .sa (.sc (ownA (Nat.beq (l + r) 0) (l + r) 4)))],
    [(3, .own 29 [.ints .u8 (UL Kk) 32] false), (4, ownB 5 .u8 (UL (zfL A r)) (l + r))], 5⟩, fun r => r ≤ fillN l, fun r => fillN l - r, ⟨0, by show 0 ≤ fillN l; omega, le_of [(4, 52)] ?_⟩, fun r hr => ?_⟩
  · simp only [Nat.add_zero]
    repeat ((conv => whnf); (with_reducible refine And.intro ?_ ?_); · first | with_reducible rfl | (intro _ _; with_reducible rfl) | assumption | omega | (intro _; refine ⟨?_, True.intro⟩; omega) | (simp [appG]; done) | (intro hgd; (try replace hgd := of_decide_eq_true hgd); (repeat ((conv => whnf); (with_reducible refine And.intro ?_ ?_); · first | assumption | omega | (refine decide_eq_true ?_; omega))); (conv => whnf); exact True.intro))
    conv => whnf
    exact True.intro
  have hr : r ≤ fillN l := hr
  have hfl := fillN_lt l
  have hb0 : Nat.beq (l + r) 0 = true → l + r = 0 := fun h => by rw [Nat.beq_eq] at h; exact h
  repeat ((conv => whnf); (with_reducible refine And.intro ?_ ?_); · omega)
  conv => whnf
  refine ⟨fun h1 => ?_, fun h1 => ?_⟩
  · have h1 : (!(((l + r : Nat) : Int).tmod 16 == 0)) = true := h1
    rw [mod_ne] at h1
    have h2 := (fill_at hr).1 (of_decide_eq_true h1)
    repeat ((conv => whnf); (with_reducible refine And.intro ?_ ?_); · first | omega | (intro _; refine ⟨True.intro, ?_⟩; omega) | (intro _; refine ⟨decide_eq_true ?_, ?_⟩ <;> omega))
    conv => whnf
    have hfin : ∀ j, j < l + r + 1 → UL (zfL A (r + 1)) j = put_ (UL (zfL A r)) (l + r) 1 (fun j => listI [0].reverse (0 + j)) j := fun j hj => by
      rw [zfL_succ]
      exact app1 (by rw [zfL_length, hAl]) rfl j hj
    have f1 : Nat.beq (l + r + 1) 0 = false := rfl
    refine ⟨r + 1, ⟨by show r + 1 ≤ fillN l; omega, by show fillN l - (r + 1) < fillN l - r; omega⟩, le_of [(4, 6)] ?_⟩
    simp only [← Nat.add_assoc, f1, show Nat.beq 1 0 = false from rfl, Bool.and_false]
    repeat ((conv => whnf); (with_reducible refine And.intro ?_ ?_); · first | with_reducible rfl | (intro _ _; with_reducible rfl) | (intro h; exact absurd h (by decide)) | (intro _; refine ⟨?_, True.intro⟩; omega) | (intro hgd; (try replace hgd := of_decide_eq_true hgd); (repeat ((conv => whnf); (with_reducible refine And.intro ?_ ?_); · first | assumption | omega | (simp [appG]; done))); (conv => whnf); exact True.intro))
    conv => whnf
    exact True.intro
  · have h1 : (!(((l + r : Nat) : Int).tmod 16 == 0)) = false := h1
    rw [mod_ne] at h1
    have h2 : r = fillN l := by
      have := of_decide_eq_false h1
      rw [fill_at hr] at this
      omega
    have hF : zfL A r = fill A := by unfold zfL fill; rw [h2, hAl]
    rw [hF]
    have hFl : (fill A).length = l + r := by rw [fill_length, hAl, h2]
    repeat ((conv => whnf); (with_reducible refine And.intro ?_ ?_); · first | omega | (intro _; refine ⟨decide_eq_true ?_, ?_⟩ <;> omega))
    conv => whnf
    obtain ⟨D, hD⟩ : ∃ D, D = fill A ++ C := ⟨_, rfl⟩
    have hDl : D.length = l + r + m := by rw [hD, List.length_append, hFl, hCl]
    have hDj : ∀ j, j < l + r + m → UL (zfL D 0) j = put_ (UL (fill A)) (l + r) m c j := fun j hj => by
      unfold zfL
      rw [List.replicate_zero, List.append_nil, hD, ← UL_app _ _ _ (by rw [hFl, hCl]; exact hj), hFl, hCl]
      unfold put_
      split
      · rename_i h
        rw [hCe, UL_L8 hc _ (by omega)]
      · rfl
    have hbq : Nat.beq (l + r + m) 0 = (Nat.beq (l + r) 0 && Nat.beq m 0) := (beq_and (l + r) m).symm
    obtain ⟨d, hd⟩ : ∃ d, d = l + r + m := ⟨_, rfl⟩
    have hd2 : d ≤ 30000 := by omega
    rw [← hd] at hDl hDj hbq
    simp only [← hd]
    refine ⟨0, Nat, fun s => ⟨50, [(2, .sa (.sc (.im nl1 .u8 a l))), (3, .sa (.sc (.im nl2 .u8 c m))), (10, .sa (.sc (.ptr 3 0 0))), (11, .sa (.sc (ownA (Nat.beq (d + s) 0) (d + s) 4)))],
      [(3, .own 29 [.ints .u8 (UL Kk) 32] false), (4, ownB 5 .u8 (UL (zfL D s)) (d + s))], 5⟩, fun s => s ≤ fillN d, fun s => fillN d - s, ⟨0, by show 0 ≤ fillN d; omega, le_of [(4, 5)] ?_⟩, fun s hs => ?_⟩
    · simp only [Nat.add_zero]
      repeat ((conv => whnf); (with_reducible refine And.intro ?_ ?_); · first | with_reducible rfl | (intro _ _; with_reducible rfl) | assumption | (intro _; refine ⟨?_, True.intro⟩; omega) | (simp [appG]; done) | (intro hgd; (try replace hgd := of_decide_eq_true hgd); (repeat ((conv => whnf); (with_reducible refine And.intro ?_ ?_); · first | assumption | omega | (refine decide_eq_true ?_; omega))); (conv => whnf); exact True.intro))
      conv => whnf
      exact True.intro
    have hs : s ≤ fillN d := hs
    have hfd := fillN_lt d
    have hb1 : Nat.beq (d + s) 0 = true → d + s = 0 := fun h => by rw [Nat.beq_eq] at h; exact h
    repeat ((conv => whnf); (with_reducible refine And.intro ?_ ?_); · omega)
    conv => whnf
    refine ⟨fun h3 => ?_, fun h3 => ?_⟩
    · have h3 : (!(((d + s : Nat) : Int).tmod 16 == 0)) = true := h3
      rw [mod_ne] at h3
      have h4 := (fill_at hs).1 (of_decide_eq_true h3)
      repeat ((conv => whnf); (with_reducible refine And.intro ?_ ?_); · first | omega | (intro _; refine ⟨True.intro, ?_⟩; omega) | (intro _; refine ⟨decide_eq_true ?_, ?_⟩ <;> omega))
      conv => whnf
      have hfin : ∀ j, j < d + s + 1 → UL (zfL D (s + 1)) j = put_ (UL (zfL D s)) (d + s) 1 (fun j => listI [0].reverse (0 + j)) j := fun j hj => by
        rw [zfL_succ]
        exact app1 (by rw [zfL_length, hDl]) rfl j hj
      have f1 : Nat.beq (d + s + 1) 0 = false := rfl
      refine ⟨s + 1, ⟨by show s + 1 ≤ fillN d; omega, by show fillN d - (s + 1) < fillN d - s; omega⟩, le_of [(4, 6)] ?_⟩
      simp only [← Nat.add_assoc, f1, show Nat.beq 1 0 = false from rfl, Bool.and_false]
      repeat ((conv => whnf); (with_reducible refine And.intro ?_ ?_); · first | with_reducible rfl | (intro _ _; with_reducible rfl) | (intro h; exact absurd h (by decide)) | (intro _; refine ⟨?_, True.intro⟩; omega) | (intro hgd; (try replace hgd := of_decide_eq_true hgd); (repeat ((conv => whnf); (with_reducible refine And.intro ?_ ?_); · first | assumption | omega | (simp [appG]; done))); (conv => whnf); exact True.intro))
      conv => whnf
      exact True.intro
    · have h3 : (!(((d + s : Nat) : Int).tmod 16 == 0)) = false := h3
      rw [mod_ne] at h3
      have h4 : s = fillN d := by
        have := of_decide_eq_false h3
        rw [fill_at hs] at this
        omega
      have hG : zfL D s = fill D := by unfold zfL fill; rw [h4, hDl]
      rw [hG]
      have hGl : (fill D).length = d + s := by rw [fill_length, hDl, h4]
      have hM : aeM A C = fill D ++ leB 8 l ++ leB 8 m := by unfold aeM; rw [← hD, hAl, hCl]
      repeat ((conv => whnf); (with_reducible refine And.intro ?_ ?_); · omega)
      conv => whnf
      have hPX : ∀ j, j < d + s + 8 + 8 → (fun j => put_ (put_ (UL (fill D)) (d + s) 8 fun j => UL (leB 8 (Int.toNat (l : Int))) (0 + j)) (d + s + 8) 8 (fun j => UL (leB 8 (Int.toNat (m : Int))) (0 + j)) (0 + j)) j = UL (aeM A C) j := fun j hj => by
        show put_ (put_ (UL (fill D)) (d + s) 8 fun j => UL (leB 8 (Int.toNat (l : Int))) (0 + j)) (d + s + 8) 8 (fun j => UL (leB 8 (Int.toNat (m : Int))) (0 + j)) (0 + j) = _
        rw [Nat.zero_add, Int.toNat_natCast, Int.toNat_natCast, hM, ← UL_app (fill D ++ leB 8 l) (leB 8 m) j (by rw [List.length_append, hGl, leB_length, leB_length]; exact hj), List.length_append, hGl, leB_length, leB_length]
        unfold put_
        split
        · simp only [Nat.zero_add]
        · have hj2 : j < d + s + 8 := by omega
          rw [← UL_app (fill D) (leB 8 l) j (by rw [hGl, leB_length]; exact hj2), hGl, leB_length]
          unfold put_
          split
          · simp only [Nat.zero_add]
          · rfl
      have hMl : (aeM A C).length = d + s + 8 + 8 := by rw [hM, List.length_append, List.length_append, hGl, leB_length, leB_length]
      have hP8 : R8 (fun j => put_ (put_ (UL (fill D)) (d + s) 8 fun j => UL (leB 8 (Int.toNat (l : Int))) (0 + j)) (d + s + 8) 8 (fun j => UL (leB 8 (Int.toNat (m : Int))) (0 + j)) (0 + j)) (d + s + 8 + 8) := fun j hj => by
        have h := hPX j hj
        rw [h]
        exact ⟨U_nonneg _, U_lt8 _⟩
      have eM : L8 (fun j => put_ (put_ (UL (fill D)) (d + s) 8 fun j => UL (leB 8 (Int.toNat (l : Int))) (0 + j)) (d + s + 8) 8 (fun j => UL (leB 8 (Int.toNat (m : Int))) (0 + j)) (0 + j)) (d + s + 8 + 8) = aeM A C := by
        rw [L8_congr hPX]
        exact L8_UL' hMl.symm
      refine ⟨[(0, ⟨0, some 38, []⟩), (1, ⟨0, some 39, []⟩), (2, ⟨0, some 40, []⟩), (3, ⟨4, some 41, []⟩), (4, ⟨12, some 42, [69]⟩), (5, ⟨30, some 43, [85, 4]⟩), (6, ⟨0, some 44, []⟩), (7, ⟨64, some 45, []⟩), (8, ⟨254, some 46, [133]⟩), (9, ⟨510, some 47, [149, 85]⟩), (10, ⟨1023, some 48, []⟩), (11, ⟨0, some 12, [181]⟩), (12, ⟨4095, none, [181]⟩)], 213, ?_⟩
      repeat (first | ((with_reducible refine (Cd.then_iff _ _).2 (And.intro ?_ ?_)); · repeat' ((conv => arg 1; whnf); first | exact Cd.holds_tt | (refine Cd.holds_p ?_; first | exact hP8 | exact R8_UL _ _ | (refine ⟨?_, ?_⟩ <;> omega) | omega | (intro _; refine ⟨decide_eq_true ?_, ?_⟩ <;> omega)) | refine Cd.holds_and ?_ ?_)) | ((conv => whnf); (with_reducible refine And.intro ?_ ?_); · first | (refine ⟨?_, ?_⟩ <;> omega) | (intro _; refine ⟨decide_eq_true ?_, ?_⟩ <;> omega) | (intro _; refine ⟨?_, ?_⟩ <;> first | omega | (simp [appG, Cd.holds]; done))))
      conv => whnf
      refine ⟨[(0, 181)], ?_⟩
      simp only [eK, eM]
      repeat ((conv => whnf); (with_reducible refine And.intro ?_ ?_); · first | with_reducible rfl | (intro h; exact absurd h (by decide)) | omega | (intro _; refine ⟨?_, True.intro⟩; omega) | exact fun _ _ => rfl)
      conv => whnf
      exact True.intro
end Go.Proofs.Ytogijkmflhjhkaa

/- Strings as lists of bytes. Plain lemmas, no condition. -/
namespace Go.Proofs.Ytogijkmflhjhkaa
open Go.Sx Go.RowKit
set_option linter.unusedSimpArgs false
set_option linter.unusedVariables false

/-- The string of bytes; a string's bytes. -/
def sb (l : List (BitVec 8)) : ByteArray := ⟨(l.map UInt8.ofBitVec).toArray⟩
def ls (s : ByteArray) : List (BitVec 8) := s.data.toList.map UInt8.toBitVec
theorem sb_ls (s : ByteArray) : sb (ls s) = s := by
  cases s with
  | mk d =>
    unfold sb ls
    simp only [List.map_map]
    congr 1
    rw [show (UInt8.ofBitVec ∘ UInt8.toBitVec) = id from rfl, List.map_id]
theorem ls_sb (l : List (BitVec 8)) : ls (sb l) = l := by
  unfold sb ls
  simp only [List.map_map]
  rw [show (UInt8.toBitVec ∘ UInt8.ofBitVec) = id from rfl, List.map_id]
theorem ls_length (s : ByteArray) : (ls s).length = s.size := by unfold ls; rw [List.length_map]; exact Array.length_toList
theorem sb_size (l : List (BitVec 8)) : (sb l).size = l.length := by rw [← ls_length, ls_sb]
theorem sb_inj {a b : List (BitVec 8)} (h : sb a = sb b) : a = b := by rw [← ls_sb a, h, ls_sb]
theorem byteArray_ext {a b : ByteArray} (h : a.data.toList = b.data.toList) : a = b := by
  cases a; cases b; simp only at h; congr 1; exact Array.toList_inj.1 h
theorem ls_append (a b : ByteArray) : ls (a ++ b) = ls a ++ ls b := by
  unfold ls
  rw [ByteArray.data_append]
  simp
theorem sb_append (a b : List (BitVec 8)) : sb a ++ sb b = sb (a ++ b) := by
  rw [← sb_ls (sb a ++ sb b), ls_append, ls_sb, ls_sb]
theorem ls_extract (s : ByteArray) (a b : Nat) : ls (s.extract a b) = ((ls s).drop a).take (b - a) := by
  unfold ls
  rw [ByteArray.data_extract]
  simp [List.map_drop, List.map_take, List.extract_eq_take_drop]
theorem sb_extract (l : List (BitVec 8)) (a b : Nat) : (sb l).extract a b = sb ((l.drop a).take (b - a)) := by
  rw [← sb_ls ((sb l).extract a b), ls_extract, ls_sb]
theorem bytesI_ls (s : ByteArray) (j : Nat) : bytesI s j = UL (ls s) j := by
  unfold bytesI UL ls U
  by_cases h : j < s.data.size
  · simp [Array.getD_eq_getD_getElem?, List.getD_eq_getElem?_getD, h]
  · simp [Array.getD_eq_getD_getElem?, List.getD_eq_getElem?_getD, h]
theorem bytesI_sb (l : List (BitVec 8)) (j : Nat) : bytesI (sb l) j = UL l j := by rw [bytesI_ls, ls_sb]
theorem strI_sb {g : Nat → Int} {n : Nat} (h : R8 g n) : strI g n = sb (L8 g n) := by
  apply byteArray_ext
  unfold strI sb L8
  simp only [List.map_map]
  apply List.map_congr_left
  intro j hj
  have hj : j < n := by simpa using hj
  apply UInt8.toBitVec_inj.1
  show BitVec.ofNat 8 (g j).toNat = BitVec.ofInt 8 (g j)
  have := h j hj
  apply BitVec.eq_of_toNat_eq
  rw [BitVec.toNat_ofNat, BitVec.toNat_ofInt]
  have e1 : (2 : Nat) ^ 8 = 256 := rfl
  rw [e1]
  omega
theorem toList_loop (s : ByteArray) : ∀ (k i : Nat) (r : List UInt8), s.size - i = k → ByteArray.toList.loop s i r = r.reverse ++ s.data.toList.drop i := by
  intro k
  induction k with
  | zero =>
    intro i r h
    unfold ByteArray.toList.loop
    rw [if_neg (by omega), List.drop_eq_nil_of_le (by have e0 : s.size = s.data.size := rfl; rw [Array.length_toList]; omega)]
    simp
  | succ k ih =>
    intro i r h
    have hi : i < s.data.size := by have : s.size = s.data.size := rfl; omega
    unfold ByteArray.toList.loop
    rw [if_pos (by have : s.size = s.data.size := rfl; omega), ih (i + 1) _ (by omega)]
    have e : s.data.toList.drop i = s.data.toList[i]'(by simpa using hi) :: s.data.toList.drop (i + 1) := by
      rw [List.getElem_cons_drop]
    rw [e, List.reverse_cons, List.append_assoc, List.singleton_append]
    congr 2
    show s.data[i]! = _
    rw [getElem!_pos s.data i hi, Array.getElem_toList]
theorem toList_data (s : ByteArray) : s.toList = s.data.toList := by
  unfold ByteArray.toList
  rw [toList_loop s s.size 0 [] (by omega)]
  simp
theorem eq_sb (a b : List (BitVec 8)) : ((sb a).toList == (sb b).toList) = decide (a = b) := by
  rw [toList_data, toList_data]
  by_cases h : a = b
  · subst h; simp
  · rw [decide_eq_false h, beq_eq_false_iff_ne]
    intro e
    exact h (sb_inj (byteArray_ext e))
end Go.Proofs.Ytogijkmflhjhkaa

/- Functions through the evaluator: the document's sealing and opening; opened as the document says. No condition. -/
namespace Go.Proofs.Ytogijkmflhjhkaa
open Go.Sx Go.RowKit
set_option maxRecDepth 100000
set_option maxHeartbeats 2000000
set_option linter.unusedVariables false
set_option linter.unusedSimpArgs false

theorem cok49 : COk Try.prog (tab [(58, rxorS), (87, rmarkS)]) := cok_cons rxorS_ok (cok_cons rmarkS_ok cok_nil)
/-- indentureref4.Seal. -/
noncomputable def rsealS : Summary := mkS false [.v, .v, .r .u8, .r .u8] fun
  | [.v (.agg [.ints .u8 k 32]), .v (.agg [.ints .u8 n 12]), .r nl1 a l, .r nl2 c m] => some ⟨.and (.p (R8 k 32)) (.and (.p (R8 n 12)) (.and (.p (R8 a l)) (.and (.p (R8 c m)) (.p (l ≤ 10000 ∧ m ≤ 10000))))),
      some (.sa (.sc (ownA false (m + 16) 0))), [(0, ownB 5 .u8 (UL (aeSeal (L8 k 32) (L8 n 12) (L8 a l) (L8 c m))) (m + 16))], 1⟩
  | _ => none
theorem rsealS_ok : SumOk Try.prog 63 rsealS := by
  unfold rsealS
  apply sum_ok
  intro vs A H n o r hb h
  split at h
  rotate_left
  · cases h
  rename_i k n nl1 a l nl2 c m
  injection h with h
  subst h
  cases hb
  refine fsound_of_run tt_ok cok49 mixed_ok Try.call63 Try.func63 rfl (rs := _) Try.results63 (size := 21) Try.ntmps63 (Nat.le_of_ble_eq_true rfl) rfl fun hp hfa hfh => ?_
  obtain ⟨hk, hn, ha, hc, hl, hm⟩ := hp
  have hk : R8 k 32 := hk
  have hn : R8 n 12 := hn
  have ha : R8 a l := ha
  have hc : R8 c m := hc
  have hl : l ≤ 10000 := hl
  have hm : m ≤ 10000 := hm
  have u1 : u32R 1 := ⟨by decide, by decide⟩
  have hb0 : Nat.beq m 0 = true → m = 0 := fun h => by rw [Nat.beq_eq] at h; exact h
  repeat (first | ((with_reducible refine (Cd.then_iff _ _).2 (And.intro ?_ ?_)); · repeat' ((conv => arg 1; whnf); first | exact Cd.holds_tt | (refine Cd.holds_p ?_; first | exact u1 | exact fun j hj => ⟨U_nonneg _, U_lt8 _⟩ | with_reducible assumption | omega | (intro _; refine ⟨True.intro, ?_⟩; omega)) | refine Cd.holds_and ?_ ?_)) | ((conv => whnf); (with_reducible refine And.intro ?_ ?_); · first | with_reducible assumption | (intro _; refine ⟨decide_eq_true ?_, ?_⟩ <;> omega)))
  conv => whnf
  obtain ⟨X, hX⟩ : ∃ X, X = chXor (L8 k 32) (BitVec.ofInt 32 1) (L8 n 12) (L8 c m) := ⟨_, rfl⟩
  have hXl : X.length = m := by rw [hX, chXor_length, L8_length]
  have eX : L8 (fun j => UL X (0 + j)) m = X := by
    rw [show (fun j => UL X (0 + j)) = UL X from funext fun j => by rw [Nat.zero_add]]
    exact L8_UL' hXl.symm
  have hS : aeSeal (L8 k 32) (L8 n 12) (L8 a l) (L8 c m) = X ++ aeMark (L8 k 32) (L8 n 12) (L8 a l) X := by rw [hX]; rfl
  obtain ⟨S, hSe⟩ : ∃ S, S = aeMark (L8 k 32) (L8 n 12) (L8 a l) X := ⟨_, rfl⟩
  have hSl : S.length = 16 := by rw [hSe, aeMark_length]
  simp only [← hX, eX, hS, ← hSe]
  have hfin : ∀ j, j < m + 16 → UL (X ++ S) j = put_ (UL X) m 16 (fun j => UL S (0 + j)) j := fun j hj => by
    rw [← UL_app X S j (by omega), hXl, hSl]
    congr 1
    funext j
    rw [Nat.zero_add]
  refine ⟨[(0, 4)], ?_⟩
  repeat ((conv => whnf); (with_reducible refine And.intro ?_ ?_); · first | with_reducible rfl | exact (Bool.and_false _).symm | (intro h; exact absurd h (by decide)) | (intro _; refine ⟨?_, True.intro⟩; omega) | (intro hgd; (try replace hgd := of_decide_eq_true hgd); (repeat ((conv => whnf); (with_reducible refine And.intro ?_ ?_); · first | assumption | omega | (simp [appG]; done))); (conv => whnf); exact True.intro))
  conv => whnf
  exact True.intro

/-- indentureref4.Open. -/
noncomputable def ropenS : Summary := mkS false [.v, .v, .r .u8, .r .u8] fun
  | [.v (.agg [.ints .u8 k 32]), .v (.agg [.ints .u8 n 12]), .r nl1 a l, .r nl2 c m] => some ⟨.and (.p (R8 k 32)) (.and (.p (R8 n 12)) (.and (.p (R8 a l)) (.and (.p (R8 c m)) (.p (l ≤ 10000 ∧ m ≤ 10000))))),
      some (.tup [.sc (.sl (!(aeIs (L8 k 32) (L8 n 12) (L8 a l) (L8 c m)) || Nat.beq (aeOut (L8 k 32) (L8 n 12) (L8 a l) (L8 c m)).length 0) false false 0 0 0 (aeOut (L8 k 32) (L8 n 12) (L8 a l) (L8 c m)).length (aeOut (L8 k 32) (L8 n 12) (L8 a l) (L8 c m)).length), .sc (.bool (aeIs (L8 k 32) (L8 n 12) (L8 a l) (L8 c m)))]),
      [(0, ownB 5 .u8 (UL (aeOut (L8 k 32) (L8 n 12) (L8 a l) (L8 c m))) (aeOut (L8 k 32) (L8 n 12) (L8 a l) (L8 c m)).length)], 1⟩
  | _ => none
theorem ropenS_ok : SumOk Try.prog 65 ropenS := by
  unfold ropenS
  apply sum_ok
  intro vs A H n o r hb h
  split at h
  rotate_left
  · cases h
  rename_i k n nl1 a l nl2 c m
  injection h with h
  subst h
  cases hb
  refine fsound_of_run tt_ok cok49 mixed_ok Try.call65 Try.func65 rfl (rs := _) Try.results65 (size := 37) Try.ntmps65 (Nat.le_of_ble_eq_true rfl) rfl fun hp hfa hfh => ?_
  obtain ⟨hk, hn, ha, hc, hl, hm⟩ := hp
  have hk : R8 k 32 := hk
  have hn : R8 n 12 := hn
  have ha : R8 a l := ha
  have hc : R8 c m := hc
  have hl : l ≤ 10000 := hl
  have hm : m ≤ 10000 := hm
  have u1 : u32R 1 := ⟨by decide, by decide⟩
  have hCl : (L8 c m).length = m := L8_length _ _
  have his : aeIs (L8 k 32) (L8 n 12) (L8 a l) (L8 c m) = decide (16 ≤ m ∧ aeMark (L8 k 32) (L8 n 12) (L8 a l) ((L8 c m).take (m - 16)) = (L8 c m).drop (m - 16)) := by rw [aeIs_eq, hCl]
  have ho := aeOut_eq (L8 k 32) (L8 n 12) (L8 a l) (L8 c m)
  rw [hCl] at ho
  obtain ⟨B, hB⟩ : ∃ B, B = aeIs (L8 k 32) (L8 n 12) (L8 a l) (L8 c m) := ⟨_, rfl⟩
  obtain ⟨O, hO⟩ : ∃ O, O = aeOut (L8 k 32) (L8 n 12) (L8 a l) (L8 c m) := ⟨_, rfl⟩
  rw [← hB] at his
  rw [← hB, ← hO] at ho
  simp only [← hB, ← hO]
  have w0 : IntKind.i64.wrap ((m : Int) - 16) = (m : Int) - 16 := by rw [w_i64]; omega
  by_cases h16 : 16 ≤ m
  · have hm16 : IntKind.i64.wrap ((m : Int) - 16) = ((m - 16 : Nat) : Int) := by rw [w0]; omega
    have hdF : decide (((m - 16 : Nat) : Int) < 0) = false := decide_eq_false (by omega)
    have hT8 : R8 (fun j => c (Int.toNat 0 + j)) (Int.toNat ((m - 16 : Nat) : Int) - Int.toNat 0) := fun j hj => hc (0 + j) (by have : j < m - 16 - 0 := hj; omega)
    have eT : L8 (fun j => c (Int.toNat 0 + j)) (Int.toNat ((m - 16 : Nat) : Int) - Int.toNat 0) = (L8 c m).take (m - 16) := by
      rw [← L8_take c m (m - 16) (by omega)]
      show L8 (fun j => c (0 + j)) (m - 16) = _
      exact L8_congr fun j _ => by rw [Nat.zero_add]
    have hD8 : R8 (fun j => c (Int.toNat ((m - 16 : Nat) : Int) + j)) (m - Int.toNat ((m - 16 : Nat) : Int)) := fun j hj => hc (m - 16 + j) (by have : j < m - (m - 16) := hj; omega)
    have eD : L8 (fun j => c (Int.toNat ((m - 16 : Nat) : Int) + j)) (m - Int.toNat ((m - 16 : Nat) : Int)) = (L8 c m).drop (m - 16) := L8_drop c m (m - 16)
    obtain ⟨S, hS⟩ : ∃ S, S = aeMark (L8 k 32) (L8 n 12) (L8 a l) ((L8 c m).take (m - 16)) := ⟨_, rfl⟩
    have hSl : S.length = 16 := by rw [hS, aeMark_length]
    rw [← hS] at his
    repeat ((conv => whnf); (with_reducible refine And.intro ?_ ?_); · omega)
    conv => whnf
    simp only [hm16]
    refine ⟨[(0, ⟨0, some 14, []⟩), (1, ⟨1, some 15, []⟩), (2, ⟨3, some 16, []⟩), (3, ⟨7, some 17, []⟩), (4, ⟨7, some 18, []⟩), (5, ⟨7, some 19, []⟩), (6, ⟨7, some 20, []⟩), (7, ⟨7, some 21, []⟩), (8, ⟨199, some 22, []⟩), (9, ⟨511, some 23, [146]⟩), (10, ⟨1023, some 24, []⟩), (11, ⟨7, some 25, []⟩), (12, ⟨7, some 26, []⟩), (13, ⟨6151, some 27, []⟩), (14, ⟨14343, some 28, []⟩), (15, ⟨32767, some 29, []⟩), (16, ⟨65535, some 30, []⟩)], 274, ?_⟩
    repeat (((conv => whnf); (with_reducible refine And.intro ?_ ?_); · first | exact fun hg => ⟨hg, fun _ => ⟨hg, by decide⟩, True.intro⟩ | (intro hg0; simp only [hg0, Bool.not_false, Bool.not_true]; done) | (intro _; refine ⟨?_, True.intro⟩; omega) | (intro hg0; (repeat ((conv => whnf); (with_reducible refine And.intro ?_ ?_); · first | with_reducible assumption | omega)); (conv => whnf); exact True.intro)))
    conv => whnf
    have s1 : strI (fun j => UL S (0 + j)) 16 = sb S := by rw [strI_sb (R8_z _ _), L8_z hSl.symm]
    have s2 : strI (fun j => c (Int.toNat ((m - 16 : Nat) : Int) + j)) (m - Int.toNat ((m - 16 : Nat) : Int)) = sb ((L8 c m).drop (m - 16)) := by rw [strI_sb hD8, eD]
    simp only [hdF, cond_false, eT, ← hS, s1, s2, eq_sb]
    refine ⟨fun h2 => ?_, fun h2 => ?_⟩
    · have hBf : B = false := by
        rw [his]
        refine decide_eq_false fun h => ?_
        rw [Bool.not_eq_true', decide_eq_false_iff_not] at h2
        exact h2 h.2
      rw [hBf] at ho ⊢
      rw [if_neg (by decide)] at ho
      subst ho
      repeat ((conv => whnf); (with_reducible refine And.intro ?_ ?_); · omega)
      conv => whnf
      refine ⟨[], ?_⟩
      repeat ((conv => whnf); (with_reducible refine And.intro ?_ ?_); · first | with_reducible rfl | (intro h; exact absurd h (by decide)) | (simp [appG]; done))
      conv => whnf
      exact True.intro
    · have hBt : B = true := by
        rw [his]
        refine decide_eq_true ⟨h16, ?_⟩
        rw [Bool.not_eq_false', decide_eq_true_iff] at h2
        exact h2
      rw [hBt] at ho ⊢
      rw [if_pos rfl] at ho
      have hOl : O.length = m - 16 := by rw [ho, chXor_length, List.length_take, hCl, Nat.min_eq_left (by omega)]
      repeat ((conv => whnf); (with_reducible refine And.intro ?_ ?_); · omega)
      conv => whnf
      refine ⟨[(0, ⟨0, some 31, []⟩), (1, ⟨0, some 32, []⟩), (2, ⟨0, some 33, []⟩), (3, ⟨0, some 34, []⟩), (4, ⟨12, some 35, []⟩), (5, ⟨31, some 36, [354]⟩), (6, ⟨63, some 8, []⟩), (7, ⟨127, some 9, []⟩)], 402, ?_⟩
      repeat (first | ((with_reducible refine (Cd.then_iff _ _).2 (And.intro ?_ ?_)); · repeat' ((conv => arg 1; whnf); first | (refine Cd.holds_p ?_; first | exact hT8 | exact u1 | with_reducible assumption | omega) | refine Cd.holds_and ?_ ?_)) | ((conv => whnf); (with_reducible refine And.intro ?_ ?_); · first | with_reducible assumption | omega))
      conv => whnf
      simp only [eT]
      have ho2 : chXor (L8 k 32) (BitVec.ofInt 32 1) (L8 n 12) (List.take (m - 16) (L8 c m)) = O := by rw [ho]; rfl
      have hz : Int.toNat ((m - 16 : Nat) : Int) - Int.toNat 0 = m - 16 := rfl
      have hb0 : Nat.beq (m - 16) 0 = true → m - 16 = 0 := fun h => by rw [Nat.beq_eq] at h; exact h
      refine ⟨[(0, 354)], ?_⟩
      simp only [ho2, hOl, hz, Bool.not_true, Bool.false_or]
      repeat ((conv => whnf); (with_reducible refine And.intro ?_ ?_); · first | with_reducible rfl | assumption | (intro _; refine ⟨?_, True.intro⟩; omega) | (intro hgd; (try replace hgd := of_decide_eq_true hgd); (repeat ((conv => whnf); (with_reducible refine And.intro ?_ ?_); · first | (intro _ _; with_reducible rfl) | omega | (refine decide_eq_true ?_; omega))); (conv => whnf); exact True.intro))
      conv => whnf
      exact True.intro
  · have hBf : B = false := by rw [his]; exact decide_eq_false fun h => h16 h.1
    rw [hBf] at ho ⊢
    rw [if_neg (by decide)] at ho
    subst ho
    have hdT : decide (IntKind.i64.wrap ((m : Int) - 16) < 0) = true := decide_eq_true (by rw [w0]; omega)
    have hdN : ¬ (!decide (IntKind.i64.wrap ((m : Int) - 16) < 0)) = true := by rw [hdT]; decide
    repeat ((conv => whnf); (with_reducible refine And.intro ?_ ?_); · omega)
    conv => whnf
    refine ⟨[(0, ⟨0, some 14, []⟩), (1, ⟨1, some 15, []⟩), (2, ⟨3, some 16, []⟩), (3, ⟨7, some 17, []⟩), (4, ⟨7, some 18, []⟩), (5, ⟨7, some 19, []⟩), (6, ⟨7, some 20, []⟩), (7, ⟨7, some 21, []⟩), (8, ⟨199, some 22, []⟩), (9, ⟨511, some 23, [146]⟩), (10, ⟨1023, some 24, []⟩), (11, ⟨7, some 25, []⟩), (12, ⟨7, some 26, []⟩), (13, ⟨6151, some 27, []⟩), (14, ⟨14343, some 28, []⟩), (15, ⟨32767, some 29, []⟩), (16, ⟨65535, some 30, []⟩)], 274, ?_⟩
    repeat (((conv => whnf); (with_reducible refine And.intro ?_ ?_); · first | exact fun hh => absurd hh hdN | (intro hg0; simp only [hg0, Bool.not_false, Bool.not_true]; done)))
    conv => whnf
    simp only [hdT, cond_true]
    refine ⟨fun h2 => ?_, fun h2 => (nomatch h2)⟩
    repeat ((conv => whnf); (with_reducible refine And.intro ?_ ?_); · omega)
    conv => whnf
    refine ⟨[], ?_⟩
    repeat ((conv => whnf); (with_reducible refine And.intro ?_ ?_); · first | with_reducible rfl | assumption | (intro h; exact absurd h (by decide)) | (simp [appG]; done))
    conv => whnf
    exact True.intro
end Go.Proofs.Ytogijkmflhjhkaa

/- Functions through the evaluator: what each law of mac begins with. No condition. -/
namespace Go.Proofs.Ytogijkmflhjhkaa
open Go.Sx Go.RowKit
set_option linter.unusedSimpArgs false
set_option maxRecDepth 100000
set_option linter.unusedVariables false

theorem cok17 : COk Try.prog (tab [(37, sumVS), (38, hmacS), (40, expandS), (41, sameS)]) := cok_cons sumVS_ok (cok_cons hmacS_ok (cok_cons expandS_ok (cok_cons sameS_ok cok_nil)))
def yesS : Summary := mkS false [] fun
  | [] => some ⟨.tt, some (.sa (.sc (.bool true))), [], 0⟩
  | _ => none
theorem yesS30_ok : SumOk Try.prog 30 yesS := by
  unfold yesS
  apply sum_ok
  intro vs A H n o r hb h
  split at h
  rotate_left
  · cases h
  injection h with h
  subst h
  cases hb
  refine fsound_of_run tt_ok cok17 mixed_ok Try.call30 Try.func30 rfl (rs := _) Try.results30 (size := 60) Try.ntmps30 (Nat.le_of_ble_eq_true rfl) rfl fun hp hfa hfh => ?_
  iterate 15 ((conv => whnf); (with_reducible refine And.intro ?_ ?_); · first | decide +kernel | (intro _; exact True.intro) | (intro _; refine ⟨True.intro, ?_⟩; omega) | (unfold R8; decide +kernel))
  generalize hA : sha (cat (fun _ => ⟨false, fun j => listI [99, 98, 97].reverse (0 + 0 + j), 3⟩) 1) = A
  generalize hB : hmac _ _ = B
  have a0 : UL A (Int.toNat 0) = 186 := by rw [← hA]; decide +kernel
  have a1 : UL A (Int.toNat 1) = 120 := by rw [← hA]; decide +kernel
  have a2 : UL A (Int.toNat 31) = 173 := by rw [← hA]; decide +kernel
  have b0 : UL B (Int.toNat 0) = 91 := by rw [← hB]; decide +kernel
  have b1 : UL B (Int.toNat 1) = 220 := by rw [← hB]; decide +kernel
  have b2 : UL B (Int.toNat 31) = 67 := by rw [← hB]; decide +kernel
  clear hA hB
  repeat ((conv => whnf); (with_reducible refine And.intro ?_ ?_); · first | omega | (intro _; refine ⟨?_, True.intro⟩; omega) | (intro _; omega) | (intro hg0; (repeat ((conv => whnf); (with_reducible refine And.intro ?_ ?_); · first | assumption | omega | (intro _; refine ⟨?_, ?_⟩ <;> first | assumption | omega) | exact fun j _ => ⟨U_nonneg _, U_lt8 _⟩ | (unfold R8; decide +kernel))); (conv => whnf); exact True.intro))
  conv => whnf
  refine ⟨[], ?_⟩
  repeat ((conv => whnf); (with_reducible refine And.intro ?_ ?_); · (simp only [a0, a1, a2, b0, b1, b2]; decide +kernel))
  conv => whnf
  exact True.intro
theorem cok17b : COk Try.prog (tab [(30, yesS)]) := cok_cons yesS30_ok cok_nil
theorem yesS70_ok : SumOk Try.prog 70 yesS := by
  unfold yesS
  apply sum_ok
  intro vs A H n o r hb h
  split at h
  rotate_left
  · cases h
  injection h with h
  subst h
  cases hb
  refine fsound_of_run tt_ok cok17b mixed_ok Try.call70 Try.func70 rfl (rs := _) Try.results70 (size := 2) Try.ntmps70 (Nat.le_of_ble_eq_true rfl) rfl fun hp hfa hfh => ?_
  repeat ((conv => whnf); (with_reducible refine And.intro ?_ ?_); · omega)
  conv => whnf
  refine ⟨[], ?_⟩
  repeat ((conv => whnf); (with_reducible refine And.intro ?_ ?_); · with_reducible rfl)
  conv => whnf
  exact True.intro
end Go.Proofs.Ytogijkmflhjhkaa

/- Functions through the evaluator: keys and nonces of bytes; what each law of chacha, poly, aead begins with. No condition. -/
namespace Go.Proofs.Ytogijkmflhjhkaa
open Go.Sx Go.RowKit
set_option maxRecDepth 100000
set_option maxHeartbeats 2000000
set_option linter.unusedVariables false
set_option linter.unusedSimpArgs false

/-- So many bytes of a list, noughts behind. -/
def kpad (m : Nat) (l : List B8) : List B8 := (l ++ List.replicate m 0).take m
theorem kpad_length (m : Nat) (l : List B8) : (kpad m l).length = m := by simp [kpad]
theorem kpad_at {m n : Nat} {g : Nat → Int} (hg : R8 g n) {f : Nat → Int} (hf : ∀ j, j < m → f j = if j < n then g j else 0) (j : Nat) (hj : j < m) : UL (kpad m (L8 g n)) j = f j := by
  rw [hf j hj, UL_getD, kpad, getD_take _ _ _ _ hj, List.getD_eq_getElem?_getD]
  by_cases h : j < n
  · rw [if_pos h, List.getElem?_append_left (by rw [L8_length]; exact h), ← List.getD_eq_getElem?_getD, ← UL_getD, UL_L8 hg j h]
  · rw [if_neg h, List.getElem?_append_right (by rw [L8_length]; omega), L8_length]
    simp [show j - n < m by omega, U]
theorem put_if {g : Nat → Int} {n m : Nat} (j : Nat) (hj : j < m) : put_ (fun _ => 0) (Int.toNat 0) (min n (m - Int.toNat 0)) g j = if j < n then g j else 0 := by
  unfold put_
  have e : Int.toNat 0 = 0 := rfl
  rw [e, Nat.sub_zero, Nat.sub_zero, Nat.zero_add]
  by_cases h : j < n
  · rw [if_pos h, if_pos (by omega)]
  · rw [if_neg h, if_neg (by omega)]
/-- indenturelaw4.Key. -/
def keyS : Summary := mkS false [.r .u8] fun
  | [.r nl g n] => some ⟨.p (R8 g n), some (.sa (.agg [.ints .u8 (UL (kpad 32 (L8 g n))) 32])), [], 0⟩
  | _ => none
theorem keyS_ok : SumOk Try.prog 53 keyS := by
  unfold keyS
  apply sum_ok
  intro vs A H n o r hb h
  split at h
  rotate_left
  · cases h
  rename_i nl g n
  injection h with h
  subst h
  cases hb
  refine fsound_of_run tt_ok cok_nil mixed_ok Try.call53 Try.func53 rfl (rs := _) Try.results53 (size := 8) Try.ntmps53 (Nat.le_of_ble_eq_true rfl) rfl fun hp hfa hfh => ?_
  have hg : R8 g n := hp
  repeat ((conv => whnf); (with_reducible refine And.intro ?_ ?_); · omega)
  conv => whnf
  refine ⟨[], ?_⟩
  repeat ((conv => whnf); (with_reducible refine And.intro ?_ ?_); · first | with_reducible rfl | exact kpad_at hg fun j hj => put_if j hj)
  conv => whnf
  exact True.intro
/-- indenturelaw4.Nonce. -/
def nonceS : Summary := mkS false [.r .u8] fun
  | [.r nl g n] => some ⟨.p (R8 g n), some (.sa (.agg [.ints .u8 (UL (kpad 12 (L8 g n))) 12])), [], 0⟩
  | _ => none
theorem nonceS_ok : SumOk Try.prog 54 nonceS := by
  unfold nonceS
  apply sum_ok
  intro vs A H n o r hb h
  split at h
  rotate_left
  · cases h
  rename_i nl g n
  injection h with h
  subst h
  cases hb
  refine fsound_of_run tt_ok cok_nil mixed_ok Try.call54 Try.func54 rfl (rs := _) Try.results54 (size := 8) Try.ntmps54 (Nat.le_of_ble_eq_true rfl) rfl fun hp hfa hfh => ?_
  have hg : R8 g n := hp
  repeat ((conv => whnf); (with_reducible refine And.intro ?_ ?_); · omega)
  conv => whnf
  refine ⟨[], ?_⟩
  repeat ((conv => whnf); (with_reducible refine And.intro ?_ ?_); · first | with_reducible rfl | exact kpad_at hg fun j hj => put_if j hj)
  conv => whnf
  exact True.intro

theorem R8_list {L : List Int} (h : L.all (fun x => decide (0 ≤ x ∧ x < 256)) = true) (a n : Nat) : R8 (fun j => listI L (a + j)) n := fun j _ => by
  show 0 ≤ L.getD (a + j) 0 ∧ L.getD (a + j) 0 < 256
  rw [List.getD_eq_getElem?_getD]
  cases e : L[a + j]? with
  | none => exact ⟨by decide, by decide⟩
  | some x =>
    have := List.all_eq_true.1 h x (List.mem_of_getElem? e)
    exact of_decide_eq_true this
theorem cokC : COk Try.prog (tab [(51, quarterS), (53, keyS), (54, nonceS), (59, tagS), (61, sealS), (62, openS), (70, yesS)]) :=
  cok_cons quarterS_ok (cok_cons keyS_ok (cok_cons nonceS_ok (cok_cons tagS_ok (cok_cons sealS_ok (cok_cons openS_ok (cok_cons yesS70_ok cok_nil))))))
theorem yesS50_ok : SumOk Try.prog 50 yesS := by
  unfold yesS
  apply sum_ok
  intro vs A H n o r hb h
  split at h
  rotate_left
  · cases h
  injection h with h
  subst h
  cases hb
  refine fsound_of_run tt_ok cokC mixed_ok Try.call50 Try.func50 rfl (rs := _) Try.results50 (size := 72) Try.ntmps50 (Nat.le_of_ble_eq_true rfl) rfl fun hp hfa hfh => ?_
  repeat ((conv => whnf); (with_reducible refine And.intro ?_ ?_); · (refine ⟨?_, ?_⟩ <;> decide))
  conv => whnf
  generalize hG : listI [27, 245, 73, 65, 175, 246, 191, 74, 253, 178, 13, 251, 138, 128, 3, 1, 168, 6, 213, 66, 254, 82, 68, 127, 51, 109, 85, 87, 120, 190, 214, 133].reverse = G
  have hG8 : R8 (fun j => G (0 + j)) 32 := by rw [← hG]; exact R8_list (by decide) 0 32
  repeat ((conv => whnf); (with_reducible refine And.intro ?_ ?_); · first | exact hG8 | (intro _; exact ⟨True.intro, by decide⟩) | exact fun j hj => ⟨U_nonneg _, U_lt8 _⟩)
  conv => whnf
  generalize hM : listI [112, 117, 111, 114, 71, 32, 104, 99, 114, 97, 101, 115, 101, 82, 32, 109, 117, 114, 111, 70, 32, 99, 105, 104, 112, 97, 114, 103, 111, 116, 112, 121, 114, 67].reverse = M
  have hM8 : R8 (fun j => M (0 + 0 + j)) 34 := by rw [← hM]; exact R8_list (by decide) (0 + 0) 34
  generalize hT : polyTag (L8 (UL (kpad 32 (L8 (fun j => G (0 + j)) 32))) 32) (L8 (fun j => M (0 + 0 + j)) 34) = T
  generalize hqa : U (q2a (BitVec.ofInt 32 286331153) (BitVec.ofInt 32 16909060) (BitVec.ofInt 32 2609737539) (BitVec.ofInt 32 19088743)) = va
  generalize hqd : U (q2d (BitVec.ofInt 32 286331153) (BitVec.ofInt 32 16909060) (BitVec.ofInt 32 2609737539) (BitVec.ofInt 32 19088743)) = vd
  refine ⟨hM8, ?_⟩
  repeat ((conv => whnf); (with_reducible refine And.intro ?_ ?_); · first | exact hG8 | (intro _; exact ⟨True.intro, by decide⟩) | decide)
  conv => whnf
  refine ⟨fun j hj => absurd hj (Nat.not_lt_zero j), ?_⟩
  have hk8 : R8 (UL (kpad 32 (L8 (fun j => G (0 + j)) 32))) 32 := R8_UL _ _
  have hn8 : R8 (UL (kpad 12 (L8 (fun _ => 0) 0))) 12 := R8_UL _ _
  generalize hk : UL (kpad 32 (L8 (fun j => G (0 + j)) 32)) = kf at hk8 ⊢
  generalize hn : UL (kpad 12 (L8 (fun _ => 0) 0)) = nf at hn8 ⊢
  repeat (first | ((with_reducible refine (Cd.then_iff _ _).2 (And.intro ?_ ?_)); · repeat' ((conv => arg 1; whnf); first | exact Cd.holds_tt | (refine Cd.holds_p ?_; first | exact hk8 | exact hn8 | (refine R8_list ?_ _ _; decide) | (intro _; exact ⟨True.intro, by decide⟩) | exact fun j hj => ⟨U_nonneg _, U_lt8 _⟩ | with_reducible assumption | omega | (intro _; refine ⟨decide_eq_true ?_, ?_⟩ <;> omega)) | refine Cd.holds_and ?_ ?_)) | ((conv => whnf); (with_reducible refine And.intro ?_ ?_); · first | (intro _; exact ⟨True.intro, by decide⟩) | exact fun j hj => absurd hj (Nat.not_lt_zero j) | (intro hg0; simp only [hg0, Bool.not_false, Bool.not_true]; done) | (intro _; refine ⟨?_, True.intro⟩; omega) | (intro hg0; (repeat ((conv => whnf); (with_reducible refine And.intro ?_ ?_); · first | with_reducible assumption | omega | (intro _; refine ⟨?_, ?_⟩ <;> first | omega | (refine decide_eq_true ?_; omega)))); (conv => whnf); exact True.intro)))
  conv => whnf
  obtain ⟨A, hA⟩ : ∃ A, A = L8 (fun j => listI [97].reverse (0 + 0 + j)) 1 := ⟨_, rfl⟩
  obtain ⟨P, hP⟩ : ∃ P, P = L8 (fun j => listI [99, 98].reverse (0 + 0 + j)) 2 := ⟨_, rfl⟩
  have hPl : P.length = 2 := by rw [hP, L8_length]
  have eS : L8 (fun j => UL (aeSeal (L8 kf 32) (L8 nf 12) A P) (0 + j)) (2 + 16) = aeSeal (L8 kf 32) (L8 nf 12) A P := by
    rw [show (fun j => UL (aeSeal (L8 kf 32) (L8 nf 12) A P) (0 + j)) = UL (aeSeal (L8 kf 32) (L8 nf 12) A P) from funext fun j => by rw [Nat.zero_add]]
    exact L8_UL' (by rw [aeSeal_length, hPl])
  have eP : (strI (fun j => UL P (0 + j)) P.length).toList == (ByteArray.mk #[98, 99]).toList := by
    rw [strI_sb (R8_z _ _), L8_z rfl, show (ByteArray.mk #[98, 99]) = sb [98, 99] from rfl, eq_sb]
    exact decide_eq_true (by rw [hP]; decide)
  have h1 : (va == 3928658676) = true := by rw [← hqa]; decide
  have h2 : (vd == 1484899515) = true := by rw [← hqd]; decide
  have hTT : T.getD 0 0 = 168 ∧ T.getD 15 0 = 169 := by rw [← hT, ← hG, ← hM, polyTag_eq]; decide +kernel
  have h3 : (UL T (Int.toNat 0) == 168) = true := by show (U (T.getD 0 0) == 168) = true; rw [hTT.1]; decide
  have h4 : (UL T (Int.toNat 15) == 169) = true := by show (U (T.getD 15 0) == 169) = true; rw [hTT.2]; decide
  have h5 : (((2 + 16 : Nat) : Int) == 18) = true := by decide
  refine ⟨[], ?_⟩
  simp only [hk, hn, ← hA, ← hP, eS, aeIs_seal, aeOut_seal, h1, h2, h3, h4, h5, eP, cond_true]
  repeat ((conv => whnf); (with_reducible refine And.intro ?_ ?_); · with_reducible rfl)
  conv => whnf
  exact True.intro
end Go.Proofs.Ytogijkmflhjhkaa

/- Functions through the evaluator: is it opened as the document says? No condition. -/
namespace Go.Proofs.Ytogijkmflhjhkaa
open Go.Sx Go.RowKit
set_option maxRecDepth 100000
set_option maxHeartbeats 2000000
set_option linter.unusedVariables false
set_option linter.unusedSimpArgs false

theorem cok50 : COk Try.prog (tab [(62, openS), (65, ropenS)]) := cok_cons openS_ok (cok_cons ropenS_ok cok_nil)
/-- indenturelaw4.same. -/
def same4S : Summary := mkS false [.v, .v, .r .u8, .r .u8] fun
  | [.v (.agg [.ints .u8 k 32]), .v (.agg [.ints .u8 n 12]), .r nl1 a l, .r nl2 c m] => some ⟨.and (.p (R8 k 32)) (.and (.p (R8 n 12)) (.and (.p (R8 a l)) (.and (.p (R8 c m)) (.p (l ≤ 10000 ∧ m ≤ 10000))))),
      some (.sa (.sc (.bool true))), [], 0⟩
  | _ => none
theorem same4S_ok : SumOk Try.prog 64 same4S := by
  unfold same4S
  apply sum_ok
  intro vs A H n o r hb h
  split at h
  rotate_left
  · cases h
  rename_i k n nl1 a l nl2 c m
  injection h with h
  subst h
  cases hb
  refine fsound_of_run tt_ok cok50 mixed_ok Try.call64 Try.func64 rfl (rs := _) Try.results64 (size := 39) Try.ntmps64 (Nat.le_of_ble_eq_true rfl) rfl fun hp hfa hfh => ?_
  obtain ⟨hk, hn, ha, hc, hl, hm⟩ := hp
  have hk : R8 k 32 := hk
  have hn : R8 n 12 := hn
  have ha : R8 a l := ha
  have hc : R8 c m := hc
  have hl : l ≤ 10000 := hl
  have hm : m ≤ 10000 := hm
  have hlen : (aeOut (L8 k 32) (L8 n 12) (L8 a l) (L8 c m)).length ≤ 10000 := by
    rw [aeOut_eq]
    split
    · rw [chXor_length, List.length_take, L8_length]; omega
    · exact Nat.zero_le _
  repeat (first | ((with_reducible refine (Cd.then_iff _ _).2 (And.intro ?_ ?_)); · repeat' ((conv => arg 1; whnf); first | (refine Cd.holds_p ?_; first | with_reducible assumption | omega) | refine Cd.holds_and ?_ ?_)) | ((conv => whnf); (with_reducible refine And.intro ?_ ?_); · first | (intro hg0; simp only [hg0, Bool.not_false, Bool.not_true]; done) | with_reducible assumption | (intro hg0; (repeat ((conv => whnf); (with_reducible refine And.intro ?_ ?_); · first | with_reducible assumption | (intro _; refine ⟨?_, ?_⟩ <;> first | omega | (refine decide_eq_true ?_; omega)))); (conv => whnf); exact True.intro)))
  conv => whnf
  refine ⟨[], ?_⟩
  simp only [beq_self_eq_true, cond_true]
  repeat ((conv => whnf); (with_reducible refine And.intro ?_ ?_); · with_reducible rfl)
  conv => whnf
  exact True.intro
end Go.Proofs.Ytogijkmflhjhkaa

/- The law of sealed bytes' lengths, through the evaluator. No condition. -/
namespace Go.Proofs.Ytogijkmflhjhkaa
open Go.Sx Go.RowKit
set_option linter.unusedSimpArgs false
set_option maxRecDepth 100000
set_option maxHeartbeats 2000000
set_option linter.unusedVariables false

theorem cokS : COk Try.prog (tab [(50, yesS), (31, shortS), (53, keyS), (54, nonceS), (61, sealS), (62, openS), (63, rsealS), (65, ropenS), (64, same4S)]) :=
  cok_cons yesS50_ok (cok_cons shortS_ok (cok_cons keyS_ok (cok_cons nonceS_ok (cok_cons sealS_ok (cok_cons openS_ok (cok_cons rsealS_ok (cok_cons ropenS_ok (cok_cons same4S_ok cok_nil))))))))
theorem aeadLens_law (nlk : Bool) (k : Nat → Int) (nk : Nat) (nln : Bool) (n : Nat → Int) (nn : Nat) (nlb : Bool) (b : Nat → Int) (nb : Nat) (cut : Int) (hk : R8 k nk) (hn : R8 n nn) (hb : R8 b nb) (hcut : -9223372036854775808 ≤ cut ∧ cut ≤ 9223372036854775807) :
    FCalls Try.prog 29 [.sc (.im nlk .u8 k nk), .sc (.im nln .u8 n nn), .sc (.im nlb .u8 b nb), .sc (.int .i64 cut)] [] 0 isTrue := by
  refine fcalls_of_run tt_ok cokS mixed_ok Try.func29 rfl (rs := _) Try.results29 (size := 72) Try.ntmps29 (Nat.le_of_ble_eq_true rfl) rfl fun hp hfa hfh => ?_
  have hrb : R8 b (min nb (Int.toNat 80)) := R8_le hb (by omega)
  have hmb : min nb (Int.toNat 80) ≤ 80 := Nat.min_le_right _ _
  repeat ((conv => whnf); (with_reducible refine And.intro ?_ ?_); · omega)
  conv => whnf
  refine ⟨fun h1 => (nomatch h1), fun h1 => ?_⟩
  repeat (((conv => whnf); (with_reducible refine And.intro ?_ ?_); · first | (intro hg0; simp only [hg0, Bool.not_false, Bool.not_true]; done) | omega | (intro _; refine ⟨?_, True.intro⟩; omega) | (intro hg0; (repeat ((conv => whnf); (with_reducible refine And.intro ?_ ?_); · with_reducible assumption)); (conv => whnf); exact True.intro)))
  conv => whnf
  generalize min nb (Int.toNat 80) = m at *
  refine ⟨fun h2 => ?_, fun h2 => ?_⟩
  · repeat (((conv => whnf); (with_reducible refine And.intro ?_ ?_); · omega))
    conv => whnf
    refine ⟨[], ?_⟩
    repeat ((conv => whnf); (with_reducible refine And.intro ?_ ?_); · with_reducible rfl)
    conv => whnf
    exact True.intro
  have hg : 0 ≤ cut ∧ cut ≤ m := by
    obtain ⟨q1, q2⟩ := orF h2
    replace q1 := of_decide_eq_false q1
    replace q2 := of_decide_eq_false q2
    omega
  clear h2
  obtain ⟨q, rfl⟩ := Int.eq_ofNat_of_zero_le hg.1
  have hq : q ≤ m := by omega
  have hb1 : R8 (fun j => b (Int.toNat 0 + j)) (Int.toNat (q : Int) - Int.toNat 0) := fun j hj => hrb (0 + j) (by have : j < q - 0 := hj; omega)
  have hb2 : R8 (fun j => b (Int.toNat (q : Int) + j)) (m - Int.toNat (q : Int)) := fun j hj => hrb (q + j) (by have : j < m - q := hj; omega)
  have wq : IntKind.i64.wrap ((m : Int) - (q : Int)) = ((m - q : Nat) : Int) := by rw [w_i64]; omega
  have wq2 : IntKind.i64.wrap (((m - q : Nat) : Int) + 16) = ((m - q + 16 : Nat) : Int) := by rw [w_i64]; omega
  obtain ⟨K, hK⟩ : ∃ K, K = kpad 32 (L8 k nk) := ⟨_, rfl⟩
  obtain ⟨N, hN⟩ : ∃ N, N = kpad 12 (L8 n nn) := ⟨_, rfl⟩
  repeat (((conv => whnf); (with_reducible refine And.intro ?_ ?_); · with_reducible assumption))
  conv => whnf
  simp only [← hK, ← hN]
  refine ⟨[(0, ⟨0, some 34, []⟩), (1, ⟨0, some 35, []⟩), (2, ⟨0, some 36, []⟩), (3, ⟨0, some 37, []⟩), (4, ⟨12, some 38, []⟩), (5, ⟨0, some 39, []⟩), (6, ⟨0, some 40, []⟩), (7, ⟨96, some 41, []⟩), (8, ⟨255, some 42, [130]⟩), (9, ⟨511, some 12, []⟩)], 162, ?_⟩
  repeat (first | ((with_reducible refine (Cd.then_iff _ _).2 (And.intro ?_ ?_)); · repeat' ((conv => arg 1; whnf); first | exact Cd.holds_tt | (refine Cd.holds_p ?_; first | with_reducible exact hb1 | with_reducible exact hb2 | with_reducible exact hrb | exact fun j hj => ⟨U_nonneg _, U_lt8 _⟩ | (simp only [Int.toNat_natCast]; omega)) | refine Cd.holds_and ?_ ?_)) | ((conv => whnf); (with_reducible refine And.intro ?_ ?_); · first | exact fun j hj => ⟨U_nonneg _, U_lt8 _⟩ | (intro hg0; simp only [hg0, Bool.not_false, Bool.not_true]; done) | with_reducible assumption | omega | (intro _; refine ⟨decide_eq_true ?_, ?_⟩ <;> omega) | (intro hg0; (repeat ((conv => whnf); (with_reducible refine And.intro ?_ ?_); · with_reducible assumption)); (conv => whnf); exact True.intro)))
  conv => whnf
  refine ⟨[], ?_⟩
  simp only [wq, wq2, Int.toNat_natCast, beq_self_eq_true, cond_true]
  repeat ((conv => whnf); (with_reducible refine And.intro ?_ ?_); · with_reducible rfl)
  conv => whnf
  exact True.intro
end Go.Proofs.Ytogijkmflhjhkaa

/- The law of sealed bytes, through the evaluator: they are the document's, and are opened. No condition. -/
namespace Go.Proofs.Ytogijkmflhjhkaa
open Go.Sx Go.RowKit
set_option linter.unusedSimpArgs false
set_option maxRecDepth 100000
set_option maxHeartbeats 2000000
set_option linter.unusedVariables false

theorem R8_upa {f : Nat → Int} {n i : Nat} {x y : Int} (hf : R8 f n) : R8 (upd f i (bits .xor .u8 x y)) n := fun j hj => by
  unfold upd
  split
  · show 0 ≤ IntKind.u8.wrap _ ∧ IntKind.u8.wrap _ < 256
    rw [w_u8]; omega
  · exact hf j hj
theorem R8_app1 {a : Nat → Int} {l : Nat} {x : Int} (ha : R8 a l) (hx : 0 ≤ x ∧ x < 256) :
    R8 (fun j => put_ (put_ (fun _ => 0) 0 l a) (0 + l) 1 (fun j => listI [x].reverse (0 + j)) (0 + j)) (0 + l + 1) := fun j hj => by
  show 0 ≤ put_ _ _ _ _ _ ∧ put_ _ _ _ _ _ < 256
  unfold put_
  simp only [Nat.zero_add]
  split
  · rename_i h
    have e : j - l = 0 := by omega
    rw [e]; exact hx
  · split
    · exact ha _ (by omega)
    · omega
theorem aeadAll_law (nlk : Bool) (k : Nat → Int) (nk : Nat) (nln : Bool) (n : Nat → Int) (nn : Nat) (nla : Bool) (a : Nat → Int) (na : Nat) (nlb : Bool) (b : Nat → Int) (nb : Nat) (turn x : Int) (hk : R8 k nk) (hn : R8 n nn) (ha : R8 a na) (hb : R8 b nb)
    (hturn : -9223372036854775808 ≤ turn ∧ turn ≤ 9223372036854775807) (hx : 0 ≤ x ∧ x < 256) :
    FCalls Try.prog 23 [.sc (.im nlk .u8 k nk), .sc (.im nln .u8 n nn), .sc (.im nla .u8 a na), .sc (.im nlb .u8 b nb), .sc (.int .i64 turn), .sc (.int .u8 x)] [] 0 isTrue := by
  refine fcalls_of_run tt_ok cokS mixed_ok Try.func23 rfl (rs := _) Try.results23 (size := 131) Try.ntmps23 (Nat.le_of_ble_eq_true rfl) rfl fun hp hfa hfh => ?_
  have hra : R8 a (min na (Int.toNat 40)) := R8_le ha (by omega)
  have hma : min na (Int.toNat 40) ≤ 40 := Nat.min_le_right _ _
  have hrb : R8 b (min nb (Int.toNat 100)) := R8_le hb (by omega)
  have hmb : min nb (Int.toNat 100) ≤ 100 := Nat.min_le_right _ _
  repeat ((conv => whnf); (with_reducible refine And.intro ?_ ?_); · omega)
  conv => whnf
  refine ⟨fun h1 => (nomatch h1), fun h1 => ?_⟩
  repeat (first | ((with_reducible refine (Cd.then_iff _ _).2 (And.intro ?_ ?_)); · repeat' ((conv => arg 1; whnf); first | exact Cd.holds_tt | (refine Cd.holds_p ?_; first | with_reducible exact hra | with_reducible exact hrb | exact fun j hj => ⟨U_nonneg _, U_lt8 _⟩ | omega) | refine Cd.holds_and ?_ ?_)) | ((conv => whnf); (with_reducible refine And.intro ?_ ?_); · first | exact fun j hj => ⟨U_nonneg _, U_lt8 _⟩ | with_reducible assumption | omega | (intro _; refine ⟨decide_eq_true ?_, ?_⟩ <;> omega)))
  conv => whnf
  generalize min na (Int.toNat 40) = l at *
  generalize min nb (Int.toNat 100) = m at *
  obtain ⟨K, hK⟩ : ∃ K, K = kpad 32 (L8 k nk) := ⟨_, rfl⟩
  have hKl : K.length = 32 := by rw [hK, kpad_length]
  obtain ⟨N, hN⟩ : ∃ N, N = kpad 12 (L8 n nn) := ⟨_, rfl⟩
  have hNl : N.length = 12 := by rw [hN, kpad_length]
  have eK : L8 (UL K) 32 = K := L8_UL' hKl.symm
  have eN : L8 (UL N) 12 = N := L8_UL' hNl.symm
  obtain ⟨A, hA⟩ : ∃ A, A = L8 a l := ⟨_, rfl⟩
  obtain ⟨P, hP⟩ : ∃ P, P = L8 b m := ⟨_, rfl⟩
  have hPl : P.length = m := by rw [hP, L8_length]
  simp only [← hK, ← hN, eK, eN, ← hA, ← hP]
  obtain ⟨S, hS⟩ : ∃ S, S = aeSeal K N A P := ⟨_, rfl⟩
  have hSl : S.length = m + 16 := by rw [hS, aeSeal_length, hPl]
  have eS : L8 (fun j => UL S (0 + j)) (m + 16) = S := L8_z hSl.symm
  have hIs : aeIs K N A S = true := by rw [hS, aeIs_seal]
  have hOut : aeOut K N A S = P := by rw [hS, aeOut_seal]
  simp only [← hS, eS, hIs, hOut, hPl]
  refine ⟨[(0, ⟨0, some 45, []⟩), (1, ⟨1, some 46, []⟩), (2, ⟨0, some 47, []⟩), (3, ⟨0, some 48, []⟩), (4, ⟨0, some 49, []⟩), (5, ⟨0, some 50, []⟩), (6, ⟨60, some 51, [100]⟩), (7, ⟨124, some 52, []⟩), (8, ⟨255, some 53, []⟩), (9, ⟨511, some 54, []⟩), (10, ⟨1023, some 55, []⟩), (11, ⟨2047, some 56, []⟩), (12, ⟨4095, some 57, []⟩), (13, ⟨8191, some 58, []⟩), (14, ⟨16383, some 59, []⟩), (15, ⟨32767, some 60, []⟩), (16, ⟨16383, some 61, []⟩), (17, ⟨81919, some 62, []⟩), (18, ⟨262143, some 63, []⟩), (19, ⟨524287, some 64, []⟩), (20, ⟨1048575, some 65, []⟩), (21, ⟨2097151, some 66, []⟩), (22, ⟨4194303, some 67, []⟩), (23, ⟨8388607, some 68, []⟩)], 388, ?_⟩
  repeat (first | ((with_reducible refine (Cd.then_iff _ _).2 (And.intro ?_ ?_)); · repeat' ((conv => arg 1; whnf); first | (refine Cd.holds_p ?_; first | with_reducible exact hra | with_reducible exact hrb | exact fun j hj => ⟨U_nonneg _, U_lt8 _⟩ | omega) | refine Cd.holds_and ?_ ?_)) | ((conv => whnf); (with_reducible refine And.intro ?_ ?_); · first | exact fun j hj => ⟨U_nonneg _, U_lt8 _⟩ | (intro hz; rw [hz]; rfl) | (intro _; refine ⟨?_, True.intro⟩; omega) | (intro _; refine ⟨decide_eq_true ?_, ?_⟩ <;> omega) | (intro hg0; (repeat ((conv => whnf); (with_reducible refine And.intro ?_ ?_); · first | with_reducible assumption | (intro _; refine ⟨?_, ?_⟩ <;> first | omega | (refine decide_eq_true ?_; omega)))); (conv => whnf); exact True.intro)))
  conv => whnf
  have s1 : strI (fun j => UL S (0 + j)) (m + 16) = sb S := by rw [strI_sb (R8_z _ _), L8_z hSl.symm]
  have s2 : strI (fun j => UL P (0 + j)) m = sb P := by rw [strI_sb (R8_z _ _), L8_z hPl.symm]
  have s3 : strI b m = sb P := by rw [strI_sb hrb, hP]
  simp only [eK, eN, ← hA, ← hP, ← hS, s1, s2, s3, beq_self_eq_true, bne_self_eq_false, Bool.not_true, cond_false, cond_true]
  repeat (((conv => whnf); (with_reducible refine And.intro ?_ ?_); · omega))
  conv => whnf
  refine ⟨fun h2 => ?_, fun h2 => ?_⟩
  · repeat (((conv => whnf); (with_reducible refine And.intro ?_ ?_); · omega))
    conv => whnf
    refine ⟨[(0, ⟨0, some 69, []⟩), (1, ⟨1, some 70, []⟩), (2, ⟨3, some 71, []⟩), (3, ⟨7, some 72, []⟩), (4, ⟨3, some 73, []⟩), (5, ⟨19, some 74, []⟩), (6, ⟨63, some 75, []⟩), (7, ⟨127, some 76, []⟩), (8, ⟨255, some 77, []⟩), (9, ⟨511, some 78, []⟩), (10, ⟨1023, some 79, []⟩), (11, ⟨2047, some 80, []⟩), (12, ⟨4095, some 81, []⟩), (13, ⟨8191, some 82, []⟩), (14, ⟨16383, some 83, []⟩), (15, ⟨8191, some 84, []⟩), (16, ⟨8191, some 85, []⟩), (17, ⟨8191, some 86, []⟩), (18, ⟨8191, some 87, []⟩), (19, ⟨499711, some 88, [692]⟩), (20, ⟨1023999, some 89, []⟩), (21, ⟨2097151, some 90, []⟩), (22, ⟨4194303, some 91, []⟩), (23, ⟨8388607, some 12, []⟩)], 772, ?_⟩
    repeat (((conv => whnf); (with_reducible refine And.intro ?_ ?_); · first | (intro hg0; simp only [hg0, Bool.not_false, Bool.not_true]; done) | (intro _; refine ⟨?_, True.intro⟩; omega) | (intro hg0; (repeat ((conv => whnf); (with_reducible refine And.intro ?_ ?_); · first | with_reducible assumption | (intro _; refine ⟨?_, ?_⟩ <;> first | omega | (refine decide_eq_true ?_; omega)))); (conv => whnf); exact True.intro)))
    conv => whnf
    refine And.intro (fun hg => (Cd.then_iff _ _).2 (And.intro ?_ True.intro)) ?_
    · repeat' (with_reducible first | exact Cd.holds_tt | refine Cd.holds_and ?_ ?_ | exact Cd.holds_p hg | exact Cd.holds_p (R8_UL _ _) | exact Cd.holds_p hra | exact Cd.holds_p hrb | (refine Cd.holds_p (And.intro ?_ ?_) <;> omega))
    repeat (((conv => whnf); (with_reducible refine And.intro ?_ ?_); · omega))
    conv => whnf
    refine And.intro (fun hg => (Cd.then_iff _ _).2 (And.intro (Cd.holds_and (Cd.holds_p hg) (Cd.holds_p fun h0 => And.intro (And.intro hg (decide_eq_true h0)) (by omega))) True.intro)) ?_
    repeat (((conv => whnf); (with_reducible refine And.intro ?_ ?_); · first | (intro hg0; simp only [hg0, Bool.not_false, Bool.not_true]; done) | (intro hg0; (repeat ((conv => whnf); (with_reducible refine And.intro ?_ ?_); · with_reducible assumption)); (conv => whnf); exact True.intro)))
    conv => whnf
    refine ⟨[], ?_⟩
    simp only [eK, eN, ← hA, ← hP, ← hS, s1, s2, s3, beq_self_eq_true, cond_true, h2]
    repeat ((conv => whnf); (with_reducible refine And.intro ?_ ?_); · with_reducible rfl)
    conv => whnf
    exact True.intro
  · replace h2 := of_decide_eq_false h2
    obtain ⟨T, rfl⟩ := Int.eq_ofNat_of_zero_le (show 0 ≤ turn by omega)
    have m1 : ((T : Nat) : Int).tmod 32 = ((T % 32 : Nat) : Int) := rfl
    have m2 : ((T : Nat) : Int).tmod 12 = ((T % 12 : Nat) : Int) := rfl
    repeat (((conv => whnf); (with_reducible refine And.intro ?_ ?_); · omega))
    conv => whnf
    refine ⟨[(0, ⟨0, some 92, []⟩), (1, ⟨0, some 93, []⟩), (2, ⟨0, some 19, [420]⟩), (3, ⟨0, some 20, [436]⟩), (4, ⟨13, none, [420]⟩), (5, ⟨31, none, [436]⟩)], 484, ?_⟩
    repeat ((conv => whnf); (with_reducible refine And.intro ?_ ?_); · omega)
    conv => whnf
    simp only [m1, m2]
    obtain ⟨k2, hk2⟩ : ∃ f, f = upd (UL K) ((T % 32 : Nat) : Int).toNat (bits .xor .u8 (UL K ((T % 32 : Nat) : Int).toNat) x) := ⟨_, rfl⟩
    obtain ⟨n2, hn2⟩ : ∃ f, f = upd (UL N) ((T % 12 : Nat) : Int).toNat (bits .xor .u8 (UL N ((T % 12 : Nat) : Int).toNat) x) := ⟨_, rfl⟩
    have hrk : R8 k2 32 := by rw [hk2]; exact R8_upa (R8_UL _ _)
    have hrn : R8 n2 12 := by rw [hn2]; exact R8_upa (R8_UL _ _)
    simp only [← hk2, ← hn2]
    repeat (((conv => whnf); (with_reducible refine And.intro ?_ ?_); · omega))
    conv => whnf
    refine ⟨[(0, ⟨0, some 108, []⟩), (1, ⟨0, some 109, []⟩), (2, ⟨0, some 110, []⟩), (3, ⟨0, some 111, []⟩), (4, ⟨15, some 112, []⟩), (5, ⟨31, some 113, []⟩), (6, ⟨63, some 114, []⟩), (7, ⟨63, some 115, []⟩), (8, ⟨63, some 116, []⟩), (9, ⟨63, some 117, []⟩), (10, ⟨1023, some 118, []⟩), (11, ⟨2047, some 119, []⟩), (12, ⟨4095, some 120, []⟩), (13, ⟨8191, some 121, []⟩), (14, ⟨8191, some 122, []⟩), (15, ⟨8191, some 123, []⟩), (16, ⟨40959, some 124, [740]⟩), (17, ⟨8191, some 125, []⟩), (18, ⟨139263, some 126, [772]⟩), (19, ⟨499711, some 127, [788, 740]⟩), (20, ⟨8191, some 128, []⟩), (21, ⟨2097151, some 129, []⟩), (22, ⟨4194303, some 130, []⟩), (23, ⟨8388607, some 12, []⟩)], 868, ?_⟩
    repeat (first | ((with_reducible refine (Cd.then_iff _ _).2 (And.intro ?_ ?_)); · repeat' ((conv => arg 1; whnf); first | exact Cd.holds_tt | (refine Cd.holds_p ?_; first | with_reducible exact hrk | with_reducible exact hra | exact fun j hj => ⟨U_nonneg _, U_lt8 _⟩ | omega) | refine Cd.holds_and ?_ ?_)) | ((conv => whnf); (with_reducible refine And.intro ?_ ?_); · first | (intro hg0; simp only [hg0, Bool.not_false, Bool.not_true]; done) | (intro _; refine ⟨?_, True.intro⟩; omega) | (intro _; refine ⟨decide_eq_true ?_, ?_⟩ <;> omega) | (intro hg0; (repeat ((conv => whnf); (with_reducible refine And.intro ?_ ?_); · first | with_reducible assumption | omega | (intro _; refine ⟨?_, ?_⟩ <;> first | omega | (refine decide_eq_true ?_; omega) | (simp [appG, Cd.holds]; omega)) | exact fun j hj => ⟨U_nonneg _, U_lt8 _⟩)); (conv => whnf); exact True.intro)))
    conv => whnf
    refine And.intro (fun hg => (Cd.then_iff _ _).2 (And.intro (Cd.holds_and (Cd.holds_p hg) (Cd.holds_and (Cd.holds_p hg) (Cd.holds_and (Cd.holds_p fun h0 => And.intro (And.intro hg (decide_eq_true h0)) (Nat.le_refl _)) (Cd.holds_and (Cd.holds_p fun _ => And.intro hg (Nat.le_refl _)) (Cd.holds_p (And.intro (by omega) (by omega))))))) True.intro)) ?_
    refine And.intro (fun hg => (Cd.then_iff _ _).2 (And.intro ?_ True.intro)) ?_
    · repeat' (first | (with_reducible first | exact Cd.holds_tt | refine Cd.holds_and ?_ ?_ | exact Cd.holds_p hg | exact Cd.holds_p (R8_UL _ _) | exact Cd.holds_p (R8_app1 hra hx) | (refine Cd.holds_p (And.intro ?_ ?_) <;> omega) | exact Cd.holds_p fun h0 => And.intro (Cd.holds_p (decide_eq_true h0)) (by omega)) | exact Cd.holds_p (fun j hj => And.intro (U_nonneg _) (U_lt8 _)) | exact Cd.holds_p fun h0 => And.intro (Cd.holds_and (Cd.holds_p hg) (Cd.holds_p (decide_eq_true h0))) (by omega))
    repeat (((conv => whnf); (with_reducible refine And.intro ?_ ?_); · (intro hg0; simp only [hg0, Bool.not_false, Bool.not_true]; done)))
    conv => whnf
    refine ⟨[], ?_⟩
    repeat ((conv => whnf); (with_reducible refine And.intro ?_ ?_); · (simp [appG]; done))
    conv => whnf
    exact True.intro
end Go.Proofs.Ytogijkmflhjhkaa

/- From a law's walk to its row: how the caller's arguments read, that they read so behind the call. Plain lemmas; no condition. -/
namespace Go.Sx
open Go.RowKit Go.ChangeShapes Go.WideShapes Go.ChangeAt
set_option linter.unusedSimpArgs false
set_option linter.unusedVariables false
open Go.ChangeMaps (open_string)

/-- An argument's kind. -/
inductive AK where
  | int (k : IntKind)
  | bool
  | str
  | ints (k : IntKind)
  | rows (k : IntKind)
def AK.fits (P : Program) (t : TypeId) : AK → Prop
  | .int k => P.underlying t = some (.int k)
  | .bool => P.underlying t = some .bool
  | .str => P.underlying t = some .string
  | .ints k => ∃ e, P.underlying t = some (.slice e) ∧ P.underlying e = some (.int k) ∧ P.cellsOf e = 1
  | .rows k => ∃ e e', P.underlying t = some (.slice e) ∧ P.underlying e = some (.slice e') ∧ P.underlying e' = some (.int k) ∧ P.cellsOf e = 1 ∧ P.cellsOf e' = 1
def wfN (k : IntKind) (n : Int) : Prop := (Lit.int k n).wf = true
def AK.holds : AK → SC → Prop
  | .int k, c => ∃ n, c = .int k n ∧ wfN k n
  | .bool, c => ∃ b, c = .bool b
  | .str, c => ∃ s, c = .str s
  | .ints k, c => ∃ nl f n, c = .im nl k f n ∧ ∀ j, j < n → wfN k (f j)
  | .rows k, c => ∃ nl r n, c = .rows nl k r n ∧ ∀ j, j < n → ∀ i, i < (r j).n → wfN k ((r j).f i)
/-- The caller's memory: nobody writes it. -/
def rho0 (w : World) : Rho := ⟨fun _ => none, fun A => w.cell? A, fun _ => undef⟩
theorem good0 (w : World) : Good (rho0 w) w [] 0 :=
  ⟨fun _ _ h => (by cases h), fun _ _ h => (by cases h), fun _ _ _ _ _ h => (by cases h), fun _ _ h => (by cases h), fun _ _ h => h, fun _ _ _ h => (by cases h)⟩

section
variable {H : Type} {enc : TypeId × Value → H} {P : Program} {w : World} {r : Reach} {b0 : Nat}

theorem row_of_ints {t e : TypeId} {k : IntKind} {fuel : Nat} {v : Value} {x : DataW H × List MemPlace} (ht : P.underlying t = some (.slice e)) (he : P.underlying e = some (.int k)) (hc : P.cellsOf e = 1)
    (h : DataW.trod enc P w 0 (fun _ => true) true fuel t [v] = some x) : ∃ q : Row, RelRow (rho0 w) k q v ∧ ∀ j, j < q.n → wfN k (q.f j) := by
  rcases open_ints ht he hc h with ⟨e1, _⟩ | ⟨a, len, cap, zs, e1, _, hl, hm, hz, _, hcell, hwf⟩
  · injection e1 with e1
    exact ⟨⟨true, fun _ => 0, 0⟩, .inl ⟨rfl, e1, rfl⟩, fun j hj => absurd hj (by simp)⟩
  · injection e1 with e1
    have hz : zs.length = cap := hz
    refine ⟨⟨false, fun j => zs.getD j 0, len⟩, .inr ⟨rfl, a, cap, e1, hl, hm, fun j hj => hcell j (by simp only at hj; omega)⟩, fun j hj => ?_⟩
    have hj : j < zs.length := by simp only at hj; omega
    have : zs.getD j 0 = zs[j] := by simp [List.getD, hj]
    show wfN k (zs.getD j 0)
    rw [this]
    exact hwf _ (List.getElem_mem hj)

theorem open_ak {t : TypeId} {a : AK} {v : Value} {d : DataW H} {ps : List MemPlace} (hf : a.fits P t) (hval : Value.okWide P w r b0 t v) (hd : DataW.Trod enc P w 0 (fun _ => true) true t v d ps) :
    ∃ c, a.holds c ∧ Rel1 (rho0 w) c v := by
  cases a with
  | int k => obtain ⟨n, rfl, _, _, hw⟩ := open_int hf hval hd; exact ⟨.int k n, ⟨n, rfl, hw⟩, rfl⟩
  | bool => obtain ⟨b, rfl, _, _⟩ := open_bool hf hval hd; exact ⟨.bool b, ⟨b, rfl⟩, rfl⟩
  | str => obtain ⟨s, rfl, _, _, _⟩ := open_string hf hval hd; exact ⟨.str s, ⟨s, rfl⟩, rfl⟩
  | ints k =>
    obtain ⟨e, ht, he, hc⟩ := hf
    obtain ⟨fuel, hd⟩ := hd
    have hv : ∃ A l c, v = .slice A l c := okWide_slice ht hval
    obtain ⟨A, l, c, rfl⟩ := hv
    obtain ⟨q, h1, h2⟩ := row_of_ints ht he hc (by simpa [Value.cells] using hd)
    exact ⟨.im q.nl k q.f q.n, ⟨_, _, _, rfl, h2⟩, h1⟩
  | rows k =>
    obtain ⟨e, e', ht, he, he', hc, hc'⟩ := hf
    obtain ⟨fuel, hd⟩ := hd
    have hv : ∃ A l c, v = .slice A l c := okWide_slice ht hval
    obtain ⟨A, l, c, rfl⟩ := hv
    have hd : DataW.trod enc P w 0 (fun _ => true) true fuel t [.slice A l c] = some (d, ps) := by simpa [Value.cells] using hd
    rcases DataW.trod_slice ht hd with ⟨e1, _⟩ | ⟨a, len, cap, elems, rest, n, _, e1, _, _, hl, hm, hlen, hel, _, _⟩
    · injection e1 with e1
      exact ⟨.rows true k (fun _ => ⟨true, fun _ => 0, 0⟩) 0, ⟨_, _, _, rfl, fun j hj => absurd hj (by omega)⟩, .inl ⟨rfl, e1, rfl⟩⟩
    · injection e1 with e1
      have each : ∀ j, j < len → ∃ u, w.cell? (a.add j) = some u ∧ ∃ q : Row, RelRow (rho0 w) k q u ∧ ∀ i, i < q.n → wfN k (q.f i) := by
        intro j hj
        have h1 := hel j hj
        rw [hc, Nat.mul_one, List.getElem?_eq_getElem (by omega)] at h1
        rw [Option.bind_eq_some_iff] at h1
        obtain ⟨cs, g1, g2⟩ := h1
        have hl1 : cs.length = 1 := (World.cells?_some g1).2.1
        obtain ⟨u, rfl⟩ : ∃ u, cs = [u] := by
          cases cs with
          | nil => simp at hl1
          | cons u r => cases r with
            | nil => exact ⟨u, rfl⟩
            | cons _ _ => simp at hl1
        exact ⟨u, cell_of_cells?_one g1, row_of_ints he he' hc' g2⟩
      let R : Nat → Row := fun j => if h : j < len then ((each j h).choose_spec.2).choose else ⟨true, fun _ => 0, 0⟩
      have hR : ∀ j, j < len → ∃ u, w.cell? (a.add j) = some u ∧ RelRow (rho0 w) k (R j) u ∧ ∀ i, i < (R j).n → wfN k ((R j).f i) := by
        intro j hj
        have e2 : R j = ((each j hj).choose_spec.2).choose := by simp only [R]; rw [dif_pos hj]
        rw [e2]
        exact ⟨(each j hj).choose, (each j hj).choose_spec.1, ((each j hj).choose_spec.2).choose_spec⟩
      refine ⟨.rows false k R len, ⟨_, _, _, rfl, fun j hj => ?_⟩, .inr ⟨rfl, a, cap, e1, hl, hm, fun j hj => ?_⟩⟩
      · obtain ⟨_, _, _, h⟩ := hR j hj; exact h
      · obtain ⟨u, h1, h2, _⟩ := hR j hj; exact ⟨u, h1, h2⟩

def fitsL (P : Program) : List TypeId → List AK → Prop
  | [], [] => True
  | t :: ts, a :: aks => a.fits P t ∧ fitsL P ts aks
  | _, _ => False
def holdsL : List AK → List SC → Prop
  | [], [] => True
  | a :: aks, c :: cs => a.holds c ∧ holdsL aks cs
  | _, _ => False
theorem open_all : ∀ {ts : List TypeId} {aks : List AK} {vs : List Value} {ds : List (DataW H)} {ps : List MemPlace}, fitsL P ts aks → (∀ (j : Nat) t v, ts[j]? = some t → vs[j]? = some v → Value.okWide P w r b0 t v) →
    DataW.TrodAll enc P w 0 (fun _ => true) true ts vs ds ps → ∃ cs, holdsL aks cs ∧ RelL (rho0 w) (cs.map .sc) vs
  | [], [], [], [], _, _, _, _ => ⟨[], trivial, rfl⟩
  | t :: ts, a :: aks, v :: vs, d :: ds, ps, hf, hval, ⟨p, q, h1, h2, _⟩ => by
    obtain ⟨c, g1, g2⟩ := open_ak hf.1 (hval 0 t v rfl rfl) h1
    obtain ⟨cs, g3, g4⟩ := open_all hf.2 (fun j t' v' e1 e2 => hval (j + 1) t' v' e1 e2) h2
    exact ⟨c :: cs, ⟨g1, g3⟩, v, vs, rfl, g2, g4⟩
/-- The arguments read aks before. -/
theorem all_below (hl : laidOutB P = true) {W W' : World} (hb : Below W.heap.size W W') : ∀ {ts : List TypeId} {vs : List Value} {ds : List (DataW H)} {ps : List MemPlace}, (∀ t ∈ ts, P.readableRec t = true ∧ t < P.types.size) →
    DataW.TrodAll enc P W 0 (fun _ => true) true ts vs ds ps → (∀ x ∈ ps, x.block < W.heap.size) → DataW.TrodAll enc P W' 0 (fun b => decide (b < W.heap.size)) true ts vs ds ps
  | [], [], [], ps, _, h, _ => h
  | t :: ts, v :: vs, d :: ds, ps, hr, ⟨p, q, h1, h2, e⟩, hlt => by
    subst e
    exact ⟨p, q, Below.trod hl (hr t (by simp)).1 (hr t (by simp)).2 h1 hb (fun x hx => hlt x (by simp [hx])), all_below hl hb (fun t' ht' => hr t' (by simp [ht'])) h2 (fun x hx => hlt x (by simp [hx])), rfl⟩
theorem below_of_eff {W W' : World} {ρ' : Rho} (h : Eff (rho0 W) ρ' [] 0 [] 0 W W') : Below W.heap.size W W' :=
  ⟨h.os, h.tape, h.output, h.size, fun i hi => h.block i hi fun _ _ _ hg => by cases hg⟩
end
end Go.Sx
namespace Go.Sx
theorem trod_len {H : Type} {enc : TypeId × Value → H} {P : Program} {w : World} {base : Nat} {sp : Nat → Bool} {held : Bool} : ∀ {ts : List TypeId} {vs : List Value} {ds : List (DataW H)} {ps : List MemPlace}, DataW.TrodAll enc P w base sp held ts vs ds ps → ds.length = ts.length
  | [], [], [], _, _ => rfl
  | _ :: _, _ :: _, _ :: _, _, ⟨_, _, _, h, _⟩ => by simp [trod_len h]
end Go.Sx
namespace Go.Sx
theorem wf_iff {k : IntKind} {n : Int} : wfN k n ↔ k.min ≤ n ∧ n ≤ k.max := by
  simp only [wfN, Lit.wf, Bool.and_eq_true, decide_eq_true_eq]
theorem wf_u8 {n : Int} (h : wfN .u8 n) : 0 ≤ n ∧ n < 256 := by
  have e1 : IntKind.u8.min = 0 := by decide
  have e2 : IntKind.u8.max = 255 := by decide
  rw [wf_iff, e1, e2] at h; omega
theorem wf_u32 {n : Int} (h : wfN .u32 n) : 0 ≤ n ∧ n < 4294967296 := by
  have e1 : IntKind.u32.min = 0 := by decide
  have e2 : IntKind.u32.max = 4294967295 := by decide
  rw [wf_iff, e1, e2] at h; omega
theorem wf_u64 {n : Int} (h : wfN .u64 n) : 0 ≤ n ∧ n < 18446744073709551616 := by
  have e1 : IntKind.u64.min = 0 := by decide
  have e2 : IntKind.u64.max = 18446744073709551615 := by decide
  rw [wf_iff, e1, e2] at h; omega
theorem wf_i64 {n : Int} (h : wfN .i64 n) : -9223372036854775808 ≤ n ∧ n ≤ 9223372036854775807 := by
  have e1 : IntKind.i64.min = -9223372036854775808 := by decide
  have e2 : IntKind.i64.max = 9223372036854775807 := by decide
  rw [wf_iff, e1, e2] at h; exact h
end Go.Sx
namespace Go.Sx
theorem holdsL_cons {a : AK} {aks : List AK} : ∀ {cs : List SC}, holdsL (a :: aks) cs → ∃ c r, cs = c :: r ∧ a.holds c ∧ holdsL aks r
  | c :: r, h => ⟨c, r, rfl, h.1, h.2⟩
theorem holdsL_nil : ∀ {cs : List SC}, holdsL [] cs → cs = []
  | [], _ => rfl
end Go.Sx
