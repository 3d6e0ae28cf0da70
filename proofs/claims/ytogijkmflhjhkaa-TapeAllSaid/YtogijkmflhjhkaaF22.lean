/- Functions through the evaluator: what each law of tape begins with. No condition. -/
import Derived.Test.YtogijkmflhjhkaaSxT
import Derived.Test.YtogijkmflhjhkaaSxU
import Derived.Test.YtogijkmflhjhkaaF21
import Derived.Test.YtogijkmflhjhkaaF17
import Derived.Test.YtogijkmflhjhkaaLH
import Derived.Test.YtogijkmflhjhkaaStr
namespace Go.Proofs.Ytogijkmflhjhkaa
open Go.Sx Go.RowKit
set_option linter.unusedSimpArgs false
set_option maxRecDepth 100000
set_option maxHeartbeats 1000000
set_option linter.unusedVariables false

theorem tNil_in {n : Int} (h : 0 ≤ n ∧ n ≤ 4000) : tNil n = false := by rw [tNil_eq]; exact decide_eq_false (by omega)
theorem tNil_out {n : Int} (h : n < 0 ∨ 4000 < n) : tNil n = true := by rw [tNil_eq]; exact decide_eq_true h
/-- A contract with a stronger condition. -/
theorem mkS_weak {P : Program} {f : FuncId} {st : Bool} {ms : List Md} {spec spec' : List Vw → Option Res} (h : SumOk P f (mkS st ms spec))
    (hs : ∀ vs p v d n, spec' vs = some ⟨p, v, d, n⟩ → p.holds → ∃ p0, spec vs = some ⟨p0, v, d, n⟩ ∧ p0.holds) : SumOk P f (mkS st ms spec') := by
  intro W w0 F ρ s a w l vs r hR hl e hp
  suffices hq : ∃ p0, mkS st ms spec l s = some ⟨p0, r.v, r.d, r.next⟩ ∧ p0.holds by
    obtain ⟨p0, e0, h0⟩ := hq
    exact h W w0 F ρ s a w l vs ⟨p0, r.v, r.d, r.next⟩ hR hl e0 h0
  clear hR hl h
  cases s with
  | mk sz fr hp' nx =>
  have e0 := e
  unfold mkS at e
  simp only at e
  split at e
  rotate_left
  · cases e
  rename_i c vws own rd ops hi
  split at e
  rotate_left
  · cases e
  rename_i hchk
  split at e
  rotate_left
  · cases e
  rename_i A H n o hb
  split at e
  rotate_left
  · cases e
  rename_i rp rv rd' rn hr
  cases rv with
  | none =>
    simp only at e
    injection e with e
    subst e
    obtain ⟨p0, h1, h2⟩ := hs _ _ _ _ _ hr hp.2
    refine ⟨.and c p0, ?_, hp.1, h2⟩
    unfold mkS
    simp only [hi, hchk, hb, h1]
  | some v =>
    simp only at e
    split at e
    · rename_i hv
      rw [forceV_eq] at e
      injection e with e
      subst e
      obtain ⟨p0, h1, h2⟩ := hs _ _ _ _ _ hr hp.2
      refine ⟨.and c p0, ?_, hp.1, h2⟩
      unfold mkS
      simp only [hi, hchk, hb, h1, hv, forceV_eq]
    · cases e
/-- (*tape.Tape).Next of a number that it gives. -/
def tnextI1 : Summary := mkS false [tpM, .v] fun
  | [.p [.s (.int .i64 seed), .s (.int .i64 i), .a nl f m], .v (.sc (.int .i64 n))] =>
    some ⟨.and (.p (0 ≤ n ∧ n ≤ 4000)) (.and (.p (R8 f m)) (.and (.p (m ≤ 100000)) (.and (.p (0 ≤ i ∧ i ≤ 1000000000)) (.p (-9223372036854775808 ≤ seed ∧ seed ≤ 9223372036854775807))))),
      some (.sa (.sc (ownA (nl && Nat.beq (tQ m n) 0) n.toNat 2))), [(0, tpB seed (i + tQ m n) (nl && Nat.beq (tQ m n) 0) (m + 32 * tQ m n - n.toNat) 3), (1, .dead),
        (2, ownB 5 .u8 (UL ((L8 f m ++ tapF seed i.toNat (tQ m n)).take n.toNat)) n.toNat), (3, ownB 5 .u8 (UL ((L8 f m ++ tapF seed i.toNat (tQ m n)).drop n.toNat)) (m + 32 * tQ m n - n.toNat))], 4⟩
  | _ => none
theorem tnextI1_ok : SumOk Try.prog 47 tnextI1 := by
  unfold tnextI1
  refine mkS_weak tnextS1_ok fun vs p v d n h hp => ?_
  split at h
  rotate_left
  · cases h
  rename_i seed i nl f m N
  injection h with h
  injection h with h1 h2 h3 h4
  subst h1 h2 h3 h4
  simp only [tNil_in hp.1]
  exact ⟨_, rfl, hp.2⟩
theorem strU {l : List B8} {n : Nat} (h : n = l.length) : strI (fun j => UL l (0 + j)) n = sb l := by
  rw [strI_sb (R8_z _ _), L8_z h]
/-- The document's bytes, as a string. -/
theorem strT (seed : Int) (a n : Nat) : strI (fun j => UL (tapF seed (a / 32) (rK (a % 32) n)) (a % 32 + j)) n = sb (tAt seed a n) := by
  rw [strI_sb (R8_at _ _ _), ← rf_at]
  congr 1
  rw [L8_sub (UL (tapF seed (a / 32) (rK (a % 32) n))) (32 * rK (a % 32) n) (a % 32) n (by unfold rK; omega), L8_UL' (tapF_length _ _ _).symm]
  rfl
def tnextI : Summary := orS tnextI1 tnextS0
theorem tnextI_ok : SumOk Try.prog 47 tnextI := orS_ok tnextI1_ok tnextS0_ok
theorem cokB : COk Try.prog (tab [(46, tnewS), (47, tnextI), (49, tcopyS), (48, rtapeS), (70, yesS)]) := cok_cons tnewS_ok (cok_cons tnextI_ok (cok_cons tcopyS_ok (cok_cons rtapeS_ok (cok_cons yesS70_ok cok_nil))))
theorem yesS45_ok : SumOk Try.prog 45 yesS := by
  unfold yesS
  apply sum_ok
  intro vs A H n o r hb h
  split at h
  rotate_left
  · cases h
  injection h with h
  subst h
  cases hb
  refine fsound_of_run tt_ok cokB mixed_ok Try.call45 Try.func45 rfl (rs := _) Try.results45 (size := 43) Try.ntmps45 (Nat.le_of_ble_eq_true rfl) rfl fun hp hfa hfh => ?_
  repeat ((conv => whnf); (with_reducible refine And.intro ?_ ?_); · first | exact True.intro | (intro hg0; simp only [hg0, Bool.not_false, Bool.not_true]; done) | assumption | omega | (intro _; refine ⟨True.intro, ?_⟩; omega) | (intro _; refine ⟨?_, True.intro⟩; omega) | (intro _; refine ⟨decide_eq_true ?_, ?_⟩ <;> omega) | (intro _; refine ⟨?_, ?_⟩ <;> first | omega | (simp [appG, Cd.holds]; done) | (simp [appG, Cd.holds]; omega)) | (refine decide_eq_true ?_; omega) | (intro _; omega) | (simp only [w_i64, w_u64, w_u32, w_u8]; omega) | exact ⟨U_nonneg _, U_lt32 _⟩ | exact R8_UL _ _ | exact R32_UL _ _ | (intro hg0; (repeat ((conv => whnf); (with_reducible refine And.intro ?_ ?_); · first | assumption | omega | (intro _; refine ⟨?_, ?_⟩ <;> first | assumption | omega | exact True.intro | (refine decide_eq_true ?_; omega) | (simp [appG, Cd.holds]; omega)) | (intro _; refine ⟨And.intro ?_ ?_, ?_⟩ <;> first | assumption | omega | (refine decide_eq_true ?_; omega)) | (simp only [hg0, Bool.and_self, Bool.true_and]; done) | (intro hg1; simp only [hg0, hg1, Bool.and_self, Bool.true_and]; done) | (simp [hg0]; done) | decide)); (conv => whnf); exact True.intro) | decide)
  conv => whnf
  refine ⟨[(0, ⟨0, some 15, []⟩), (1, ⟨1, some 16, []⟩), (2, ⟨3, some 17, []⟩), (3, ⟨7, some 18, []⟩), (4, ⟨15, some 19, []⟩), (5, ⟨31, some 20, []⟩), (6, ⟨63, some 21, []⟩), (7, ⟨127, some 22, []⟩), (8, ⟨255, some 23, []⟩), (9, ⟨511, some 24, []⟩), (10, ⟨1023, some 25, []⟩), (11, ⟨2047, some 26, []⟩), (12, ⟨4095, some 27, []⟩), (13, ⟨8191, some 28, []⟩), (14, ⟨4095, some 29, []⟩), (15, ⟨20479, some 30, []⟩), (16, ⟨65535, some 31, []⟩), (17, ⟨131071, some 32, []⟩), (18, ⟨262143, some 33, []⟩), (19, ⟨524287, some 34, []⟩), (20, ⟨1048575, some 35, []⟩), (21, ⟨524287, some 36, []⟩), (22, ⟨2621439, some 37, []⟩), (23, ⟨8388607, some 38, []⟩), (24, ⟨524287, some 39, [393]⟩), (25, ⟨17301503, some 40, []⟩), (26, ⟨67108863, some 41, []⟩), (27, ⟨134217727, some 42, []⟩), (28, ⟨268435455, some 0, []⟩)], 473, ?_⟩
  repeat ((conv => whnf); (with_reducible refine And.intro ?_ ?_); · first | exact True.intro | (intro hg0; simp only [hg0, Bool.not_false, Bool.not_true]; done) | assumption | omega | (intro _; refine ⟨True.intro, ?_⟩; omega) | (intro _; refine ⟨?_, True.intro⟩; omega) | (intro _; refine ⟨decide_eq_true ?_, ?_⟩ <;> omega) | (intro _; refine ⟨?_, ?_⟩ <;> first | omega | (simp [appG, Cd.holds]; done) | (simp [appG, Cd.holds]; omega)) | (refine decide_eq_true ?_; omega) | (intro _; omega) | (simp only [w_i64, w_u64, w_u32, w_u8]; omega) | exact ⟨U_nonneg _, U_lt32 _⟩ | exact R8_UL _ _ | exact R32_UL _ _ | (intro hg0; (repeat ((conv => whnf); (with_reducible refine And.intro ?_ ?_); · first | assumption | omega | (intro _; refine ⟨?_, ?_⟩ <;> first | assumption | omega | exact True.intro | (refine decide_eq_true ?_; omega) | (simp [appG, Cd.holds]; omega)) | (intro _; refine ⟨And.intro ?_ ?_, ?_⟩ <;> first | assumption | omega | (refine decide_eq_true ?_; omega)) | (simp only [hg0, Bool.and_self, Bool.true_and]; done) | (intro hg1; simp only [hg0, hg1, Bool.and_self, Bool.true_and]; done) | (simp [hg0]; done) | decide | (intro hg; exact And.intro hg (And.intro (fun _ => And.intro (And.intro hg (by decide)) (by decide)) True.intro)))); (conv => whnf); exact True.intro) | decide | (intro hg; exact And.intro hg (And.intro (fun _ => And.intro (And.intro hg (by decide)) (by decide)) True.intro)))
  conv => whnf
  have hx : L8 (fun x => 0) 0 ++ tapF 5 (Int.toNat 0) (tQ 0 3) = tRest 5 0 ++ tapF 5 (tBlk 0) (tBlk (0 + 3) - tBlk 0) := rfl
  have hy : List.drop (Int.toNat 3) (tRest 5 0 ++ tapF 5 (tBlk 0) (tBlk (0 + 3) - tBlk 0)) = tRest 5 3 := nx_drop 5 0 3
  have hz : L8 (UL (tRest 5 3)) (0 + 32 * tQ 0 3 - Int.toNat 3) ++ tapF 5 (0 + ((tQ 0 3 : Nat) : Int)).toNat (tQ (0 + 32 * tQ 0 3 - Int.toNat 3) 40) = tRest 5 3 ++ tapF 5 (tBlk 3) (tBlk (3 + 40) - tBlk 3) := by
    rw [show 0 + 32 * tQ 0 3 - Int.toNat 3 = 32 * tBlk 3 - 3 from rfl, nx_rest]; rfl
  have hw : List.take (Int.toNat 40) (tRest 5 3 ++ tapF 5 (tBlk 3) (tBlk (3 + 40) - tBlk 3)) = tAt 5 3 40 := nx_take 5 3 40
  have hv : List.take (Int.toNat 3) (tRest 5 0 ++ tapF 5 (tBlk 0) (tBlk (0 + 3) - tBlk 0)) = tAt 5 0 3 := nx_take 5 0 3
  simp only [hx, hy, hz, hw, hv]
  have s3 : strI (fun j => UL (tAt 5 0 3) (0 + j)) (Int.toNat 3) = sb (tAt 5 0 3) := strU (tAt_length _ _ _).symm
  have s43 : strI (fun j => UL (tapF 5 (Int.toNat 0 / 32) (rK (Int.toNat 0 % 32) (Int.toNat 43))) (Int.toNat 0 % 32 + j)) (Int.toNat 43) = sb (tAt 5 0 (3 + 40)) := strT 5 0 43
  have s40 : strI (fun j => UL (tAt 5 3 40) (0 + j)) (Int.toNat 40) = sb (tAt 5 3 40) := strU (tAt_length _ _ _).symm
  refine And.intro (fun hg => And.intro hg (And.intro (fun _ => And.intro (And.intro hg ?_) ?_) True.intro)) ?_
  · show decide (0 < 32 * rK (Int.toNat 0 % 32) (Int.toNat 43)) = true
    decide
  · decide
  repeat ((conv => whnf); (with_reducible refine And.intro ?_ ?_); · first | exact True.intro | (intro hg0; simp only [hg0, Bool.not_false, Bool.not_true]; done) | assumption | omega | (intro _; refine ⟨True.intro, ?_⟩; omega) | (intro _; refine ⟨?_, True.intro⟩; omega) | (intro _; refine ⟨decide_eq_true ?_, ?_⟩ <;> omega) | (intro _; refine ⟨?_, ?_⟩ <;> first | omega | (simp [appG, Cd.holds]; done) | (simp [appG, Cd.holds]; omega)) | (refine decide_eq_true ?_; omega) | (intro _; omega) | (simp only [w_i64, w_u64, w_u32, w_u8]; omega) | exact ⟨U_nonneg _, U_lt32 _⟩ | exact R8_UL _ _ | exact R32_UL _ _ | (intro hg0; (repeat ((conv => whnf); (with_reducible refine And.intro ?_ ?_); · first | assumption | omega | (intro _; refine ⟨?_, ?_⟩ <;> first | assumption | omega | exact True.intro | (refine decide_eq_true ?_; omega) | (simp [appG, Cd.holds]; omega)) | (intro _; refine ⟨And.intro ?_ ?_, ?_⟩ <;> first | assumption | omega | (refine decide_eq_true ?_; omega)) | (simp only [hg0, Bool.and_self, Bool.true_and]; done) | (intro hg1; simp only [hg0, hg1, Bool.and_self, Bool.true_and]; done) | (simp [hg0]; done))); (conv => whnf); exact True.intro))
  conv => whnf
  refine ⟨[], ?_⟩
  simp only [s3, s40, s43, sb_append, tAt_append 5 0 3 40, beq_self_eq_true, cond_true]
  repeat ((conv => whnf); (with_reducible refine And.intro ?_ ?_); · first | with_reducible rfl | exact (Bool.and_false _).symm | (intro _ _; with_reducible rfl) | exact True.intro | assumption | (intro h; exact absurd h (by decide)) | omega | (intro _; omega) | (intro _; refine ⟨?_, True.intro⟩; omega) | (intro _; refine ⟨?_, True.intro⟩; intro _; omega) | (refine decide_eq_false ?_; omega) | (refine decide_eq_true ?_; omega) | (simp only [w_i64, w_u64, w_u32, w_u8]; omega) | exact fun j hj => (put_0 hj).symm | (intro j _; simp only [Nat.zero_add]; done) | (simp [appG]; done) | (simp [appG]; omega) | (intro hgd; (try replace hgd := of_decide_eq_true hgd); (repeat ((conv => whnf); (with_reducible refine And.intro ?_ ?_); · first | with_reducible rfl | exact (Bool.and_false _).symm | (intro _ _; with_reducible rfl) | exact True.intro | assumption | (intro h; exact absurd h (by decide)) | omega | (intro _; omega) | (intro _; refine ⟨?_, True.intro⟩; omega) | (intro _; refine ⟨?_, True.intro⟩; intro _; omega) | (refine decide_eq_false ?_; omega) | (refine decide_eq_true ?_; omega) | (simp only [w_i64, w_u64, w_u32, w_u8]; omega) | exact fun j hj => (put_0 hj).symm | (intro j _; simp only [Nat.zero_add]; done) | (simp [appG]; done) | (simp [appG]; omega))); (conv => whnf); exact True.intro))
  conv => whnf
  exact True.intro
end Go.Proofs.Ytogijkmflhjhkaa
