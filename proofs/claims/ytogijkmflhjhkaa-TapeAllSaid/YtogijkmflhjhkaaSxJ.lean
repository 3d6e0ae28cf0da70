/- The symbolic evaluator: append is the model's. Plain lemmas, no condition. -/
import Derived.Test.YtogijkmflhjhkaaSxI
import Derived.Deep.AppendSrc
import Derived.Deep.Upon
namespace Go.Sx
open Go.RowKit
set_option linter.unusedSimpArgs false

set_option linter.unusedVariables false
section
variable {P : Program} {W : Env} {w0 w : World} {F : Nat → Prop} {ρ : Rho} {s : St} {a : Act} {op : Oper} {T : TypeId → Option TyI} {C : FuncId → Option Summary} {r : Res}

/-- What dies at an append. -/
def Dies (s : St) (t : Nat) (dl : List (Nat × SB)) : Prop := dl = [] ∨ (dl = [(t, .dead)] ∧ ∃ b0, getA s.heap t = some b0 ∧ b0.isOwn = true)
theorem Dies.get {t : Nat} {dl : List (Nat × SB)} (h : Dies s t dl) {t' : Nat} {b : SB} (hb : getA dl t' = some b) : t' = t ∧ b = .dead ∧ ∃ b0, getA s.heap t = some b0 ∧ b0.isOwn = true := by
  rcases h with rfl | ⟨rfl, h⟩
  · cases hb
  · simp only [getA] at hb
    split at hb
    · rename_i e; simp only [Nat.beq_eq] at e; injection hb with hb; exact ⟨e.symm, hb.symm, h⟩
    · cases hb

theorem getA_cons {α : Type} {t t' : Nat} {b : α} {l : List (Nat × α)} : getA ((t, b) :: l) t' = if t = t' then some b else getA l t' := by
  simp only [getA]
  by_cases h : t = t'
  · subst h; simp
  · rw [if_neg h]
    have : Nat.beq t t' = false := by
      cases hq : Nat.beq t t' with
      | false => rfl
      | true => exact absurd (Nat.eq_of_beq_eq_true hq) h
    rw [this]

theorem eff_append (h : R W w0 F ρ s a w) {t : Nat} {dl : List (Nat × SB)} (hd : Dies s t dl) {w' : World} {B : SB} {ρ' : Rho}
    (hρ : ρ' = ρ ∨ ∃ pl', ρ' = ρ.set s.next pl' ∧ pl'.b < w'.heap.size ∧ (w.heap.size ≤ pl'.b ∨ (dl = [(t, .dead)] ∧ ∃ pl0, ρ t = some pl0 ∧ pl0.b = pl'.b)))
    (hsat : Sat ρ' w' B s.next) (hs : w.heap.size ≤ w'.heap.size) (hos : w'.os = w.os) (htp : w'.tape = w.tape) (hout : w'.output = w.output)
    (hb : ∀ i, i < w.heap.size → (dl = [(t, .dead)] → ∀ pl0, ρ t = some pl0 → pl0.b ≠ i) → w'.heap[i]? = w.heap[i]?) :
    Eff ρ ρ' s.heap s.next ((s.next, B) :: dl) (s.next + 1) w w' := by
  refine ⟨?_, by omega, by omega, hs, hos, htp, hout, ?_, ?_, ?_, ?_, ?_⟩
  · rcases hρ with rfl | ⟨pl', rfl, _⟩
    · exact Ext.refl _
    · exact Rho.set_ext h.fresh
  · intro t' pl hp
    rcases hρ with rfl | ⟨pl', rfl, h1, h2⟩
    · exact .inl hp
    · simp only [Rho.set] at hp
      split at hp
      · rename_i e
        subst e
        injection hp with hp
        subst hp
        refine .inr ⟨Nat.le_refl _, by omega, h1, fun _ _ _ => ?_⟩
        rcases h2 with h2 | ⟨e, pl0, h3, h4⟩
        · exact .inl h2
        · subst e
          rcases hd with hd | ⟨_, b0, g1, g2⟩
          · cases hd
          · exact .inr ⟨t, b0, pl0, by rw [getA_cons, if_neg (Ne.symm (h.ne_next g1))]; simp [getA], g1, g2, h3, h4⟩
      · exact .inl hp
  · intro t' b hb'
    rw [getA_cons] at hb'
    split at hb'
    · rename_i e; subst e; injection hb' with hb'; subst hb'; exact hsat
    · obtain ⟨rfl, rfl, _⟩ := hd.get hb'; trivial
  · intro t' b hb'
    rw [getA_cons] at hb'
    split at hb'
    · exact .inl (by omega)
    · obtain ⟨rfl, rfl, g⟩ := hd.get hb'; exact .inr g
  · intro i hi hne
    refine hb i hi (fun e pl0 hp0 => ?_)
    subst e
    rcases hd with hd | ⟨_, b0, g1, g2⟩
    · cases hd
    · exact hne t .dead pl0 (by rw [getA_cons, if_neg (Ne.symm (h.ne_next g1))]; simp [getA]) hp0
  · intro t' t'' b b' hne h1 h2 h3 h4 g1 g2
    omega

theorem byteCells_ints (b : ByteArray) : byteCells b = intsV .u8 (bytesI b) b.size := by
  apply List.ext_getElem?
  intro j
  by_cases hj : j < b.size
  · have hj' : j < b.data.size := hj
    rw [intsV_get _ _ _ _ hj]
    simp only [byteCells, bytesI, List.getElem?_map, Array.getElem?_toList, Array.getElem?_eq_getElem hj', Option.map_some, Array.getD_eq_getD_getElem?, Option.getD_some]
  · rw [List.getElem?_eq_none (by rw [byteCells_length]; omega), List.getElem?_eq_none (by rw [intsV_length]; omega)]

theorem appSrc_ok (h : R W w0 F ρ s a w) (hT : TOk P T) {k : IntKind} {ty : TypeId} {tyi : TyI} {src : SA} {q : Cd} {g : Nat → Int} {m : Nat} {v : Value} (hti : T ty = some tyi) (e : s.appSrc k tyi src = some (q, g, m)) (hq : q.holds) (hv : RelA ρ src v) :
    Src P 1 ty v m (intsV k g m) w := by
  unfold St.appSrc at e
  split at e
  · rename_i el b z sv hd
    have hu : P.underlying ty = some (.slice el) := by
      have := (hT _ _ hti).1
      rw [hd] at this
      exact this.1
    rcases src_ok h e hq hv with ⟨rfl, rfl⟩ | ⟨A, cap, rfl, _, h2⟩
    · exact Src.ofNil w hu 0
    · refine Src.ofSlice w hu A m cap _ (by rw [intsV_length, Nat.mul_one]) (fun j u hju => ?_) (fun u hu' => by simp only [intsV, List.mem_map] at hu'; obtain ⟨_, _, rfl⟩ := hu'; rfl)
      have hj : j < m := by have := (List.getElem?_eq_some_iff.1 hju).1; rwa [intsV_length] at this
      rw [intsV_get _ _ _ _ hj] at hju
      injection hju with hju
      rw [← hju]; exact h2 j hj
  · rename_i b hd
    split at e
    · rename_i hk
      obtain rfl := kEq_spec hk
      injection e with e; injection e with e1 e2; injection e2 with e2 e3
      subst e2; subst e3
      have hu : P.underlying ty = some .string := by
        have := (hT _ _ hti).1
        rw [hd] at this
        exact this
      simp only [RelA, Rel1] at hv
      subst hv
      rw [← byteCells_ints]
      exact Src.ofString w hu b
    · cases e
  · cases e

theorem intsV_app (k : IntKind) (f g : Nat → Int) (n m : Nat) : intsV k (put_ f n m g) (n + m) = intsV k f n ++ intsV k g m := by
  apply List.ext_getElem?
  intro j
  by_cases h1 : j < n
  · rw [List.getElem?_append_left (by rw [intsV_length]; exact h1), intsV_get _ _ _ _ h1, intsV_get _ _ _ _ (by omega)]
    simp only [put_]; rw [if_neg (by omega)]
  · rw [List.getElem?_append_right (by rw [intsV_length]; omega), intsV_length]
    by_cases h2 : j < n + m
    · rw [intsV_get _ _ _ _ h2, intsV_get _ _ _ _ (by omega)]
      simp only [put_]; rw [if_pos (by omega)]
    · rw [List.getElem?_eq_none (by rw [intsV_length]; omega), List.getElem?_eq_none (by rw [intsV_length]; omega)]
theorem intsV_take (k : IntKind) (f : Nat → Int) (n m : Nat) (h : n ≤ m) : (intsV k f m).take n = intsV k f n := by
  apply List.ext_getElem?
  intro j
  by_cases h1 : j < n
  · rw [List.getElem?_take_of_lt h1, intsV_get _ _ _ _ h1, intsV_get _ _ _ _ (by omega)]
  · rw [List.getElem?_eq_none (by rw [List.length_take]; omega), List.getElem?_eq_none (by rw [intsV_length]; omega)]

theorem run_append_room_row (t tx ty e : TypeId) (i : TypeInfo) (ht : P.underlying t = some (.slice e)) (hi : P.info? e = some i) (hi1 : i.size = 1) (g sLen sCap : Nat) (bt : TypeId) (x : Value) (n : Nat) (news : List Value) (hs : Src P 1 tx x n news w)
    (hroom : sLen + n ≤ sCap) (cur : List Value) (hh : w.heap[g]? = some (.cells cur.toArray bt (0, 0))) (hl : sLen + n ≤ cur.length) :
    (Builtin.append_ #[t, tx] ty #[.slice (some ⟨g, 0, none⟩) sLen sCap, x]).run P w = .ok (.slice (some ⟨g, 0, none⟩) (sLen + n) sCap) (w.setRow g (cur.take sLen ++ news ++ cur.drop (sLen + n)).toArray) := by
  have hnl : news.length = n := by rw [hs.newsLen, Nat.mul_one]
  have hst := run_storeCells_at P g sLen bt news 0 _ w hh (by simp; omega) hs.one
  simp only [Nat.add_zero, hnl] at hst
  have hc := hs.cells
  rcases hs.kind with ⟨e', hk⟩ | hk <;> simp [Builtin.append_, run_underlying ht, run_underlying hk, sizeOf, typeInfo, hi, hi1, hs.len, hroom, hc, Addr.add_lit, hst]

theorem relS_zero : ∀ {l : List Seg}, segsLen l = 0 → RelS ρ l []
  | [], _ => rfl
  | .one _ :: _, h => by simp only [segsLen, Seg.len] at h; omega
  | .ints k f n :: r, h => by
    simp only [segsLen, Seg.len] at h
    have : n = 0 := by omega
    subst this
    exact ⟨[], by simp [intsV], relS_zero (by omega)⟩
  | .rows k f n :: r, h => by
    simp only [segsLen, Seg.len] at h
    exact ⟨[], [], rfl, by simp; omega, fun j u hj => by simp at hj, relS_zero (by omega)⟩

theorem relS_rows {k : IntKind} {g : Nat → Row} {us : List Value} (h : ∀ j u, us[j]? = some u → RelRow ρ k (g j) u) : RelS ρ [.rows k g us.length] us := ⟨us, [], by simp, rfl, h, rfl⟩

theorem joinS_ok {l l' : List Seg} {a b : List Value} (ha : RelS ρ l a) (hb : RelS ρ l' b) : RelS ρ (joinS l l') (a ++ b) := by
  have gen : RelS ρ (l ++ l') (a ++ b) := relS_append.2 ⟨a, b, rfl, ha, hb⟩
  unfold joinS
  split
  · rename_i nl k f n
    simp only [RelS] at ha
    subst ha
    obtain ⟨v, vs, rfl, h1, h2⟩ := hb
    simp only [RelS] at h2
    subst h2
    refine relS_rows (us := [v]) fun j u hj => ?_
    cases j with
    | zero => simp at hj; subst hj; exact h1
    | succ j => simp at hj
  · rename_i k r n nl k' f m
    split
    · rename_i hk
      obtain rfl := kEq_spec hk
      obtain ⟨us, vs, rfl, h0, h1, h2⟩ := ha
      simp only [RelS] at h2
      subst h2
      obtain ⟨v, vs', rfl, g1, g2⟩ := hb
      simp only [RelS] at g2
      subst g2
      have := relS_rows (ρ := ρ) (k := k) (g := putR r n fun _ => ⟨nl, f, m⟩) (us := us ++ [v]) fun j u hj => ?_
      · simpa [h0] using this
      · unfold putR
        by_cases hjn : j < n
        · rw [if_pos hjn]
          rw [List.getElem?_append_left (by omega)] at hj
          exact h1 j u hj
        · rw [if_neg hjn]
          rw [List.getElem?_append_right (by omega)] at hj
          have : j - us.length = 0 := by
            rcases Nat.lt_or_ge (j - us.length) 1 with h3 | h3
            · omega
            · rw [List.getElem?_eq_none (by simp; omega)] at hj; cases hj
          rw [this] at hj
          simp at hj
          subst hj
          exact g1
    · exact gen
  · rename_i k r n k' r' m
    split
    · rename_i hk
      obtain rfl := kEq_spec hk
      obtain ⟨us, vs, rfl, h0, h1, h2⟩ := ha
      simp only [RelS] at h2
      subst h2
      obtain ⟨us', vs', rfl, g0, g1, g2⟩ := hb
      simp only [RelS] at g2
      subst g2
      have := relS_rows (ρ := ρ) (k := k) (g := putR r n r') (us := us ++ us') fun j u hj => ?_
      · simpa [h0, g0] using this
      · unfold putR
        by_cases hjn : j < n
        · rw [if_pos hjn]
          rw [List.getElem?_append_left (by omega)] at hj
          exact h1 j u hj
        · rw [if_neg hjn]
          rw [List.getElem?_append_right (by omega), h0] at hj
          exact g1 _ u hj
    · exact gen
  · exact gen

theorem append_core (h : R W w0 F ρ s a w) {x y : Operand} {tx ty el : TypeId} {ie : TypeInfo} {ze : Value} {b : Nat} (hu : P.underlying tx = some (.slice el)) (c1 : P.info? el = some ie) (c2 : ie.size = 1) (c3 : ie.bytes = b) (c4 : ie.zero = some ze) (c5 : ze.oneCell' = true)
    {nl ex z : Bool} {t n : Nat} {dl : List (Nat × SB)} {m : Nat} {us : List Value} {L : List Seg} {p : Cd} (hx : execOp a.eval op = (do pure (Next.value (← Builtin.append_ #[tx, ty] op.type #[a.eval x, a.eval y]))))
    (hS : Src P 1 ty (a.eval y) m us w) (hDies : Dies s t dl) (hp5 : n + m ≤ 9223372036854775807) (hp6 : (n + m) * b ≤ 140737488355328)
    (hD : (nl = true ∧ a.eval x = .slice none 0 0 ∧ n = 0 ∧ RelS ρ L us) ∨ (nl = false ∧ ex = false ∧ n = 0 ∧ (∃ A, a.eval x = .slice (some A) 0 0) ∧ RelS ρ L us) ∨
      (nl = false ∧ dl = [(t, .dead)] ∧ ∃ pl cap vsn post, a.eval x = .slice (some ⟨pl.b, 0, none⟩) n cap ∧ ρ t = some pl ∧ pl.f = 0 ∧ cap = pl.n ∧ cap ≤ maxLen ∧ n ≤ cap ∧ (z = true → n = 0 → cap = 0) ∧ vsn.length = n ∧
        w.heap[pl.b]? = some (.cells (vsn ++ post).toArray el (0, 0)) ∧ (vsn ++ post).length = pl.n ∧ RelS ρ L (vsn ++ us))) :
    Ok P ρ s a w op ⟨p, some (Sx.sc (.sl (nl && Nat.beq m 0) ex z s.next 0 0 (n + m) (n + m))), (s.next, .gd (appG nl ex n m) (.own el L true)) :: dl, s.next + 1⟩ := by
  have hzc : ze.cells = #[ze] := one_cells c5
  have hul : us.length = m := by rw [hS.newsLen, Nat.mul_one]
  intro K Q hK
  unfold Oper.wp
  rw [hx]
  -- the arm that grows
  have hgrow : ∀ (base : Option Addr) (sCap : Nat) (vsn : List Value), a.eval x = .slice base n sCap → sCap < n + m → vsn.length = n → RelS ρ L (vsn ++ us) → (Builtin.firstCells ie.size n (.slice base n sCap)).run P w.drew = .ok vsn.toArray w.drew → (nl && Nat.beq m 0) = false →
      ∃ v w', (Builtin.append_ #[tx, ty] op.type #[a.eval x, a.eval y]).run P w = .ok v w' ∧ K (a.put op.dst v) w' := by
    intro base sCap vsn hev hlt hvn hrel hold hnl0
    have hrun := run_append_grow_src (P := P) w tx ty op.type el ie ze hu c1 c4 base n sCap vsn hold (a.eval y) m us (by rw [c2]; exact hS) hlt (by omega) (by rw [c3]; exact growslice_fits hlt hp6)
    have hge := grownCap_ge w (n + m) sCap el
    have hle := grownCap_le_maxLen w (n + m) sCap el (by simp only [maxLen]; omega)
    have hrow : (vsn ++ us).toArray ++ Builtin.zeroCells ze.cells (grownCap w (n + m) sCap el - (n + m)) = ((vsn ++ us) ++ (Builtin.zeroCells ze.cells (grownCap w (n + m) sCap el - (n + m))).toList).toArray := by
      apply Array.ext'; simp
    rw [hrow] at hrun
    refine ⟨_, _, by rw [hev]; exact hrun, ?_⟩
    have hlen : ((vsn ++ us) ++ (Builtin.zeroCells ze.cells (grownCap w (n + m) sCap el - (n + m))).toList).length = grownCap w (n + m) sCap el := by
      rw [List.length_append, List.length_append, hvn, hul, Array.length_toList, size_zeroCells, hzc]; simp; omega
    refine hK _ _ (ρ.set s.next ⟨w.heap.size, 0, grownCap w (n + m) sCap el⟩) ?_ (fun sv hsv => ?_)
    · refine eff_append h hDies (.inr ⟨_, rfl, by simp, .inl (Nat.le_refl _)⟩) ?_ (by simp) rfl rfl rfl (fun i hi _ => heap_alloc_old w.drew _ hi)
      intro _
      exact ⟨_, _, _, Rho.set_same, rfl, heap_alloc_new w.drew _, hlen, hrel.ext (Rho.set_ext h.fresh), fun h => by cases h⟩
    · injection hsv with hsv
      subst hsv
      rw [hnl0]
      exact .inr ⟨rfl, _, _, rfl, Nat.le_refl _, hge, hle, fun _ => ⟨_, Rho.set_same, rfl, by simp⟩, fun _ hnm => by omega⟩
  have hfin : ∃ v w', (Builtin.append_ #[tx, ty] op.type #[a.eval x, a.eval y]).run P w = .ok v w' ∧ K (a.put op.dst v) w' := by
    rcases hD with ⟨d1, d2, d3, d4⟩ | ⟨d1, d2, d3, ⟨A, d4⟩, d5⟩ | ⟨d1, d2, pl, cap, vsn, post, d3, d4, d5, d6, d7, d8, dz, d9, d10, d11, d12⟩
    · subst d3
      by_cases hm : m = 0
      · subst hm
        have hrun := run_append_nothing (P := P) w tx ty op.type el ie hu c1 none 0 0 (Nat.le_refl _) (a.eval y) (by rw [c2]; exact List.eq_nil_of_length_eq_zero hul ▸ hS)
        refine ⟨_, _, by rw [d2]; exact hrun, hK _ _ ρ ?_ (fun sv hsv => ?_)⟩
        · refine eff_append h hDies (.inl rfl) ?_ (Nat.le_refl _) rfl rfl rfl (fun _ _ _ => rfl)
          rw [d1]; intro hh; cases ex <;> cases hh
        · injection hsv with hsv
          subst hsv
          exact .inl ⟨by rw [d1]; rfl, rfl, rfl, rfl⟩
      · exact hgrow none 0 [] d2 (by omega) rfl d4 (run_firstCells_none w.drew ie.size 0 0 0) (by rw [d1]; cases m <;> first | rfl | exact absurd rfl hm)
    · subst d3
      by_cases hm : m = 0
      · subst hm
        have hrun := run_append_nothing (P := P) w tx ty op.type el ie hu c1 (some A) 0 0 (Nat.le_refl _) (a.eval y) (by rw [c2]; exact List.eq_nil_of_length_eq_zero hul ▸ hS)
        refine ⟨_, _, by rw [d4]; exact hrun, hK _ _ ρ ?_ (fun sv hsv => ?_)⟩
        · refine eff_append h hDies (.inl rfl) ?_ (Nat.le_refl _) rfl rfl rfl (fun _ _ _ => rfl)
          rw [d2]; intro hh; cases hh
        · injection hsv with hsv
          subst hsv
          rw [d1, d2]
          exact .inr ⟨rfl, A, 0, rfl, Nat.le_refl _, Nat.le_refl _, Nat.zero_le _, (fun hc => by rcases hc with hc | hc <;> cases hc), fun _ _ => rfl⟩
      · exact hgrow (some A) 0 [] d4 (by omega) rfl d5 (run_firstCells_some w.drew ie.size 0 A 0 0 [] (by simp) (fun j v hv => by simp at hv)) (by rw [d1]; rfl)
    · by_cases hr : n + m ≤ cap
      · have hrun := run_append_room_row (P := P) (w := w) tx ty op.type el ie hu c1 c2 pl.b n cap el (a.eval y) m us hS hr _ d10 (by omega)
        have hrow : (vsn ++ post).take n ++ us ++ (vsn ++ post).drop (n + m) = (vsn ++ us) ++ (vsn ++ post).drop (n + m) := by
          rw [List.take_left' d9]
        rw [hrow] at hrun
        refine ⟨_, _, by rw [d3]; exact hrun, hK _ _ (ρ.set s.next pl) ?_ (fun sv hsv => ?_)⟩
        · refine eff_append h hDies (.inr ⟨pl, rfl, by rw [setRow_size]; exact (h.dom _ _ d4).2, .inr ⟨d2, pl, d4, rfl⟩⟩) ?_ (by simp) rfl rfl rfl (fun i hi hne => setRow_other w pl.b i _ (fun e => hne d2 pl d4 e.symm))
          intro _
          refine ⟨pl, _, _, Rho.set_same, d5, setRow_heap w pl.b _ _ _ _ d10, ?_, d12.ext (Rho.set_ext h.fresh), fun h => by cases h⟩
          rw [List.length_append, List.length_append, d9, hul, List.length_drop]; omega
        · injection hsv with hsv
          subst hsv
          refine .inr ⟨by rw [d1]; rfl, _, _, rfl, Nat.le_refl _, hr, d7, (fun _ => ⟨pl, Rho.set_same, by rw [d5], by omega⟩), fun hz hnm => dz hz (by omega)⟩
      · refine hgrow (some ⟨pl.b, 0, none⟩) cap vsn d3 (by omega) d9 d12 ?_ (by rw [d1]; rfl)
        refine run_firstCells_some w.drew ie.size n ⟨pl.b, 0, none⟩ n cap vsn (by rw [d9, c2, Nat.mul_one]) (fun j v hv => ?_)
        have hj : j < vsn.length := (List.getElem?_eq_some_iff.1 hv).1
        rw [Addr.add_mid, Nat.zero_add]
        have : w.drew.cell? ⟨pl.b, j, none⟩ = w.cell? ⟨pl.b, j, none⟩ := rfl
        rw [this, cell_in d10, List.getElem?_append_left hj, hv]
  obtain ⟨v, w', hr1, hr2⟩ := hfin
  simp only [Sem.run_bind, hr1, Result.andThen_ok, Sem.run_pure]
  exact hr2

/-- What appC gives of a destination. -/
theorem appC_ok {nl ex z : Bool} {t n M c : Nat} {q : Cd} {v : Value} (hc : (appC nl ex z n M q).holds) (hv : Rel1 ρ (.sl nl ex z t 0 0 n c) v) :
    (nl = true ∧ v = .slice none 0 0 ∧ n = 0) ∨ (nl = false ∧ ex = false ∧ n = 0 ∧ ∃ A, v = .slice (some A) 0 0) ∨
      (nl = false ∧ q.holds ∧ n ≤ M ∧ ∃ pl cap, v = .slice (some ⟨pl.b, pl.f, none⟩) n cap ∧ ρ t = some pl ∧ pl.f + cap = pl.n ∧ cap ≤ maxLen ∧ n ≤ cap ∧ (z = true → n = 0 → cap = 0)) := by
  rcases hv with ⟨v1, v2, v3, _⟩ | ⟨v1, A, cap, v2, v3, v4, v5, v6, v7⟩
  · exact .inl ⟨v1, v2, v3⟩
  · have known : (0 < n ∨ ex = true) → q.holds ∧ n ≤ M → ((nl = true ∧ v = .slice none 0 0 ∧ n = 0) ∨ (nl = false ∧ ex = false ∧ n = 0 ∧ ∃ A, v = .slice (some A) 0 0) ∨
      (nl = false ∧ q.holds ∧ n ≤ M ∧ ∃ pl cap, v = .slice (some ⟨pl.b, pl.f, none⟩) n cap ∧ ρ t = some pl ∧ pl.f + cap = pl.n ∧ cap ≤ maxLen ∧ n ≤ cap ∧ (z = true → n = 0 → cap = 0))) := fun hk hq => by
      obtain ⟨pl, z1, z2, z3⟩ := v6 hk
      exact .inr (.inr ⟨v1, hq.1, hq.2, pl, cap, by rw [v2, z2]; simp, z1, by omega, v5, by omega, v7⟩)
    unfold appC at hc
    cases ex with
    | true => exact known (.inr rfl) (hc v1)
    | false =>
      cases z with
      | true =>
        have hc : 0 < n → q.holds ∧ n ≤ M := hc
        by_cases hn : 0 < n
        · exact known (.inl hn) (hc hn)
        · have hn0 : n = 0 := by omega
          subst hn0
          have := v7 rfl rfl
          subst this
          exact .inr (.inl ⟨v1, rfl, rfl, A, v2⟩)
      | false =>
        have hc : nl = false → q.holds ∧ n ≤ M ∧ 0 < n := hc
        obtain ⟨h1, h2, h3⟩ := hc v1
        exact known (.inl h3) ⟨h1, h2⟩

theorem srcO_ok (h : R W w0 F ρ s a w) {ty e' : TypeId} (hu : P.underlying ty = some (.slice e')) {c : SC} {q : Cd} {l : List Seg} {m : Nat} {v : Value} (e : s.srcO c = some (q, l, m)) (hq : q.holds) (hv : Rel1 ρ c v) :
    ∃ us, Src P 1 ty v m us w ∧ RelS ρ l us := by
  unfold St.srcO at e
  split at e
  · rename_i nl k r n
    injection e with e; injection e with e1 e; injection e with e2 e3
    subst e1; subst e2; subst e3
    rcases hv with ⟨_, h2, h3⟩ | ⟨_, A, cap, h2, _, h4, h5⟩
    · subst h3; subst h2
      exact ⟨[], Src.ofNil w hu 0, relS_zero rfl⟩
    · subst h2
      have hget : ∀ j, j < n → ∃ u, ((List.range n).map fun j => (ρ.im (A.add j)).getD undef)[j]? = some u ∧ ρ.im (A.add j) = some u ∧ RelRow ρ k (r j) u := by
        intro j hj
        obtain ⟨u, g1, g2⟩ := h5 j hj
        exact ⟨u, by simp [hj, g1], g1, g2⟩
      have hlt : ∀ j u, ((List.range n).map fun j => (ρ.im (A.add j)).getD undef)[j]? = some u → j < n ∧ ρ.im (A.add j) = some u ∧ RelRow ρ k (r j) u := by
        intro j u hju
        have hj : j < n := by have := (List.getElem?_eq_some_iff.1 hju).1; simpa using this
        obtain ⟨u', g1, g2, g3⟩ := hget j hj
        rw [hju] at g1; injection g1 with g1; subst g1
        exact ⟨hj, g2, g3⟩
      refine ⟨(List.range n).map fun j => (ρ.im (A.add j)).getD undef, Src.ofSlice w hu A n cap _ (by simp) (fun j u hju => h.imm _ _ (hlt j u hju).2.1) (fun u hu' => ?_), ?_⟩
      · obtain ⟨j, hj, rfl⟩ := List.mem_iff_getElem.1 hu'
        exact (hlt j _ (List.getElem?_eq_getElem hj)).2.2.one
      · have := relS_rows (ρ := ρ) (k := k) (g := r) (us := (List.range n).map fun j => (ρ.im (A.add j)).getD undef) (fun j u hju => (hlt j u hju).2.2)
        simpa using this
  · rename_i nl ex z t o f n c
    split at e
    · rename_i q' bt l' mo hb
      injection e with e; injection e with e1 e; injection e with e2 e3
      subst e1; subst e2; subst e3
      obtain ⟨hq1, hq2⟩ := hq
      have hq1 : 0 < n → q'.holds := hq1
      have hq2 : n = segsLen l' := hq2
      by_cases hn : 0 < n
      · rcases hv with ⟨_, _, v3, _⟩ | ⟨v1, A, cap, v2, v3, v4, v5, v6, v7⟩
        · omega
        · obtain ⟨pl, z1, z2, z3⟩ := v6 (.inl hn)
          obtain ⟨pl', vs, post, u1, u2, u3, u4, u5, u6⟩ := hp_ok h hb (hq1 hn)
          rw [z1] at u1; injection u1 with u1; subst u1
          have hvl : vs.length = n := (relS_len u5).trans hq2.symm
          refine ⟨vs, ?_, u5⟩
          rw [v2, z2, u2]
          refine Src.ofSlice w hu _ n cap vs (by rw [hvl, Nat.mul_one]) (fun j u hju => ?_) (relS_one u5)
          have hj : j < vs.length := (List.getElem?_eq_some_iff.1 hju).1
          rw [Addr.add_mid, Nat.add_zero, Nat.zero_add, cell_in u3, List.getElem?_append_left hj, hju]
      · have hn0 : n = 0 := by omega
        subst hn0
        refine ⟨[], ?_, relS_zero hq2.symm⟩
        rcases hv with ⟨_, v2, _⟩ | ⟨_, A, cap, v2, _⟩
        · rw [v2]; exact Src.ofNil w hu 0
        · rw [v2]; exact Src.ofSlice w hu A 0 cap [] rfl (fun j u hj => by simp at hj) (fun u hu' => by cases hu')
    · split at e
      · injection e with e; injection e with e1 e; injection e with e2 e3
        subst e1; subst e2; subst e3
        rcases hv with ⟨_, v2, v3, _⟩ | ⟨v1, _⟩
        · subst v3; rw [v2]; exact ⟨[], Src.ofNil w hu 0, rfl⟩
        · cases v1
      · cases e
    · cases e
  · cases e

theorem act_append (h : R W w0 F ρ s a w) (hT : TOk P T) {c : Call} (ho : op.op = .call c) (hc : c.callee = .builtin .append) (e : act T C s op = some r) (hp : r.p.holds) : Ok P ρ s a w op r := by
  have hx : execOp a.eval op = (do pure (Next.value (← Builtin.append_ c.argTypes op.type (c.args.map a.eval)))) := by simp only [execOp, ho, resolve, hc, pure_bind, invoke, builtin]
  simp only [act, ho, hc] at e
  split at e
  · rename_i x y tx ty h1 h2
    rw [call_arg2 h1, call_ty2 h2] at hx
    simp only [List.map_toArray, List.map_cons, List.map_nil] at hx
    unfold actAppend at e
    split at e
    · rename_i el b k f0 m0 sz zr tyi p nl ex z t o f n c0 q src hti htyi h3 h4
      split at e
      · rename_i p' g dl q' hs m hdst hsrc
        rw [St.newS_eq] at e
        injection e with e
        subst e
        obtain ⟨hp1, hp2, hp3, hp4, hp5, hp6⟩ := hp
        obtain ⟨hu, ie, ze, c1, c2, c3, c4, c5, rfl, c7⟩ := (hT _ _ hti).1
        have hS := appSrc_ok h hT htyi hsrc hp4 (ev1_ok h h4 hp2)
        unfold St.appDst at hdst
        split at hdst
        · rename_i q0 e' k' g' M mm hb
          split at hdst
          · rename_i hek
            simp only [Bool.and_eq_true, Nat.beq_eq] at hek
            obtain ⟨rfl, hk⟩ := hek
            obtain rfl := kEq_spec hk
            injection hdst with hdst; injection hdst with d1 d2; injection d2 with d2 d3
            subst d1; subst d2; subst d3
            refine append_core h hu c1 c2 c3 c4 c5 (by simpa using hx) hS (.inr ⟨rfl, hp_own hb⟩) hp5 hp6 ?_
            have nil : n = 0 → RelS ρ [.ints k (put_ g' n m hs) (n + m)] (intsV k hs m) := fun hn => ⟨[], by subst hn; rw [intsV_app]; simp [intsV], rfl⟩
            rcases appC_ok hp3 (ev1_ok h h3 hp1) with ⟨v1, v2, v3⟩ | ⟨v1, v2, v3, v4⟩ | ⟨v1, v2, v3, pl, cap, v4, v5, v6, v7, v8, v9⟩
            · exact .inl ⟨v1, v2, v3, nil v3⟩
            · exact .inr (.inl ⟨v1, v2, v3, v4, nil v3⟩)
            · obtain ⟨pl', vs, post, u1, u2, u3, u4, ⟨vs', rfl, u5⟩, u6⟩ := hp_ok h hb v2
              rw [v5] at u1; injection u1 with u1; subst u1
              simp only [RelS] at u5
              subst u5
              rw [List.append_nil] at u3 u4
              refine .inr (.inr ⟨v1, rfl, pl, cap, intsV k g' n, (intsV k g' M).drop n ++ post, by rw [v4, u2], v5, u2, by omega, v7, v8, v9, intsV_length _ _ _, ?_, ?_, ⟨[], by rw [intsV_app]; simp, rfl⟩⟩)
              · rw [← intsV_take k g' n M v3, ← List.append_assoc, List.take_append_drop]; exact u3
              · rw [← intsV_take k g' n M v3, ← List.append_assoc, List.take_append_drop]; exact u4
          · cases hdst
        · split at hdst
          · injection hdst with hdst; injection hdst with d1 d2; injection d2 with d2 d3
            subst d1; subst d2; subst d3
            refine append_core (t := t) h hu c1 c2 c3 c4 c5 (by simpa using hx) hS (.inl rfl) hp5 hp6 (.inl ?_)
            rcases ev1_ok h h3 hp1 with ⟨v1, v2, v3, _⟩ | ⟨v1, _⟩
            · exact ⟨v1, v2, v3, ⟨[], by subst v3; rw [intsV_app]; simp [intsV], rfl⟩⟩
            · cases v1
          · cases hdst
        · cases hdst
      · cases e
    · rename_i el b z0 sz zr el2 b2 z2 sz2 zr2 p nl ex z t o f n c0 q src hti htyi h3 h4
      split at e
      · rename_i p' l dl q' l' m hdst hsrc
        rw [St.newS_eq] at e
        injection e with e
        subst e
        obtain ⟨hp1, hp2, hp3, hp4, hp5, hp6⟩ := hp
        obtain ⟨hu, ie, ze, c1, c2, c3, c4, c5, c6⟩ := (hT _ _ hti).1
        obtain ⟨hu2, _⟩ := (hT _ _ htyi).1
        obtain ⟨us, hS, hus⟩ := srcO_ok h hu2 hsrc hp4 (ev1_ok h h4 hp2)
        unfold St.appDstO at hdst
        split at hdst
        · rename_i q0 e' L mm hb
          split at hdst
          · rename_i hek
            simp only [Nat.beq_eq] at hek
            subst hek
            injection hdst with hdst; injection hdst with d1 d2; injection d2 with d2 d3
            subst d1; subst d2; subst d3
            obtain ⟨hp3, hnL⟩ := hp3
            have hnL : n = segsLen L := hnL
            refine append_core h hu c1 c2 c3 c4 c5 (by simpa using hx) hS (.inr ⟨rfl, hp_own hb⟩) hp5 hp6 ?_
            have nil : n = 0 → RelS ρ (joinS L l') us := fun hn => by
              have := joinS_ok (ρ := ρ) (a := []) (relS_zero (hnL.symm.trans hn)) hus
              simpa using this
            rcases appC_ok hp3 (ev1_ok h h3 hp1) with ⟨v1, v2, v3⟩ | ⟨v1, v2, v3, v4⟩ | ⟨v1, v2, v3, pl, cap, v4, v5, v6, v7, v8, v9⟩
            · exact .inl ⟨v1, v2, v3, nil v3⟩
            · exact .inr (.inl ⟨v1, v2, v3, v4, nil v3⟩)
            · obtain ⟨pl', vs, post, u1, u2, u3, u4, u5, u6⟩ := hp_ok h hb v2
              rw [v5] at u1; injection u1 with u1; subst u1
              exact .inr (.inr ⟨v1, rfl, pl, cap, vs, post, by rw [v4, u2], v5, u2, by omega, v7, v8, v9, (relS_len u5).trans hnL.symm, u3, u4, joinS_ok u5 hus⟩)
          · cases hdst
        · split at hdst
          · injection hdst with hdst; injection hdst with d1 d2; injection d2 with d2 d3
            subst d1; subst d2; subst d3
            refine append_core (t := t) h hu c1 c2 c3 c4 c5 (by simpa using hx) hS (.inl rfl) hp5 hp6 (.inl ?_)
            rcases ev1_ok h h3 hp1 with ⟨v1, v2, v3, _⟩ | ⟨v1, _⟩
            · refine ⟨v1, v2, v3, ?_⟩
              have := joinS_ok (ρ := ρ) (l := []) (a := []) rfl hus
              simpa using this
            · cases v1
          · cases hdst
        · cases hdst
      · cases e
    · cases e
  · cases e

end
end Go.Sx
