/- The table of the types that the evaluator knows: made by a program of ours (gent.py). Definitions and plain lemmas, no condition. -/
import Derived.Test.YtcgidcnmhclepaaSxN
import Derived.Test.YtcgidcnmhclepaaProg
namespace Go.Proofs.Ytcgidcnmhclepaa
open Go.Sx Go.RowKit

theorem info_of_run {P : Program} {t : TypeId} {i : TypeInfo} (h : ∀ w, (typeInfo t).run P w = .ok i w) : P.info? t = some i := by
  have h0 := h default
  unfold typeInfo at h0
  cases hq : P.info? t with
  | none => simp [hq] at h0
  | some j => simp [hq] at h0; rw [h0]

def TL : List (Nat × TyI) := [
  (24, ⟨.slice 5 1 (.ints .u8 (fun _ => 0) 0), 1, [.one (.sl true false true 999999 0 0 0 0)]⟩),
  (5, ⟨.int .u8, 1, [.one (.int .u8 0)]⟩),
  (46, ⟨.int .u64, 1, [.one (.int .u64 0)]⟩),
  (3, ⟨.int .i64, 1, [.one (.int .i64 0)]⟩),
  (2, ⟨.int .i64, 1, [.one (.int .i64 0)]⟩),
  (4, ⟨.bool, 1, [.one (.bool false)]⟩),
  (9, ⟨.str, 1, [.one (.str ByteArray.empty)]⟩),
  (25, ⟨.int .u32, 1, [.one (.int .u32 0)]⟩),
  (30, ⟨.int .i64, 1, [.one (.int .i64 0)]⟩),
  (42, ⟨.slice 2 8 (.ints .i64 (fun _ => 0) 0), 1, [.one (.sl true false true 999999 0 0 0 0)]⟩),
  (6, ⟨.int .u8, 1, [.one (.int .u8 0)]⟩),
  (7, ⟨.struct [(0, 1), (1, 1), (2, 1), (3, 1)], 4, [.one (.int .i64 0), .one (.int .i64 0), .one (.bool false), .one (.int .u8 0)]⟩),
  (8, ⟨.struct [(0, 1), (1, 1), (2, 1), (3, 1)], 4, [.one (.int .i64 0), .one (.int .i64 0), .one (.bool false), .one (.int .u8 0)]⟩),
  (10, ⟨.str, 1, [.one (.str ByteArray.empty)]⟩),
  (11, ⟨.str, 1, [.one (.str ByteArray.empty)]⟩),
  (12, ⟨.int .u64, 1, [.one (.int .u64 0)]⟩),
  (13, ⟨.struct [(0, 1), (1, 1)], 2, [.one (.str ByteArray.empty), .one (.int .u64 0)]⟩),
  (14, ⟨.struct [(0, 1), (1, 1)], 2, [.one (.str ByteArray.empty), .one (.int .u64 0)]⟩),
  (15, ⟨.ptr, 1, [.one .nilp]⟩),
  (16, ⟨.ptr, 1, [.one .nilp]⟩),
  (17, ⟨.ptr, 1, [.one .nilp]⟩),
  (18, ⟨.struct [(0, 1)], 1, [.one .nilp]⟩),
  (19, ⟨.struct [(0, 1)], 1, [.one .nilp]⟩),
  (21, ⟨.int .i32, 1, [.one (.int .i32 0)]⟩),
  (22, ⟨.slice 3 8 (.ints .i64 (fun _ => 0) 0), 1, [.one (.sl true false true 999999 0 0 0 0)]⟩),
  (36, ⟨.int .u64, 1, [.one (.int .u64 0)]⟩),
  (48, ⟨.struct [(0, 1), (1, 1), (2, 1), (3, 1)], 4, [.one .nilp, .one .nilp, .one .nilp, .one (.str ByteArray.empty)]⟩),
  (49, ⟨.struct [(0, 1), (1, 1), (2, 1), (3, 1)], 4, [.one .nilp, .one .nilp, .one .nilp, .one (.str ByteArray.empty)]⟩),
  (54, ⟨.int .u8, 1, [.one (.int .u8 0)]⟩),
  (55, ⟨.int .u8, 1, [.one (.int .u8 0)]⟩),
  (57, ⟨.ptr, 1, [.one .nilp]⟩),
  (58, ⟨.int .i32, 1, [.one (.int .i32 0)]⟩),
  (59, ⟨.int .i32, 1, [.one (.int .i32 0)]⟩)]
def TT (t : TypeId) : Option TyI := getA TL t

theorem tt_ok : TOk Try.prog TT := by
  have h : ∀ x ∈ TL, x.2.d.ok Try.prog x.1 x.2.zero x.2.size ∧ ∃ i z, Try.prog.info? x.1 = some i ∧ i.size = x.2.size ∧ i.zero = some z ∧ ∀ ρ, RelS ρ x.2.zero z.cells.toList := by
    unfold TL
    simp only [List.forall_mem_cons, List.not_mem_nil, false_implies, implies_true, and_true]
    refine ⟨?_, ?_, ?_, ?_, ?_, ?_, ?_, ?_, ?_, ?_, ?_, ?_, ?_, ?_, ?_, ?_, ?_, ?_, ?_, ?_, ?_, ?_, ?_, ?_, ?_, ?_, ?_, ?_, ?_, ?_, ?_, ?_, ?_⟩
    · exact ⟨⟨Try.underlying24, Try.t5, _, info_of_run Try.typeInfo5, rfl, rfl, rfl, rfl, rfl, Try.underlying5⟩, Try.t24, _, info_of_run Try.typeInfo24, rfl, rfl, fun _ => ⟨_, _, rfl, .inl ⟨rfl, rfl, rfl, rfl⟩, rfl⟩⟩
    · exact ⟨Try.underlying5, Try.t5, _, info_of_run Try.typeInfo5, rfl, rfl, fun _ => ⟨_, _, rfl, rfl, rfl⟩⟩
    · exact ⟨Try.underlying46, Try.t46, _, info_of_run Try.typeInfo46, rfl, rfl, fun _ => ⟨_, _, rfl, rfl, rfl⟩⟩
    · exact ⟨Try.underlying3, Try.t3, _, info_of_run Try.typeInfo3, rfl, rfl, fun _ => ⟨_, _, rfl, rfl, rfl⟩⟩
    · exact ⟨Try.underlying2, Try.t2, _, info_of_run Try.typeInfo2, rfl, rfl, fun _ => ⟨_, _, rfl, rfl, rfl⟩⟩
    · exact ⟨Try.underlying4, Try.t4, _, info_of_run Try.typeInfo4, rfl, rfl, fun _ => ⟨_, _, rfl, rfl, rfl⟩⟩
    · exact ⟨Try.underlying9, Try.t9, _, info_of_run Try.typeInfo9, rfl, rfl, fun _ => ⟨_, _, rfl, rfl, rfl⟩⟩
    · exact ⟨Try.underlying25, Try.t25, _, info_of_run Try.typeInfo25, rfl, rfl, fun _ => ⟨_, _, rfl, rfl, rfl⟩⟩
    · exact ⟨Try.underlying30, Try.t30, _, info_of_run Try.typeInfo30, rfl, rfl, fun _ => ⟨_, _, rfl, rfl, rfl⟩⟩
    · exact ⟨⟨Try.underlying42, Try.t2, _, info_of_run Try.typeInfo2, rfl, rfl, rfl, rfl, rfl, Try.underlying2⟩, Try.t42, _, info_of_run Try.typeInfo42, rfl, rfl, fun _ => ⟨_, _, rfl, .inl ⟨rfl, rfl, rfl, rfl⟩, rfl⟩⟩
    · exact ⟨Try.underlying6, Try.t6, _, info_of_run Try.typeInfo6, rfl, rfl, fun _ => ⟨_, _, rfl, rfl, rfl⟩⟩
    · refine ⟨⟨_, Try.underlying7, rfl, fun i x h => ?_⟩, Try.t7, _, info_of_run Try.typeInfo7, rfl, rfl, fun _ => ⟨_, _, rfl, rfl, ⟨_, _, rfl, rfl, ⟨_, _, rfl, rfl, ⟨_, _, rfl, rfl, rfl⟩⟩⟩⟩⟩
      match i with
      | 0 => simp at h; subst h; exact ⟨_, rfl, rfl, Try.t2, info_of_run Try.typeInfo2, rfl, by decide⟩
      | 1 => simp at h; subst h; exact ⟨_, rfl, rfl, Try.t3, info_of_run Try.typeInfo3, rfl, by decide⟩
      | 2 => simp at h; subst h; exact ⟨_, rfl, rfl, Try.t4, info_of_run Try.typeInfo4, rfl, by decide⟩
      | 3 => simp at h; subst h; exact ⟨_, rfl, rfl, Try.t6, info_of_run Try.typeInfo6, rfl, by decide⟩
      | n + 4 => simp at h
    · refine ⟨⟨_, Try.underlying8, rfl, fun i x h => ?_⟩, Try.t8, _, info_of_run Try.typeInfo8, rfl, rfl, fun _ => ⟨_, _, rfl, rfl, ⟨_, _, rfl, rfl, ⟨_, _, rfl, rfl, ⟨_, _, rfl, rfl, rfl⟩⟩⟩⟩⟩
      match i with
      | 0 => simp at h; subst h; exact ⟨_, rfl, rfl, Try.t2, info_of_run Try.typeInfo2, rfl, by decide⟩
      | 1 => simp at h; subst h; exact ⟨_, rfl, rfl, Try.t3, info_of_run Try.typeInfo3, rfl, by decide⟩
      | 2 => simp at h; subst h; exact ⟨_, rfl, rfl, Try.t4, info_of_run Try.typeInfo4, rfl, by decide⟩
      | 3 => simp at h; subst h; exact ⟨_, rfl, rfl, Try.t6, info_of_run Try.typeInfo6, rfl, by decide⟩
      | n + 4 => simp at h
    · exact ⟨Try.underlying10, Try.t10, _, info_of_run Try.typeInfo10, rfl, rfl, fun _ => ⟨_, _, rfl, rfl, rfl⟩⟩
    · exact ⟨Try.underlying11, Try.t11, _, info_of_run Try.typeInfo11, rfl, rfl, fun _ => ⟨_, _, rfl, rfl, rfl⟩⟩
    · exact ⟨Try.underlying12, Try.t12, _, info_of_run Try.typeInfo12, rfl, rfl, fun _ => ⟨_, _, rfl, rfl, rfl⟩⟩
    · refine ⟨⟨_, Try.underlying13, rfl, fun i x h => ?_⟩, Try.t13, _, info_of_run Try.typeInfo13, rfl, rfl, fun _ => ⟨_, _, rfl, rfl, ⟨_, _, rfl, rfl, rfl⟩⟩⟩
      match i with
      | 0 => simp at h; subst h; exact ⟨_, rfl, rfl, Try.t9, info_of_run Try.typeInfo9, rfl, by decide⟩
      | 1 => simp at h; subst h; exact ⟨_, rfl, rfl, Try.t12, info_of_run Try.typeInfo12, rfl, by decide⟩
      | n + 2 => simp at h
    · refine ⟨⟨_, Try.underlying14, rfl, fun i x h => ?_⟩, Try.t14, _, info_of_run Try.typeInfo14, rfl, rfl, fun _ => ⟨_, _, rfl, rfl, ⟨_, _, rfl, rfl, rfl⟩⟩⟩
      match i with
      | 0 => simp at h; subst h; exact ⟨_, rfl, rfl, Try.t9, info_of_run Try.typeInfo9, rfl, by decide⟩
      | 1 => simp at h; subst h; exact ⟨_, rfl, rfl, Try.t12, info_of_run Try.typeInfo12, rfl, by decide⟩
      | n + 2 => simp at h
    · exact ⟨⟨_, Try.underlying15⟩, Try.t15, _, info_of_run Try.typeInfo15, rfl, rfl, fun _ => ⟨_, _, rfl, rfl, rfl⟩⟩
    · exact ⟨⟨_, Try.underlying16⟩, Try.t16, _, info_of_run Try.typeInfo16, rfl, rfl, fun _ => ⟨_, _, rfl, rfl, rfl⟩⟩
    · exact ⟨⟨_, Try.underlying17⟩, Try.t17, _, info_of_run Try.typeInfo17, rfl, rfl, fun _ => ⟨_, _, rfl, rfl, rfl⟩⟩
    · refine ⟨⟨_, Try.underlying18, rfl, fun i x h => ?_⟩, Try.t18, _, info_of_run Try.typeInfo18, rfl, rfl, fun _ => ⟨_, _, rfl, rfl, rfl⟩⟩
      match i with
      | 0 => simp at h; subst h; exact ⟨_, rfl, rfl, Try.t17, info_of_run Try.typeInfo17, rfl, by decide⟩
      | n + 1 => simp at h
    · refine ⟨⟨_, Try.underlying19, rfl, fun i x h => ?_⟩, Try.t19, _, info_of_run Try.typeInfo19, rfl, rfl, fun _ => ⟨_, _, rfl, rfl, rfl⟩⟩
      match i with
      | 0 => simp at h; subst h; exact ⟨_, rfl, rfl, Try.t17, info_of_run Try.typeInfo17, rfl, by decide⟩
      | n + 1 => simp at h
    · exact ⟨Try.underlying21, Try.t21, _, info_of_run Try.typeInfo21, rfl, rfl, fun _ => ⟨_, _, rfl, rfl, rfl⟩⟩
    · exact ⟨⟨Try.underlying22, Try.t3, _, info_of_run Try.typeInfo3, rfl, rfl, rfl, rfl, rfl, Try.underlying3⟩, Try.t22, _, info_of_run Try.typeInfo22, rfl, rfl, fun _ => ⟨_, _, rfl, .inl ⟨rfl, rfl, rfl, rfl⟩, rfl⟩⟩
    · exact ⟨Try.underlying36, Try.t36, _, info_of_run Try.typeInfo36, rfl, rfl, fun _ => ⟨_, _, rfl, rfl, rfl⟩⟩
    · refine ⟨⟨_, Try.underlying48, rfl, fun i x h => ?_⟩, Try.t48, _, info_of_run Try.typeInfo48, rfl, rfl, fun _ => ⟨_, _, rfl, rfl, ⟨_, _, rfl, rfl, ⟨_, _, rfl, rfl, ⟨_, _, rfl, rfl, rfl⟩⟩⟩⟩⟩
      match i with
      | 0 => simp at h; subst h; exact ⟨_, rfl, rfl, Try.t17, info_of_run Try.typeInfo17, rfl, by decide⟩
      | 1 => simp at h; subst h; exact ⟨_, rfl, rfl, Try.t17, info_of_run Try.typeInfo17, rfl, by decide⟩
      | 2 => simp at h; subst h; exact ⟨_, rfl, rfl, Try.t17, info_of_run Try.typeInfo17, rfl, by decide⟩
      | 3 => simp at h; subst h; exact ⟨_, rfl, rfl, Try.t9, info_of_run Try.typeInfo9, rfl, by decide⟩
      | n + 4 => simp at h
    · refine ⟨⟨_, Try.underlying49, rfl, fun i x h => ?_⟩, Try.t49, _, info_of_run Try.typeInfo49, rfl, rfl, fun _ => ⟨_, _, rfl, rfl, ⟨_, _, rfl, rfl, ⟨_, _, rfl, rfl, ⟨_, _, rfl, rfl, rfl⟩⟩⟩⟩⟩
      match i with
      | 0 => simp at h; subst h; exact ⟨_, rfl, rfl, Try.t17, info_of_run Try.typeInfo17, rfl, by decide⟩
      | 1 => simp at h; subst h; exact ⟨_, rfl, rfl, Try.t17, info_of_run Try.typeInfo17, rfl, by decide⟩
      | 2 => simp at h; subst h; exact ⟨_, rfl, rfl, Try.t17, info_of_run Try.typeInfo17, rfl, by decide⟩
      | 3 => simp at h; subst h; exact ⟨_, rfl, rfl, Try.t9, info_of_run Try.typeInfo9, rfl, by decide⟩
      | n + 4 => simp at h
    · exact ⟨Try.underlying54, Try.t54, _, info_of_run Try.typeInfo54, rfl, rfl, fun _ => ⟨_, _, rfl, rfl, rfl⟩⟩
    · exact ⟨Try.underlying55, Try.t55, _, info_of_run Try.typeInfo55, rfl, rfl, fun _ => ⟨_, _, rfl, rfl, rfl⟩⟩
    · exact ⟨⟨_, Try.underlying57⟩, Try.t57, _, info_of_run Try.typeInfo57, rfl, rfl, fun _ => ⟨_, _, rfl, rfl, rfl⟩⟩
    · exact ⟨Try.underlying58, Try.t58, _, info_of_run Try.typeInfo58, rfl, rfl, fun _ => ⟨_, _, rfl, rfl, rfl⟩⟩
    · exact ⟨Try.underlying59, Try.t59, _, info_of_run Try.typeInfo59, rfl, rfl, fun _ => ⟨_, _, rfl, rfl, rfl⟩⟩
  exact fun t ti e => h (t, ti) (getA_mem e)
theorem mixed_ok : Try.prog.follows .mixedOrders = true := by kernel_rfl

end Go.Proofs.Ytcgidcnmhclepaa
