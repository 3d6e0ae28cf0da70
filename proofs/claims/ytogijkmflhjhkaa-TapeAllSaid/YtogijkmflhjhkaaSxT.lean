/- The table of the types that the evaluator knows: made by a program of ours (gent.py). Definitions and plain lemmas, no condition. -/
import Derived.Test.YtogijkmflhjhkaaSxN
import Derived.Test.YtogijkmflhjhkaaProg
namespace Go.Proofs.Ytogijkmflhjhkaa
open Go.Sx Go.RowKit
set_option linter.unusedSimpArgs false
set_option linter.unusedVariables false

theorem info_of_run {P : Program} {t : TypeId} {i : TypeInfo} (h : ∀ w, (typeInfo t).run P w = .ok i w) : P.info? t = some i := by
  have h0 := h default
  unfold typeInfo at h0
  cases hq : P.info? t with
  | none => simp [hq] at h0
  | some j => simp [hq] at h0; rw [h0]

def TL : List (Nat × TyI) := [
  (3, ⟨.int .i64, 1, [.one (.int .i64 0)]⟩),
  (23, ⟨.slice 5 1 (.ints .u8 (fun _ => 0) 0), 1, [.one (.sl true false true 999999 0 0 0 0)]⟩),
  (5, ⟨.int .u8, 1, [.one (.int .u8 0)]⟩),
  (57, ⟨.int .u32, 1, [.one (.int .u32 0)]⟩),
  (4, ⟨.bool, 1, [.one (.bool false)]⟩),
  (80, ⟨.int .u64, 1, [.one (.int .u64 0)]⟩),
  (29, ⟨.array 32 5, 32, [.ints .u8 (fun _ => 0) 32]⟩),
  (30, ⟨.array 32 5, 32, [.ints .u8 (fun _ => 0) 32]⟩),
  (107, ⟨.array 64 57, 64, [.ints .u32 (fun _ => 0) 64]⟩),
  (82, ⟨.struct [(0, 8), (8, 1), (9, 1)], 10, [.ints .u32 (fun _ => 0) 8, .one (.sl true false true 999999 0 0 0 0), .one (.int .u64 0)]⟩),
  (79, ⟨.array 8 57, 8, [.ints .u32 (fun _ => 0) 8]⟩),
  (22, ⟨.slice 23 24 (.one (.sl true false true 999999 0 0 0 0)), 1, [.one (.sl true false true 999999 0 0 0 0)]⟩),
  (85, ⟨.slice 57 4 (.ints .u32 (fun _ => 0) 0), 1, [.one (.sl true false true 999999 0 0 0 0)]⟩),
  (43, ⟨.slice 3 8 (.ints .i64 (fun _ => 0) 0), 1, [.one (.sl true false true 999999 0 0 0 0)]⟩),
  (2, ⟨.int .i64, 1, [.one (.int .i64 0)]⟩),
  (6, ⟨.int .u8, 1, [.one (.int .u8 0)]⟩),
  (7, ⟨.struct [(0, 1), (1, 1), (2, 1), (3, 1)], 4, [.one (.int .i64 0), .one (.int .i64 0), .one (.bool false), .one (.int .u8 0)]⟩),
  (8, ⟨.struct [(0, 1), (1, 1), (2, 1), (3, 1)], 4, [.one (.int .i64 0), .one (.int .i64 0), .one (.bool false), .one (.int .u8 0)]⟩),
  (9, ⟨.str, 1, [.one (.str ByteArray.empty)]⟩),
  (10, ⟨.str, 1, [.one (.str ByteArray.empty)]⟩),
  (11, ⟨.str, 1, [.one (.str ByteArray.empty)]⟩),
  (13, ⟨.struct [(0, 1), (1, 1)], 2, [.one (.str ByteArray.empty), .one (.int .u64 0)]⟩),
  (15, ⟨.ptr, 1, [.one .nilp]⟩),
  (16, ⟨.ptr, 1, [.one .nilp]⟩),
  (17, ⟨.ptr, 1, [.one .nilp]⟩),
  (18, ⟨.struct [(0, 1)], 1, [.one .nilp]⟩),
  (19, ⟨.struct [(0, 1)], 1, [.one .nilp]⟩),
  (21, ⟨.int .i32, 1, [.one (.int .i32 0)]⟩),
  (26, ⟨.ptr, 1, [.one .nilp]⟩),
  (45, ⟨.int .u64, 1, [.one (.int .u64 0)]⟩),
  (49, ⟨.ptr, 1, [.one .nilp]⟩),
  (61, ⟨.array 12 5, 12, [.ints .u8 (fun _ => 0) 12]⟩),
  (63, ⟨.array 64 5, 64, [.ints .u8 (fun _ => 0) 64]⟩),
  (68, ⟨.array 16 5, 16, [.ints .u8 (fun _ => 0) 16]⟩),
  (81, ⟨.struct [(0, 8), (8, 1), (9, 1)], 10, [.ints .u32 (fun _ => 0) 8, .one (.sl true false true 999999 0 0 0 0), .one (.int .u64 0)]⟩),
  (87, ⟨.struct [(0, 1), (1, 1), (2, 1)], 3, [.one (.int .i64 0), .one (.int .i64 0), .one (.sl true false true 999999 0 0 0 0)]⟩),
  (88, ⟨.struct [(0, 1), (1, 1), (2, 1)], 3, [.one (.int .i64 0), .one (.int .i64 0), .one (.sl true false true 999999 0 0 0 0)]⟩),
  (93, ⟨.array 16 57, 16, [.ints .u32 (fun _ => 0) 16]⟩),
  (97, ⟨.array 3 80, 3, [.ints .u64 (fun _ => 0) 3]⟩),
  (98, ⟨.array 3 80, 3, [.ints .u64 (fun _ => 0) 3]⟩),
  (100, ⟨.array 17 5, 17, [.ints .u8 (fun _ => 0) 17]⟩),
  (116, ⟨.array 5 80, 5, [.ints .u64 (fun _ => 0) 5]⟩),
  (128, ⟨.int .u8, 1, [.one (.int .u8 0)]⟩),
  (129, ⟨.int .u8, 1, [.one (.int .u8 0)]⟩),
  (131, ⟨.ptr, 1, [.one .nilp]⟩),
  (132, ⟨.int .i32, 1, [.one (.int .i32 0)]⟩),
  (133, ⟨.int .i32, 1, [.one (.int .i32 0)]⟩)]
def TT (t : TypeId) : Option TyI := getA TL t

theorem tt_ok : TOk Try.prog TT := by
  have h : ∀ x ∈ TL, x.2.d.ok Try.prog x.1 x.2.zero x.2.size ∧ ∃ i z, Try.prog.info? x.1 = some i ∧ i.size = x.2.size ∧ i.zero = some z ∧ ∀ ρ, RelS ρ x.2.zero z.cells.toList := by
    unfold TL
    simp only [List.forall_mem_cons, List.not_mem_nil, false_implies, implies_true, and_true]
    refine ⟨?_, ?_, ?_, ?_, ?_, ?_, ?_, ?_, ?_, ?_, ?_, ?_, ?_, ?_, ?_, ?_, ?_, ?_, ?_, ?_, ?_, ?_, ?_, ?_, ?_, ?_, ?_, ?_, ?_, ?_, ?_, ?_, ?_, ?_, ?_, ?_, ?_, ?_, ?_, ?_, ?_, ?_, ?_, ?_, ?_, ?_, ?_⟩
    · exact ⟨Try.underlying3, Try.t3, _, info_of_run Try.typeInfo3, rfl, rfl, fun _ => ⟨_, _, rfl, rfl, rfl⟩⟩
    · exact ⟨⟨Try.underlying23, Try.t5, _, info_of_run Try.typeInfo5, rfl, rfl, rfl, rfl, rfl, Try.underlying5⟩, Try.t23, _, info_of_run Try.typeInfo23, rfl, rfl, fun _ => ⟨_, _, rfl, .inl ⟨rfl, rfl, rfl, rfl⟩, rfl⟩⟩
    · exact ⟨Try.underlying5, Try.t5, _, info_of_run Try.typeInfo5, rfl, rfl, fun _ => ⟨_, _, rfl, rfl, rfl⟩⟩
    · exact ⟨Try.underlying57, Try.t57, _, info_of_run Try.typeInfo57, rfl, rfl, fun _ => ⟨_, _, rfl, rfl, rfl⟩⟩
    · exact ⟨Try.underlying4, Try.t4, _, info_of_run Try.typeInfo4, rfl, rfl, fun _ => ⟨_, _, rfl, rfl, rfl⟩⟩
    · exact ⟨Try.underlying80, Try.t80, _, info_of_run Try.typeInfo80, rfl, rfl, fun _ => ⟨_, _, rfl, rfl, rfl⟩⟩
    · exact ⟨⟨Try.underlying29, ⟨Try.t5, info_of_run Try.typeInfo5, rfl⟩, by kernel_rfl, fun k f m h => by injection h with h; injection h with h1 h2 h3; subst h1; subst h2; subst h3; exact ⟨Try.underlying5, rfl, fun _ => rfl⟩, rfl⟩, Try.t29, _, info_of_run Try.typeInfo29, rfl, rfl, fun _ => ⟨[], by rfl, rfl⟩⟩
    · exact ⟨⟨Try.underlying30, ⟨Try.t5, info_of_run Try.typeInfo5, rfl⟩, by kernel_rfl, fun k f m h => by injection h with h; injection h with h1 h2 h3; subst h1; subst h2; subst h3; exact ⟨Try.underlying5, rfl, fun _ => rfl⟩, rfl⟩, Try.t30, _, info_of_run Try.typeInfo30, rfl, rfl, fun _ => ⟨[], by rfl, rfl⟩⟩
    · exact ⟨⟨Try.underlying107, ⟨Try.t57, info_of_run Try.typeInfo57, rfl⟩, by kernel_rfl, fun k f m h => by injection h with h; injection h with h1 h2 h3; subst h1; subst h2; subst h3; exact ⟨Try.underlying57, rfl, fun _ => rfl⟩, rfl⟩, Try.t107, _, info_of_run Try.typeInfo107, rfl, rfl, fun _ => ⟨[], by rfl, rfl⟩⟩
    · refine ⟨⟨_, Try.underlying82, rfl, fun i x h => ?_⟩, Try.t82, _, info_of_run Try.typeInfo82, rfl, rfl, fun _ => ⟨_, rfl, ⟨_, _, rfl, .inl ⟨rfl, rfl, rfl, rfl⟩, ⟨_, _, rfl, rfl, rfl⟩⟩⟩⟩
      match i with
      | 0 => simp at h; subst h; exact ⟨_, rfl, rfl, Try.t79, info_of_run Try.typeInfo79, rfl, by decide⟩
      | 1 => simp at h; subst h; exact ⟨_, rfl, rfl, Try.t23, info_of_run Try.typeInfo23, rfl, by decide⟩
      | 2 => simp at h; subst h; exact ⟨_, rfl, rfl, Try.t80, info_of_run Try.typeInfo80, rfl, by decide⟩
      | n + 3 => simp at h
    · exact ⟨⟨Try.underlying79, ⟨Try.t57, info_of_run Try.typeInfo57, rfl⟩, by kernel_rfl, fun k f m h => by injection h with h; injection h with h1 h2 h3; subst h1; subst h2; subst h3; exact ⟨Try.underlying57, rfl, fun _ => rfl⟩, rfl⟩, Try.t79, _, info_of_run Try.typeInfo79, rfl, rfl, fun _ => ⟨[], by rfl, rfl⟩⟩
    · exact ⟨⟨Try.underlying22, Try.t23, _, info_of_run Try.typeInfo23, rfl, rfl, rfl, rfl, fun _ => .inl ⟨rfl, rfl, rfl, rfl⟩⟩, Try.t22, _, info_of_run Try.typeInfo22, rfl, rfl, fun _ => ⟨_, _, rfl, .inl ⟨rfl, rfl, rfl, rfl⟩, rfl⟩⟩
    · exact ⟨⟨Try.underlying85, Try.t57, _, info_of_run Try.typeInfo57, rfl, rfl, rfl, rfl, rfl, Try.underlying57⟩, Try.t85, _, info_of_run Try.typeInfo85, rfl, rfl, fun _ => ⟨_, _, rfl, .inl ⟨rfl, rfl, rfl, rfl⟩, rfl⟩⟩
    · exact ⟨⟨Try.underlying43, Try.t3, _, info_of_run Try.typeInfo3, rfl, rfl, rfl, rfl, rfl, Try.underlying3⟩, Try.t43, _, info_of_run Try.typeInfo43, rfl, rfl, fun _ => ⟨_, _, rfl, .inl ⟨rfl, rfl, rfl, rfl⟩, rfl⟩⟩
    · exact ⟨Try.underlying2, Try.t2, _, info_of_run Try.typeInfo2, rfl, rfl, fun _ => ⟨_, _, rfl, rfl, rfl⟩⟩
    · exact ⟨Try.underlying6, Try.t6, _, info_of_run Try.typeInfo6, rfl, rfl, fun _ => ⟨_, _, rfl, rfl, rfl⟩⟩
    · refine ⟨⟨_, Try.underlying7, rfl, fun i x h => ?_⟩, Try.t7, _, info_of_run Try.typeInfo7, rfl, rfl, fun _ => ⟨_, _, rfl, rfl, ⟨_, _, rfl, rfl, ⟨_, _, rfl, rfl, ⟨_, _, rfl, rfl, rfl⟩⟩⟩⟩⟩
      match i with
      | 0 => simp at h; subst h; exact ⟨_, rfl, rfl, Try.t2, info_of_run Try.typeInfo2, rfl, by decide⟩
      | 1 => simp at h; subst h; exact ⟨_, rfl, rfl, Try.t3, info_of_run Try.typeInfo3, rfl, by decide⟩
      | 2 => simp at h; subst h; exact ⟨_, rfl, rfl, Try.t4, info_of_run Try.typeInfo4, rfl, by decide⟩
      | 3 => simp at h; subst h; exact ⟨_, rfl, rfl, Try.t6, info_of_run Try.typeInfo6, rfl, by decide⟩
      | n + 4 => simp at h
    · refine ⟨⟨_, Try.underlying8, rfl, fun i x h => ?_⟩, Try.t8, _, info_of_run Try.typeInfo8, rfl, rfl, fun _ => ⟨_, _, rfl, rfl, ⟨_, _, rfl, rfl, ⟨_, _, rfl, rfl, ⟨_, _, rfl, rfl, rfl⟩⟩⟩⟩⟩
      match i with
      | 0 => simp at h; subst h; exact ⟨_, rfl, rfl, Try.t2, info_of_run Try.typeInfo2, rfl, by decide⟩
      | 1 => simp at h; subst h; exact ⟨_, rfl, rfl, Try.t3, info_of_run Try.typeInfo3, rfl, by decide⟩
      | 2 => simp at h; subst h; exact ⟨_, rfl, rfl, Try.t4, info_of_run Try.typeInfo4, rfl, by decide⟩
      | 3 => simp at h; subst h; exact ⟨_, rfl, rfl, Try.t6, info_of_run Try.typeInfo6, rfl, by decide⟩
      | n + 4 => simp at h
    · exact ⟨Try.underlying9, Try.t9, _, info_of_run Try.typeInfo9, rfl, rfl, fun _ => ⟨_, _, rfl, rfl, rfl⟩⟩
    · exact ⟨Try.underlying10, Try.t10, _, info_of_run Try.typeInfo10, rfl, rfl, fun _ => ⟨_, _, rfl, rfl, rfl⟩⟩
    · exact ⟨Try.underlying11, Try.t11, _, info_of_run Try.typeInfo11, rfl, rfl, fun _ => ⟨_, _, rfl, rfl, rfl⟩⟩
    · refine ⟨⟨_, Try.underlying13, rfl, fun i x h => ?_⟩, Try.t13, _, info_of_run Try.typeInfo13, rfl, rfl, fun _ => ⟨_, _, rfl, rfl, ⟨_, _, rfl, rfl, rfl⟩⟩⟩
      match i with
      | 0 => simp at h; subst h; exact ⟨_, rfl, rfl, Try.t9, info_of_run Try.typeInfo9, rfl, by decide⟩
      | 1 => simp at h; subst h; exact ⟨_, rfl, rfl, Try.t12, info_of_run Try.typeInfo12, rfl, by decide⟩
      | n + 2 => simp at h
    · exact ⟨⟨_, Try.underlying15⟩, Try.t15, _, info_of_run Try.typeInfo15, rfl, rfl, fun _ => ⟨_, _, rfl, rfl, rfl⟩⟩
    · exact ⟨⟨_, Try.underlying16⟩, Try.t16, _, info_of_run Try.typeInfo16, rfl, rfl, fun _ => ⟨_, _, rfl, rfl, rfl⟩⟩
    · exact ⟨⟨_, Try.underlying17⟩, Try.t17, _, info_of_run Try.typeInfo17, rfl, rfl, fun _ => ⟨_, _, rfl, rfl, rfl⟩⟩
    · refine ⟨⟨_, Try.underlying18, rfl, fun i x h => ?_⟩, Try.t18, _, info_of_run Try.typeInfo18, rfl, rfl, fun _ => ⟨_, _, rfl, rfl, rfl⟩⟩
      match i with
      | 0 => simp at h; subst h; exact ⟨_, rfl, rfl, Try.t17, info_of_run Try.typeInfo17, rfl, by decide⟩
      | n + 1 => simp at h
    · refine ⟨⟨_, Try.underlying19, rfl, fun i x h => ?_⟩, Try.t19, _, info_of_run Try.typeInfo19, rfl, rfl, fun _ => ⟨_, _, rfl, rfl, rfl⟩⟩
      match i with
      | 0 => simp at h; subst h; exact ⟨_, rfl, rfl, Try.t17, info_of_run Try.typeInfo17, rfl, by decide⟩
      | n + 1 => simp at h
    · exact ⟨Try.underlying21, Try.t21, _, info_of_run Try.typeInfo21, rfl, rfl, fun _ => ⟨_, _, rfl, rfl, rfl⟩⟩
    · exact ⟨⟨_, Try.underlying26⟩, Try.t26, _, info_of_run Try.typeInfo26, rfl, rfl, fun _ => ⟨_, _, rfl, rfl, rfl⟩⟩
    · exact ⟨Try.underlying45, Try.t45, _, info_of_run Try.typeInfo45, rfl, rfl, fun _ => ⟨_, _, rfl, rfl, rfl⟩⟩
    · exact ⟨⟨_, Try.underlying49⟩, Try.t49, _, info_of_run Try.typeInfo49, rfl, rfl, fun _ => ⟨_, _, rfl, rfl, rfl⟩⟩
    · exact ⟨⟨Try.underlying61, ⟨Try.t5, info_of_run Try.typeInfo5, rfl⟩, by kernel_rfl, fun k f m h => by injection h with h; injection h with h1 h2 h3; subst h1; subst h2; subst h3; exact ⟨Try.underlying5, rfl, fun _ => rfl⟩, rfl⟩, Try.t61, _, info_of_run Try.typeInfo61, rfl, rfl, fun _ => ⟨[], by rfl, rfl⟩⟩
    · exact ⟨⟨Try.underlying63, ⟨Try.t5, info_of_run Try.typeInfo5, rfl⟩, by kernel_rfl, fun k f m h => by injection h with h; injection h with h1 h2 h3; subst h1; subst h2; subst h3; exact ⟨Try.underlying5, rfl, fun _ => rfl⟩, rfl⟩, Try.t63, _, info_of_run Try.typeInfo63, rfl, rfl, fun _ => ⟨[], by rfl, rfl⟩⟩
    · exact ⟨⟨Try.underlying68, ⟨Try.t5, info_of_run Try.typeInfo5, rfl⟩, by kernel_rfl, fun k f m h => by injection h with h; injection h with h1 h2 h3; subst h1; subst h2; subst h3; exact ⟨Try.underlying5, rfl, fun _ => rfl⟩, rfl⟩, Try.t68, _, info_of_run Try.typeInfo68, rfl, rfl, fun _ => ⟨[], by rfl, rfl⟩⟩
    · refine ⟨⟨_, Try.underlying81, rfl, fun i x h => ?_⟩, Try.t81, _, info_of_run Try.typeInfo81, rfl, rfl, fun _ => ⟨_, rfl, ⟨_, _, rfl, .inl ⟨rfl, rfl, rfl, rfl⟩, ⟨_, _, rfl, rfl, rfl⟩⟩⟩⟩
      match i with
      | 0 => simp at h; subst h; exact ⟨_, rfl, rfl, Try.t79, info_of_run Try.typeInfo79, rfl, by decide⟩
      | 1 => simp at h; subst h; exact ⟨_, rfl, rfl, Try.t23, info_of_run Try.typeInfo23, rfl, by decide⟩
      | 2 => simp at h; subst h; exact ⟨_, rfl, rfl, Try.t80, info_of_run Try.typeInfo80, rfl, by decide⟩
      | n + 3 => simp at h
    · refine ⟨⟨_, Try.underlying87, rfl, fun i x h => ?_⟩, Try.t87, _, info_of_run Try.typeInfo87, rfl, rfl, fun _ => ⟨_, _, rfl, rfl, ⟨_, _, rfl, rfl, ⟨_, _, rfl, .inl ⟨rfl, rfl, rfl, rfl⟩, rfl⟩⟩⟩⟩
      match i with
      | 0 => simp at h; subst h; exact ⟨_, rfl, rfl, Try.t2, info_of_run Try.typeInfo2, rfl, by decide⟩
      | 1 => simp at h; subst h; exact ⟨_, rfl, rfl, Try.t2, info_of_run Try.typeInfo2, rfl, by decide⟩
      | 2 => simp at h; subst h; exact ⟨_, rfl, rfl, Try.t23, info_of_run Try.typeInfo23, rfl, by decide⟩
      | n + 3 => simp at h
    · refine ⟨⟨_, Try.underlying88, rfl, fun i x h => ?_⟩, Try.t88, _, info_of_run Try.typeInfo88, rfl, rfl, fun _ => ⟨_, _, rfl, rfl, ⟨_, _, rfl, rfl, ⟨_, _, rfl, .inl ⟨rfl, rfl, rfl, rfl⟩, rfl⟩⟩⟩⟩
      match i with
      | 0 => simp at h; subst h; exact ⟨_, rfl, rfl, Try.t2, info_of_run Try.typeInfo2, rfl, by decide⟩
      | 1 => simp at h; subst h; exact ⟨_, rfl, rfl, Try.t2, info_of_run Try.typeInfo2, rfl, by decide⟩
      | 2 => simp at h; subst h; exact ⟨_, rfl, rfl, Try.t23, info_of_run Try.typeInfo23, rfl, by decide⟩
      | n + 3 => simp at h
    · exact ⟨⟨Try.underlying93, ⟨Try.t57, info_of_run Try.typeInfo57, rfl⟩, by kernel_rfl, fun k f m h => by injection h with h; injection h with h1 h2 h3; subst h1; subst h2; subst h3; exact ⟨Try.underlying57, rfl, fun _ => rfl⟩, rfl⟩, Try.t93, _, info_of_run Try.typeInfo93, rfl, rfl, fun _ => ⟨[], by rfl, rfl⟩⟩
    · exact ⟨⟨Try.underlying97, ⟨Try.t80, info_of_run Try.typeInfo80, rfl⟩, by kernel_rfl, fun k f m h => by injection h with h; injection h with h1 h2 h3; subst h1; subst h2; subst h3; exact ⟨Try.underlying80, rfl, fun _ => rfl⟩, rfl⟩, Try.t97, _, info_of_run Try.typeInfo97, rfl, rfl, fun _ => ⟨[], by rfl, rfl⟩⟩
    · exact ⟨⟨Try.underlying98, ⟨Try.t80, info_of_run Try.typeInfo80, rfl⟩, by kernel_rfl, fun k f m h => by injection h with h; injection h with h1 h2 h3; subst h1; subst h2; subst h3; exact ⟨Try.underlying80, rfl, fun _ => rfl⟩, rfl⟩, Try.t98, _, info_of_run Try.typeInfo98, rfl, rfl, fun _ => ⟨[], by rfl, rfl⟩⟩
    · exact ⟨⟨Try.underlying100, ⟨Try.t5, info_of_run Try.typeInfo5, rfl⟩, by kernel_rfl, fun k f m h => by injection h with h; injection h with h1 h2 h3; subst h1; subst h2; subst h3; exact ⟨Try.underlying5, rfl, fun _ => rfl⟩, rfl⟩, Try.t100, _, info_of_run Try.typeInfo100, rfl, rfl, fun _ => ⟨[], by rfl, rfl⟩⟩
    · exact ⟨⟨Try.underlying116, ⟨Try.t80, info_of_run Try.typeInfo80, rfl⟩, by kernel_rfl, fun k f m h => by injection h with h; injection h with h1 h2 h3; subst h1; subst h2; subst h3; exact ⟨Try.underlying80, rfl, fun _ => rfl⟩, rfl⟩, Try.t116, _, info_of_run Try.typeInfo116, rfl, rfl, fun _ => ⟨[], by rfl, rfl⟩⟩
    · exact ⟨Try.underlying128, Try.t128, _, info_of_run Try.typeInfo128, rfl, rfl, fun _ => ⟨_, _, rfl, rfl, rfl⟩⟩
    · exact ⟨Try.underlying129, Try.t129, _, info_of_run Try.typeInfo129, rfl, rfl, fun _ => ⟨_, _, rfl, rfl, rfl⟩⟩
    · exact ⟨⟨_, Try.underlying131⟩, Try.t131, _, info_of_run Try.typeInfo131, rfl, rfl, fun _ => ⟨_, _, rfl, rfl, rfl⟩⟩
    · exact ⟨Try.underlying132, Try.t132, _, info_of_run Try.typeInfo132, rfl, rfl, fun _ => ⟨_, _, rfl, rfl, rfl⟩⟩
    · exact ⟨Try.underlying133, Try.t133, _, info_of_run Try.typeInfo133, rfl, rfl, fun _ => ⟨_, _, rfl, rfl, rfl⟩⟩
  exact fun t ti e => h (t, ti) (getA_mem e)
theorem mixed_ok : Try.prog.follows .mixedOrders = true := by kernel_rfl

end Go.Proofs.Ytogijkmflhjhkaa
