/- Tables of the types and functions that this program has. No condition. -/
import Derived.Test.YtgjlpnendljcaaaBase
namespace Go.Proofs.Ytgjlpnendljcaaa
open Go
set_option maxRecDepth 100000

def tabAll {α : Type} (p : Nat → α → Prop) : List (Nat × α) → Prop
  | [] => True
  | x :: l => p x.1 x.2 ∧ tabAll p l

def tabLook {α : Type} : List (Nat × α) → Nat → Option α
  | [], _ => none
  | (j, x) :: l, i => cond (Nat.beq j i) (some x) (tabLook l i)

theorem tabAll_look {α : Type} {p : Nat → α → Prop} : ∀ {l : List (Nat × α)} {i : Nat} {x : α}, tabAll p l → tabLook l i = some x → p i x
  | [], _, _, _, h => by cases h
  | (j, y) :: l, i, x, h, hx => by
    have hb : Nat.beq j i = decide (j = i) := by rw [Bool.eq_iff_iff]; simp
    rw [tabLook, hb] at hx
    by_cases e : j = i
    · subst e
      have : y = x := by simpa using hx
      subst this
      exact h.1
    · exact tabAll_look h.2 (by simpa [e] using hx)

def undT : List (Nat × TypeDesc) := [
  (0, (TypeDesc.tuple #[])),
  (1, (TypeDesc.func #[] #[] false)),
  (2, (TypeDesc.int IntKind.i64)),
  (3, (TypeDesc.int IntKind.i64)),
  (4, TypeDesc.bool),
  (5, (TypeDesc.int IntKind.u8)),
  (6, (TypeDesc.int IntKind.u8)),
  (7, (TypeDesc.struct #[{ name := "x", type := 2, offset := 0, embedded := false, tag := "", pkgPath := "runtime", byteOffset := 0 }, { name := "y", type := 3, offset := 1, embedded := false, tag := "", pkgPath := "runtime", byteOffset := 8 }, { name := "signed", type := 4, offset := 2, embedded := false, tag := "", pkgPath := "runtime", byteOffset := 16 }, { name := "code", type := 6, offset := 3, embedded := false, tag := "", pkgPath := "runtime", byteOffset := 17 }])),
  (8, (TypeDesc.struct #[{ name := "x", type := 2, offset := 0, embedded := false, tag := "", pkgPath := "runtime", byteOffset := 0 }, { name := "y", type := 3, offset := 1, embedded := false, tag := "", pkgPath := "runtime", byteOffset := 8 }, { name := "signed", type := 4, offset := 2, embedded := false, tag := "", pkgPath := "runtime", byteOffset := 16 }, { name := "code", type := 6, offset := 3, embedded := false, tag := "", pkgPath := "runtime", byteOffset := 17 }])),
  (9, TypeDesc.string),
  (10, TypeDesc.string),
  (11, TypeDesc.string),
  (12, (TypeDesc.int IntKind.u64)),
  (13, (TypeDesc.struct #[{ name := "msg", type := 9, offset := 0, embedded := false, tag := "", pkgPath := "runtime", byteOffset := 0 }, { name := "addr", type := 12, offset := 1, embedded := false, tag := "", pkgPath := "runtime", byteOffset := 16 }])),
  (14, (TypeDesc.struct #[{ name := "msg", type := 9, offset := 0, embedded := false, tag := "", pkgPath := "runtime", byteOffset := 0 }, { name := "addr", type := 12, offset := 1, embedded := false, tag := "", pkgPath := "runtime", byteOffset := 16 }])),
  (15, (TypeDesc.pointer 87)),
  (16, (TypeDesc.pointer 90)),
  (17, (TypeDesc.pointer 99)),
  (18, (TypeDesc.struct #[{ name := "typ", type := 17, offset := 0, embedded := false, tag := "", pkgPath := "internal/runtime/maps", byteOffset := 0 }])),
  (19, (TypeDesc.struct #[{ name := "typ", type := 17, offset := 0, embedded := false, tag := "", pkgPath := "internal/runtime/maps", byteOffset := 0 }])),
  (20, (TypeDesc.interface #[])),
  (21, (TypeDesc.int IntKind.i32)),
  (22, (TypeDesc.slice 58)),
  (23, (TypeDesc.slice 39)),
  (24, (TypeDesc.func #[22] #[22] false)),
  (25, (TypeDesc.pointer 35)),
  (26, (TypeDesc.int IntKind.i64)),
  (27, (TypeDesc.tuple #[25, 26])),
  (28, (TypeDesc.func #[22, 3] #[25, 26] false)),
  (29, (TypeDesc.func #[3, 3] #[3] false)),
  (30, (TypeDesc.func #[] #[4] false)),
  (31, (TypeDesc.func #[] #[3] false)),
  (32, (TypeDesc.struct #[{ name := "n", type := 3, offset := 0, embedded := false, tag := "", pkgPath := "umbra/sweep", byteOffset := 0 }])),
  (33, (TypeDesc.struct #[{ name := "n", type := 3, offset := 0, embedded := false, tag := "", pkgPath := "umbra/sweep", byteOffset := 0 }])),
  (34, (TypeDesc.struct #[{ name := "ticks", type := 33, offset := 0, embedded := true, tag := "", pkgPath := "umbra/sweep", byteOffset := 0 }, { name := "made", type := 4, offset := 1, embedded := false, tag := "", pkgPath := "umbra/sweep", byteOffset := 8 }, { name := "l", type := 22, offset := 2, embedded := false, tag := "", pkgPath := "umbra/sweep", byteOffset := 16 }])),
  (35, (TypeDesc.struct #[{ name := "ticks", type := 33, offset := 0, embedded := true, tag := "", pkgPath := "umbra/sweep", byteOffset := 0 }, { name := "made", type := 4, offset := 1, embedded := false, tag := "", pkgPath := "umbra/sweep", byteOffset := 8 }, { name := "l", type := 22, offset := 2, embedded := false, tag := "", pkgPath := "umbra/sweep", byteOffset := 16 }])),
  (36, (TypeDesc.struct #[{ name := "X", type := 3, offset := 0, embedded := false, tag := "", pkgPath := "", byteOffset := 0 }, { name := "Y", type := 3, offset := 1, embedded := false, tag := "", pkgPath := "", byteOffset := 8 }, { name := "Z", type := 3, offset := 2, embedded := false, tag := "", pkgPath := "", byteOffset := 16 }])),
  (37, (TypeDesc.struct #[{ name := "X", type := 3, offset := 0, embedded := false, tag := "", pkgPath := "", byteOffset := 0 }, { name := "Y", type := 3, offset := 1, embedded := false, tag := "", pkgPath := "", byteOffset := 8 }, { name := "Z", type := 3, offset := 2, embedded := false, tag := "", pkgPath := "", byteOffset := 16 }])),
  (38, (TypeDesc.struct #[{ name := "O", type := 37, offset := 0, embedded := false, tag := "", pkgPath := "", byteOffset := 0 }, { name := "D", type := 37, offset := 3, embedded := false, tag := "", pkgPath := "", byteOffset := 24 }, { name := "Mask", type := 5, offset := 6, embedded := false, tag := "", pkgPath := "", byteOffset := 48 }, { name := "Skip", type := 3, offset := 7, embedded := false, tag := "", pkgPath := "", byteOffset := 56 }, { name := "Near", type := 4, offset := 8, embedded := false, tag := "", pkgPath := "", byteOffset := 64 }])),
  (39, (TypeDesc.struct #[{ name := "O", type := 37, offset := 0, embedded := false, tag := "", pkgPath := "", byteOffset := 0 }, { name := "D", type := 37, offset := 3, embedded := false, tag := "", pkgPath := "", byteOffset := 24 }, { name := "Mask", type := 5, offset := 6, embedded := false, tag := "", pkgPath := "", byteOffset := 48 }, { name := "Skip", type := 3, offset := 7, embedded := false, tag := "", pkgPath := "", byteOffset := 56 }, { name := "Near", type := 4, offset := 8, embedded := false, tag := "", pkgPath := "", byteOffset := 64 }])),
  (40, (TypeDesc.struct #[{ name := "Num", type := 3, offset := 0, embedded := false, tag := "", pkgPath := "", byteOffset := 0 }, { name := "Det", type := 3, offset := 1, embedded := false, tag := "", pkgPath := "", byteOffset := 8 }, { name := "U", type := 3, offset := 2, embedded := false, tag := "", pkgPath := "", byteOffset := 16 }, { name := "V", type := 3, offset := 3, embedded := false, tag := "", pkgPath := "", byteOffset := 24 }])),
  (41, (TypeDesc.struct #[{ name := "Num", type := 3, offset := 0, embedded := false, tag := "", pkgPath := "", byteOffset := 0 }, { name := "Det", type := 3, offset := 1, embedded := false, tag := "", pkgPath := "", byteOffset := 8 }, { name := "U", type := 3, offset := 2, embedded := false, tag := "", pkgPath := "", byteOffset := 16 }, { name := "V", type := 3, offset := 3, embedded := false, tag := "", pkgPath := "", byteOffset := 24 }])),
  (42, (TypeDesc.tuple #[3, 41])),
  (43, (TypeDesc.func #[37, 37, 5, 3] #[3, 41] false)),
  (44, (TypeDesc.func #[22, 37, 37, 5, 3] #[3, 41] false)),
  (45, (TypeDesc.func #[37, 37, 5, 3, 4] #[4] false)),
  (46, (TypeDesc.func #[22, 37, 37, 5, 3, 4] #[4] false)),
  (47, (TypeDesc.func #[22, 3, 23] #[4] false)),
  (48, (TypeDesc.array 2 23)),
  (49, (TypeDesc.func #[22, 22, 48] #[4] false)),
  (50, (TypeDesc.func #[22, 39, 5] #[4] false)),
  (51, (TypeDesc.tuple #[41, 4])),
  (52, (TypeDesc.func #[37, 37, 5, 3, 3] #[41, 4] false)),
  (53, (TypeDesc.func #[41, 41] #[4] false)),
  (54, (TypeDesc.array 3 37)),
  (55, (TypeDesc.array 2 3)),
  (56, (TypeDesc.array 3 55)),
  (57, (TypeDesc.struct #[{ name := "P", type := 54, offset := 0, embedded := false, tag := "", pkgPath := "", byteOffset := 0 }, { name := "Uv", type := 56, offset := 9, embedded := false, tag := "", pkgPath := "", byteOffset := 72 }, { name := "Mat", type := 3, offset := 15, embedded := false, tag := "", pkgPath := "", byteOffset := 120 }, { name := "Tex", type := 3, offset := 16, embedded := false, tag := "", pkgPath := "", byteOffset := 128 }, { name := "Obj", type := 3, offset := 17, embedded := false, tag := "", pkgPath := "", byteOffset := 136 }, { name := "Mask", type := 5, offset := 18, embedded := false, tag := "", pkgPath := "", byteOffset := 144 }])),
  (58, (TypeDesc.struct #[{ name := "P", type := 54, offset := 0, embedded := false, tag := "", pkgPath := "", byteOffset := 0 }, { name := "Uv", type := 56, offset := 9, embedded := false, tag := "", pkgPath := "", byteOffset := 72 }, { name := "Mat", type := 3, offset := 15, embedded := false, tag := "", pkgPath := "", byteOffset := 120 }, { name := "Tex", type := 3, offset := 16, embedded := false, tag := "", pkgPath := "", byteOffset := 128 }, { name := "Obj", type := 3, offset := 17, embedded := false, tag := "", pkgPath := "", byteOffset := 136 }, { name := "Mask", type := 5, offset := 18, embedded := false, tag := "", pkgPath := "", byteOffset := 144 }])),
  (59, (TypeDesc.func #[37, 37, 54] #[41, 4] false)),
  (60, (TypeDesc.func #[63, 63] #[3] false)),
  (61, (TypeDesc.int IntKind.u64)),
  (62, (TypeDesc.struct #[{ name := "Hi", type := 2, offset := 0, embedded := false, tag := "", pkgPath := "", byteOffset := 0 }, { name := "Lo", type := 61, offset := 1, embedded := false, tag := "", pkgPath := "", byteOffset := 8 }])),
  (63, (TypeDesc.struct #[{ name := "Hi", type := 2, offset := 0, embedded := false, tag := "", pkgPath := "", byteOffset := 0 }, { name := "Lo", type := 61, offset := 1, embedded := false, tag := "", pkgPath := "", byteOffset := 8 }])),
  (64, (TypeDesc.func #[2, 2] #[63] false)),
  (65, (TypeDesc.func #[37, 37] #[4] false)),
  (66, (TypeDesc.func #[37, 3] #[4] false)),
  (67, (TypeDesc.func #[37, 37] #[37] false)),
  (68, (TypeDesc.func #[37, 37] #[3] false)),
  (69, (TypeDesc.func #[3, 3, 3, 3] #[3] false)),
  (70, (TypeDesc.pointer 33)),
  (71, (TypeDesc.func #[37] #[4] false)),
  (72, (TypeDesc.func #[73, 71] #[4] false)),
  (73, (TypeDesc.slice 37)),
  (74, (TypeDesc.tuple #[61, 4])),
  (75, (TypeDesc.func #[2] #[61, 4] false)),
  (76, (TypeDesc.tuple #[61, 61])),
  (77, (TypeDesc.func #[61, 61] #[61, 61] false)),
  (78, (TypeDesc.tuple #[63, 4])),
  (79, (TypeDesc.func #[61, 61, 4] #[63, 4] false)),
  (80, (TypeDesc.func #[81] #[61] false)),
  (81, (TypeDesc.int IntKind.i64)),
  (82, (TypeDesc.func #[73, 71] #[3] false)),
  (83, (TypeDesc.int IntKind.u64)),
  (84, (TypeDesc.func #[61, 61, 61] #[61, 61] false)),
  (85, (TypeDesc.func #[] #[9] false)),
  (86, (TypeDesc.struct #[{ name := "_interface", type := 17, offset := 0, embedded := false, tag := "", pkgPath := "runtime", byteOffset := 0 }, { name := "concrete", type := 17, offset := 1, embedded := false, tag := "", pkgPath := "runtime", byteOffset := 8 }, { name := "asserted", type := 17, offset := 2, embedded := false, tag := "", pkgPath := "runtime", byteOffset := 16 }, { name := "missingMethod", type := 9, offset := 3, embedded := false, tag := "", pkgPath := "runtime", byteOffset := 24 }])),
  (87, (TypeDesc.struct #[{ name := "_interface", type := 17, offset := 0, embedded := false, tag := "", pkgPath := "runtime", byteOffset := 0 }, { name := "concrete", type := 17, offset := 1, embedded := false, tag := "", pkgPath := "runtime", byteOffset := 8 }, { name := "asserted", type := 17, offset := 2, embedded := false, tag := "", pkgPath := "runtime", byteOffset := 16 }, { name := "missingMethod", type := 9, offset := 3, embedded := false, tag := "", pkgPath := "runtime", byteOffset := 24 }])),
  (88, (TypeDesc.array 0 16)),
  (89, (TypeDesc.struct #[{ name := "_", type := 88, offset := 0, embedded := false, tag := "", pkgPath := "runtime", byteOffset := 0 }])),
  (90, (TypeDesc.struct #[{ name := "_", type := 88, offset := 0, embedded := false, tag := "", pkgPath := "runtime", byteOffset := 0 }])),
  (91, (TypeDesc.int IntKind.u32)),
  (92, (TypeDesc.int IntKind.u8)),
  (93, (TypeDesc.int IntKind.u8)),
  (94, (TypeDesc.func #[100, 100] #[4] false)),
  (95, (TypeDesc.pointer 5)),
  (96, (TypeDesc.int IntKind.i32)),
  (97, (TypeDesc.int IntKind.i32)),
  (98, (TypeDesc.struct #[{ name := "Size_", type := 12, offset := 0, embedded := false, tag := "", pkgPath := "", byteOffset := 0 }, { name := "PtrBytes", type := 12, offset := 1, embedded := false, tag := "", pkgPath := "", byteOffset := 8 }, { name := "Hash", type := 91, offset := 2, embedded := false, tag := "", pkgPath := "", byteOffset := 16 }, { name := "TFlag", type := 92, offset := 3, embedded := false, tag := "", pkgPath := "", byteOffset := 20 }, { name := "Align_", type := 5, offset := 4, embedded := false, tag := "", pkgPath := "", byteOffset := 21 }, { name := "FieldAlign_", type := 5, offset := 5, embedded := false, tag := "", pkgPath := "", byteOffset := 22 }, { name := "Kind_", type := 93, offset := 6, embedded := false, tag := "", pkgPath := "", byteOffset := 23 }, { name := "Equal", type := 94, offset := 7, embedded := false, tag := "", pkgPath := "", byteOffset := 24 }, { name := "GCData", type := 95, offset := 8, embedded := false, tag := "", pkgPath := "", byteOffset := 32 }, { name := "Str", type := 96, offset := 9, embedded := false, tag := "", pkgPath := "", byteOffset := 40 }, { name := "PtrToThis", type := 97, offset := 10, embedded := false, tag := "", pkgPath := "", byteOffset := 44 }])),
  (99, (TypeDesc.struct #[{ name := "Size_", type := 12, offset := 0, embedded := false, tag := "", pkgPath := "", byteOffset := 0 }, { name := "PtrBytes", type := 12, offset := 1, embedded := false, tag := "", pkgPath := "", byteOffset := 8 }, { name := "Hash", type := 91, offset := 2, embedded := false, tag := "", pkgPath := "", byteOffset := 16 }, { name := "TFlag", type := 92, offset := 3, embedded := false, tag := "", pkgPath := "", byteOffset := 20 }, { name := "Align_", type := 5, offset := 4, embedded := false, tag := "", pkgPath := "", byteOffset := 21 }, { name := "FieldAlign_", type := 5, offset := 5, embedded := false, tag := "", pkgPath := "", byteOffset := 22 }, { name := "Kind_", type := 93, offset := 6, embedded := false, tag := "", pkgPath := "", byteOffset := 23 }, { name := "Equal", type := 94, offset := 7, embedded := false, tag := "", pkgPath := "", byteOffset := 24 }, { name := "GCData", type := 95, offset := 8, embedded := false, tag := "", pkgPath := "", byteOffset := 32 }, { name := "Str", type := 96, offset := 9, embedded := false, tag := "", pkgPath := "", byteOffset := 40 }, { name := "PtrToThis", type := 97, offset := 10, embedded := false, tag := "", pkgPath := "", byteOffset := 44 }])),
  (100, TypeDesc.unsafePointer)]

theorem undT_ok : tabAll (fun i d => Try.prog.underlying i = some d) undT := ⟨Try.underlying0, Try.underlying1, Try.underlying2, Try.underlying3, Try.underlying4, Try.underlying5, Try.underlying6, Try.underlying7, Try.underlying8, Try.underlying9, Try.underlying10, Try.underlying11, Try.underlying12, Try.underlying13, Try.underlying14, Try.underlying15, Try.underlying16, Try.underlying17, Try.underlying18, Try.underlying19, Try.underlying20, Try.underlying21, Try.underlying22, Try.underlying23, Try.underlying24, Try.underlying25, Try.underlying26, Try.underlying27, Try.underlying28, Try.underlying29, Try.underlying30, Try.underlying31, Try.underlying32, Try.underlying33, Try.underlying34, Try.underlying35, Try.underlying36, Try.underlying37, Try.underlying38, Try.underlying39, Try.underlying40, Try.underlying41, Try.underlying42, Try.underlying43, Try.underlying44, Try.underlying45, Try.underlying46, Try.underlying47, Try.underlying48, Try.underlying49, Try.underlying50, Try.underlying51, Try.underlying52, Try.underlying53, Try.underlying54, Try.underlying55, Try.underlying56, Try.underlying57, Try.underlying58, Try.underlying59, Try.underlying60, Try.underlying61, Try.underlying62, Try.underlying63, Try.underlying64, Try.underlying65, Try.underlying66, Try.underlying67, Try.underlying68, Try.underlying69, Try.underlying70, Try.underlying71, Try.underlying72, Try.underlying73, Try.underlying74, Try.underlying75, Try.underlying76, Try.underlying77, Try.underlying78, Try.underlying79, Try.underlying80, Try.underlying81, Try.underlying82, Try.underlying83, Try.underlying84, Try.underlying85, Try.underlying86, Try.underlying87, Try.underlying88, Try.underlying89, Try.underlying90, Try.underlying91, Try.underlying92, Try.underlying93, Try.underlying94, Try.underlying95, Try.underlying96, Try.underlying97, Try.underlying98, Try.underlying99, Try.underlying100, trivial⟩

def sizT : List (Nat × Nat) := [(0, 1), (1, 1), (2, 1), (3, 1), (4, 1), (5, 1), (6, 1), (7, 4), (8, 4), (9, 1), (10, 1), (11, 1), (12, 1), (13, 2), (14, 2), (15, 1), (16, 1), (17, 1), (18, 1), (19, 1), (20, 1), (21, 1), (22, 1), (23, 1), (24, 1), (25, 1), (26, 1), (27, 1), (28, 1), (29, 1), (30, 1), (31, 1), (32, 1), (33, 1), (34, 3), (35, 3), (36, 3), (37, 3), (38, 9), (39, 9), (40, 4), (41, 4), (42, 1), (43, 1), (44, 1), (45, 1), (46, 1), (47, 1), (48, 2), (49, 1), (50, 1), (51, 1), (52, 1), (53, 1), (54, 9), (55, 2), (56, 6), (57, 19), (58, 19), (59, 1), (60, 1), (61, 1), (62, 2), (63, 2), (64, 1), (65, 1), (66, 1), (67, 1), (68, 1), (69, 1), (70, 1), (71, 1), (72, 1), (73, 1), (74, 1), (75, 1), (76, 1), (77, 1), (78, 1), (79, 1), (80, 1), (81, 1), (82, 1), (83, 1), (84, 1), (85, 1), (86, 4), (87, 4), (88, 0), (89, 0), (90, 0), (91, 1), (92, 1), (93, 1), (94, 1), (95, 1), (96, 1), (97, 1), (98, 11), (99, 11), (100, 1)]

theorem sizT_ok : tabAll (fun i m => (Try.prog.info? i).map (·.size) = some m) sizT := ⟨(by show _ = _; kernel_rfl), (by show _ = _; kernel_rfl), (by show _ = _; kernel_rfl), (by show _ = _; kernel_rfl), (by show _ = _; kernel_rfl), (by show _ = _; kernel_rfl), (by show _ = _; kernel_rfl), (by show _ = _; kernel_rfl), (by show _ = _; kernel_rfl), (by show _ = _; kernel_rfl), (by show _ = _; kernel_rfl), (by show _ = _; kernel_rfl), (by show _ = _; kernel_rfl), (by show _ = _; kernel_rfl), (by show _ = _; kernel_rfl), (by show _ = _; kernel_rfl), (by show _ = _; kernel_rfl), (by show _ = _; kernel_rfl), (by show _ = _; kernel_rfl), (by show _ = _; kernel_rfl), (by show _ = _; kernel_rfl), (by show _ = _; kernel_rfl), (by show _ = _; kernel_rfl), (by show _ = _; kernel_rfl), (by show _ = _; kernel_rfl), (by show _ = _; kernel_rfl), (by show _ = _; kernel_rfl), (by show _ = _; kernel_rfl), (by show _ = _; kernel_rfl), (by show _ = _; kernel_rfl), (by show _ = _; kernel_rfl), (by show _ = _; kernel_rfl), (by show _ = _; kernel_rfl), (by show _ = _; kernel_rfl), (by show _ = _; kernel_rfl), (by show _ = _; kernel_rfl), (by show _ = _; kernel_rfl), (by show _ = _; kernel_rfl), (by show _ = _; kernel_rfl), (by show _ = _; kernel_rfl), (by show _ = _; kernel_rfl), (by show _ = _; kernel_rfl), (by show _ = _; kernel_rfl), (by show _ = _; kernel_rfl), (by show _ = _; kernel_rfl), (by show _ = _; kernel_rfl), (by show _ = _; kernel_rfl), (by show _ = _; kernel_rfl), (by show _ = _; kernel_rfl), (by show _ = _; kernel_rfl), (by show _ = _; kernel_rfl), (by show _ = _; kernel_rfl), (by show _ = _; kernel_rfl), (by show _ = _; kernel_rfl), (by show _ = _; kernel_rfl), (by show _ = _; kernel_rfl), (by show _ = _; kernel_rfl), (by show _ = _; kernel_rfl), (by show _ = _; kernel_rfl), (by show _ = _; kernel_rfl), (by show _ = _; kernel_rfl), (by show _ = _; kernel_rfl), (by show _ = _; kernel_rfl), (by show _ = _; kernel_rfl), (by show _ = _; kernel_rfl), (by show _ = _; kernel_rfl), (by show _ = _; kernel_rfl), (by show _ = _; kernel_rfl), (by show _ = _; kernel_rfl), (by show _ = _; kernel_rfl), (by show _ = _; kernel_rfl), (by show _ = _; kernel_rfl), (by show _ = _; kernel_rfl), (by show _ = _; kernel_rfl), (by show _ = _; kernel_rfl), (by show _ = _; kernel_rfl), (by show _ = _; kernel_rfl), (by show _ = _; kernel_rfl), (by show _ = _; kernel_rfl), (by show _ = _; kernel_rfl), (by show _ = _; kernel_rfl), (by show _ = _; kernel_rfl), (by show _ = _; kernel_rfl), (by show _ = _; kernel_rfl), (by show _ = _; kernel_rfl), (by show _ = _; kernel_rfl), (by show _ = _; kernel_rfl), (by show _ = _; kernel_rfl), (by show _ = _; kernel_rfl), (by show _ = _; kernel_rfl), (by show _ = _; kernel_rfl), (by show _ = _; kernel_rfl), (by show _ = _; kernel_rfl), (by show _ = _; kernel_rfl), (by show _ = _; kernel_rfl), (by show _ = _; kernel_rfl), (by show _ = _; kernel_rfl), (by show _ = _; kernel_rfl), (by show _ = _; kernel_rfl), (by show _ = _; kernel_rfl), (by show _ = _; kernel_rfl), trivial⟩

def bytT : List (Nat × Nat) := [(0, 0), (1, 8), (2, 8), (3, 8), (4, 1), (5, 1), (6, 1), (7, 24), (8, 24), (9, 16), (10, 16), (11, 16), (12, 8), (13, 24), (14, 24), (15, 8), (16, 8), (17, 8), (18, 8), (19, 8), (20, 16), (21, 4), (22, 24), (23, 24), (24, 8), (25, 8), (26, 8), (27, 0), (28, 8), (29, 8), (30, 8), (31, 8), (32, 8), (33, 8), (34, 40), (35, 40), (36, 24), (37, 24), (38, 72), (39, 72), (40, 32), (41, 32), (42, 0), (43, 8), (44, 8), (45, 8), (46, 8), (47, 8), (48, 48), (49, 8), (50, 8), (51, 0), (52, 8), (53, 8), (54, 72), (55, 16), (56, 48), (57, 152), (58, 152), (59, 8), (60, 8), (61, 8), (62, 16), (63, 16), (64, 8), (65, 8), (66, 8), (67, 8), (68, 8), (69, 8), (70, 8), (71, 8), (72, 8), (73, 24), (74, 0), (75, 8), (76, 0), (77, 8), (78, 0), (79, 8), (80, 8), (81, 8), (82, 8), (83, 8), (84, 8), (85, 8), (86, 40), (87, 40), (88, 0), (89, 0), (90, 0), (91, 4), (92, 1), (93, 1), (94, 8), (95, 8), (96, 4), (97, 4), (98, 48), (99, 48), (100, 8)]

theorem bytT_ok : tabAll (fun i m => (Try.prog.info? i).map (·.bytes) = some m) bytT := ⟨(by show _ = _; kernel_rfl), (by show _ = _; kernel_rfl), (by show _ = _; kernel_rfl), (by show _ = _; kernel_rfl), (by show _ = _; kernel_rfl), (by show _ = _; kernel_rfl), (by show _ = _; kernel_rfl), (by show _ = _; kernel_rfl), (by show _ = _; kernel_rfl), (by show _ = _; kernel_rfl), (by show _ = _; kernel_rfl), (by show _ = _; kernel_rfl), (by show _ = _; kernel_rfl), (by show _ = _; kernel_rfl), (by show _ = _; kernel_rfl), (by show _ = _; kernel_rfl), (by show _ = _; kernel_rfl), (by show _ = _; kernel_rfl), (by show _ = _; kernel_rfl), (by show _ = _; kernel_rfl), (by show _ = _; kernel_rfl), (by show _ = _; kernel_rfl), (by show _ = _; kernel_rfl), (by show _ = _; kernel_rfl), (by show _ = _; kernel_rfl), (by show _ = _; kernel_rfl), (by show _ = _; kernel_rfl), (by show _ = _; kernel_rfl), (by show _ = _; kernel_rfl), (by show _ = _; kernel_rfl), (by show _ = _; kernel_rfl), (by show _ = _; kernel_rfl), (by show _ = _; kernel_rfl), (by show _ = _; kernel_rfl), (by show _ = _; kernel_rfl), (by show _ = _; kernel_rfl), (by show _ = _; kernel_rfl), (by show _ = _; kernel_rfl), (by show _ = _; kernel_rfl), (by show _ = _; kernel_rfl), (by show _ = _; kernel_rfl), (by show _ = _; kernel_rfl), (by show _ = _; kernel_rfl), (by show _ = _; kernel_rfl), (by show _ = _; kernel_rfl), (by show _ = _; kernel_rfl), (by show _ = _; kernel_rfl), (by show _ = _; kernel_rfl), (by show _ = _; kernel_rfl), (by show _ = _; kernel_rfl), (by show _ = _; kernel_rfl), (by show _ = _; kernel_rfl), (by show _ = _; kernel_rfl), (by show _ = _; kernel_rfl), (by show _ = _; kernel_rfl), (by show _ = _; kernel_rfl), (by show _ = _; kernel_rfl), (by show _ = _; kernel_rfl), (by show _ = _; kernel_rfl), (by show _ = _; kernel_rfl), (by show _ = _; kernel_rfl), (by show _ = _; kernel_rfl), (by show _ = _; kernel_rfl), (by show _ = _; kernel_rfl), (by show _ = _; kernel_rfl), (by show _ = _; kernel_rfl), (by show _ = _; kernel_rfl), (by show _ = _; kernel_rfl), (by show _ = _; kernel_rfl), (by show _ = _; kernel_rfl), (by show _ = _; kernel_rfl), (by show _ = _; kernel_rfl), (by show _ = _; kernel_rfl), (by show _ = _; kernel_rfl), (by show _ = _; kernel_rfl), (by show _ = _; kernel_rfl), (by show _ = _; kernel_rfl), (by show _ = _; kernel_rfl), (by show _ = _; kernel_rfl), (by show _ = _; kernel_rfl), (by show _ = _; kernel_rfl), (by show _ = _; kernel_rfl), (by show _ = _; kernel_rfl), (by show _ = _; kernel_rfl), (by show _ = _; kernel_rfl), (by show _ = _; kernel_rfl), (by show _ = _; kernel_rfl), (by show _ = _; kernel_rfl), (by show _ = _; kernel_rfl), (by show _ = _; kernel_rfl), (by show _ = _; kernel_rfl), (by show _ = _; kernel_rfl), (by show _ = _; kernel_rfl), (by show _ = _; kernel_rfl), (by show _ = _; kernel_rfl), (by show _ = _; kernel_rfl), (by show _ = _; kernel_rfl), (by show _ = _; kernel_rfl), (by show _ = _; kernel_rfl), (by show _ = _; kernel_rfl), (by show _ = _; kernel_rfl), trivial⟩

def zerT : List (Nat × Array Value) := [
  (0, #[Value.tuple #[]]),
  (1, #[Value.nilFunc]),
  (2, #[Value.int IntKind.i64 0]),
  (3, #[Value.int IntKind.i64 0]),
  (4, #[Value.bool false]),
  (5, #[Value.int IntKind.u8 0]),
  (6, #[Value.int IntKind.u8 0]),
  (7, #[Value.int IntKind.i64 0, Value.int IntKind.i64 0, Value.bool false, Value.int IntKind.u8 0]),
  (8, #[Value.int IntKind.i64 0, Value.int IntKind.i64 0, Value.bool false, Value.int IntKind.u8 0]),
  (9, #[Value.string { data := #[] }]),
  (10, #[Value.string { data := #[] }]),
  (11, #[Value.string { data := #[] }]),
  (12, #[Value.int IntKind.u64 0]),
  (13, #[Value.string { data := #[] }, Value.int IntKind.u64 0]),
  (14, #[Value.string { data := #[] }, Value.int IntKind.u64 0]),
  (15, #[Value.pointer none]),
  (16, #[Value.pointer none]),
  (17, #[Value.pointer none]),
  (18, #[Value.pointer none]),
  (19, #[Value.pointer none]),
  (20, #[Value.nilIface]),
  (21, #[Value.int IntKind.i32 0]),
  (22, #[Value.slice none 0 0]),
  (23, #[Value.slice none 0 0]),
  (24, #[Value.nilFunc]),
  (25, #[Value.pointer none]),
  (26, #[Value.int IntKind.i64 0]),
  (27, #[Value.tuple #[Value.pointer none, Value.int IntKind.i64 0]]),
  (28, #[Value.nilFunc]),
  (29, #[Value.nilFunc]),
  (30, #[Value.nilFunc]),
  (31, #[Value.nilFunc]),
  (32, #[Value.int IntKind.i64 0]),
  (33, #[Value.int IntKind.i64 0]),
  (34, #[Value.int IntKind.i64 0, Value.bool false, Value.slice none 0 0]),
  (35, #[Value.int IntKind.i64 0, Value.bool false, Value.slice none 0 0]),
  (36, #[Value.int IntKind.i64 0, Value.int IntKind.i64 0, Value.int IntKind.i64 0]),
  (37, #[Value.int IntKind.i64 0, Value.int IntKind.i64 0, Value.int IntKind.i64 0]),
  (38, #[Value.int IntKind.i64 0, Value.int IntKind.i64 0, Value.int IntKind.i64 0, Value.int IntKind.i64 0, Value.int IntKind.i64 0, Value.int IntKind.i64 0, Value.int IntKind.u8 0, Value.int IntKind.i64 0, Value.bool false]),
  (39, #[Value.int IntKind.i64 0, Value.int IntKind.i64 0, Value.int IntKind.i64 0, Value.int IntKind.i64 0, Value.int IntKind.i64 0, Value.int IntKind.i64 0, Value.int IntKind.u8 0, Value.int IntKind.i64 0, Value.bool false]),
  (40, #[Value.int IntKind.i64 0, Value.int IntKind.i64 0, Value.int IntKind.i64 0, Value.int IntKind.i64 0]),
  (41, #[Value.int IntKind.i64 0, Value.int IntKind.i64 0, Value.int IntKind.i64 0, Value.int IntKind.i64 0]),
  (42, #[Value.tuple #[Value.int IntKind.i64 0, Value.agg #[Value.int IntKind.i64 0, Value.int IntKind.i64 0, Value.int IntKind.i64 0, Value.int IntKind.i64 0]]]),
  (43, #[Value.nilFunc]),
  (44, #[Value.nilFunc]),
  (45, #[Value.nilFunc]),
  (46, #[Value.nilFunc]),
  (47, #[Value.nilFunc]),
  (48, #[Value.slice none 0 0, Value.slice none 0 0]),
  (49, #[Value.nilFunc]),
  (50, #[Value.nilFunc]),
  (51, #[Value.tuple #[Value.agg #[Value.int IntKind.i64 0, Value.int IntKind.i64 0, Value.int IntKind.i64 0, Value.int IntKind.i64 0], Value.bool false]]),
  (52, #[Value.nilFunc]),
  (53, #[Value.nilFunc]),
  (54, #[Value.int IntKind.i64 0, Value.int IntKind.i64 0, Value.int IntKind.i64 0, Value.int IntKind.i64 0, Value.int IntKind.i64 0, Value.int IntKind.i64 0, Value.int IntKind.i64 0, Value.int IntKind.i64 0, Value.int IntKind.i64 0]),
  (55, #[Value.int IntKind.i64 0, Value.int IntKind.i64 0]),
  (56, #[Value.int IntKind.i64 0, Value.int IntKind.i64 0, Value.int IntKind.i64 0, Value.int IntKind.i64 0, Value.int IntKind.i64 0, Value.int IntKind.i64 0]),
  (57, #[Value.int IntKind.i64 0, Value.int IntKind.i64 0, Value.int IntKind.i64 0, Value.int IntKind.i64 0, Value.int IntKind.i64 0, Value.int IntKind.i64 0, Value.int IntKind.i64 0, Value.int IntKind.i64 0, Value.int IntKind.i64 0, Value.int IntKind.i64 0, Value.int IntKind.i64 0, Value.int IntKind.i64 0, Value.int IntKind.i64 0, Value.int IntKind.i64 0, Value.int IntKind.i64 0, Value.int IntKind.i64 0, Value.int IntKind.i64 0, Value.int IntKind.i64 0, Value.int IntKind.u8 0]),
  (58, #[Value.int IntKind.i64 0, Value.int IntKind.i64 0, Value.int IntKind.i64 0, Value.int IntKind.i64 0, Value.int IntKind.i64 0, Value.int IntKind.i64 0, Value.int IntKind.i64 0, Value.int IntKind.i64 0, Value.int IntKind.i64 0, Value.int IntKind.i64 0, Value.int IntKind.i64 0, Value.int IntKind.i64 0, Value.int IntKind.i64 0, Value.int IntKind.i64 0, Value.int IntKind.i64 0, Value.int IntKind.i64 0, Value.int IntKind.i64 0, Value.int IntKind.i64 0, Value.int IntKind.u8 0]),
  (59, #[Value.nilFunc]),
  (60, #[Value.nilFunc]),
  (61, #[Value.int IntKind.u64 0]),
  (62, #[Value.int IntKind.i64 0, Value.int IntKind.u64 0]),
  (63, #[Value.int IntKind.i64 0, Value.int IntKind.u64 0]),
  (64, #[Value.nilFunc]),
  (65, #[Value.nilFunc]),
  (66, #[Value.nilFunc]),
  (67, #[Value.nilFunc]),
  (68, #[Value.nilFunc]),
  (69, #[Value.nilFunc]),
  (70, #[Value.pointer none]),
  (71, #[Value.nilFunc]),
  (72, #[Value.nilFunc]),
  (73, #[Value.slice none 0 0]),
  (74, #[Value.tuple #[Value.int IntKind.u64 0, Value.bool false]]),
  (75, #[Value.nilFunc]),
  (76, #[Value.tuple #[Value.int IntKind.u64 0, Value.int IntKind.u64 0]]),
  (77, #[Value.nilFunc]),
  (78, #[Value.tuple #[Value.agg #[Value.int IntKind.i64 0, Value.int IntKind.u64 0], Value.bool false]]),
  (79, #[Value.nilFunc]),
  (80, #[Value.nilFunc]),
  (81, #[Value.int IntKind.i64 0]),
  (82, #[Value.nilFunc]),
  (83, #[Value.int IntKind.u64 0]),
  (84, #[Value.nilFunc]),
  (85, #[Value.nilFunc]),
  (86, #[Value.pointer none, Value.pointer none, Value.pointer none, Value.string { data := #[] }]),
  (87, #[Value.pointer none, Value.pointer none, Value.pointer none, Value.string { data := #[] }]),
  (88, #[]),
  (89, #[]),
  (90, #[]),
  (91, #[Value.int IntKind.u32 0]),
  (92, #[Value.int IntKind.u8 0]),
  (93, #[Value.int IntKind.u8 0]),
  (94, #[Value.nilFunc]),
  (95, #[Value.pointer none]),
  (96, #[Value.int IntKind.i32 0]),
  (97, #[Value.int IntKind.i32 0]),
  (98, #[Value.int IntKind.u64 0, Value.int IntKind.u64 0, Value.int IntKind.u32 0, Value.int IntKind.u8 0, Value.int IntKind.u8 0, Value.int IntKind.u8 0, Value.int IntKind.u8 0, Value.nilFunc, Value.pointer none, Value.int IntKind.i32 0, Value.int IntKind.i32 0]),
  (99, #[Value.int IntKind.u64 0, Value.int IntKind.u64 0, Value.int IntKind.u32 0, Value.int IntKind.u8 0, Value.int IntKind.u8 0, Value.int IntKind.u8 0, Value.int IntKind.u8 0, Value.nilFunc, Value.pointer none, Value.int IntKind.i32 0, Value.int IntKind.i32 0]),
  (100, #[Value.pointer none])]

theorem zerT_ok : tabAll (fun i A => ((Try.prog.info? i).bind (·.zero)).map Value.cells = some A) zerT := ⟨(by show _ = _; kernel_rfl), (by show _ = _; kernel_rfl), (by show _ = _; kernel_rfl), (by show _ = _; kernel_rfl), (by show _ = _; kernel_rfl), (by show _ = _; kernel_rfl), (by show _ = _; kernel_rfl), (by show _ = _; kernel_rfl), (by show _ = _; kernel_rfl), (by show _ = _; kernel_rfl), (by show _ = _; kernel_rfl), (by show _ = _; kernel_rfl), (by show _ = _; kernel_rfl), (by show _ = _; kernel_rfl), (by show _ = _; kernel_rfl), (by show _ = _; kernel_rfl), (by show _ = _; kernel_rfl), (by show _ = _; kernel_rfl), (by show _ = _; kernel_rfl), (by show _ = _; kernel_rfl), (by show _ = _; kernel_rfl), (by show _ = _; kernel_rfl), (by show _ = _; kernel_rfl), (by show _ = _; kernel_rfl), (by show _ = _; kernel_rfl), (by show _ = _; kernel_rfl), (by show _ = _; kernel_rfl), (by show _ = _; kernel_rfl), (by show _ = _; kernel_rfl), (by show _ = _; kernel_rfl), (by show _ = _; kernel_rfl), (by show _ = _; kernel_rfl), (by show _ = _; kernel_rfl), (by show _ = _; kernel_rfl), (by show _ = _; kernel_rfl), (by show _ = _; kernel_rfl), (by show _ = _; kernel_rfl), (by show _ = _; kernel_rfl), (by show _ = _; kernel_rfl), (by show _ = _; kernel_rfl), (by show _ = _; kernel_rfl), (by show _ = _; kernel_rfl), (by show _ = _; kernel_rfl), (by show _ = _; kernel_rfl), (by show _ = _; kernel_rfl), (by show _ = _; kernel_rfl), (by show _ = _; kernel_rfl), (by show _ = _; kernel_rfl), (by show _ = _; kernel_rfl), (by show _ = _; kernel_rfl), (by show _ = _; kernel_rfl), (by show _ = _; kernel_rfl), (by show _ = _; kernel_rfl), (by show _ = _; kernel_rfl), (by show _ = _; kernel_rfl), (by show _ = _; kernel_rfl), (by show _ = _; kernel_rfl), (by show _ = _; kernel_rfl), (by show _ = _; kernel_rfl), (by show _ = _; kernel_rfl), (by show _ = _; kernel_rfl), (by show _ = _; kernel_rfl), (by show _ = _; kernel_rfl), (by show _ = _; kernel_rfl), (by show _ = _; kernel_rfl), (by show _ = _; kernel_rfl), (by show _ = _; kernel_rfl), (by show _ = _; kernel_rfl), (by show _ = _; kernel_rfl), (by show _ = _; kernel_rfl), (by show _ = _; kernel_rfl), (by show _ = _; kernel_rfl), (by show _ = _; kernel_rfl), (by show _ = _; kernel_rfl), (by show _ = _; kernel_rfl), (by show _ = _; kernel_rfl), (by show _ = _; kernel_rfl), (by show _ = _; kernel_rfl), (by show _ = _; kernel_rfl), (by show _ = _; kernel_rfl), (by show _ = _; kernel_rfl), (by show _ = _; kernel_rfl), (by show _ = _; kernel_rfl), (by show _ = _; kernel_rfl), (by show _ = _; kernel_rfl), (by show _ = _; kernel_rfl), (by show _ = _; kernel_rfl), (by show _ = _; kernel_rfl), (by show _ = _; kernel_rfl), (by show _ = _; kernel_rfl), (by show _ = _; kernel_rfl), (by show _ = _; kernel_rfl), (by show _ = _; kernel_rfl), (by show _ = _; kernel_rfl), (by show _ = _; kernel_rfl), (by show _ = _; kernel_rfl), (by show _ = _; kernel_rfl), (by show _ = _; kernel_rfl), (by show _ = _; kernel_rfl), (by show _ = _; kernel_rfl), (by show _ = _; kernel_rfl), trivial⟩

def eqgT : List (Nat × Bool) := [(7, false), (8, false), (13, false), (14, false), (18, false), (19, false), (32, false), (33, false), (34, false), (35, false), (36, false), (37, false), (38, false), (39, false), (40, false), (41, false), (48, false), (54, false), (55, false), (56, false), (57, false), (58, false), (62, false), (63, false), (86, false), (87, false), (88, false), (89, false), (90, false), (98, false), (99, false)]

theorem eqgT_ok : tabAll (fun i b => Try.prog.eqGuardType Try.prog.depth i = b) eqgT := ⟨Try.eqGuardType7, Try.eqGuardType8, Try.eqGuardType13, Try.eqGuardType14, Try.eqGuardType18, Try.eqGuardType19, Try.eqGuardType32, Try.eqGuardType33, Try.eqGuardType34, Try.eqGuardType35, Try.eqGuardType36, Try.eqGuardType37, Try.eqGuardType38, Try.eqGuardType39, Try.eqGuardType40, Try.eqGuardType41, Try.eqGuardType48, Try.eqGuardType54, Try.eqGuardType55, Try.eqGuardType56, Try.eqGuardType57, Try.eqGuardType58, Try.eqGuardType62, Try.eqGuardType63, Try.eqGuardType86, Try.eqGuardType87, Try.eqGuardType88, Try.eqGuardType89, Try.eqGuardType90, Try.eqGuardType98, Try.eqGuardType99, trivial⟩

/-- Of each struct, each field (type times 100, field): where it lies, how many cells it has. -/
def fldT : List (Nat × Nat × Nat) := [(700, 0, 1), (701, 1, 1), (702, 2, 1), (703, 3, 1), (800, 0, 1), (801, 1, 1), (802, 2, 1), (803, 3, 1), (1300, 0, 1), (1301, 1, 1), (1400, 0, 1), (1401, 1, 1), (1800, 0, 1), (1900, 0, 1), (3200, 0, 1), (3300, 0, 1), (3400, 0, 1), (3401, 1, 1), (3402, 2, 1), (3500, 0, 1), (3501, 1, 1), (3502, 2, 1), (3600, 0, 1), (3601, 1, 1), (3602, 2, 1), (3700, 0, 1), (3701, 1, 1), (3702, 2, 1), (3800, 0, 3), (3801, 3, 3), (3802, 6, 1), (3803, 7, 1), (3804, 8, 1), (3900, 0, 3), (3901, 3, 3), (3902, 6, 1), (3903, 7, 1), (3904, 8, 1), (4000, 0, 1), (4001, 1, 1), (4002, 2, 1), (4003, 3, 1), (4100, 0, 1), (4101, 1, 1), (4102, 2, 1), (4103, 3, 1), (5700, 0, 9), (5701, 9, 6), (5702, 15, 1), (5703, 16, 1), (5704, 17, 1), (5705, 18, 1), (5800, 0, 9), (5801, 9, 6), (5802, 15, 1), (5803, 16, 1), (5804, 17, 1), (5805, 18, 1), (6200, 0, 1), (6201, 1, 1), (6300, 0, 1), (6301, 1, 1), (8600, 0, 1), (8601, 1, 1), (8602, 2, 1), (8603, 3, 1), (8700, 0, 1), (8701, 1, 1), (8702, 2, 1), (8703, 3, 1), (8900, 0, 0), (9000, 0, 0), (9800, 0, 1), (9801, 1, 1), (9802, 2, 1), (9803, 3, 1), (9804, 4, 1), (9805, 5, 1), (9806, 6, 1), (9807, 7, 1), (9808, 8, 1), (9809, 9, 1), (9810, 10, 1), (9900, 0, 1), (9901, 1, 1), (9902, 2, 1), (9903, 3, 1), (9904, 4, 1), (9905, 5, 1), (9906, 6, 1), (9907, 7, 1), (9908, 8, 1), (9909, 9, 1), (9910, 10, 1)]

theorem fldT_ok : tabAll (fun k x => ∃ fs fd, Try.prog.underlying (k / 100) = some (.struct fs) ∧ fs[k % 100]? = some fd ∧ fd.offset = x.1 ∧ (Try.prog.info? fd.type).map (·.size) = some x.2) fldT := ⟨⟨_, _, Try.underlying7, rfl, rfl, (by show _ = _; kernel_rfl)⟩, ⟨_, _, Try.underlying7, rfl, rfl, (by show _ = _; kernel_rfl)⟩, ⟨_, _, Try.underlying7, rfl, rfl, (by show _ = _; kernel_rfl)⟩, ⟨_, _, Try.underlying7, rfl, rfl, (by show _ = _; kernel_rfl)⟩, ⟨_, _, Try.underlying8, rfl, rfl, (by show _ = _; kernel_rfl)⟩, ⟨_, _, Try.underlying8, rfl, rfl, (by show _ = _; kernel_rfl)⟩, ⟨_, _, Try.underlying8, rfl, rfl, (by show _ = _; kernel_rfl)⟩, ⟨_, _, Try.underlying8, rfl, rfl, (by show _ = _; kernel_rfl)⟩, ⟨_, _, Try.underlying13, rfl, rfl, (by show _ = _; kernel_rfl)⟩, ⟨_, _, Try.underlying13, rfl, rfl, (by show _ = _; kernel_rfl)⟩, ⟨_, _, Try.underlying14, rfl, rfl, (by show _ = _; kernel_rfl)⟩, ⟨_, _, Try.underlying14, rfl, rfl, (by show _ = _; kernel_rfl)⟩, ⟨_, _, Try.underlying18, rfl, rfl, (by show _ = _; kernel_rfl)⟩, ⟨_, _, Try.underlying19, rfl, rfl, (by show _ = _; kernel_rfl)⟩, ⟨_, _, Try.underlying32, rfl, rfl, (by show _ = _; kernel_rfl)⟩, ⟨_, _, Try.underlying33, rfl, rfl, (by show _ = _; kernel_rfl)⟩, ⟨_, _, Try.underlying34, rfl, rfl, (by show _ = _; kernel_rfl)⟩, ⟨_, _, Try.underlying34, rfl, rfl, (by show _ = _; kernel_rfl)⟩, ⟨_, _, Try.underlying34, rfl, rfl, (by show _ = _; kernel_rfl)⟩, ⟨_, _, Try.underlying35, rfl, rfl, (by show _ = _; kernel_rfl)⟩, ⟨_, _, Try.underlying35, rfl, rfl, (by show _ = _; kernel_rfl)⟩, ⟨_, _, Try.underlying35, rfl, rfl, (by show _ = _; kernel_rfl)⟩, ⟨_, _, Try.underlying36, rfl, rfl, (by show _ = _; kernel_rfl)⟩, ⟨_, _, Try.underlying36, rfl, rfl, (by show _ = _; kernel_rfl)⟩, ⟨_, _, Try.underlying36, rfl, rfl, (by show _ = _; kernel_rfl)⟩, ⟨_, _, Try.underlying37, rfl, rfl, (by show _ = _; kernel_rfl)⟩, ⟨_, _, Try.underlying37, rfl, rfl, (by show _ = _; kernel_rfl)⟩, ⟨_, _, Try.underlying37, rfl, rfl, (by show _ = _; kernel_rfl)⟩, ⟨_, _, Try.underlying38, rfl, rfl, (by show _ = _; kernel_rfl)⟩, ⟨_, _, Try.underlying38, rfl, rfl, (by show _ = _; kernel_rfl)⟩, ⟨_, _, Try.underlying38, rfl, rfl, (by show _ = _; kernel_rfl)⟩, ⟨_, _, Try.underlying38, rfl, rfl, (by show _ = _; kernel_rfl)⟩, ⟨_, _, Try.underlying38, rfl, rfl, (by show _ = _; kernel_rfl)⟩, ⟨_, _, Try.underlying39, rfl, rfl, (by show _ = _; kernel_rfl)⟩, ⟨_, _, Try.underlying39, rfl, rfl, (by show _ = _; kernel_rfl)⟩, ⟨_, _, Try.underlying39, rfl, rfl, (by show _ = _; kernel_rfl)⟩, ⟨_, _, Try.underlying39, rfl, rfl, (by show _ = _; kernel_rfl)⟩, ⟨_, _, Try.underlying39, rfl, rfl, (by show _ = _; kernel_rfl)⟩, ⟨_, _, Try.underlying40, rfl, rfl, (by show _ = _; kernel_rfl)⟩, ⟨_, _, Try.underlying40, rfl, rfl, (by show _ = _; kernel_rfl)⟩, ⟨_, _, Try.underlying40, rfl, rfl, (by show _ = _; kernel_rfl)⟩, ⟨_, _, Try.underlying40, rfl, rfl, (by show _ = _; kernel_rfl)⟩, ⟨_, _, Try.underlying41, rfl, rfl, (by show _ = _; kernel_rfl)⟩, ⟨_, _, Try.underlying41, rfl, rfl, (by show _ = _; kernel_rfl)⟩, ⟨_, _, Try.underlying41, rfl, rfl, (by show _ = _; kernel_rfl)⟩, ⟨_, _, Try.underlying41, rfl, rfl, (by show _ = _; kernel_rfl)⟩, ⟨_, _, Try.underlying57, rfl, rfl, (by show _ = _; kernel_rfl)⟩, ⟨_, _, Try.underlying57, rfl, rfl, (by show _ = _; kernel_rfl)⟩, ⟨_, _, Try.underlying57, rfl, rfl, (by show _ = _; kernel_rfl)⟩, ⟨_, _, Try.underlying57, rfl, rfl, (by show _ = _; kernel_rfl)⟩, ⟨_, _, Try.underlying57, rfl, rfl, (by show _ = _; kernel_rfl)⟩, ⟨_, _, Try.underlying57, rfl, rfl, (by show _ = _; kernel_rfl)⟩, ⟨_, _, Try.underlying58, rfl, rfl, (by show _ = _; kernel_rfl)⟩, ⟨_, _, Try.underlying58, rfl, rfl, (by show _ = _; kernel_rfl)⟩, ⟨_, _, Try.underlying58, rfl, rfl, (by show _ = _; kernel_rfl)⟩, ⟨_, _, Try.underlying58, rfl, rfl, (by show _ = _; kernel_rfl)⟩, ⟨_, _, Try.underlying58, rfl, rfl, (by show _ = _; kernel_rfl)⟩, ⟨_, _, Try.underlying58, rfl, rfl, (by show _ = _; kernel_rfl)⟩, ⟨_, _, Try.underlying62, rfl, rfl, (by show _ = _; kernel_rfl)⟩, ⟨_, _, Try.underlying62, rfl, rfl, (by show _ = _; kernel_rfl)⟩, ⟨_, _, Try.underlying63, rfl, rfl, (by show _ = _; kernel_rfl)⟩, ⟨_, _, Try.underlying63, rfl, rfl, (by show _ = _; kernel_rfl)⟩, ⟨_, _, Try.underlying86, rfl, rfl, (by show _ = _; kernel_rfl)⟩, ⟨_, _, Try.underlying86, rfl, rfl, (by show _ = _; kernel_rfl)⟩, ⟨_, _, Try.underlying86, rfl, rfl, (by show _ = _; kernel_rfl)⟩, ⟨_, _, Try.underlying86, rfl, rfl, (by show _ = _; kernel_rfl)⟩, ⟨_, _, Try.underlying87, rfl, rfl, (by show _ = _; kernel_rfl)⟩, ⟨_, _, Try.underlying87, rfl, rfl, (by show _ = _; kernel_rfl)⟩, ⟨_, _, Try.underlying87, rfl, rfl, (by show _ = _; kernel_rfl)⟩, ⟨_, _, Try.underlying87, rfl, rfl, (by show _ = _; kernel_rfl)⟩, ⟨_, _, Try.underlying89, rfl, rfl, (by show _ = _; kernel_rfl)⟩, ⟨_, _, Try.underlying90, rfl, rfl, (by show _ = _; kernel_rfl)⟩, ⟨_, _, Try.underlying98, rfl, rfl, (by show _ = _; kernel_rfl)⟩, ⟨_, _, Try.underlying98, rfl, rfl, (by show _ = _; kernel_rfl)⟩, ⟨_, _, Try.underlying98, rfl, rfl, (by show _ = _; kernel_rfl)⟩, ⟨_, _, Try.underlying98, rfl, rfl, (by show _ = _; kernel_rfl)⟩, ⟨_, _, Try.underlying98, rfl, rfl, (by show _ = _; kernel_rfl)⟩, ⟨_, _, Try.underlying98, rfl, rfl, (by show _ = _; kernel_rfl)⟩, ⟨_, _, Try.underlying98, rfl, rfl, (by show _ = _; kernel_rfl)⟩, ⟨_, _, Try.underlying98, rfl, rfl, (by show _ = _; kernel_rfl)⟩, ⟨_, _, Try.underlying98, rfl, rfl, (by show _ = _; kernel_rfl)⟩, ⟨_, _, Try.underlying98, rfl, rfl, (by show _ = _; kernel_rfl)⟩, ⟨_, _, Try.underlying98, rfl, rfl, (by show _ = _; kernel_rfl)⟩, ⟨_, _, Try.underlying99, rfl, rfl, (by show _ = _; kernel_rfl)⟩, ⟨_, _, Try.underlying99, rfl, rfl, (by show _ = _; kernel_rfl)⟩, ⟨_, _, Try.underlying99, rfl, rfl, (by show _ = _; kernel_rfl)⟩, ⟨_, _, Try.underlying99, rfl, rfl, (by show _ = _; kernel_rfl)⟩, ⟨_, _, Try.underlying99, rfl, rfl, (by show _ = _; kernel_rfl)⟩, ⟨_, _, Try.underlying99, rfl, rfl, (by show _ = _; kernel_rfl)⟩, ⟨_, _, Try.underlying99, rfl, rfl, (by show _ = _; kernel_rfl)⟩, ⟨_, _, Try.underlying99, rfl, rfl, (by show _ = _; kernel_rfl)⟩, ⟨_, _, Try.underlying99, rfl, rfl, (by show _ = _; kernel_rfl)⟩, ⟨_, _, Try.underlying99, rfl, rfl, (by show _ = _; kernel_rfl)⟩, ⟨_, _, Try.underlying99, rfl, rfl, (by show _ = _; kernel_rfl)⟩, trivial⟩

def calT : List (Nat × Nat) := [(2, 2), (3, 3), (4, 4), (5, 5), (6, 6), (7, 7), (8, 8), (9, 9), (10, 10), (11, 11), (12, 12), (13, 13), (14, 14), (15, 15), (16, 16), (17, 17), (18, 18), (19, 19), (20, 20), (21, 21), (22, 22), (23, 23), (24, 24), (25, 25), (26, 26), (27, 27), (28, 28), (29, 29), (30, 30), (31, 31), (32, 32), (33, 33), (34, 34), (35, 35), (36, 36), (37, 37), (38, 38), (39, 39), (40, 40), (41, 41), (42, 42), (43, 43)]

theorem calT_ok : tabAll (fun i j => ∀ args w, Sem.run Try.prog (callFunc i args) w = .ok (.enter j args) w) calT := ⟨Try.call2, Try.call3, Try.call4, Try.call5, Try.call6, Try.call7, Try.call8, Try.call9, Try.call10, Try.call11, Try.call12, Try.call13, Try.call14, Try.call15, Try.call16, Try.call17, Try.call18, Try.call19, Try.call20, Try.call21, Try.call22, Try.call23, Try.call24, Try.call25, Try.call26, Try.call27, Try.call28, Try.call29, Try.call30, Try.call31, Try.call32, Try.call33, Try.call34, Try.call35, Try.call36, Try.call37, Try.call38, Try.call39, Try.call40, Try.call41, Try.call42, Try.call43, trivial⟩

end Go.Proofs.Ytgjlpnendljcaaa
