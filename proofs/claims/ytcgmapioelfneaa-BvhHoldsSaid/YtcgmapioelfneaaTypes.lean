/- Tables of the types and functions that this program has. No condition. -/
import Derived.Test.YtcgmapioelfneaaBase
namespace Go.Proofs.Ytcgmapioelfneaa
open Go
set_option maxRecDepth 100000

def tabAll {α : Type} (p : Nat → α → Prop) : List (Nat × α) → Prop
  | [] => True
  | x :: l => p x.1 x.2 ∧ tabAll p l

def tabLook {α : Type} : List (Nat × α) → Nat → Option α
  | [], _ => none
  | (j, x) :: l, i => cond (Nat.beq j i) (some x) (tabLook l i)

theorem tabAll_look {α : Type} {p : Nat → α → Prop} : ∀ {l : List (Nat × α)} {i : Nat} {x : α}, tabAll p l → tabLook l i = some x → p i x
  | [], _, _, _, h => by cases h
  | (j, y) :: l, i, x, h, hx => by
    have hb : Nat.beq j i = decide (j = i) := by rw [Bool.eq_iff_iff]; simp
    rw [tabLook, hb] at hx
    by_cases e : j = i
    · subst e
      have : y = x := by simpa using hx
      subst this
      exact h.1
    · exact tabAll_look h.2 (by simpa [e] using hx)

def undT : List (Nat × TypeDesc) := [
  (0, (TypeDesc.tuple #[])),
  (1, (TypeDesc.func #[] #[] false)),
  (2, (TypeDesc.int IntKind.i64)),
  (3, (TypeDesc.int IntKind.i64)),
  (4, TypeDesc.bool),
  (5, (TypeDesc.int IntKind.u8)),
  (6, (TypeDesc.int IntKind.u8)),
  (7, (TypeDesc.struct #[{ name := "x", type := 2, offset := 0, embedded := false, tag := "", pkgPath := "runtime", byteOffset := 0 }, { name := "y", type := 3, offset := 1, embedded := false, tag := "", pkgPath := "runtime", byteOffset := 8 }, { name := "signed", type := 4, offset := 2, embedded := false, tag := "", pkgPath := "runtime", byteOffset := 16 }, { name := "code", type := 6, offset := 3, embedded := false, tag := "", pkgPath := "runtime", byteOffset := 17 }])),
  (8, (TypeDesc.struct #[{ name := "x", type := 2, offset := 0, embedded := false, tag := "", pkgPath := "runtime", byteOffset := 0 }, { name := "y", type := 3, offset := 1, embedded := false, tag := "", pkgPath := "runtime", byteOffset := 8 }, { name := "signed", type := 4, offset := 2, embedded := false, tag := "", pkgPath := "runtime", byteOffset := 16 }, { name := "code", type := 6, offset := 3, embedded := false, tag := "", pkgPath := "runtime", byteOffset := 17 }])),
  (9, TypeDesc.string),
  (10, TypeDesc.string),
  (11, TypeDesc.string),
  (12, (TypeDesc.int IntKind.u64)),
  (13, (TypeDesc.struct #[{ name := "msg", type := 9, offset := 0, embedded := false, tag := "", pkgPath := "runtime", byteOffset := 0 }, { name := "addr", type := 12, offset := 1, embedded := false, tag := "", pkgPath := "runtime", byteOffset := 16 }])),
  (14, (TypeDesc.struct #[{ name := "msg", type := 9, offset := 0, embedded := false, tag := "", pkgPath := "runtime", byteOffset := 0 }, { name := "addr", type := 12, offset := 1, embedded := false, tag := "", pkgPath := "runtime", byteOffset := 16 }])),
  (15, (TypeDesc.pointer 92)),
  (16, (TypeDesc.pointer 95)),
  (17, (TypeDesc.pointer 104)),
  (18, (TypeDesc.struct #[{ name := "typ", type := 17, offset := 0, embedded := false, tag := "", pkgPath := "internal/runtime/maps", byteOffset := 0 }])),
  (19, (TypeDesc.struct #[{ name := "typ", type := 17, offset := 0, embedded := false, tag := "", pkgPath := "internal/runtime/maps", byteOffset := 0 }])),
  (20, (TypeDesc.interface #[])),
  (21, (TypeDesc.int IntKind.i32)),
  (22, (TypeDesc.slice 37)),
  (23, (TypeDesc.func #[22] #[22] false)),
  (24, (TypeDesc.slice 43)),
  (25, (TypeDesc.slice 3)),
  (26, (TypeDesc.struct #[{ name := "Nodes", type := 24, offset := 0, embedded := false, tag := "", pkgPath := "", byteOffset := 0 }, { name := "Order", type := 25, offset := 1, embedded := false, tag := "", pkgPath := "", byteOffset := 24 }])),
  (27, (TypeDesc.struct #[{ name := "Nodes", type := 24, offset := 0, embedded := false, tag := "", pkgPath := "", byteOffset := 0 }, { name := "Order", type := 25, offset := 1, embedded := false, tag := "", pkgPath := "", byteOffset := 24 }])),
  (28, (TypeDesc.int IntKind.i64)),
  (29, (TypeDesc.tuple #[27, 28])),
  (30, (TypeDesc.func #[22] #[27, 28] false)),
  (31, (TypeDesc.struct #[{ name := "X", type := 3, offset := 0, embedded := false, tag := "", pkgPath := "", byteOffset := 0 }, { name := "Y", type := 3, offset := 1, embedded := false, tag := "", pkgPath := "", byteOffset := 8 }, { name := "Z", type := 3, offset := 2, embedded := false, tag := "", pkgPath := "", byteOffset := 16 }])),
  (32, (TypeDesc.struct #[{ name := "X", type := 3, offset := 0, embedded := false, tag := "", pkgPath := "", byteOffset := 0 }, { name := "Y", type := 3, offset := 1, embedded := false, tag := "", pkgPath := "", byteOffset := 8 }, { name := "Z", type := 3, offset := 2, embedded := false, tag := "", pkgPath := "", byteOffset := 16 }])),
  (33, (TypeDesc.array 3 32)),
  (34, (TypeDesc.array 2 3)),
  (35, (TypeDesc.array 3 34)),
  (36, (TypeDesc.struct #[{ name := "P", type := 33, offset := 0, embedded := false, tag := "", pkgPath := "", byteOffset := 0 }, { name := "Uv", type := 35, offset := 9, embedded := false, tag := "", pkgPath := "", byteOffset := 72 }, { name := "Mat", type := 3, offset := 15, embedded := false, tag := "", pkgPath := "", byteOffset := 120 }, { name := "Tex", type := 3, offset := 16, embedded := false, tag := "", pkgPath := "", byteOffset := 128 }, { name := "Obj", type := 3, offset := 17, embedded := false, tag := "", pkgPath := "", byteOffset := 136 }, { name := "Mask", type := 5, offset := 18, embedded := false, tag := "", pkgPath := "", byteOffset := 144 }])),
  (37, (TypeDesc.struct #[{ name := "P", type := 33, offset := 0, embedded := false, tag := "", pkgPath := "", byteOffset := 0 }, { name := "Uv", type := 35, offset := 9, embedded := false, tag := "", pkgPath := "", byteOffset := 72 }, { name := "Mat", type := 3, offset := 15, embedded := false, tag := "", pkgPath := "", byteOffset := 120 }, { name := "Tex", type := 3, offset := 16, embedded := false, tag := "", pkgPath := "", byteOffset := 128 }, { name := "Obj", type := 3, offset := 17, embedded := false, tag := "", pkgPath := "", byteOffset := 136 }, { name := "Mask", type := 5, offset := 18, embedded := false, tag := "", pkgPath := "", byteOffset := 144 }])),
  (38, (TypeDesc.func #[37] #[4] false)),
  (39, (TypeDesc.func #[] #[4] false)),
  (40, (TypeDesc.func #[27, 22] #[4] false)),
  (41, (TypeDesc.func #[27] #[3] false)),
  (42, (TypeDesc.struct #[{ name := "Lo", type := 32, offset := 0, embedded := false, tag := "", pkgPath := "", byteOffset := 0 }, { name := "Hi", type := 32, offset := 3, embedded := false, tag := "", pkgPath := "", byteOffset := 24 }, { name := "Left", type := 3, offset := 6, embedded := false, tag := "", pkgPath := "", byteOffset := 48 }, { name := "Right", type := 3, offset := 7, embedded := false, tag := "", pkgPath := "", byteOffset := 56 }, { name := "First", type := 3, offset := 8, embedded := false, tag := "", pkgPath := "", byteOffset := 64 }, { name := "Count", type := 3, offset := 9, embedded := false, tag := "", pkgPath := "", byteOffset := 72 }])),
  (43, (TypeDesc.struct #[{ name := "Lo", type := 32, offset := 0, embedded := false, tag := "", pkgPath := "", byteOffset := 0 }, { name := "Hi", type := 32, offset := 3, embedded := false, tag := "", pkgPath := "", byteOffset := 24 }, { name := "Left", type := 3, offset := 6, embedded := false, tag := "", pkgPath := "", byteOffset := 48 }, { name := "Right", type := 3, offset := 7, embedded := false, tag := "", pkgPath := "", byteOffset := 56 }, { name := "First", type := 3, offset := 8, embedded := false, tag := "", pkgPath := "", byteOffset := 64 }, { name := "Count", type := 3, offset := 9, embedded := false, tag := "", pkgPath := "", byteOffset := 72 }])),
  (44, (TypeDesc.tuple #[32, 32])),
  (45, (TypeDesc.func #[46] #[32, 32] true)),
  (46, (TypeDesc.slice 32)),
  (47, (TypeDesc.func #[3] #[32] false)),
  (48, (TypeDesc.func #[22] #[4] false)),
  (49, (TypeDesc.map 3 3)),
  (50, (TypeDesc.func #[27] #[25] false)),
  (51, (TypeDesc.func #[4, 3] #[4] false)),
  (52, (TypeDesc.struct #[{ name := "node", type := 3, offset := 0, embedded := false, tag := "", pkgPath := "umbra/bvh", byteOffset := 0 }, { name := "first", type := 3, offset := 1, embedded := false, tag := "", pkgPath := "umbra/bvh", byteOffset := 8 }, { name := "count", type := 3, offset := 2, embedded := false, tag := "", pkgPath := "umbra/bvh", byteOffset := 16 }, { name := "deep", type := 3, offset := 3, embedded := false, tag := "", pkgPath := "umbra/bvh", byteOffset := 24 }])),
  (53, (TypeDesc.struct #[{ name := "node", type := 3, offset := 0, embedded := false, tag := "", pkgPath := "umbra/bvh", byteOffset := 0 }, { name := "first", type := 3, offset := 1, embedded := false, tag := "", pkgPath := "umbra/bvh", byteOffset := 8 }, { name := "count", type := 3, offset := 2, embedded := false, tag := "", pkgPath := "umbra/bvh", byteOffset := 16 }, { name := "deep", type := 3, offset := 3, embedded := false, tag := "", pkgPath := "umbra/bvh", byteOffset := 24 }])),
  (54, (TypeDesc.slice 53)),
  (55, (TypeDesc.func #[22, 25] #[32, 32] false)),
  (56, (TypeDesc.func #[22, 25, 3] #[3] false)),
  (57, (TypeDesc.func #[] #[22] false)),
  (58, (TypeDesc.func #[27] #[4] false)),
  (59, (TypeDesc.func #[27, 3] #[25] false)),
  (60, (TypeDesc.func #[46] #[32, 32] false)),
  (61, (TypeDesc.slice 4)),
  (62, (TypeDesc.slice 25)),
  (63, (TypeDesc.func #[77] #[] false)),
  (64, (TypeDesc.func #[77] #[] false)),
  (65, (TypeDesc.func #[24] #[64] false)),
  (66, (TypeDesc.func #[62] #[25] true)),
  (67, (TypeDesc.func #[43, 22, 25] #[4] false)),
  (68, (TypeDesc.func #[25, 69] #[4] false)),
  (69, (TypeDesc.func #[3] #[4] false)),
  (70, (TypeDesc.func #[37] #[32] false)),
  (71, (TypeDesc.func #[32, 3] #[3] false)),
  (72, (TypeDesc.func #[25, 73] #[] false)),
  (73, (TypeDesc.func #[3, 3] #[3] false)),
  (74, (TypeDesc.func #[22, 25, 3, 3, 3] #[3] false)),
  (75, (TypeDesc.func #[3, 3, 3] #[3] false)),
  (76, (TypeDesc.func #[25, 69] #[3] false)),
  (77, (TypeDesc.func #[3, 43] #[4] false)),
  (78, (TypeDesc.func #[25, 3] #[25] false)),
  (79, (TypeDesc.array 3 3)),
  (80, (TypeDesc.func #[25, 3, 73] #[] false)),
  (81, (TypeDesc.struct #[{ name := "n", type := 3, offset := 0, embedded := false, tag := "", pkgPath := "umbra/bvh", byteOffset := 0 }, { name := "lo", type := 32, offset := 1, embedded := false, tag := "", pkgPath := "umbra/bvh", byteOffset := 8 }, { name := "hi", type := 32, offset := 4, embedded := false, tag := "", pkgPath := "umbra/bvh", byteOffset := 32 }])),
  (82, (TypeDesc.struct #[{ name := "n", type := 3, offset := 0, embedded := false, tag := "", pkgPath := "umbra/bvh", byteOffset := 0 }, { name := "lo", type := 32, offset := 1, embedded := false, tag := "", pkgPath := "umbra/bvh", byteOffset := 8 }, { name := "hi", type := 32, offset := 4, embedded := false, tag := "", pkgPath := "umbra/bvh", byteOffset := 32 }])),
  (83, (TypeDesc.array 8 82)),
  (84, (TypeDesc.func #[3, 32, 32] #[82] false)),
  (85, (TypeDesc.func #[] #[3] false)),
  (86, (TypeDesc.func #[25, 3, 3, 73] #[] false)),
  (87, (TypeDesc.func #[25, 3, 3, 3, 73] #[] false)),
  (88, (TypeDesc.func #[32, 32] #[3] false)),
  (89, (TypeDesc.int IntKind.u64)),
  (90, (TypeDesc.func #[] #[9] false)),
  (91, (TypeDesc.struct #[{ name := "_interface", type := 17, offset := 0, embedded := false, tag := "", pkgPath := "runtime", byteOffset := 0 }, { name := "concrete", type := 17, offset := 1, embedded := false, tag := "", pkgPath := "runtime", byteOffset := 8 }, { name := "asserted", type := 17, offset := 2, embedded := false, tag := "", pkgPath := "runtime", byteOffset := 16 }, { name := "missingMethod", type := 9, offset := 3, embedded := false, tag := "", pkgPath := "runtime", byteOffset := 24 }])),
  (92, (TypeDesc.struct #[{ name := "_interface", type := 17, offset := 0, embedded := false, tag := "", pkgPath := "runtime", byteOffset := 0 }, { name := "concrete", type := 17, offset := 1, embedded := false, tag := "", pkgPath := "runtime", byteOffset := 8 }, { name := "asserted", type := 17, offset := 2, embedded := false, tag := "", pkgPath := "runtime", byteOffset := 16 }, { name := "missingMethod", type := 9, offset := 3, embedded := false, tag := "", pkgPath := "runtime", byteOffset := 24 }])),
  (93, (TypeDesc.array 0 16)),
  (94, (TypeDesc.struct #[{ name := "_", type := 93, offset := 0, embedded := false, tag := "", pkgPath := "runtime", byteOffset := 0 }])),
  (95, (TypeDesc.struct #[{ name := "_", type := 93, offset := 0, embedded := false, tag := "", pkgPath := "runtime", byteOffset := 0 }])),
  (96, (TypeDesc.int IntKind.u32)),
  (97, (TypeDesc.int IntKind.u8)),
  (98, (TypeDesc.int IntKind.u8)),
  (99, (TypeDesc.func #[105, 105] #[4] false)),
  (100, (TypeDesc.pointer 5)),
  (101, (TypeDesc.int IntKind.i32)),
  (102, (TypeDesc.int IntKind.i32)),
  (103, (TypeDesc.struct #[{ name := "Size_", type := 12, offset := 0, embedded := false, tag := "", pkgPath := "", byteOffset := 0 }, { name := "PtrBytes", type := 12, offset := 1, embedded := false, tag := "", pkgPath := "", byteOffset := 8 }, { name := "Hash", type := 96, offset := 2, embedded := false, tag := "", pkgPath := "", byteOffset := 16 }, { name := "TFlag", type := 97, offset := 3, embedded := false, tag := "", pkgPath := "", byteOffset := 20 }, { name := "Align_", type := 5, offset := 4, embedded := false, tag := "", pkgPath := "", byteOffset := 21 }, { name := "FieldAlign_", type := 5, offset := 5, embedded := false, tag := "", pkgPath := "", byteOffset := 22 }, { name := "Kind_", type := 98, offset := 6, embedded := false, tag := "", pkgPath := "", byteOffset := 23 }, { name := "Equal", type := 99, offset := 7, embedded := false, tag := "", pkgPath := "", byteOffset := 24 }, { name := "GCData", type := 100, offset := 8, embedded := false, tag := "", pkgPath := "", byteOffset := 32 }, { name := "Str", type := 101, offset := 9, embedded := false, tag := "", pkgPath := "", byteOffset := 40 }, { name := "PtrToThis", type := 102, offset := 10, embedded := false, tag := "", pkgPath := "", byteOffset := 44 }])),
  (104, (TypeDesc.struct #[{ name := "Size_", type := 12, offset := 0, embedded := false, tag := "", pkgPath := "", byteOffset := 0 }, { name := "PtrBytes", type := 12, offset := 1, embedded := false, tag := "", pkgPath := "", byteOffset := 8 }, { name := "Hash", type := 96, offset := 2, embedded := false, tag := "", pkgPath := "", byteOffset := 16 }, { name := "TFlag", type := 97, offset := 3, embedded := false, tag := "", pkgPath := "", byteOffset := 20 }, { name := "Align_", type := 5, offset := 4, embedded := false, tag := "", pkgPath := "", byteOffset := 21 }, { name := "FieldAlign_", type := 5, offset := 5, embedded := false, tag := "", pkgPath := "", byteOffset := 22 }, { name := "Kind_", type := 98, offset := 6, embedded := false, tag := "", pkgPath := "", byteOffset := 23 }, { name := "Equal", type := 99, offset := 7, embedded := false, tag := "", pkgPath := "", byteOffset := 24 }, { name := "GCData", type := 100, offset := 8, embedded := false, tag := "", pkgPath := "", byteOffset := 32 }, { name := "Str", type := 101, offset := 9, embedded := false, tag := "", pkgPath := "", byteOffset := 40 }, { name := "PtrToThis", type := 102, offset := 10, embedded := false, tag := "", pkgPath := "", byteOffset := 44 }])),
  (105, TypeDesc.unsafePointer)]

theorem undT_ok : tabAll (fun i d => Try.prog.underlying i = some d) undT := ⟨Try.underlying0, Try.underlying1, Try.underlying2, Try.underlying3, Try.underlying4, Try.underlying5, Try.underlying6, Try.underlying7, Try.underlying8, Try.underlying9, Try.underlying10, Try.underlying11, Try.underlying12, Try.underlying13, Try.underlying14, Try.underlying15, Try.underlying16, Try.underlying17, Try.underlying18, Try.underlying19, Try.underlying20, Try.underlying21, Try.underlying22, Try.underlying23, Try.underlying24, Try.underlying25, Try.underlying26, Try.underlying27, Try.underlying28, Try.underlying29, Try.underlying30, Try.underlying31, Try.underlying32, Try.underlying33, Try.underlying34, Try.underlying35, Try.underlying36, Try.underlying37, Try.underlying38, Try.underlying39, Try.underlying40, Try.underlying41, Try.underlying42, Try.underlying43, Try.underlying44, Try.underlying45, Try.underlying46, Try.underlying47, Try.underlying48, Try.underlying49, Try.underlying50, Try.underlying51, Try.underlying52, Try.underlying53, Try.underlying54, Try.underlying55, Try.underlying56, Try.underlying57, Try.underlying58, Try.underlying59, Try.underlying60, Try.underlying61, Try.underlying62, Try.underlying63, Try.underlying64, Try.underlying65, Try.underlying66, Try.underlying67, Try.underlying68, Try.underlying69, Try.underlying70, Try.underlying71, Try.underlying72, Try.underlying73, Try.underlying74, Try.underlying75, Try.underlying76, Try.underlying77, Try.underlying78, Try.underlying79, Try.underlying80, Try.underlying81, Try.underlying82, Try.underlying83, Try.underlying84, Try.underlying85, Try.underlying86, Try.underlying87, Try.underlying88, Try.underlying89, Try.underlying90, Try.underlying91, Try.underlying92, Try.underlying93, Try.underlying94, Try.underlying95, Try.underlying96, Try.underlying97, Try.underlying98, Try.underlying99, Try.underlying100, Try.underlying101, Try.underlying102, Try.underlying103, Try.underlying104, Try.underlying105, trivial⟩

def sizT : List (Nat × Nat) := [(0, 1), (1, 1), (2, 1), (3, 1), (4, 1), (5, 1), (6, 1), (7, 4), (8, 4), (9, 1), (10, 1), (11, 1), (12, 1), (13, 2), (14, 2), (15, 1), (16, 1), (17, 1), (18, 1), (19, 1), (20, 1), (21, 1), (22, 1), (23, 1), (24, 1), (25, 1), (26, 2), (27, 2), (28, 1), (29, 1), (30, 1), (31, 3), (32, 3), (33, 9), (34, 2), (35, 6), (36, 19), (37, 19), (38, 1), (39, 1), (40, 1), (41, 1), (42, 10), (43, 10), (44, 1), (45, 1), (46, 1), (47, 1), (48, 1), (49, 1), (50, 1), (51, 1), (52, 4), (53, 4), (54, 1), (55, 1), (56, 1), (57, 1), (58, 1), (59, 1), (60, 1), (61, 1), (62, 1), (63, 1), (64, 1), (65, 1), (66, 1), (67, 1), (68, 1), (69, 1), (70, 1), (71, 1), (72, 1), (73, 1), (74, 1), (75, 1), (76, 1), (77, 1), (78, 1), (79, 3), (80, 1), (81, 7), (82, 7), (83, 56), (84, 1), (85, 1), (86, 1), (87, 1), (88, 1), (89, 1), (90, 1), (91, 4), (92, 4), (93, 0), (94, 0), (95, 0), (96, 1), (97, 1), (98, 1), (99, 1), (100, 1), (101, 1), (102, 1), (103, 11), (104, 11), (105, 1)]

theorem sizT_ok : tabAll (fun i m => (Try.prog.info? i).map (·.size) = some m) sizT := ⟨(by show _ = _; kernel_rfl), (by show _ = _; kernel_rfl), (by show _ = _; kernel_rfl), (by show _ = _; kernel_rfl), (by show _ = _; kernel_rfl), (by show _ = _; kernel_rfl), (by show _ = _; kernel_rfl), (by show _ = _; kernel_rfl), (by show _ = _; kernel_rfl), (by show _ = _; kernel_rfl), (by show _ = _; kernel_rfl), (by show _ = _; kernel_rfl), (by show _ = _; kernel_rfl), (by show _ = _; kernel_rfl), (by show _ = _; kernel_rfl), (by show _ = _; kernel_rfl), (by show _ = _; kernel_rfl), (by show _ = _; kernel_rfl), (by show _ = _; kernel_rfl), (by show _ = _; kernel_rfl), (by show _ = _; kernel_rfl), (by show _ = _; kernel_rfl), (by show _ = _; kernel_rfl), (by show _ = _; kernel_rfl), (by show _ = _; kernel_rfl), (by show _ = _; kernel_rfl), (by show _ = _; kernel_rfl), (by show _ = _; kernel_rfl), (by show _ = _; kernel_rfl), (by show _ = _; kernel_rfl), (by show _ = _; kernel_rfl), (by show _ = _; kernel_rfl), (by show _ = _; kernel_rfl), (by show _ = _; kernel_rfl), (by show _ = _; kernel_rfl), (by show _ = _; kernel_rfl), (by show _ = _; kernel_rfl), (by show _ = _; kernel_rfl), (by show _ = _; kernel_rfl), (by show _ = _; kernel_rfl), (by show _ = _; kernel_rfl), (by show _ = _; kernel_rfl), (by show _ = _; kernel_rfl), (by show _ = _; kernel_rfl), (by show _ = _; kernel_rfl), (by show _ = _; kernel_rfl), (by show _ = _; kernel_rfl), (by show _ = _; kernel_rfl), (by show _ = _; kernel_rfl), (by show _ = _; kernel_rfl), (by show _ = _; kernel_rfl), (by show _ = _; kernel_rfl), (by show _ = _; kernel_rfl), (by show _ = _; kernel_rfl), (by show _ = _; kernel_rfl), (by show _ = _; kernel_rfl), (by show _ = _; kernel_rfl), (by show _ = _; kernel_rfl), (by show _ = _; kernel_rfl), (by show _ = _; kernel_rfl), (by show _ = _; kernel_rfl), (by show _ = _; kernel_rfl), (by show _ = _; kernel_rfl), (by show _ = _; kernel_rfl), (by show _ = _; kernel_rfl), (by show _ = _; kernel_rfl), (by show _ = _; kernel_rfl), (by show _ = _; kernel_rfl), (by show _ = _; kernel_rfl), (by show _ = _; kernel_rfl), (by show _ = _; kernel_rfl), (by show _ = _; kernel_rfl), (by show _ = _; kernel_rfl), (by show _ = _; kernel_rfl), (by show _ = _; kernel_rfl), (by show _ = _; kernel_rfl), (by show _ = _; kernel_rfl), (by show _ = _; kernel_rfl), (by show _ = _; kernel_rfl), (by show _ = _; kernel_rfl), (by show _ = _; kernel_rfl), (by show _ = _; kernel_rfl), (by show _ = _; kernel_rfl), (by show _ = _; kernel_rfl), (by show _ = _; kernel_rfl), (by show _ = _; kernel_rfl), (by show _ = _; kernel_rfl), (by show _ = _; kernel_rfl), (by show _ = _; kernel_rfl), (by show _ = _; kernel_rfl), (by show _ = _; kernel_rfl), (by show _ = _; kernel_rfl), (by show _ = _; kernel_rfl), (by show _ = _; kernel_rfl), (by show _ = _; kernel_rfl), (by show _ = _; kernel_rfl), (by show _ = _; kernel_rfl), (by show _ = _; kernel_rfl), (by show _ = _; kernel_rfl), (by show _ = _; kernel_rfl), (by show _ = _; kernel_rfl), (by show _ = _; kernel_rfl), (by show _ = _; kernel_rfl), (by show _ = _; kernel_rfl), (by show _ = _; kernel_rfl), (by show _ = _; kernel_rfl), trivial⟩

def bytT : List (Nat × Nat) := [(0, 0), (1, 8), (2, 8), (3, 8), (4, 1), (5, 1), (6, 1), (7, 24), (8, 24), (9, 16), (10, 16), (11, 16), (12, 8), (13, 24), (14, 24), (15, 8), (16, 8), (17, 8), (18, 8), (19, 8), (20, 16), (21, 4), (22, 24), (23, 8), (24, 24), (25, 24), (26, 48), (27, 48), (28, 8), (29, 0), (30, 8), (31, 24), (32, 24), (33, 72), (34, 16), (35, 48), (36, 152), (37, 152), (38, 8), (39, 8), (40, 8), (41, 8), (42, 80), (43, 80), (44, 0), (45, 8), (46, 24), (47, 8), (48, 8), (49, 8), (50, 8), (51, 8), (52, 32), (53, 32), (54, 24), (55, 8), (56, 8), (57, 8), (58, 8), (59, 8), (60, 8), (61, 24), (62, 24), (63, 8), (64, 8), (65, 8), (66, 8), (67, 8), (68, 8), (69, 8), (70, 8), (71, 8), (72, 8), (73, 8), (74, 8), (75, 8), (76, 8), (77, 8), (78, 8), (79, 24), (80, 8), (81, 56), (82, 56), (83, 448), (84, 8), (85, 8), (86, 8), (87, 8), (88, 8), (89, 8), (90, 8), (91, 40), (92, 40), (93, 0), (94, 0), (95, 0), (96, 4), (97, 1), (98, 1), (99, 8), (100, 8), (101, 4), (102, 4), (103, 48), (104, 48), (105, 8)]

theorem bytT_ok : tabAll (fun i m => (Try.prog.info? i).map (·.bytes) = some m) bytT := ⟨(by show _ = _; kernel_rfl), (by show _ = _; kernel_rfl), (by show _ = _; kernel_rfl), (by show _ = _; kernel_rfl), (by show _ = _; kernel_rfl), (by show _ = _; kernel_rfl), (by show _ = _; kernel_rfl), (by show _ = _; kernel_rfl), (by show _ = _; kernel_rfl), (by show _ = _; kernel_rfl), (by show _ = _; kernel_rfl), (by show _ = _; kernel_rfl), (by show _ = _; kernel_rfl), (by show _ = _; kernel_rfl), (by show _ = _; kernel_rfl), (by show _ = _; kernel_rfl), (by show _ = _; kernel_rfl), (by show _ = _; kernel_rfl), (by show _ = _; kernel_rfl), (by show _ = _; kernel_rfl), (by show _ = _; kernel_rfl), (by show _ = _; kernel_rfl), (by show _ = _; kernel_rfl), (by show _ = _; kernel_rfl), (by show _ = _; kernel_rfl), (by show _ = _; kernel_rfl), (by show _ = _; kernel_rfl), (by show _ = _; kernel_rfl), (by show _ = _; kernel_rfl), (by show _ = _; kernel_rfl), (by show _ = _; kernel_rfl), (by show _ = _; kernel_rfl), (by show _ = _; kernel_rfl), (by show _ = _; kernel_rfl), (by show _ = _; kernel_rfl), (by show _ = _; kernel_rfl), (by show _ = _; kernel_rfl), (by show _ = _; kernel_rfl), (by show _ = _; kernel_rfl), (by show _ = _; kernel_rfl), (by show _ = _; kernel_rfl), (by show _ = _; kernel_rfl), (by show _ = _; kernel_rfl), (by show _ = _; kernel_rfl), (by show _ = _; kernel_rfl), (by show _ = _; kernel_rfl), (by show _ = _; kernel_rfl), (by show _ = _; kernel_rfl), (by show _ = _; kernel_rfl), (by show _ = _; kernel_rfl), (by show _ = _; kernel_rfl), (by show _ = _; kernel_rfl), (by show _ = _; kernel_rfl), (by show _ = _; kernel_rfl), (by show _ = _; kernel_rfl), (by show _ = _; kernel_rfl), (by show _ = _; kernel_rfl), (by show _ = _; kernel_rfl), (by show _ = _; kernel_rfl), (by show _ = _; kernel_rfl), (by show _ = _; kernel_rfl), (by show _ = _; kernel_rfl), (by show _ = _; kernel_rfl), (by show _ = _; kernel_rfl), (by show _ = _; kernel_rfl), (by show _ = _; kernel_rfl), (by show _ = _; kernel_rfl), (by show _ = _; kernel_rfl), (by show _ = _; kernel_rfl), (by show _ = _; kernel_rfl), (by show _ = _; kernel_rfl), (by show _ = _; kernel_rfl), (by show _ = _; kernel_rfl), (by show _ = _; kernel_rfl), (by show _ = _; kernel_rfl), (by show _ = _; kernel_rfl), (by show _ = _; kernel_rfl), (by show _ = _; kernel_rfl), (by show _ = _; kernel_rfl), (by show _ = _; kernel_rfl), (by show _ = _; kernel_rfl), (by show _ = _; kernel_rfl), (by show _ = _; kernel_rfl), (by show _ = _; kernel_rfl), (by show _ = _; kernel_rfl), (by show _ = _; kernel_rfl), (by show _ = _; kernel_rfl), (by show _ = _; kernel_rfl), (by show _ = _; kernel_rfl), (by show _ = _; kernel_rfl), (by show _ = _; kernel_rfl), (by show _ = _; kernel_rfl), (by show _ = _; kernel_rfl), (by show _ = _; kernel_rfl), (by show _ = _; kernel_rfl), (by show _ = _; kernel_rfl), (by show _ = _; kernel_rfl), (by show _ = _; kernel_rfl), (by show _ = _; kernel_rfl), (by show _ = _; kernel_rfl), (by show _ = _; kernel_rfl), (by show _ = _; kernel_rfl), (by show _ = _; kernel_rfl), (by show _ = _; kernel_rfl), (by show _ = _; kernel_rfl), (by show _ = _; kernel_rfl), trivial⟩

def zerT : List (Nat × Array Value) := [
  (0, #[Value.tuple #[]]),
  (1, #[Value.nilFunc]),
  (2, #[Value.int IntKind.i64 0]),
  (3, #[Value.int IntKind.i64 0]),
  (4, #[Value.bool false]),
  (5, #[Value.int IntKind.u8 0]),
  (6, #[Value.int IntKind.u8 0]),
  (7, #[Value.int IntKind.i64 0, Value.int IntKind.i64 0, Value.bool false, Value.int IntKind.u8 0]),
  (8, #[Value.int IntKind.i64 0, Value.int IntKind.i64 0, Value.bool false, Value.int IntKind.u8 0]),
  (9, #[Value.string { data := #[] }]),
  (10, #[Value.string { data := #[] }]),
  (11, #[Value.string { data := #[] }]),
  (12, #[Value.int IntKind.u64 0]),
  (13, #[Value.string { data := #[] }, Value.int IntKind.u64 0]),
  (14, #[Value.string { data := #[] }, Value.int IntKind.u64 0]),
  (15, #[Value.pointer none]),
  (16, #[Value.pointer none]),
  (17, #[Value.pointer none]),
  (18, #[Value.pointer none]),
  (19, #[Value.pointer none]),
  (20, #[Value.nilIface]),
  (21, #[Value.int IntKind.i32 0]),
  (22, #[Value.slice none 0 0]),
  (23, #[Value.nilFunc]),
  (24, #[Value.slice none 0 0]),
  (25, #[Value.slice none 0 0]),
  (26, #[Value.slice none 0 0, Value.slice none 0 0]),
  (27, #[Value.slice none 0 0, Value.slice none 0 0]),
  (28, #[Value.int IntKind.i64 0]),
  (29, #[Value.tuple #[Value.agg #[Value.slice none 0 0, Value.slice none 0 0], Value.int IntKind.i64 0]]),
  (30, #[Value.nilFunc]),
  (31, #[Value.int IntKind.i64 0, Value.int IntKind.i64 0, Value.int IntKind.i64 0]),
  (32, #[Value.int IntKind.i64 0, Value.int IntKind.i64 0, Value.int IntKind.i64 0]),
  (33, #[Value.int IntKind.i64 0, Value.int IntKind.i64 0, Value.int IntKind.i64 0, Value.int IntKind.i64 0, Value.int IntKind.i64 0, Value.int IntKind.i64 0, Value.int IntKind.i64 0, Value.int IntKind.i64 0, Value.int IntKind.i64 0]),
  (34, #[Value.int IntKind.i64 0, Value.int IntKind.i64 0]),
  (35, #[Value.int IntKind.i64 0, Value.int IntKind.i64 0, Value.int IntKind.i64 0, Value.int IntKind.i64 0, Value.int IntKind.i64 0, Value.int IntKind.i64 0]),
  (36, #[Value.int IntKind.i64 0, Value.int IntKind.i64 0, Value.int IntKind.i64 0, Value.int IntKind.i64 0, Value.int IntKind.i64 0, Value.int IntKind.i64 0, Value.int IntKind.i64 0, Value.int IntKind.i64 0, Value.int IntKind.i64 0, Value.int IntKind.i64 0, Value.int IntKind.i64 0, Value.int IntKind.i64 0, Value.int IntKind.i64 0, Value.int IntKind.i64 0, Value.int IntKind.i64 0, Value.int IntKind.i64 0, Value.int IntKind.i64 0, Value.int IntKind.i64 0, Value.int IntKind.u8 0]),
  (37, #[Value.int IntKind.i64 0, Value.int IntKind.i64 0, Value.int IntKind.i64 0, Value.int IntKind.i64 0, Value.int IntKind.i64 0, Value.int IntKind.i64 0, Value.int IntKind.i64 0, Value.int IntKind.i64 0, Value.int IntKind.i64 0, Value.int IntKind.i64 0, Value.int IntKind.i64 0, Value.int IntKind.i64 0, Value.int IntKind.i64 0, Value.int IntKind.i64 0, Value.int IntKind.i64 0, Value.int IntKind.i64 0, Value.int IntKind.i64 0, Value.int IntKind.i64 0, Value.int IntKind.u8 0]),
  (38, #[Value.nilFunc]),
  (39, #[Value.nilFunc]),
  (40, #[Value.nilFunc]),
  (41, #[Value.nilFunc]),
  (42, #[Value.int IntKind.i64 0, Value.int IntKind.i64 0, Value.int IntKind.i64 0, Value.int IntKind.i64 0, Value.int IntKind.i64 0, Value.int IntKind.i64 0, Value.int IntKind.i64 0, Value.int IntKind.i64 0, Value.int IntKind.i64 0, Value.int IntKind.i64 0]),
  (43, #[Value.int IntKind.i64 0, Value.int IntKind.i64 0, Value.int IntKind.i64 0, Value.int IntKind.i64 0, Value.int IntKind.i64 0, Value.int IntKind.i64 0, Value.int IntKind.i64 0, Value.int IntKind.i64 0, Value.int IntKind.i64 0, Value.int IntKind.i64 0]),
  (44, #[Value.tuple #[Value.agg #[Value.int IntKind.i64 0, Value.int IntKind.i64 0, Value.int IntKind.i64 0], Value.agg #[Value.int IntKind.i64 0, Value.int IntKind.i64 0, Value.int IntKind.i64 0]]]),
  (45, #[Value.nilFunc]),
  (46, #[Value.slice none 0 0]),
  (47, #[Value.nilFunc]),
  (48, #[Value.nilFunc]),
  (49, #[Value.map none]),
  (50, #[Value.nilFunc]),
  (51, #[Value.nilFunc]),
  (52, #[Value.int IntKind.i64 0, Value.int IntKind.i64 0, Value.int IntKind.i64 0, Value.int IntKind.i64 0]),
  (53, #[Value.int IntKind.i64 0, Value.int IntKind.i64 0, Value.int IntKind.i64 0, Value.int IntKind.i64 0]),
  (54, #[Value.slice none 0 0]),
  (55, #[Value.nilFunc]),
  (56, #[Value.nilFunc]),
  (57, #[Value.nilFunc]),
  (58, #[Value.nilFunc]),
  (59, #[Value.nilFunc]),
  (60, #[Value.nilFunc]),
  (61, #[Value.slice none 0 0]),
  (62, #[Value.slice none 0 0]),
  (63, #[Value.nilFunc]),
  (64, #[Value.nilFunc]),
  (65, #[Value.nilFunc]),
  (66, #[Value.nilFunc]),
  (67, #[Value.nilFunc]),
  (68, #[Value.nilFunc]),
  (69, #[Value.nilFunc]),
  (70, #[Value.nilFunc]),
  (71, #[Value.nilFunc]),
  (72, #[Value.nilFunc]),
  (73, #[Value.nilFunc]),
  (74, #[Value.nilFunc]),
  (75, #[Value.nilFunc]),
  (76, #[Value.nilFunc]),
  (77, #[Value.nilFunc]),
  (78, #[Value.nilFunc]),
  (79, #[Value.int IntKind.i64 0, Value.int IntKind.i64 0, Value.int IntKind.i64 0]),
  (80, #[Value.nilFunc]),
  (81, #[Value.int IntKind.i64 0, Value.int IntKind.i64 0, Value.int IntKind.i64 0, Value.int IntKind.i64 0, Value.int IntKind.i64 0, Value.int IntKind.i64 0, Value.int IntKind.i64 0]),
  (82, #[Value.int IntKind.i64 0, Value.int IntKind.i64 0, Value.int IntKind.i64 0, Value.int IntKind.i64 0, Value.int IntKind.i64 0, Value.int IntKind.i64 0, Value.int IntKind.i64 0]),
  (83, #[Value.int IntKind.i64 0, Value.int IntKind.i64 0, Value.int IntKind.i64 0, Value.int IntKind.i64 0, Value.int IntKind.i64 0, Value.int IntKind.i64 0, Value.int IntKind.i64 0, Value.int IntKind.i64 0, Value.int IntKind.i64 0, Value.int IntKind.i64 0, Value.int IntKind.i64 0, Value.int IntKind.i64 0, Value.int IntKind.i64 0, Value.int IntKind.i64 0, Value.int IntKind.i64 0, Value.int IntKind.i64 0, Value.int IntKind.i64 0, Value.int IntKind.i64 0, Value.int IntKind.i64 0, Value.int IntKind.i64 0, Value.int IntKind.i64 0, Value.int IntKind.i64 0, Value.int IntKind.i64 0, Value.int IntKind.i64 0, Value.int IntKind.i64 0, Value.int IntKind.i64 0, Value.int IntKind.i64 0, Value.int IntKind.i64 0, Value.int IntKind.i64 0, Value.int IntKind.i64 0, Value.int IntKind.i64 0, Value.int IntKind.i64 0, Value.int IntKind.i64 0, Value.int IntKind.i64 0, Value.int IntKind.i64 0, Value.int IntKind.i64 0, Value.int IntKind.i64 0, Value.int IntKind.i64 0, Value.int IntKind.i64 0, Value.int IntKind.i64 0, Value.int IntKind.i64 0, Value.int IntKind.i64 0, Value.int IntKind.i64 0, Value.int IntKind.i64 0, Value.int IntKind.i64 0, Value.int IntKind.i64 0, Value.int IntKind.i64 0, Value.int IntKind.i64 0, Value.int IntKind.i64 0, Value.int IntKind.i64 0, Value.int IntKind.i64 0, Value.int IntKind.i64 0, Value.int IntKind.i64 0, Value.int IntKind.i64 0, Value.int IntKind.i64 0, Value.int IntKind.i64 0]),
  (84, #[Value.nilFunc]),
  (85, #[Value.nilFunc]),
  (86, #[Value.nilFunc]),
  (87, #[Value.nilFunc]),
  (88, #[Value.nilFunc]),
  (89, #[Value.int IntKind.u64 0]),
  (90, #[Value.nilFunc]),
  (91, #[Value.pointer none, Value.pointer none, Value.pointer none, Value.string { data := #[] }]),
  (92, #[Value.pointer none, Value.pointer none, Value.pointer none, Value.string { data := #[] }]),
  (93, #[]),
  (94, #[]),
  (95, #[]),
  (96, #[Value.int IntKind.u32 0]),
  (97, #[Value.int IntKind.u8 0]),
  (98, #[Value.int IntKind.u8 0]),
  (99, #[Value.nilFunc]),
  (100, #[Value.pointer none]),
  (101, #[Value.int IntKind.i32 0]),
  (102, #[Value.int IntKind.i32 0]),
  (103, #[Value.int IntKind.u64 0, Value.int IntKind.u64 0, Value.int IntKind.u32 0, Value.int IntKind.u8 0, Value.int IntKind.u8 0, Value.int IntKind.u8 0, Value.int IntKind.u8 0, Value.nilFunc, Value.pointer none, Value.int IntKind.i32 0, Value.int IntKind.i32 0]),
  (104, #[Value.int IntKind.u64 0, Value.int IntKind.u64 0, Value.int IntKind.u32 0, Value.int IntKind.u8 0, Value.int IntKind.u8 0, Value.int IntKind.u8 0, Value.int IntKind.u8 0, Value.nilFunc, Value.pointer none, Value.int IntKind.i32 0, Value.int IntKind.i32 0]),
  (105, #[Value.pointer none])]

theorem zerT_ok : tabAll (fun i A => ((Try.prog.info? i).bind (·.zero)).map Value.cells = some A) zerT := ⟨(by show _ = _; kernel_rfl), (by show _ = _; kernel_rfl), (by show _ = _; kernel_rfl), (by show _ = _; kernel_rfl), (by show _ = _; kernel_rfl), (by show _ = _; kernel_rfl), (by show _ = _; kernel_rfl), (by show _ = _; kernel_rfl), (by show _ = _; kernel_rfl), (by show _ = _; kernel_rfl), (by show _ = _; kernel_rfl), (by show _ = _; kernel_rfl), (by show _ = _; kernel_rfl), (by show _ = _; kernel_rfl), (by show _ = _; kernel_rfl), (by show _ = _; kernel_rfl), (by show _ = _; kernel_rfl), (by show _ = _; kernel_rfl), (by show _ = _; kernel_rfl), (by show _ = _; kernel_rfl), (by show _ = _; kernel_rfl), (by show _ = _; kernel_rfl), (by show _ = _; kernel_rfl), (by show _ = _; kernel_rfl), (by show _ = _; kernel_rfl), (by show _ = _; kernel_rfl), (by show _ = _; kernel_rfl), (by show _ = _; kernel_rfl), (by show _ = _; kernel_rfl), (by show _ = _; kernel_rfl), (by show _ = _; kernel_rfl), (by show _ = _; kernel_rfl), (by show _ = _; kernel_rfl), (by show _ = _; kernel_rfl), (by show _ = _; kernel_rfl), (by show _ = _; kernel_rfl), (by show _ = _; kernel_rfl), (by show _ = _; kernel_rfl), (by show _ = _; kernel_rfl), (by show _ = _; kernel_rfl), (by show _ = _; kernel_rfl), (by show _ = _; kernel_rfl), (by show _ = _; kernel_rfl), (by show _ = _; kernel_rfl), (by show _ = _; kernel_rfl), (by show _ = _; kernel_rfl), (by show _ = _; kernel_rfl), (by show _ = _; kernel_rfl), (by show _ = _; kernel_rfl), (by show _ = _; kernel_rfl), (by show _ = _; kernel_rfl), (by show _ = _; kernel_rfl), (by show _ = _; kernel_rfl), (by show _ = _; kernel_rfl), (by show _ = _; kernel_rfl), (by show _ = _; kernel_rfl), (by show _ = _; kernel_rfl), (by show _ = _; kernel_rfl), (by show _ = _; kernel_rfl), (by show _ = _; kernel_rfl), (by show _ = _; kernel_rfl), (by show _ = _; kernel_rfl), (by show _ = _; kernel_rfl), (by show _ = _; kernel_rfl), (by show _ = _; kernel_rfl), (by show _ = _; kernel_rfl), (by show _ = _; kernel_rfl), (by show _ = _; kernel_rfl), (by show _ = _; kernel_rfl), (by show _ = _; kernel_rfl), (by show _ = _; kernel_rfl), (by show _ = _; kernel_rfl), (by show _ = _; kernel_rfl), (by show _ = _; kernel_rfl), (by show _ = _; kernel_rfl), (by show _ = _; kernel_rfl), (by show _ = _; kernel_rfl), (by show _ = _; kernel_rfl), (by show _ = _; kernel_rfl), (by show _ = _; kernel_rfl), (by show _ = _; kernel_rfl), (by show _ = _; kernel_rfl), (by show _ = _; kernel_rfl), (by show _ = _; kernel_rfl), (by show _ = _; kernel_rfl), (by show _ = _; kernel_rfl), (by show _ = _; kernel_rfl), (by show _ = _; kernel_rfl), (by show _ = _; kernel_rfl), (by show _ = _; kernel_rfl), (by show _ = _; kernel_rfl), (by show _ = _; kernel_rfl), (by show _ = _; kernel_rfl), (by show _ = _; kernel_rfl), (by show _ = _; kernel_rfl), (by show _ = _; kernel_rfl), (by show _ = _; kernel_rfl), (by show _ = _; kernel_rfl), (by show _ = _; kernel_rfl), (by show _ = _; kernel_rfl), (by show _ = _; kernel_rfl), (by show _ = _; kernel_rfl), (by show _ = _; kernel_rfl), (by show _ = _; kernel_rfl), (by show _ = _; kernel_rfl), (by show _ = _; kernel_rfl), trivial⟩

def eqgT : List (Nat × Bool) := [(7, false), (8, false), (13, false), (14, false), (18, false), (19, false), (26, false), (27, false), (31, false), (32, false), (33, false), (34, false), (35, false), (36, false), (37, false), (42, false), (43, false), (52, false), (53, false), (79, false), (81, false), (82, false), (83, false), (91, false), (92, false), (93, false), (94, false), (95, false), (103, false), (104, false)]

theorem eqgT_ok : tabAll (fun i b => Try.prog.eqGuardType Try.prog.depth i = b) eqgT := ⟨Try.eqGuardType7, Try.eqGuardType8, Try.eqGuardType13, Try.eqGuardType14, Try.eqGuardType18, Try.eqGuardType19, Try.eqGuardType26, Try.eqGuardType27, Try.eqGuardType31, Try.eqGuardType32, Try.eqGuardType33, Try.eqGuardType34, Try.eqGuardType35, Try.eqGuardType36, Try.eqGuardType37, Try.eqGuardType42, Try.eqGuardType43, Try.eqGuardType52, Try.eqGuardType53, Try.eqGuardType79, Try.eqGuardType81, Try.eqGuardType82, Try.eqGuardType83, Try.eqGuardType91, Try.eqGuardType92, Try.eqGuardType93, Try.eqGuardType94, Try.eqGuardType95, Try.eqGuardType103, Try.eqGuardType104, trivial⟩

/-- Of each struct, each field (type times 100, field): where it lies, how many cells it has. -/
def fldT : List (Nat × Nat × Nat) := [(700, 0, 1), (701, 1, 1), (702, 2, 1), (703, 3, 1), (800, 0, 1), (801, 1, 1), (802, 2, 1), (803, 3, 1), (1300, 0, 1), (1301, 1, 1), (1400, 0, 1), (1401, 1, 1), (1800, 0, 1), (1900, 0, 1), (2600, 0, 1), (2601, 1, 1), (2700, 0, 1), (2701, 1, 1), (3100, 0, 1), (3101, 1, 1), (3102, 2, 1), (3200, 0, 1), (3201, 1, 1), (3202, 2, 1), (3600, 0, 9), (3601, 9, 6), (3602, 15, 1), (3603, 16, 1), (3604, 17, 1), (3605, 18, 1), (3700, 0, 9), (3701, 9, 6), (3702, 15, 1), (3703, 16, 1), (3704, 17, 1), (3705, 18, 1), (4200, 0, 3), (4201, 3, 3), (4202, 6, 1), (4203, 7, 1), (4204, 8, 1), (4205, 9, 1), (4300, 0, 3), (4301, 3, 3), (4302, 6, 1), (4303, 7, 1), (4304, 8, 1), (4305, 9, 1), (5200, 0, 1), (5201, 1, 1), (5202, 2, 1), (5203, 3, 1), (5300, 0, 1), (5301, 1, 1), (5302, 2, 1), (5303, 3, 1), (8100, 0, 1), (8101, 1, 3), (8102, 4, 3), (8200, 0, 1), (8201, 1, 3), (8202, 4, 3), (9100, 0, 1), (9101, 1, 1), (9102, 2, 1), (9103, 3, 1), (9200, 0, 1), (9201, 1, 1), (9202, 2, 1), (9203, 3, 1), (9400, 0, 0), (9500, 0, 0), (10300, 0, 1), (10301, 1, 1), (10302, 2, 1), (10303, 3, 1), (10304, 4, 1), (10305, 5, 1), (10306, 6, 1), (10307, 7, 1), (10308, 8, 1), (10309, 9, 1), (10310, 10, 1), (10400, 0, 1), (10401, 1, 1), (10402, 2, 1), (10403, 3, 1), (10404, 4, 1), (10405, 5, 1), (10406, 6, 1), (10407, 7, 1), (10408, 8, 1), (10409, 9, 1), (10410, 10, 1)]

theorem fldT_ok : tabAll (fun k x => ∃ fs fd, Try.prog.underlying (k / 100) = some (.struct fs) ∧ fs[k % 100]? = some fd ∧ fd.offset = x.1 ∧ (Try.prog.info? fd.type).map (·.size) = some x.2) fldT := ⟨⟨_, _, Try.underlying7, rfl, rfl, (by show _ = _; kernel_rfl)⟩, ⟨_, _, Try.underlying7, rfl, rfl, (by show _ = _; kernel_rfl)⟩, ⟨_, _, Try.underlying7, rfl, rfl, (by show _ = _; kernel_rfl)⟩, ⟨_, _, Try.underlying7, rfl, rfl, (by show _ = _; kernel_rfl)⟩, ⟨_, _, Try.underlying8, rfl, rfl, (by show _ = _; kernel_rfl)⟩, ⟨_, _, Try.underlying8, rfl, rfl, (by show _ = _; kernel_rfl)⟩, ⟨_, _, Try.underlying8, rfl, rfl, (by show _ = _; kernel_rfl)⟩, ⟨_, _, Try.underlying8, rfl, rfl, (by show _ = _; kernel_rfl)⟩, ⟨_, _, Try.underlying13, rfl, rfl, (by show _ = _; kernel_rfl)⟩, ⟨_, _, Try.underlying13, rfl, rfl, (by show _ = _; kernel_rfl)⟩, ⟨_, _, Try.underlying14, rfl, rfl, (by show _ = _; kernel_rfl)⟩, ⟨_, _, Try.underlying14, rfl, rfl, (by show _ = _; kernel_rfl)⟩, ⟨_, _, Try.underlying18, rfl, rfl, (by show _ = _; kernel_rfl)⟩, ⟨_, _, Try.underlying19, rfl, rfl, (by show _ = _; kernel_rfl)⟩, ⟨_, _, Try.underlying26, rfl, rfl, (by show _ = _; kernel_rfl)⟩, ⟨_, _, Try.underlying26, rfl, rfl, (by show _ = _; kernel_rfl)⟩, ⟨_, _, Try.underlying27, rfl, rfl, (by show _ = _; kernel_rfl)⟩, ⟨_, _, Try.underlying27, rfl, rfl, (by show _ = _; kernel_rfl)⟩, ⟨_, _, Try.underlying31, rfl, rfl, (by show _ = _; kernel_rfl)⟩, ⟨_, _, Try.underlying31, rfl, rfl, (by show _ = _; kernel_rfl)⟩, ⟨_, _, Try.underlying31, rfl, rfl, (by show _ = _; kernel_rfl)⟩, ⟨_, _, Try.underlying32, rfl, rfl, (by show _ = _; kernel_rfl)⟩, ⟨_, _, Try.underlying32, rfl, rfl, (by show _ = _; kernel_rfl)⟩, ⟨_, _, Try.underlying32, rfl, rfl, (by show _ = _; kernel_rfl)⟩, ⟨_, _, Try.underlying36, rfl, rfl, (by show _ = _; kernel_rfl)⟩, ⟨_, _, Try.underlying36, rfl, rfl, (by show _ = _; kernel_rfl)⟩, ⟨_, _, Try.underlying36, rfl, rfl, (by show _ = _; kernel_rfl)⟩, ⟨_, _, Try.underlying36, rfl, rfl, (by show _ = _; kernel_rfl)⟩, ⟨_, _, Try.underlying36, rfl, rfl, (by show _ = _; kernel_rfl)⟩, ⟨_, _, Try.underlying36, rfl, rfl, (by show _ = _; kernel_rfl)⟩, ⟨_, _, Try.underlying37, rfl, rfl, (by show _ = _; kernel_rfl)⟩, ⟨_, _, Try.underlying37, rfl, rfl, (by show _ = _; kernel_rfl)⟩, ⟨_, _, Try.underlying37, rfl, rfl, (by show _ = _; kernel_rfl)⟩, ⟨_, _, Try.underlying37, rfl, rfl, (by show _ = _; kernel_rfl)⟩, ⟨_, _, Try.underlying37, rfl, rfl, (by show _ = _; kernel_rfl)⟩, ⟨_, _, Try.underlying37, rfl, rfl, (by show _ = _; kernel_rfl)⟩, ⟨_, _, Try.underlying42, rfl, rfl, (by show _ = _; kernel_rfl)⟩, ⟨_, _, Try.underlying42, rfl, rfl, (by show _ = _; kernel_rfl)⟩, ⟨_, _, Try.underlying42, rfl, rfl, (by show _ = _; kernel_rfl)⟩, ⟨_, _, Try.underlying42, rfl, rfl, (by show _ = _; kernel_rfl)⟩, ⟨_, _, Try.underlying42, rfl, rfl, (by show _ = _; kernel_rfl)⟩, ⟨_, _, Try.underlying42, rfl, rfl, (by show _ = _; kernel_rfl)⟩, ⟨_, _, Try.underlying43, rfl, rfl, (by show _ = _; kernel_rfl)⟩, ⟨_, _, Try.underlying43, rfl, rfl, (by show _ = _; kernel_rfl)⟩, ⟨_, _, Try.underlying43, rfl, rfl, (by show _ = _; kernel_rfl)⟩, ⟨_, _, Try.underlying43, rfl, rfl, (by show _ = _; kernel_rfl)⟩, ⟨_, _, Try.underlying43, rfl, rfl, (by show _ = _; kernel_rfl)⟩, ⟨_, _, Try.underlying43, rfl, rfl, (by show _ = _; kernel_rfl)⟩, ⟨_, _, Try.underlying52, rfl, rfl, (by show _ = _; kernel_rfl)⟩, ⟨_, _, Try.underlying52, rfl, rfl, (by show _ = _; kernel_rfl)⟩, ⟨_, _, Try.underlying52, rfl, rfl, (by show _ = _; kernel_rfl)⟩, ⟨_, _, Try.underlying52, rfl, rfl, (by show _ = _; kernel_rfl)⟩, ⟨_, _, Try.underlying53, rfl, rfl, (by show _ = _; kernel_rfl)⟩, ⟨_, _, Try.underlying53, rfl, rfl, (by show _ = _; kernel_rfl)⟩, ⟨_, _, Try.underlying53, rfl, rfl, (by show _ = _; kernel_rfl)⟩, ⟨_, _, Try.underlying53, rfl, rfl, (by show _ = _; kernel_rfl)⟩, ⟨_, _, Try.underlying81, rfl, rfl, (by show _ = _; kernel_rfl)⟩, ⟨_, _, Try.underlying81, rfl, rfl, (by show _ = _; kernel_rfl)⟩, ⟨_, _, Try.underlying81, rfl, rfl, (by show _ = _; kernel_rfl)⟩, ⟨_, _, Try.underlying82, rfl, rfl, (by show _ = _; kernel_rfl)⟩, ⟨_, _, Try.underlying82, rfl, rfl, (by show _ = _; kernel_rfl)⟩, ⟨_, _, Try.underlying82, rfl, rfl, (by show _ = _; kernel_rfl)⟩, ⟨_, _, Try.underlying91, rfl, rfl, (by show _ = _; kernel_rfl)⟩, ⟨_, _, Try.underlying91, rfl, rfl, (by show _ = _; kernel_rfl)⟩, ⟨_, _, Try.underlying91, rfl, rfl, (by show _ = _; kernel_rfl)⟩, ⟨_, _, Try.underlying91, rfl, rfl, (by show _ = _; kernel_rfl)⟩, ⟨_, _, Try.underlying92, rfl, rfl, (by show _ = _; kernel_rfl)⟩, ⟨_, _, Try.underlying92, rfl, rfl, (by show _ = _; kernel_rfl)⟩, ⟨_, _, Try.underlying92, rfl, rfl, (by show _ = _; kernel_rfl)⟩, ⟨_, _, Try.underlying92, rfl, rfl, (by show _ = _; kernel_rfl)⟩, ⟨_, _, Try.underlying94, rfl, rfl, (by show _ = _; kernel_rfl)⟩, ⟨_, _, Try.underlying95, rfl, rfl, (by show _ = _; kernel_rfl)⟩, ⟨_, _, Try.underlying103, rfl, rfl, (by show _ = _; kernel_rfl)⟩, ⟨_, _, Try.underlying103, rfl, rfl, (by show _ = _; kernel_rfl)⟩, ⟨_, _, Try.underlying103, rfl, rfl, (by show _ = _; kernel_rfl)⟩, ⟨_, _, Try.underlying103, rfl, rfl, (by show _ = _; kernel_rfl)⟩, ⟨_, _, Try.underlying103, rfl, rfl, (by show _ = _; kernel_rfl)⟩, ⟨_, _, Try.underlying103, rfl, rfl, (by show _ = _; kernel_rfl)⟩, ⟨_, _, Try.underlying103, rfl, rfl, (by show _ = _; kernel_rfl)⟩, ⟨_, _, Try.underlying103, rfl, rfl, (by show _ = _; kernel_rfl)⟩, ⟨_, _, Try.underlying103, rfl, rfl, (by show _ = _; kernel_rfl)⟩, ⟨_, _, Try.underlying103, rfl, rfl, (by show _ = _; kernel_rfl)⟩, ⟨_, _, Try.underlying103, rfl, rfl, (by show _ = _; kernel_rfl)⟩, ⟨_, _, Try.underlying104, rfl, rfl, (by show _ = _; kernel_rfl)⟩, ⟨_, _, Try.underlying104, rfl, rfl, (by show _ = _; kernel_rfl)⟩, ⟨_, _, Try.underlying104, rfl, rfl, (by show _ = _; kernel_rfl)⟩, ⟨_, _, Try.underlying104, rfl, rfl, (by show _ = _; kernel_rfl)⟩, ⟨_, _, Try.underlying104, rfl, rfl, (by show _ = _; kernel_rfl)⟩, ⟨_, _, Try.underlying104, rfl, rfl, (by show _ = _; kernel_rfl)⟩, ⟨_, _, Try.underlying104, rfl, rfl, (by show _ = _; kernel_rfl)⟩, ⟨_, _, Try.underlying104, rfl, rfl, (by show _ = _; kernel_rfl)⟩, ⟨_, _, Try.underlying104, rfl, rfl, (by show _ = _; kernel_rfl)⟩, ⟨_, _, Try.underlying104, rfl, rfl, (by show _ = _; kernel_rfl)⟩, ⟨_, _, Try.underlying104, rfl, rfl, (by show _ = _; kernel_rfl)⟩, trivial⟩

def calT : List (Nat × Nat) := [(2, 2), (3, 3), (4, 4), (5, 5), (6, 6), (7, 7), (8, 8), (9, 9), (10, 10), (11, 11), (12, 12), (13, 13), (14, 14), (15, 15), (16, 16), (17, 17), (18, 18), (19, 19), (20, 20), (21, 21), (22, 22), (23, 23), (24, 24), (25, 25), (26, 26), (27, 27), (28, 28), (29, 29), (30, 30), (31, 31), (32, 32), (33, 33), (34, 34), (35, 35), (36, 36), (37, 37), (38, 38), (39, 39), (40, 40), (41, 41), (42, 42), (43, 43), (44, 44), (45, 45), (46, 46), (47, 47), (48, 48)]

theorem calT_ok : tabAll (fun i j => ∀ args w, Sem.run Try.prog (callFunc i args) w = .ok (.enter j args) w) calT := ⟨Try.call2, Try.call3, Try.call4, Try.call5, Try.call6, Try.call7, Try.call8, Try.call9, Try.call10, Try.call11, Try.call12, Try.call13, Try.call14, Try.call15, Try.call16, Try.call17, Try.call18, Try.call19, Try.call20, Try.call21, Try.call22, Try.call23, Try.call24, Try.call25, Try.call26, Try.call27, Try.call28, Try.call29, Try.call30, Try.call31, Try.call32, Try.call33, Try.call34, Try.call35, Try.call36, Try.call37, Try.call38, Try.call39, Try.call40, Try.call41, Try.call42, Try.call43, Try.call44, Try.call45, Try.call46, Try.call47, Try.call48, trivial⟩

end Go.Proofs.Ytcgmapioelfneaa
