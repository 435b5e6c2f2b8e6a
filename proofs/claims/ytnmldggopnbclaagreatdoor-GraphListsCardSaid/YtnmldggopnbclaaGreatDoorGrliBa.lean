/- A part of the proof: plain forms of functions and laws about them. -/
import Derived.Test.YtnmldggopnbclaaGreatDoorGrliAz
import Derived.Test.YtnmldggopnbclaaGreatDoorProg
import Derived.KernelRfl
import Derived.Deep.AppendSrc
import Derived.Lib.BufferMore
import Derived.Lib.ConvBytes
import Derived.Shelf.Strconv.AppendIntPublic10
import Derived.Shelf.Strconv.Itoa3
namespace Go.V.Gr
open Go Go.V
open Go.RowKit (Below)
theorem adK {a : Option Addr} {b : Addr} (h : a = some b) {F : Addr → Prop} (k : F b) : AddrK a F := by subst h; exact k
theorem tl_iff {s t : ByteArray} : (s.toList == t.toList) = true ↔ s = t := by
 rw [toList_beq, bytesEq_beq]; exact ba_eq
def RL {α : Type} (sz : Nat) (R : World → Cells → α → Prop) (w : World) (a : Option Addr) (l : Nat) (xs : List α) : Prop := Go.V.Rows sz R w a l xs ∧ l ≤ maxLen
def RFt (_ : World) (f : Cells) (x : Ft) : Prop := f 0 = some (.int .i64 x.1) ∧ f 1 = some (.string x.2) ∧ x.2.size ≤ maxLen
theorem RFt.mono : Mono RFt := fun _ _ _ _ _ _ h k => ⟨h _ _ k.1, h _ _ k.2.1, k.2.2⟩
theorem RL.ext {α : Type} {sz : Nat} {R : World → Cells → α → Prop} (hR : Mono R) {w w' : World} {a : Option Addr} {l : Nat} {xs : List α} (h : RL sz R w a l xs) (k : Ext w w') : RL sz R w' a l xs := ⟨h.1.ext hR k, h.2⟩
theorem RL.len {α : Type} {sz : Nat} {R : World → Cells → α → Prop} {w : World} {a : Option Addr} {l : Nat} {xs : List α} (h : RL sz R w a l xs) : l = xs.length := h.1.1
def RNd (w : World) (f : Cells) (x : Nd) : Prop := f 0 = some (.string x.kd) ∧ f 1 = some (.int .i64 x.n) ∧ f 2 = some (.string x.tx) ∧ x.kd.size ≤ maxLen ∧ x.tx.size ≤ maxLen ∧
 (∃ a l c, f 3 = some (.slice a l c) ∧ RL 2 RFt w a l x.fs) ∧ (∃ a l c, f 4 = some (.slice a l c) ∧ RL 1 RInt w a l x.ks) ∧ (Lit.int .i64 x.n).wf = true
theorem RNd.mono : Mono RNd := fun _ _ _ _ _ e h ⟨h0, h1, h2, h3, h4, ⟨a, l, c, h5, h6⟩, ⟨a', l', c', h7, h8⟩, h9⟩ =>
 ⟨h _ _ h0, h _ _ h1, h _ _ h2, h3, h4, ⟨a, l, c, h _ _ h5, h6.ext RFt.mono e⟩, ⟨a', l', c', h _ _ h7, h8.ext RInt.mono e⟩, h9⟩
abbrev RNds (w : World) (a : Option Addr) (l : Nat) (xs : List Nd) : Prop := RL 5 RNd w a l xs
theorem local5 {w : World} {z0 z1 z2 z3 z4 v0 v1 v2 v3 v4 : Value} {t : Nat} {F : Addr → World → Prop}
  (h : ∀ (b : Nat) (w' : World), b = w.heap.size → Blk w' b #[v0, v1, v2, v3, v4] t → Ext w w' → F ⟨b, 0, none⟩ w') :
  AllocK w #[z0, z1, z2, z3, z4] t fun b w1 => SetK w1 (b.add 0) v0 fun w2 => SetK w2 (b.add 1) v1 fun w3 => SetK w3 (b.add 2) v2 fun w4 => SetK w4 (b.add 3) v3 fun w5 => SetK w5 (b.add 4) v4 fun w6 => F b w6 := by
 refine AllocK.mk fun b w1 hb h1 hx => ?_
 rw [add_mk, add_mk, add_mk, add_mk, add_mk]
 refine SetK.mk h1 (by simp) fun w2 h2 g2 => SetK.mk h2 (by simp) fun w3 h3 g3 => SetK.mk h3 (by simp) fun w4 h4 g4 => SetK.mk h4 (by simp) fun w5 h5 g5 => SetK.mk h5 (by simp) fun w6 h6 g6 => ?_
 exact h b w6 hb (by simpa using h6) (g6.below (g5.below (g4.below (g3.below (g2.below hx (by omega)) (by omega)) (by omega)) (by omega)) (by omega))
end Go.V.Gr

namespace Go.Proofs.YtnmldggopnbclaaGreatDoor
open Go Go.V Go.Proofs
def tabTy : List (Nat × TInfo) := [
 (2, { sh := (.one (.int .i64)), zero := some [.int .i64 0], bytes := 8 }),
 (3, { sh := (.one (.int .i64)), zero := some [.int .i64 0], bytes := 8 }),
 (4, { sh := (.one .bool), zero := some [.bool false], bytes := 1 }),
 (5, { sh := (.one (.int .u8)), zero := some [.int .u8 0], bytes := 1 }),
 (9, { sh := (.one .str), zero := some [.string ⟨#[]⟩], bytes := 16 }),
 (21, { sh := (.one (.int .i32)), zero := some [.int .i32 0], bytes := 4 }),
 (22, { sh := (.one .slice), idx := some (none, 2), elem := 25, zero := some [.slice none 0 0], bytes := 24 }),
 (23, { sh := (.one .slice), idx := some (none, 5), elem := 39, zero := some [.slice none 0 0], bytes := 24 }),
 (25, { sh := (.agg [(.int .i64), .slice]), places := [(0, 1, false), (1, 1, false)], zero := some [.int .i64 0, .slice none 0 0], bytes := 32 }),
 (28, { sh := (.one (.int .i64)), zero := some [.int .i64 0], bytes := 8 }),
 (36, { sh := (.one .slice), idx := some (none, 2), elem := 41, zero := some [.slice none 0 0], bytes := 24 }),
 (37, { sh := (.one .slice), idx := some (none, 1), elem := 3, zero := some [.slice none 0 0], bytes := 24 }),
 (39, { sh := (.agg [.str, (.int .i64), .str, .slice, .slice]), places := [(0, 1, false), (1, 1, false), (2, 1, false), (3, 1, false), (4, 1, false)], zero := some [.string ⟨#[]⟩, .int .i64 0, .string ⟨#[]⟩, .slice none 0 0, .slice none 0 0], bytes := 88 }),
 (41, { sh := (.agg [(.int .i64), .str]), places := [(0, 1, false), (1, 1, false)], zero := some [.int .i64 0, .string ⟨#[]⟩], eq := some [(.int .i64), .str], bytes := 24 }),
 (63, { sh := (.one .map), elem := 3, zero := some [.map none], bytes := 8 }),
 (69, { sh := (.one .slice), idx := some (none, 1), elem := 9, zero := some [.slice none 0 0], bytes := 24 }),
 (73, { sh := (.one .slice), idx := some (none, 1), elem := 4, zero := some [.slice none 0 0], bytes := 24 }),
 (79, { sh := (.one .map), elem := 3, zero := some [.map none], bytes := 8 }),
 (80, { sh := (.one .clo), zero := some [.nilFunc], bytes := 8 }),
 (85, { sh := (.one .ptr), zero := some [.pointer none], bytes := 8 }),
 (86, { sh := (.one .map), elem := 4, zero := some [.map none], bytes := 8 }),
 (90, { sh := (.agg [.str, .str, (.int .i64)]), places := [(0, 1, false), (1, 1, false), (2, 1, false)], zero := some [.string ⟨#[]⟩, .string ⟨#[]⟩, .int .i64 0], bytes := 40 }),
 (100, { sh := (.one .slice), idx := some (none, 1), elem := 37, zero := some [.slice none 0 0], bytes := 24 }),
 (120, { sh := (.one .slice), idx := some (none, 1), elem := 5, zero := some [.slice none 0 0], bytes := 24 }),
 (156, { sh := (.one (.int .u64)), zero := some [.int .u64 0], bytes := 8 }),
 (164, { sh := (.agg [(.int .u8), (.int .u8), (.int .u8), (.int .u8), (.int .u8), (.int .u8), (.int .u8), (.int .u8), (.int .u8), (.int .u8), (.int .u8), (.int .u8), (.int .u8), (.int .u8), (.int .u8), (.int .u8), (.int .u8), (.int .u8), (.int .u8), (.int .u8), (.int .u8), (.int .u8), (.int .u8), (.int .u8)]), idx := some (some 24, 1), zero := some [.int .u8 0, .int .u8 0, .int .u8 0, .int .u8 0, .int .u8 0, .int .u8 0, .int .u8 0, .int .u8 0, .int .u8 0, .int .u8 0, .int .u8 0, .int .u8 0, .int .u8 0, .int .u8 0, .int .u8 0, .int .u8 0, .int .u8 0, .int .u8 0, .int .u8 0, .int .u8 0, .int .u8 0, .int .u8 0, .int .u8 0, .int .u8 0], bytes := 24 }),
 (165, { sh := (.one (.int .u64)), zero := some [.int .u64 0], bytes := 8 }),
 (186, { sh := (.one (.int .u32)), zero := some [.int .u32 0], bytes := 4 }),
 (210, { sh := (.one (.int .u16)), zero := some [.int .u16 0], bytes := 2 }),
 (211, { sh := (.one .slice), idx := some (none, 1), elem := 210, zero := some [.slice none 0 0], bytes := 24 }),
 (213, { sh := (.one .slice), idx := some (none, 1), elem := 186, zero := some [.slice none 0 0], bytes := 24 })]
def tabFn : List (Nat × List Sh) := [(2, []), (3, [(.one .bool)]), (4, [(.one .bool)]), (5, [(.one .bool)]), (6, [(.agg [(.int .i64), .slice]), (.one (.int .i64))]), (7, [(.agg [(.int .i64), .slice]), (.one (.int .i64))]), (8, [(.one .bool)]), (9, [(.one .slice), (.one (.int .i64))]), (10, [(.agg [(.int .i64), .slice]), (.one (.int .i64))]), (11, [(.one .slice), (.one (.int .i64))]), (12, [(.agg [(.int .i64), .slice]), (.one (.int .i64))]), (13, [(.one .str), (.one (.int .i64))]), (14, [(.one .bool)]), (15, [(.one .bool)]), (16, [(.agg [(.int .i64), .slice])]), (17, [(.one .slice), (.one (.int .i64))]), (18, [(.one .slice)]), (19, [(.one .bool)]), (20, [(.one .slice), (.one (.int .i64)), (.one (.int .i64))]), (21, [(.one .slice)]), (22, [(.agg [(.int .i64), .slice])]), (23, [(.one .bool)]), (24, [(.one .slice), (.one .bool)]), (25, [(.one .bool)]), (26, [(.one .bool)]), (27, []), (28, [(.one .slice), (.one (.int .i64))]), (29, [(.one (.int .i64))]), (30, [(.agg [(.int .i64), .slice]), (.one (.int .i64))]), (31, [(.one .str)]), (32, [(.one .slice), (.one .slice)]), (33, [(.one .bool)]), (34, [(.one .bool)]), (35, [(.one .slice)]), (36, [(.one (.int .i64))]), (37, [(.one .slice)]), (38, [(.one .bool)]), (39, [(.one .slice)]), (40, [(.one (.int .i64))]), (41, [(.one .bool)]), (42, [(.one .bool)]), (43, [(.one .slice), (.one (.int .i64)), (.one .bool)]), (44, [(.agg [.str, .str, (.int .i64)])]), (45, [(.one (.int .i64))]), (46, [(.one (.int .i64))]), (47, [(.one .bool)]), (48, [(.one (.int .i64))]), (49, [(.one .bool)]), (50, [(.agg [.str, (.int .i64), .str, .slice, .slice])]), (51, [(.one (.int .i64))]), (52, [(.one .bool)]), (53, []), (54, [(.one .str)]), (55, [(.one .str)]), (56, [(.one .str)]), (57, [(.one .bool)]), (58, [(.one .str)]), (59, [(.one (.int .i64))]), (60, [(.one .bool)]), (61, [(.one .bool)]), (62, [(.one .bool)]), (63, [(.one .str)]), (64, [(.one (.int .i64))]), (65, [(.one .str)]), (66, [(.one .bool)]), (67, [(.one .bool)]), (68, [(.one .str)]), (69, [(.one .bool)]), (70, [(.one (.int .i64)), (.one .bool)]), (71, [(.agg [.str, .str, (.int .i64)]), (.one (.int .i64)), (.one .bool)]), (72, [(.one (.int .i64)), (.one .any)]), (73, [(.agg [.str, (.int .i64), .str, .slice, .slice])]), (74, [(.agg [.str, (.int .i64), .str, .slice, .slice])]), (75, [(.one (.int .i64))]), (76, []), (77, [(.one (.int .i64))]), (78, [(.one (.int .i64)), (.one .any)]), (79, [(.one (.int .i32)), (.one (.int .i64))]), (80, [(.one .str)]), (81, [(.one .str)]), (82, [(.one .str), (.one (.int .i64))]), (83, [(.one .str)]), (84, [(.one .bool)]), (85, [(.one .str)]), (86, [(.one .bool)]), (87, [(.one .bool)]), (88, [(.one .bool)]), (89, [(.one (.int .i64)), (.one .bool)]), (90, [(.one .bool)]), (91, [(.one .str)]), (92, [(.one .bool)]), (93, [(.one .str)]), (94, [(.one .slice)]), (95, [(.one .bool)]), (96, [(.one .bool)]), (97, [(.one .bool)]), (98, [(.one .bool)]), (99, [(.one .str)]), (100, [(.one .bool)]), (101, [(.one (.int .i64))]), (102, [(.one .bool)]), (103, [(.one .bool)]), (104, [(.one .bool)]), (105, [(.one .str), (.one (.int .i64)), (.one .bool)]), (106, [(.one .str), (.one (.int .i64)), (.one .bool)]), (107, [(.one (.int .i64)), (.one .any)]), (108, [(.one .any)]), (109, [(.one .bool)]), (110, [(.agg [(.int .i64), .str])]), (111, []), (112, [(.one (.int .i64))]), (113, [(.one (.int .i64))]), (114, [(.one (.int .i64))]), (116, []), (117, []), (118, [(.one (.int .i64))]), (119, [(.one (.int .i32)), (.one (.int .i64))]), (120, [(.one .str)]), (121, [(.one .str), (.one (.int .i64))]), (122, [(.one .bool)]), (123, [(.one .str)]), (124, [(.one .slice)]), (125, [(.one .bool)]), (126, [(.one .bool)]), (127, [(.one (.int .i64)), (.one .any)]), (128, [(.one .ptr)]), (129, [(.one .ptr)]), (130, [(.one .ptr)]), (131, [(.one .ptr)]), (132, []), (133, [(.one (.int .i64))]), (134, [(.one (.int .i64))]), (137, [(.one (.int .i64))]), (139, [(.one (.int .i64))]), (140, [(.one (.int .i64))]), (141, [(.one .str)]), (142, [(.one (.int .i64))]), (143, []), (144, [(.one .slice), (.one .str)]), (145, [(.one .bool)]), (146, [(.one .str)]), (147, [(.one .slice)]), (148, [(.one .slice)]), (149, [(.one .bool)]), (150, [(.one .bool)]), (151, [(.one .bool)]), (152, [(.one .bool)]), (153, [(.one .bool)]), (154, [(.one (.int .u64)), (.one .any)]), (155, [(.one .str)]), (156, [(.one .any)]), (157, []), (158, []), (159, []), (160, [(.one (.int .i64)), (.one (.int .i64))]), (161, []), (162, [(.one .bool)]), (163, [(.one (.int .i64))]), (164, [(.one (.int .i64)), (.one .bool)]), (165, [(.one (.int .i64))]), (166, [(.one (.int .i64))]), (169, [(.one (.int .u32)), (.one (.int .u32))]), (170, [(.one (.int .i64))]), (171, [(.one (.int .i64))]), (172, [(.one .bool)]), (173, [(.one (.int .i64))]), (174, [(.one .slice)]), (175, [(.one .bool)]), (176, [(.one .bool)]), (177, [(.one .bool)]), (178, [(.one (.int .u8))]), (179, [(.one .bool)]), (180, []), (181, [(.one (.int .u64))]), (182, [(.one (.int .u64))]), (183, [(.one (.int .i64))]), (184, [(.one (.int .i64))]), (185, [(.one (.int .i64))]), (186, [(.one (.int .i64))]), (187, [(.one .bool)]), (188, [(.one .bool)]), (189, [(.one .slice)]), (190, [(.one .bool)]), (191, [(.one .bool)]), (192, [(.one .bool)]), (193, [(.one (.int .i64)), (.one (.int .i64))]), (194, [(.one (.int .i64)), (.one .bool)]), (195, [(.one (.int .i64)), (.one .bool)]), (196, [(.one .slice)]), (197, [(.one .bool)]), (232, [])]
def tab : Tab := { ty := tabTy, fn := tabFn, tup := [(81, [(.one (.int .i64)), (.one .bool)])] }
theorem tab_fn : FAll Tryz.prog tabFn := ⟨Tryz.call2, Tryz.call3, Tryz.call4, Tryz.call5, Tryz.call6, Tryz.call7, Tryz.call8, Tryz.call9, Tryz.call10, Tryz.call11, Tryz.call12, Tryz.call13, Tryz.call14, Tryz.call15, Tryz.call16, Tryz.call17, Tryz.call18, Tryz.call19, Tryz.call20, Tryz.call21, Tryz.call22, Tryz.call23, Tryz.call24, Tryz.call25, Tryz.call26, Tryz.call27, Tryz.call28, Tryz.call29, Tryz.call30, Tryz.call31, Tryz.call32, Tryz.call33, Tryz.call34, Tryz.call35, Tryz.call36, Tryz.call37, Tryz.call38, Tryz.call39, Tryz.call40, Tryz.call41, Tryz.call42, Tryz.call43, Tryz.call44, Tryz.call45, Tryz.call46, Tryz.call47, Tryz.call48, Tryz.call49, Tryz.call50, Tryz.call51, Tryz.call52, Tryz.call53, Tryz.call54, Tryz.call55, Tryz.call56, Tryz.call57, Tryz.call58, Tryz.call59, Tryz.call60, Tryz.call61, Tryz.call62, Tryz.call63, Tryz.call64, Tryz.call65, Tryz.call66, Tryz.call67, Tryz.call68, Tryz.call69, Tryz.call70, Tryz.call71, Tryz.call72, Tryz.call73, Tryz.call74, Tryz.call75, Tryz.call76, Tryz.call77, Tryz.call78, Tryz.call79, Tryz.call80, Tryz.call81, Tryz.call82, Tryz.call83, Tryz.call84, Tryz.call85, Tryz.call86, Tryz.call87, Tryz.call88, Tryz.call89, Tryz.call90, Tryz.call91, Tryz.call92, Tryz.call93, Tryz.call94, Tryz.call95, Tryz.call96, Tryz.call97, Tryz.call98, Tryz.call99, Tryz.call100, Tryz.call101, Tryz.call102, Tryz.call103, Tryz.call104, Tryz.call105, Tryz.call106, Tryz.call107, Tryz.call108, Tryz.call109, Tryz.call110, Tryz.call111, Tryz.call112, Tryz.call113, Tryz.call114, Tryz.call116, Tryz.call117, Tryz.call118, Tryz.call119, Tryz.call120, Tryz.call121, Tryz.call122, Tryz.call123, Tryz.call124, Tryz.call125, Tryz.call126, Tryz.call127, Tryz.call128, Tryz.call129, Tryz.call130, Tryz.call131, Tryz.call132, Tryz.call133, Tryz.call134, Tryz.call137, Tryz.call139, Tryz.call140, Tryz.call141, Tryz.call142, Tryz.call143, Tryz.call144, Tryz.call145, Tryz.call146, Tryz.call147, Tryz.call148, Tryz.call149, Tryz.call150, Tryz.call151, Tryz.call152, Tryz.call153, Tryz.call154, Tryz.call155, Tryz.call156, Tryz.call157, Tryz.call158, Tryz.call159, Tryz.call160, Tryz.call161, Tryz.call162, Tryz.call163, Tryz.call164, Tryz.call165, Tryz.call166, Tryz.call169, Tryz.call170, Tryz.call171, Tryz.call172, Tryz.call173, Tryz.call174, Tryz.call175, Tryz.call176, Tryz.call177, Tryz.call178, Tryz.call179, Tryz.call180, Tryz.call181, Tryz.call182, Tryz.call183, Tryz.call184, Tryz.call185, Tryz.call186, Tryz.call187, Tryz.call188, Tryz.call189, Tryz.call190, Tryz.call191, Tryz.call192, Tryz.call193, Tryz.call194, Tryz.call195, Tryz.call196, Tryz.call197, Tryz.call232, trivial⟩
theorem tab_zero : ZAll Tryz.prog tabTy := ⟨(show zeroOf Tryz.prog 2 = (List.toArray [.int .i64 0]) from by kernel_rfl),
 (show zeroOf Tryz.prog 3 = (List.toArray [.int .i64 0]) from by kernel_rfl),
 (show zeroOf Tryz.prog 4 = (List.toArray [.bool false]) from by kernel_rfl),
 (show zeroOf Tryz.prog 5 = (List.toArray [.int .u8 0]) from by kernel_rfl),
 (show zeroOf Tryz.prog 9 = (List.toArray [.string ⟨#[]⟩]) from by kernel_rfl),
 (show zeroOf Tryz.prog 21 = (List.toArray [.int .i32 0]) from by kernel_rfl),
 (show zeroOf Tryz.prog 22 = (List.toArray [.slice none 0 0]) from by kernel_rfl),
 (show zeroOf Tryz.prog 23 = (List.toArray [.slice none 0 0]) from by kernel_rfl),
 (show zeroOf Tryz.prog 25 = (List.toArray [.int .i64 0, .slice none 0 0]) from by kernel_rfl),
 (show zeroOf Tryz.prog 28 = (List.toArray [.int .i64 0]) from by kernel_rfl),
 (show zeroOf Tryz.prog 36 = (List.toArray [.slice none 0 0]) from by kernel_rfl),
 (show zeroOf Tryz.prog 37 = (List.toArray [.slice none 0 0]) from by kernel_rfl),
 (show zeroOf Tryz.prog 39 = (List.toArray [.string ⟨#[]⟩, .int .i64 0, .string ⟨#[]⟩, .slice none 0 0, .slice none 0 0]) from by kernel_rfl),
 (show zeroOf Tryz.prog 41 = (List.toArray [.int .i64 0, .string ⟨#[]⟩]) from by kernel_rfl),
 (show zeroOf Tryz.prog 63 = (List.toArray [.map none]) from by kernel_rfl),
 (show zeroOf Tryz.prog 69 = (List.toArray [.slice none 0 0]) from by kernel_rfl),
 (show zeroOf Tryz.prog 73 = (List.toArray [.slice none 0 0]) from by kernel_rfl),
 (show zeroOf Tryz.prog 79 = (List.toArray [.map none]) from by kernel_rfl),
 (show zeroOf Tryz.prog 80 = (List.toArray [.nilFunc]) from by kernel_rfl),
 (show zeroOf Tryz.prog 85 = (List.toArray [.pointer none]) from by kernel_rfl),
 (show zeroOf Tryz.prog 86 = (List.toArray [.map none]) from by kernel_rfl),
 (show zeroOf Tryz.prog 90 = (List.toArray [.string ⟨#[]⟩, .string ⟨#[]⟩, .int .i64 0]) from by kernel_rfl),
 (show zeroOf Tryz.prog 100 = (List.toArray [.slice none 0 0]) from by kernel_rfl),
 (show zeroOf Tryz.prog 120 = (List.toArray [.slice none 0 0]) from by kernel_rfl),
 (show zeroOf Tryz.prog 156 = (List.toArray [.int .u64 0]) from by kernel_rfl),
 (show zeroOf Tryz.prog 164 = (List.toArray [.int .u8 0, .int .u8 0, .int .u8 0, .int .u8 0, .int .u8 0, .int .u8 0, .int .u8 0, .int .u8 0, .int .u8 0, .int .u8 0, .int .u8 0, .int .u8 0, .int .u8 0, .int .u8 0, .int .u8 0, .int .u8 0, .int .u8 0, .int .u8 0, .int .u8 0, .int .u8 0, .int .u8 0, .int .u8 0, .int .u8 0, .int .u8 0]) from by kernel_rfl),
 (show zeroOf Tryz.prog 165 = (List.toArray [.int .u64 0]) from by kernel_rfl),
 (show zeroOf Tryz.prog 186 = (List.toArray [.int .u32 0]) from by kernel_rfl),
 (show zeroOf Tryz.prog 210 = (List.toArray [.int .u16 0]) from by kernel_rfl),
 (show zeroOf Tryz.prog 211 = (List.toArray [.slice none 0 0]) from by kernel_rfl),
 (show zeroOf Tryz.prog 213 = (List.toArray [.slice none 0 0]) from by kernel_rfl), trivial⟩
theorem tab_eq : EAll Tryz.prog tabTy := ⟨trivial, trivial, trivial, trivial, trivial, trivial, trivial, trivial, trivial, trivial, trivial, trivial, trivial, (eqOk_struct (fs := _) Tryz.underlying41 (by kernel_rfl) (by kernel_rfl) (by kernel_rfl)), trivial, trivial, trivial, trivial, trivial, trivial, trivial, trivial, trivial, trivial, trivial, trivial, trivial, trivial, trivial, trivial, trivial, trivial⟩
theorem tabOk : tab.Ok Tryz.prog := Tab.Ok.of (by kernel_rfl) tab_zero tab_eq tab_fn
theorem mixed : Tryz.prog.follows .mixedOrders = true := by kernel_rfl
end Go.Proofs.YtnmldggopnbclaaGreatDoor

namespace Go.Proofs.YtnmldggopnbclaaGreatDoor
open Go Go.V Go.Proofs
open Go.RowKit (Below)
/-! manystrand/token.printed -/
def N87 (s1 : ByteArray) (x2 : Int) (K : Bool → World → Prop) (w : World) : Prop :=
 ∃ (I3 : Int → World → Prop) (μ4 : Int → World → Nat),
 (I3 0 w ∧ True) ∧
 ∀ w5 x6, I3 x6 w5 →
 BoolK (decide (x6 < (s1.size : Nat)))
 (∃ (u7 : UInt8), (0 ≤ x6 ∧ s1[x6.toNat]? = some u7) ∧
 (BoolK ((u7.toNat : Int) != 10)
 (∃ (u8 : UInt8), (0 ≤ x6 ∧ s1[x6.toNat]? = some u8) ∧
 (BoolK (decide ((u8.toNat : Int) < 32))
 (K false w5)
 (∃ (u9 : UInt8), (0 ≤ x6 ∧ s1[x6.toNat]? = some u9) ∧
 (BoolK (decide ((u9.toNat : Int) > 126))
 (K false w5)
 (I3 (IntKind.wrap .i64 (x6 + 1)) w5 ∧ μ4 (IntKind.wrap .i64 (x6 + 1)) w5 < μ4 x6 w5)))))
 (I3 (IntKind.wrap .i64 (x6 + 1)) w5 ∧ μ4 (IntKind.wrap .i64 (x6 + 1)) w5 < μ4 x6 w5)))
 (K (decide (((s1.size : Nat) : Int) ≤ x2)) w5)
def ann87 : Ann := (.two .nil (.two (.two .nil (.one (.loop [(8, (.one (.int .i64)))] [0, 1, 7] (.two .nil (.two (.two .nil .nil) (.two (.one (.two .nil (.two .nil (.two (.two .nil .nil) .nil)))) .nil)))))) (.two .nil .nil)))
noncomputable def code87 : Code := match Tryz.f87.body with | some c => c | none => .skip
theorem calls87 (s1 : ByteArray) (x2 : Int) (K : Bool → World → Prop) (w : World) (h : N87 s1 x2 K w) : Calls Tryz.prog 87 #[(.string s1), (.int .i64 x2)] w fun en w' => ∃ (p10 : Bool), en = .returned (.bool p10) ∧ K p10 w' :=
 fn_calls tabOk mixed Tryz.func87 (by kernel_rfl : Tryz.f87.body = some code87) ann87 [(.string s1), (.int .i64 x2)] [(.one .bool)] K w (by kernel_rfl) (by kernel_rfl) (by kernel_rfl) h
end Go.Proofs.YtnmldggopnbclaaGreatDoor

namespace Go.Proofs.YtnmldggopnbclaaGreatDoor
open Go Go.V Go.Proofs
open Go.RowKit (Below)
/-! manystrand/token.Valid -/
def N60 (s1 : ByteArray) (s2 : ByteArray) (x3 : Int) (K : Bool → World → Prop) (w : World) : Prop :=
 AllocK w (#[(.string s1), (.string s2), (.int .i64 x3)]) 90 fun b4 w5 =>
 ∃ s6, w5.cell? (b4.add 1) = some (.string s6) ∧
 (∃ s7, w5.cell? b4 = some (.string s7) ∧
 (BoolK (s7.toList == (⟨#[118, 97, 114]⟩ : ByteArray).toList)
 (Calls Tryz.prog 86 #[(.string s6)] w5 fun e10 w9 =>
 ∃ p8, e10 = .returned (.bool p8) ∧
 (K p8 w9))
 (∃ (J11 : Bool → World → Prop),
 (∀ w12 p13, J11 p13 w12 →
 BoolK p13
 (∃ (J14 : Int → World → Prop),
 (∀ w15 x16, J14 x16 w15 →
 Calls Tryz.prog 87 #[(.string s6), (.int .i64 x16)] w15 fun e19 w18 =>
 ∃ p17, e19 = .returned (.bool p17) ∧
 (K p17 w18)) ∧
 (∃ s20, w12.cell? b4 = some (.string s20) ∧
 (BoolK (s20.toList == (⟨#[116, 101, 120, 116]⟩ : ByteArray).toList)
 (J14 200 w12)
 (J14 60 w12))))
 (BoolK (s7.toList == (⟨#[105, 110, 116]⟩ : ByteArray).toList)
 (∃ (J21 : World → Prop),
 (∀ w22, J21 w22 →
 Calls Tryz.prog 89 #[(.string s6), (.int .i64 0)] w22 fun e26 w25 =>
 ∃ x23, ∃ p24, e26 = .returned (.tuple #[(.int .i64 x23), (.bool p24)]) ∧
 (BoolK p24
 (K (x23 == (s6.size : Nat)) w25)
 (K false w25))) ∧
 (BoolK (s6.toList == (⟨#[]⟩ : ByteArray).toList)
 (K false w12)
 (∃ (u27 : UInt8), (0 ≤ (0 : Int) ∧ s6[(0 : Int).toNat]? = some u27) ∧
 (Calls Tryz.prog 88 #[(.int .u8 u27.toNat)] w12 fun e30 w29 =>
 ∃ p28, e30 = .returned (.bool p28) ∧
 (BoolK (!p28)
 (∃ (u31 : UInt8), (0 ≤ (0 : Int) ∧ s6[(0 : Int).toNat]? = some u31) ∧
 (BoolK ((u31.toNat : Int) != 126)
 (K false w29)
 (J21 w29)))
 (J21 w29))))))
 (BoolK (s7.toList == (⟨#[99, 104, 97, 114]⟩ : ByteArray).toList)
 (BoolK (((s6.size : Nat) : Int) == 1)
 (∃ (u32 : UInt8), (0 ≤ (0 : Int) ∧ s6[(0 : Int).toNat]? = some u32) ∧
 (BoolK ((u32.toNat : Int) == 10)
 (K true w12)
 (∃ (u33 : UInt8), (0 ≤ (0 : Int) ∧ s6[(0 : Int).toNat]? = some u33) ∧
 (BoolK (decide ((u33.toNat : Int) ≥ 32))
 (∃ (u34 : UInt8), (0 ≤ (0 : Int) ∧ s6[(0 : Int).toNat]? = some u34) ∧
 (K (decide ((u34.toNat : Int) ≤ 126)) w12))
 (K false w12)))))
 (K false w12))
 (BoolK (s7.toList == (⟨#[107, 101, 121]⟩ : ByteArray).toList)
 (Calls Tryz.prog 90 #[(.string s6)] w12 fun e37 w36 =>
 ∃ p35, e37 = .returned (.bool p35) ∧
 (K p35 w36))
 (BoolK (s7.toList == (⟨#[115, 105, 103, 110]⟩ : ByteArray).toList)
 (BoolK (!(s6.toList == (⟨#[]⟩ : ByteArray).toList))
 (Calls Tryz.prog 91 #[(.string s6)] w12 fun e40 w39 =>
 ∃ s38, e40 = .returned (.string s38) ∧
 (K (s38.toList == s6.toList) w39))
 (K false w12))
 (K false w12)))))) ∧
 (BoolK (s7.toList == (⟨#[97, 116, 111, 109]⟩ : ByteArray).toList)
 (J11 (s7.toList == (⟨#[97, 116, 111, 109]⟩ : ByteArray).toList) w5)
 (J11 (s7.toList == (⟨#[116, 101, 120, 116]⟩ : ByteArray).toList) w5)))))
def ann60 : Ann := (.two .nil (.two .nil (.two (.two .nil (.one (.two .nil (.two (.two .nil .nil) (.cut [(15, (.one .bool))] [1, 3, 10] (.two .nil (.two .nil .nil)) (.two (.two .nil (.cut [(4, (.one (.int .i64)))] [3] (.two .nil (.two .nil .nil)) (.two .nil .nil))) (.two .nil (.two (.cut [] [3] (.two .nil (.two (.two .nil .nil) .nil)) (.two .nil (.two .nil .nil))) (.two .nil (.two (.two .nil .nil) (.two .nil (.two (.two .nil .nil) (.two .nil (.two (.two .nil .nil) .nil)))))))))))))) (.two .nil .nil))))
noncomputable def code60 : Code := match Tryz.f60.body with | some c => c | none => .skip
theorem calls60 (s1 : ByteArray) (s2 : ByteArray) (x3 : Int) (K : Bool → World → Prop) (w : World) (h : N60 s1 s2 x3 K w) : Calls Tryz.prog 60 #[(.agg #[(.string s1), (.string s2), (.int .i64 x3)])] w fun en w' => ∃ (p41 : Bool), en = .returned (.bool p41) ∧ K p41 w' :=
 fn_calls tabOk mixed Tryz.func60 (by kernel_rfl : Tryz.f60.body = some code60) ann60 [(.agg #[(.string s1), (.string s2), (.int .i64 x3)])] [(.one .bool)] K w (by kernel_rfl) (by kernel_rfl) (by kernel_rfl) h
end Go.Proofs.YtnmldggopnbclaaGreatDoor

namespace Go.Proofs.YtnmldggopnbclaaGreatDoor
open Go Go.V Go.Proofs
open Go.RowKit (Below)
/-! manystrand/token.lower -/
def N103 (x1 : Int) (K : Bool → World → Prop) (w : World) : Prop :=
 BoolK (decide (x1 ≥ 97))
 (K (decide (x1 ≤ 122)) w)
 (K false w)
def ann103 : Ann := (.two .nil (.two .nil .nil))
noncomputable def code103 : Code := match Tryz.f103.body with | some c => c | none => .skip
theorem calls103 (x1 : Int) (K : Bool → World → Prop) (w : World) (h : N103 x1 K w) : Calls Tryz.prog 103 #[(.int .u8 x1)] w fun en w' => ∃ (p2 : Bool), en = .returned (.bool p2) ∧ K p2 w' :=
 fn_calls tabOk mixed Tryz.func103 (by kernel_rfl : Tryz.f103.body = some code103) ann103 [(.int .u8 x1)] [(.one .bool)] K w (by kernel_rfl) (by kernel_rfl) (by kernel_rfl) h
end Go.Proofs.YtnmldggopnbclaaGreatDoor

namespace Go.Proofs.YtnmldggopnbclaaGreatDoor
open Go Go.V Go.Proofs
open Go.RowKit (Below)
/-! manystrand/token.upper -/
def N102 (x1 : Int) (K : Bool → World → Prop) (w : World) : Prop :=
 BoolK (decide (x1 ≥ 65))
 (K (decide (x1 ≤ 90)) w)
 (K false w)
def ann102 : Ann := (.two .nil (.two .nil .nil))
noncomputable def code102 : Code := match Tryz.f102.body with | some c => c | none => .skip
theorem calls102 (x1 : Int) (K : Bool → World → Prop) (w : World) (h : N102 x1 K w) : Calls Tryz.prog 102 #[(.int .u8 x1)] w fun en w' => ∃ (p2 : Bool), en = .returned (.bool p2) ∧ K p2 w' :=
 fn_calls tabOk mixed Tryz.func102 (by kernel_rfl : Tryz.f102.body = some code102) ann102 [(.int .u8 x1)] [(.one .bool)] K w (by kernel_rfl) (by kernel_rfl) (by kernel_rfl) h
end Go.Proofs.YtnmldggopnbclaaGreatDoor

namespace Go.Proofs.YtnmldggopnbclaaGreatDoor
open Go Go.V Go.Proofs
open Go.RowKit (Below)
/-! manystrand/token.digit -/
def N88 (x1 : Int) (K : Bool → World → Prop) (w : World) : Prop :=
 BoolK (decide (x1 ≥ 48))
 (K (decide (x1 ≤ 57)) w)
 (K false w)
def ann88 : Ann := (.two .nil (.two .nil .nil))
noncomputable def code88 : Code := match Tryz.f88.body with | some c => c | none => .skip
theorem calls88 (x1 : Int) (K : Bool → World → Prop) (w : World) (h : N88 x1 K w) : Calls Tryz.prog 88 #[(.int .u8 x1)] w fun en w' => ∃ (p2 : Bool), en = .returned (.bool p2) ∧ K p2 w' :=
 fn_calls tabOk mixed Tryz.func88 (by kernel_rfl : Tryz.f88.body = some code88) ann88 [(.int .u8 x1)] [(.one .bool)] K w (by kernel_rfl) (by kernel_rfl) (by kernel_rfl) h
end Go.Proofs.YtnmldggopnbclaaGreatDoor

namespace Go.Proofs.YtnmldggopnbclaaGreatDoor
open Go Go.V Go.Proofs
open Go.RowKit (Below)
/-! manystrand/token.word -/
def N104 (x1 : Int) (K : Bool → World → Prop) (w : World) : Prop :=
 Calls Tryz.prog 102 #[(.int .u8 x1)] w fun e4 w3 =>
 ∃ p2, e4 = .returned (.bool p2) ∧
 (BoolK p2
 (K true w3)
 (Calls Tryz.prog 103 #[(.int .u8 x1)] w3 fun e7 w6 =>
 ∃ p5, e7 = .returned (.bool p5) ∧
 (BoolK p5
 (K true w6)
 (Calls Tryz.prog 88 #[(.int .u8 x1)] w6 fun e10 w9 =>
 ∃ p8, e10 = .returned (.bool p8) ∧
 (BoolK p8
 (K true w9)
 (K (x1 == 95) w9))))))
def ann104 : Ann := (.two .nil (.two .nil .nil))
noncomputable def code104 : Code := match Tryz.f104.body with | some c => c | none => .skip
theorem calls104 (x1 : Int) (K : Bool → World → Prop) (w : World) (h : N104 x1 K w) : Calls Tryz.prog 104 #[(.int .u8 x1)] w fun en w' => ∃ (p11 : Bool), en = .returned (.bool p11) ∧ K p11 w' :=
 fn_calls tabOk mixed Tryz.func104 (by kernel_rfl : Tryz.f104.body = some code104) ann104 [(.int .u8 x1)] [(.one .bool)] K w (by kernel_rfl) (by kernel_rfl) (by kernel_rfl) h
end Go.Proofs.YtnmldggopnbclaaGreatDoor

namespace Go.Proofs.YtnmldggopnbclaaGreatDoor
open Go Go.V Go.Proofs
open Go.RowKit (Below)
/-! manystrand/token.words -/
def N122 (s1 : ByteArray) (K : Bool → World → Prop) (w : World) : Prop :=
 ∃ (I2 : Int → World → Prop) (μ3 : Int → World → Nat),
 (I2 0 w ∧ True) ∧
 ∀ w4 x5, I2 x5 w4 →
 BoolK (decide (x5 < (s1.size : Nat)))
 (∃ (u6 : UInt8), (0 ≤ x5 ∧ s1[x5.toNat]? = some u6) ∧
 (Calls Tryz.prog 104 #[(.int .u8 u6.toNat)] w4 fun e9 w8 =>
 ∃ p7, e9 = .returned (.bool p7) ∧
 (BoolK (!p7)
 (K false w8)
 (I2 (IntKind.wrap .i64 (x5 + 1)) w8 ∧ μ3 (IntKind.wrap .i64 (x5 + 1)) w8 < μ3 x5 w4))))
 (K true w4)
def ann122 : Ann := (.two .nil (.two (.two .nil (.one (.loop [(6, (.one (.int .i64)))] [0, 5] (.two .nil (.two (.two .nil .nil) (.two (.one (.two .nil (.two .nil (.two (.two .nil .nil) .nil)))) .nil)))))) (.two .nil .nil)))
noncomputable def code122 : Code := match Tryz.f122.body with | some c => c | none => .skip
theorem calls122 (s1 : ByteArray) (K : Bool → World → Prop) (w : World) (h : N122 s1 K w) : Calls Tryz.prog 122 #[(.string s1)] w fun en w' => ∃ (p10 : Bool), en = .returned (.bool p10) ∧ K p10 w' :=
 fn_calls tabOk mixed Tryz.func122 (by kernel_rfl : Tryz.f122.body = some code122) ann122 [(.string s1)] [(.one .bool)] K w (by kernel_rfl) (by kernel_rfl) (by kernel_rfl) h
end Go.Proofs.YtnmldggopnbclaaGreatDoor

namespace Go.Proofs.YtnmldggopnbclaaGreatDoor
open Go Go.V Go.Proofs
open Go.RowKit (Below)
/-! manystrand/token.isKey -/
def N90 (s1 : ByteArray) (K : Bool → World → Prop) (w : World) : Prop :=
 BoolK (s1.toList == (⟨#[97, 110, 100, 116, 104, 101, 110]⟩ : ByteArray).toList)
 (BoolK (s1.toList == (⟨#[97, 110, 100, 116, 104, 101, 110]⟩ : ByteArray).toList)
 (K true w)
 (K false w))
 (BoolK (s1.toList == (⟨#[97, 116]⟩ : ByteArray).toList)
 (BoolK (s1.toList == (⟨#[97, 116]⟩ : ByteArray).toList)
 (K true w)
 (K false w))
 (BoolK (s1.toList == (⟨#[98, 121]⟩ : ByteArray).toList)
 (BoolK (s1.toList == (⟨#[98, 121]⟩ : ByteArray).toList)
 (K true w)
 (K false w))
 (BoolK (s1.toList == (⟨#[99, 97, 115, 101]⟩ : ByteArray).toList)
 (BoolK (s1.toList == (⟨#[99, 97, 115, 101]⟩ : ByteArray).toList)
 (K true w)
 (K false w))
 (BoolK (s1.toList == (⟨#[99, 97, 116, 99, 104]⟩ : ByteArray).toList)
 (BoolK (s1.toList == (⟨#[99, 97, 116, 99, 104]⟩ : ByteArray).toList)
 (K true w)
 (K false w))
 (BoolK (s1.toList == (⟨#[99, 104, 111, 105, 99, 101]⟩ : ByteArray).toList)
 (BoolK (s1.toList == (⟨#[99, 104, 111, 105, 99, 101]⟩ : ByteArray).toList)
 (K true w)
 (K false w))
 (BoolK (s1.toList == (⟨#[100, 105, 118]⟩ : ByteArray).toList)
 (BoolK (s1.toList == (⟨#[100, 105, 118]⟩ : ByteArray).toList)
 (K true w)
 (K false w))
 (BoolK (s1.toList == (⟨#[100, 111]⟩ : ByteArray).toList)
 (BoolK (s1.toList == (⟨#[100, 111]⟩ : ByteArray).toList)
 (K true w)
 (K false w))
 (BoolK (s1.toList == (⟨#[101, 97, 99, 104]⟩ : ByteArray).toList)
 (BoolK (s1.toList == (⟨#[101, 97, 99, 104]⟩ : ByteArray).toList)
 (K true w)
 (K false w))
 (BoolK (s1.toList == (⟨#[101, 108, 115, 101]⟩ : ByteArray).toList)
 (BoolK (s1.toList == (⟨#[101, 108, 115, 101]⟩ : ByteArray).toList)
 (K true w)
 (K false w))
 (BoolK (s1.toList == (⟨#[101, 110, 100]⟩ : ByteArray).toList)
 (BoolK (s1.toList == (⟨#[101, 110, 100]⟩ : ByteArray).toList)
 (K true w)
 (K false w))
 (BoolK (s1.toList == (⟨#[102, 111, 114]⟩ : ByteArray).toList)
 (BoolK (s1.toList == (⟨#[102, 111, 114]⟩ : ByteArray).toList)
 (K true w)
 (K false w))
 (BoolK (s1.toList == (⟨#[102, 117, 110]⟩ : ByteArray).toList)
 (BoolK (s1.toList == (⟨#[102, 117, 110]⟩ : ByteArray).toList)
 (K true w)
 (K false w))
 (BoolK (s1.toList == (⟨#[105, 102]⟩ : ByteArray).toList)
 (BoolK (s1.toList == (⟨#[105, 102]⟩ : ByteArray).toList)
 (K true w)
 (K false w))
 (BoolK (s1.toList == (⟨#[105, 110]⟩ : ByteArray).toList)
 (BoolK (s1.toList == (⟨#[105, 110]⟩ : ByteArray).toList)
 (K true w)
 (K false w))
 (BoolK (s1.toList == (⟨#[108, 97, 122, 121]⟩ : ByteArray).toList)
 (BoolK (s1.toList == (⟨#[108, 97, 122, 121]⟩ : ByteArray).toList)
 (K true w)
 (K false w))
 (BoolK (s1.toList == (⟨#[108, 111, 99, 97, 108]⟩ : ByteArray).toList)
 (BoolK (s1.toList == (⟨#[108, 111, 99, 97, 108]⟩ : ByteArray).toList)
 (K true w)
 (K false w))
 (BoolK (s1.toList == (⟨#[108, 111, 99, 107]⟩ : ByteArray).toList)
 (BoolK (s1.toList == (⟨#[108, 111, 99, 107]⟩ : ByteArray).toList)
 (K true w)
 (K false w))
 (BoolK (s1.toList == (⟨#[109, 111, 100]⟩ : ByteArray).toList)
 (BoolK (s1.toList == (⟨#[109, 111, 100]⟩ : ByteArray).toList)
 (K true w)
 (K false w))
 (BoolK (s1.toList == (⟨#[111, 114, 101, 108, 115, 101]⟩ : ByteArray).toList)
 (BoolK (s1.toList == (⟨#[111, 114, 101, 108, 115, 101]⟩ : ByteArray).toList)
 (K true w)
 (K false w))
 (BoolK (s1.toList == (⟨#[112, 114, 111, 99]⟩ : ByteArray).toList)
 (BoolK (s1.toList == (⟨#[112, 114, 111, 99]⟩ : ByteArray).toList)
 (K true w)
 (K false w))
 (BoolK (s1.toList == (⟨#[114, 97, 105, 115, 101]⟩ : ByteArray).toList)
 (BoolK (s1.toList == (⟨#[114, 97, 105, 115, 101]⟩ : ByteArray).toList)
 (K true w)
 (K false w))
 (BoolK (s1.toList == (⟨#[115, 107, 105, 112]⟩ : ByteArray).toList)
 (BoolK (s1.toList == (⟨#[115, 107, 105, 112]⟩ : ByteArray).toList)
 (K true w)
 (K false w))
 (BoolK (s1.toList == (⟨#[116, 104, 101, 110]⟩ : ByteArray).toList)
 (BoolK (s1.toList == (⟨#[116, 104, 101, 110]⟩ : ByteArray).toList)
 (K true w)
 (K false w))
 (BoolK (s1.toList == (⟨#[116, 104, 114, 101, 97, 100]⟩ : ByteArray).toList)
 (BoolK (s1.toList == (⟨#[116, 104, 114, 101, 97, 100]⟩ : ByteArray).toList)
 (K true w)
 (K false w))
 (BoolK (s1.toList == (⟨#[116, 114, 121]⟩ : ByteArray).toList)
 (BoolK (s1.toList == (⟨#[116, 114, 121]⟩ : ByteArray).toList)
 (K true w)
 (K false w))
 (BoolK (s1.toList == (⟨#[111, 102]⟩ : ByteArray).toList)
 (K true w)
 (K false w)))))))))))))))))))))))))))
def ann90 : Ann := (.two .nil (.two (.two .nil (.one (.two (.two .nil (.two .nil (.two .nil (.two .nil (.two .nil (.two .nil (.two .nil (.two .nil (.two .nil (.two .nil (.two .nil (.two .nil (.two .nil (.two .nil (.two .nil (.two .nil (.two .nil (.two .nil (.two .nil (.two .nil (.two .nil (.two .nil (.two .nil (.two .nil (.two .nil (.two .nil (.two .nil (.two .nil (.two .nil (.two .nil (.two .nil (.two .nil (.two .nil (.two .nil (.two .nil (.two .nil (.two .nil (.two .nil (.two .nil (.two .nil (.two .nil (.two .nil (.two .nil (.two .nil (.two .nil (.two .nil (.two .nil (.two .nil (.two .nil (.two .nil (.two .nil (.two .nil .nil)))))))))))))))))))))))))))))))))))))))))))))))))))) (.two (.two .nil .nil) .nil)))) (.two .nil .nil)))
noncomputable def code90 : Code := match Tryz.f90.body with | some c => c | none => .skip
theorem calls90 (s1 : ByteArray) (K : Bool → World → Prop) (w : World) (h : N90 s1 K w) : Calls Tryz.prog 90 #[(.string s1)] w fun en w' => ∃ (p2 : Bool), en = .returned (.bool p2) ∧ K p2 w' :=
 fn_calls tabOk mixed Tryz.func90 (by kernel_rfl : Tryz.f90.body = some code90) ann90 [(.string s1)] [(.one .bool)] K w (by kernel_rfl) (by kernel_rfl) (by kernel_rfl) h
end Go.Proofs.YtnmldggopnbclaaGreatDoor

namespace Go.Proofs.YtnmldggopnbclaaGreatDoor
open Go Go.V Go.Proofs
open Go.RowKit (Below)
/-! manystrand/token.IsPlain -/
def N145 (s1 : ByteArray) (K : Bool → World → Prop) (w : World) : Prop :=
 BoolK (!(s1.toList == (⟨#[]⟩ : ByteArray).toList))
 (BoolK (decide (((s1.size : Nat) : Int) ≤ 60))
 (∃ (u2 : UInt8), (0 ≤ (0 : Int) ∧ s1[(0 : Int).toNat]? = some u2) ∧
 (Calls Tryz.prog 103 #[(.int .u8 u2.toNat)] w fun e5 w4 =>
 ∃ p3, e5 = .returned (.bool p3) ∧
 (BoolK p3
 (Calls Tryz.prog 122 #[(.string s1)] w4 fun e8 w7 =>
 ∃ p6, e8 = .returned (.bool p6) ∧
 (BoolK p6
 (Calls Tryz.prog 90 #[(.string s1)] w7 fun e11 w10 =>
 ∃ p9, e11 = .returned (.bool p9) ∧
 (K (!p9) w10))
 (K false w7)))
 (K false w4))))
 (K false w))
 (K false w)
def ann145 : Ann := (.two .nil (.two .nil .nil))
noncomputable def code145 : Code := match Tryz.f145.body with | some c => c | none => .skip
theorem calls145 (s1 : ByteArray) (K : Bool → World → Prop) (w : World) (h : N145 s1 K w) : Calls Tryz.prog 145 #[(.string s1)] w fun en w' => ∃ (p12 : Bool), en = .returned (.bool p12) ∧ K p12 w' :=
 fn_calls tabOk mixed Tryz.func145 (by kernel_rfl : Tryz.f145.body = some code145) ann145 [(.string s1)] [(.one .bool)] K w (by kernel_rfl) (by kernel_rfl) (by kernel_rfl) h
end Go.Proofs.YtnmldggopnbclaaGreatDoor

namespace Go.Proofs.YtnmldggopnbclaaGreatDoor
open Go Go.V Go.Proofs
open Go.RowKit (Below)
/-! manystrand/token.inQuotes -/
def N146 (s1 : ByteArray) (x2 : Int) (K : ByteArray → World → Prop) (w : World) : Prop :=
 AllocK w (#[(.int .u8 x2)]) 5 fun b3 w4 =>
 ∃ (I5 : Option Addr → Nat → Nat → Int → World → Prop) (μ6 : Option Addr → Nat → Nat → Int → World → Nat),
 (I5 (some b3) 1 1 0 w4 ∧ True) ∧
 ∀ w7 a8 l8 c8 x9, I5 a8 l8 c8 x9 w7 →
 BoolK (decide (x9 < (s1.size : Nat)))
 (∃ (u10 : UInt8), (0 ≤ x9 ∧ s1[x9.toNat]? = some u10) ∧
 (∃ (J11 : Bool → World → Prop),
 (∀ w12 p13, J11 p13 w12 →
 BoolK p13
 (AllocK w12 (#[(.int .u8 92), (.int .u8 u10.toNat)]) 5 fun b14 w15 =>
 ∃ a16, ∃ l16, ∃ c16, ∃ w17, Sem.run Tryz.prog (Builtin.append_ #[120, 120] 120 #[(.slice a8 l8 c8), (.slice (some b14) 2 2)]) w15 = .ok (.slice a16 l16 c16) w17 ∧
 (I5 a16 l16 c16 (IntKind.wrap .i64 (x9 + 1)) w17 ∧ μ6 a16 l16 c16 (IntKind.wrap .i64 (x9 + 1)) w17 < μ6 a8 l8 c8 x9 w7))
 (BoolK ((u10.toNat : Int) == 10)
 (AllocK w12 (#[(.int .u8 92), (.int .u8 110)]) 5 fun b18 w19 =>
 ∃ a20, ∃ l20, ∃ c20, ∃ w21, Sem.run Tryz.prog (Builtin.append_ #[120, 120] 120 #[(.slice a8 l8 c8), (.slice (some b18) 2 2)]) w19 = .ok (.slice a20 l20 c20) w21 ∧
 (I5 a20 l20 c20 (IntKind.wrap .i64 (x9 + 1)) w21 ∧ μ6 a20 l20 c20 (IntKind.wrap .i64 (x9 + 1)) w21 < μ6 a8 l8 c8 x9 w7))
 (AllocK w12 (#[(.int .u8 u10.toNat)]) 5 fun b22 w23 =>
 ∃ a24, ∃ l24, ∃ c24, ∃ w25, Sem.run Tryz.prog (Builtin.append_ #[120, 120] 120 #[(.slice a8 l8 c8), (.slice (some b22) 1 1)]) w23 = .ok (.slice a24 l24 c24) w25 ∧
 (I5 a24 l24 c24 (IntKind.wrap .i64 (x9 + 1)) w25 ∧ μ6 a24 l24 c24 (IntKind.wrap .i64 (x9 + 1)) w25 < μ6 a8 l8 c8 x9 w7)))) ∧
 (BoolK ((u10.toNat : Int) == x2)
 (J11 ((u10.toNat : Int) == x2) w7)
 (J11 ((u10.toNat : Int) == 92) w7))))
 (AllocK w7 (#[(.int .u8 x2)]) 5 fun b26 w27 =>
 ∃ a28, ∃ l28, ∃ c28, ∃ w29, Sem.run Tryz.prog (Builtin.append_ #[120, 120] 120 #[(.slice a8 l8 c8), (.slice (some b26) 1 1)]) w27 = .ok (.slice a28 l28 c28) w29 ∧
 (∃ s30, ∃ w31, Sem.run Tryz.prog (convert 120 9 (.slice a28 l28 c28)) w29 = .ok (.string s30) w31 ∧
 (K s30 w31)))
def ann146 : Ann := (.two .nil (.two .nil (.two (.two .nil (.one (.loop [(5, (.one .slice)), (12, (.one (.int .i64)))] [0, 1, 11] (.two .nil (.two (.two .nil .nil) (.two (.one (.two .nil (.two .nil (.two .nil (.one (.cut [(23, (.one .bool))] [0, 1, 5, 7, 11, 12, 18] (.two .nil (.two .nil .nil)) (.two .nil (.two .nil (.two .nil .nil))))))))) .nil)))))) (.two .nil .nil))))
noncomputable def code146 : Code := match Tryz.f146.body with | some c => c | none => .skip
theorem calls146 (s1 : ByteArray) (x2 : Int) (K : ByteArray → World → Prop) (w : World) (h : N146 s1 x2 K w) : Calls Tryz.prog 146 #[(.string s1), (.int .u8 x2)] w fun en w' => ∃ (s32 : ByteArray), en = .returned (.string s32) ∧ K s32 w' :=
 fn_calls tabOk mixed Tryz.func146 (by kernel_rfl : Tryz.f146.body = some code146) ann146 [(.string s1), (.int .u8 x2)] [(.one .str)] K w (by kernel_rfl) (by kernel_rfl) (by kernel_rfl) h
end Go.Proofs.YtnmldggopnbclaaGreatDoor

namespace Go.Proofs.YtnmldggopnbclaaGreatDoor
open Go Go.V Go.Proofs
open Go.RowKit (Below)
/-! manystrand/token.Text -/
def N121 (s1 : ByteArray) (s2 : ByteArray) (x3 : Int) (K : ByteArray → Int → World → Prop) (w : World) : Prop :=
 AllocK w (#[(.string s1), (.string s2), (.int .i64 x3)]) 90 fun b4 w5 =>
 ∃ s6, w5.cell? (b4.add 0) = some (.string s6) ∧
 (∃ s7, w5.cell? (b4.add 1) = some (.string s7) ∧
 (∃ x8, w5.cell? (b4.add 2) = some (.int .i64 x8) ∧
 (Calls Tryz.prog 60 #[(.agg #[(.string s6), (.string s7), (.int .i64 x8)])] w5 fun e11 w10 =>
 ∃ p9, e11 = .returned (.bool p9) ∧
 (BoolK (!p9)
 (K (⟨#[]⟩ : ByteArray) 10 w10)
 (∃ s12, w10.cell? b4 = some (.string s12) ∧
 (BoolK (s12.toList == (⟨#[97, 116, 111, 109]⟩ : ByteArray).toList)
 (∃ s13, w10.cell? (b4.add 1) = some (.string s13) ∧
 (Calls Tryz.prog 145 #[(.string s13)] w10 fun e16 w15 =>
 ∃ p14, e16 = .returned (.bool p14) ∧
 (BoolK p14
 (∃ s17, w15.cell? (b4.add 1) = some (.string s17) ∧
 (K s17 0 w15))
 (∃ s18, w15.cell? (b4.add 1) = some (.string s18) ∧
 (Calls Tryz.prog 146 #[(.string s18), (.int .u8 39)] w15 fun e21 w20 =>
 ∃ s19, e21 = .returned (.string s19) ∧
 (K s19 0 w20))))))
 (BoolK (s12.toList == (⟨#[116, 101, 120, 116]⟩ : ByteArray).toList)
 (∃ s22, w10.cell? (b4.add 1) = some (.string s22) ∧
 (Calls Tryz.prog 146 #[(.string s22), (.int .u8 34)] w10 fun e25 w24 =>
 ∃ s23, e25 = .returned (.string s23) ∧
 (K s23 0 w24)))
 (BoolK (s12.toList == (⟨#[99, 104, 97, 114]⟩ : ByteArray).toList)
 (∃ s26, w10.cell? (b4.add 1) = some (.string s26) ∧
 (BoolK (s26.toList == (⟨#[10]⟩ : ByteArray).toList)
 (K (⟨#[38, 92, 110]⟩ : ByteArray) 0 w10)
 (BoolK (s26.toList == (⟨#[32]⟩ : ByteArray).toList)
 (K (⟨#[38, 92, 115]⟩ : ByteArray) 0 w10)
 (BoolK (s26.toList == (⟨#[92]⟩ : ByteArray).toList)
 (K (⟨#[38, 92, 92]⟩ : ByteArray) 0 w10)
 (∃ s27, w10.cell? (b4.add 1) = some (.string s27) ∧
 ((((⟨#[38]⟩ : ByteArray).size + s27.size : Nat) : Int) ≤ IntKind.i64.max ∧
 (K ((⟨#[38]⟩ : ByteArray) ++ s27) 0 w10)))))))
 (∃ s28, w10.cell? (b4.add 1) = some (.string s28) ∧
 (K s28 0 w10))))))))))
def ann121 : Ann := (.two .nil (.two (.two .nil (.two (.two .nil .nil) .nil)) (.two (.two .nil (.one (.two .nil (.two (.two (.two .nil (.two (.two .nil .nil) .nil)) (.two .nil .nil)) (.two .nil (.two (.two .nil .nil) (.two .nil (.two (.two (.two .nil (.one (.two .nil (.two (.two .nil .nil) (.two .nil (.two (.two .nil .nil) (.two .nil (.two (.two .nil .nil) .nil)))))))) (.two .nil .nil)) .nil)))))))) (.two .nil .nil))))
noncomputable def code121 : Code := match Tryz.f121.body with | some c => c | none => .skip
theorem calls121 (s1 : ByteArray) (s2 : ByteArray) (x3 : Int) (K : ByteArray → Int → World → Prop) (w : World) (h : N121 s1 s2 x3 K w) : Calls Tryz.prog 121 #[(.agg #[(.string s1), (.string s2), (.int .i64 x3)])] w fun en w' => ∃ (s29 : ByteArray), ∃ (x30 : Int), en = .returned (.tuple #[(.string s29), (.int .i64 x30)]) ∧ K s29 x30 w' :=
 fn_calls tabOk mixed Tryz.func121 (by kernel_rfl : Tryz.f121.body = some code121) ann121 [(.agg #[(.string s1), (.string s2), (.int .i64 x3)])] [(.one .str), (.one (.int .i64))] K w (by kernel_rfl) (by kernel_rfl) (by kernel_rfl) h
end Go.Proofs.YtnmldggopnbclaaGreatDoor

namespace Go.Proofs.YtnmldggopnbclaaGreatDoor
open Go Go.V Go.Proofs
open Go.RowKit (Below)
/-! manystrand/token.Quote -/
def N82 (s1 : ByteArray) (K : ByteArray → Int → World → Prop) (w : World) : Prop :=
 Calls Tryz.prog 121 #[(.agg #[(.string (⟨#[97, 116, 111, 109]⟩ : ByteArray)), (.string s1), (.int .i64 0)])] w fun e5 w4 =>
 ∃ s2, ∃ x3, e5 = .returned (.tuple #[(.string s2), (.int .i64 x3)]) ∧
 (K s2 x3 w4)
def ann82 : Ann := (.two .nil (.two .nil .nil))
noncomputable def code82 : Code := match Tryz.f82.body with | some c => c | none => .skip
theorem calls82 (s1 : ByteArray) (K : ByteArray → Int → World → Prop) (w : World) (h : N82 s1 K w) : Calls Tryz.prog 82 #[(.string s1)] w fun en w' => ∃ (s6 : ByteArray), ∃ (x7 : Int), en = .returned (.tuple #[(.string s6), (.int .i64 x7)]) ∧ K s6 x7 w' :=
 fn_calls tabOk mixed Tryz.func82 (by kernel_rfl : Tryz.f82.body = some code82) ann82 [(.string s1)] [(.one .str), (.one (.int .i64))] K w (by kernel_rfl) (by kernel_rfl) (by kernel_rfl) h
end Go.Proofs.YtnmldggopnbclaaGreatDoor

namespace Go.Proofs.YtnmldggopnbclaaGreatDoor
open Go Go.V Go.Proofs
open Go.RowKit (Below)
/-! manystrand/tree.isAtom -/
def N92 (s1 : ByteArray) (K : Bool → World → Prop) (w : World) : Prop :=
 Calls Tryz.prog 82 #[(.string s1)] w fun e5 w4 =>
 ∃ s2, ∃ x3, e5 = .returned (.tuple #[(.string s2), (.int .i64 x3)]) ∧
 (K (x3 == 0) w4)
def ann92 : Ann := (.two .nil (.two .nil (.two .nil .nil)))
noncomputable def code92 : Code := match Tryz.f92.body with | some c => c | none => .skip
theorem calls92 (s1 : ByteArray) (K : Bool → World → Prop) (w : World) (h : N92 s1 K w) : Calls Tryz.prog 92 #[(.string s1)] w fun en w' => ∃ (p6 : Bool), en = .returned (.bool p6) ∧ K p6 w' :=
 fn_calls tabOk mixed Tryz.func92 (by kernel_rfl : Tryz.f92.body = some code92) ann92 [(.string s1)] [(.one .bool)] K w (by kernel_rfl) (by kernel_rfl) (by kernel_rfl) h
end Go.Proofs.YtnmldggopnbclaaGreatDoor

namespace Go.Proofs.YtnmldggopnbclaaGreatDoor
open Go Go.V Go.Proofs
open Go.RowKit (Below)
/-! manystrand/tree.IsFeat -/
def N61 (x1 : Int) (s2 : ByteArray) (K : Bool → World → Prop) (w : World) : Prop :=
 AllocK w (#[(.int .i64 x1), (.string s2)]) 41 fun b3 w4 =>
 ∃ x5, w4.cell? b3 = some (.int .i64 x5) ∧
 (BoolK (x5 != 0)
 (∃ x6, w4.cell? b3 = some (.int .i64 x6) ∧
 (BoolK (decide (x6 ≥ 1))
 (∃ x7, w4.cell? b3 = some (.int .i64 x7) ∧
 (BoolK (decide (x7 ≤ 1000))
 (∃ s8, w4.cell? (b3.add 1) = some (.string s8) ∧
 (K (s8.toList == (⟨#[]⟩ : ByteArray).toList) w4))
 (K false w4)))
 (K false w4)))
 (∃ s9, w4.cell? (b3.add 1) = some (.string s9) ∧
 (Calls Tryz.prog 92 #[(.string s9)] w4 fun e12 w11 =>
 ∃ p10, e12 = .returned (.bool p10) ∧
 (K p10 w11))))
def ann61 : Ann := (.two .nil (.two (.two .nil (.two (.two .nil .nil) .nil)) (.two .nil .nil)))
noncomputable def code61 : Code := match Tryz.f61.body with | some c => c | none => .skip
theorem calls61 (x1 : Int) (s2 : ByteArray) (K : Bool → World → Prop) (w : World) (h : N61 x1 s2 K w) : Calls Tryz.prog 61 #[(.agg #[(.int .i64 x1), (.string s2)])] w fun en w' => ∃ (p13 : Bool), en = .returned (.bool p13) ∧ K p13 w' :=
 fn_calls tabOk mixed Tryz.func61 (by kernel_rfl : Tryz.f61.body = some code61) ann61 [(.agg #[(.int .i64 x1), (.string s2)])] [(.one .bool)] K w (by kernel_rfl) (by kernel_rfl) (by kernel_rfl) h
end Go.Proofs.YtnmldggopnbclaaGreatDoor

namespace Go.Proofs.YtnmldggopnbclaaGreatDoor
open Go Go.V Go.Proofs
open Go.RowKit (Below)
/-! manystrand/tree.Less -/
def N62 (x1 : Int) (s2 : ByteArray) (x3 : Int) (s4 : ByteArray) (K : Bool → World → Prop) (w : World) : Prop :=
 AllocK w (#[(.int .i64 x1), (.string s2)]) 41 fun b5 w6 =>
 AllocK w6 (#[(.int .i64 x3), (.string s4)]) 41 fun b7 w8 =>
 ∃ (J9 : Bool → World → Prop),
 (∀ w10 p11, J9 p11 w10 →
 BoolK p11
 (∃ x12, w10.cell? b5 = some (.int .i64 x12) ∧
 (∃ x13, w10.cell? b7 = some (.int .i64 x13) ∧
 (K (decide (x12 < x13)) w10)))
 (∃ x14, w10.cell? b5 = some (.int .i64 x14) ∧
 (BoolK (decide (x14 > 0))
 (∃ x15, w10.cell? b5 = some (.int .i64 x15) ∧
 (K (decide (x15 > 0)) w10))
 (∃ x16, w10.cell? b7 = some (.int .i64 x16) ∧
 (BoolK (decide (x16 > 0))
 (∃ x17, w10.cell? b5 = some (.int .i64 x17) ∧
 (K (decide (x17 > 0)) w10))
 (∃ s18, w10.cell? (b5.add 1) = some (.string s18) ∧
 (∃ s19, w10.cell? (b7.add 1) = some (.string s19) ∧
 (K (Op.bytesLess s18.toList s19.toList) w10)))))))) ∧
 (∃ x20, w8.cell? b5 = some (.int .i64 x20) ∧
 (BoolK (decide (x20 > 0))
 (∃ x21, w8.cell? b7 = some (.int .i64 x21) ∧
 (J9 (decide (x21 > 0)) w8))
 (J9 false w8)))
def ann62 : Ann := (.two .nil (.two (.one (.cut [(5, (.one .bool))] [2, 3] .nil (.two (.two .nil .nil) (.two .nil (.two (.two .nil .nil) .nil))))) (.two .nil .nil)))
noncomputable def code62 : Code := match Tryz.f62.body with | some c => c | none => .skip
theorem calls62 (x1 : Int) (s2 : ByteArray) (x3 : Int) (s4 : ByteArray) (K : Bool → World → Prop) (w : World) (h : N62 x1 s2 x3 s4 K w) : Calls Tryz.prog 62 #[(.agg #[(.int .i64 x1), (.string s2)]), (.agg #[(.int .i64 x3), (.string s4)])] w fun en w' => ∃ (p22 : Bool), en = .returned (.bool p22) ∧ K p22 w' :=
 fn_calls tabOk mixed Tryz.func62 (by kernel_rfl : Tryz.f62.body = some code62) ann62 [(.agg #[(.int .i64 x1), (.string s2)]), (.agg #[(.int .i64 x3), (.string s4)])] [(.one .bool)] K w (by kernel_rfl) (by kernel_rfl) (by kernel_rfl) h
end Go.Proofs.YtnmldggopnbclaaGreatDoor

namespace Go.Proofs.YtnmldggopnbclaaGreatDoor
open Go Go.V Go.Proofs
open Go.RowKit (Below)
/-! manystrand/graph.isSort -/
def N52 (s1 : ByteArray) (K : Bool → World → Prop) (w : World) : Prop :=
 BoolK (s1.toList == (⟨#[110, 97, 109, 101]⟩ : ByteArray).toList)
 (BoolK (s1.toList == (⟨#[110, 97, 109, 101]⟩ : ByteArray).toList)
 (K true w)
 (K false w))
 (BoolK (s1.toList == (⟨#[112, 114, 111, 99]⟩ : ByteArray).toList)
 (BoolK (s1.toList == (⟨#[112, 114, 111, 99]⟩ : ByteArray).toList)
 (K true w)
 (K false w))
 (BoolK (s1.toList == (⟨#[99, 101, 108, 108]⟩ : ByteArray).toList)
 (BoolK (s1.toList == (⟨#[99, 101, 108, 108]⟩ : ByteArray).toList)
 (K true w)
 (K false w))
 (BoolK (s1.toList == (⟨#[112, 111, 114, 116]⟩ : ByteArray).toList)
 (BoolK (s1.toList == (⟨#[112, 111, 114, 116]⟩ : ByteArray).toList)
 (K true w)
 (K false w))
 (BoolK (s1.toList == (⟨#[108, 111, 99, 107]⟩ : ByteArray).toList)
 (BoolK (s1.toList == (⟨#[108, 111, 99, 107]⟩ : ByteArray).toList)
 (K true w)
 (K false w))
 (BoolK (s1.toList == (⟨#[100, 105, 99, 116]⟩ : ByteArray).toList)
 (BoolK (s1.toList == (⟨#[100, 105, 99, 116]⟩ : ByteArray).toList)
 (K true w)
 (K false w))
 (BoolK (s1.toList == (⟨#[97, 114, 114, 97, 121]⟩ : ByteArray).toList)
 (BoolK (s1.toList == (⟨#[97, 114, 114, 97, 121]⟩ : ByteArray).toList)
 (K true w)
 (K false w))
 (BoolK (s1.toList == (⟨#[99, 104, 117, 110, 107]⟩ : ByteArray).toList)
 (BoolK (s1.toList == (⟨#[99, 104, 117, 110, 107]⟩ : ByteArray).toList)
 (K true w)
 (K false w))
 (BoolK (s1.toList == (⟨#[115, 112, 97, 99, 101]⟩ : ByteArray).toList)
 (BoolK (s1.toList == (⟨#[115, 112, 97, 99, 101]⟩ : ByteArray).toList)
 (K true w)
 (K false w))
 (BoolK (s1.toList == (⟨#[100, 101, 97, 100]⟩ : ByteArray).toList)
 (K true w)
 (K false w))))))))))
def ann52 : Ann := (.two .nil (.two (.two .nil (.one (.two (.two .nil (.two .nil (.two .nil (.two .nil (.two .nil (.two .nil (.two .nil (.two .nil (.two .nil (.two .nil (.two .nil (.two .nil (.two .nil (.two .nil (.two .nil (.two .nil (.two .nil (.two .nil .nil)))))))))))))))))) (.two (.two .nil .nil) .nil)))) (.two .nil .nil)))
noncomputable def code52 : Code := match Tryz.f52.body with | some c => c | none => .skip
theorem calls52 (s1 : ByteArray) (K : Bool → World → Prop) (w : World) (h : N52 s1 K w) : Calls Tryz.prog 52 #[(.string s1)] w fun en w' => ∃ (p2 : Bool), en = .returned (.bool p2) ∧ K p2 w' :=
 fn_calls tabOk mixed Tryz.func52 (by kernel_rfl : Tryz.f52.body = some code52) ann52 [(.string s1)] [(.one .bool)] K w (by kernel_rfl) (by kernel_rfl) (by kernel_rfl) h
end Go.Proofs.YtnmldggopnbclaaGreatDoor

namespace Go.Proofs.YtnmldggopnbclaaGreatDoor
open Go Go.V Go.Proofs Go.V.Gr
open Go.RowKit (Below)
def kAtom : ByteArray := ⟨#[97, 116, 111, 109]⟩
theorem kAtom_eq : (kAtom.toList == (⟨#[97, 116, 111, 109]⟩ : ByteArray).toList) = true := tl_iff.2 rfl
def prn (c : UInt8) : Bool := c.toNat == 10 || decide (32 ≤ c.toNat ∧ c.toNat ≤ 126)
def prnD (s : ByteArray) (most : Int) : Bool := (bl s).all prn && decide ((s.size : Int) ≤ most)
def atomD (s : ByteArray) : Bool := prnD s 60
def sz48 (s : ByteArray) : Prop := s.size ≤ 1000000000000
theorem ctr87 (w : World) (s : ByteArray) (most : Int) (hs : s.size ≤ maxLen) : Calls Tryz.prog 87 #[.string s, .int .i64 most] w fun en w' => ∃ p, en = .returned (.bool p) ∧ (p = prnD s most ∧ w' = w) := by
 refine calls87 _ _ _ w ?_
 simp only [maxLen] at hs
 have hbs := bl_size s
 refine ⟨fun i w' => ∃ k : Nat, i = k ∧ k ≤ s.size ∧ ((bl s).take k).all prn = true ∧ w' = w, fun i _ => s.size - i.toNat, ⟨⟨0, rfl, by omega, rfl, rfl⟩, trivial⟩, ?_⟩
 rintro w5 x ⟨k, rfl, hk, hall, rfl⟩
 refine BoolK.mk (fun t => ?_) (fun t => ?_)
 ·have hlt : k < s.size := by have := of_decide_eq_true t; omega
  have hlt2 : k < (bl s).length := by rw [hbs]; exact hlt
  have hg : s[((k : Nat) : Int).toNat]? = some (bl s)[k] := by rw [Int.toNat_natCast, bl_get, List.getElem?_eq_getElem hlt2]
  have step : ((bl s).take (k + 1)).all prn = prn (bl s)[k] := by
   rw [List.take_add_one, List.getElem?_eq_getElem hlt2, List.all_append, hall]; simp
  have no : prn (bl s)[k] = false → prnD s most = false := by
   intro h
   have : (bl s).all prn = false := by
    rw [Bool.eq_false_iff]; intro h2
    rw [List.all_eq_true] at h2
    have := h2 _ (List.getElem_mem hlt2); rw [h] at this; cases this
   rw [prnD, this]; rfl
  have go : prn (bl s)[k] = true → (∃ k' : Nat, IntKind.wrap .i64 ((k : Int) + 1) = (k' : Int) ∧ k' ≤ s.size ∧ ((bl s).take k').all prn = true ∧ w5 = w5) ∧ s.size - (IntKind.wrap .i64 ((k : Int) + 1)).toNat < s.size - ((k : Nat) : Int).toNat := by
   intro h
   rw [wrap_succ (by omega)]
   exact ⟨⟨k + 1, rfl, by omega, by rw [step]; exact h, rfl⟩, by simp; omega⟩
  refine ⟨(bl s)[k], ⟨by omega, hg⟩, BoolK.mk (fun t1 => ?_) (fun t1 => ?_)⟩
  ·have h10 : (bl s)[k].toNat ≠ 10 := by intro e; rw [e] at t1; simp at t1
   refine ⟨(bl s)[k], ⟨by omega, hg⟩, BoolK.mk (fun t2 => ?_) (fun t2 => ?_)⟩
   ·have := of_decide_eq_true t2
    exact ⟨(no (by simp [prn, h10]; omega)).symm, rfl⟩
   ·have := of_decide_eq_false t2
    refine ⟨(bl s)[k], ⟨by omega, hg⟩, BoolK.mk (fun t3 => ?_) (fun t3 => ?_)⟩
    ·have := of_decide_eq_true t3
     exact ⟨(no (by simp [prn, h10]; omega)).symm, rfl⟩
    ·have := of_decide_eq_false t3
     exact go (by simp [prn]; omega)
  ·have h10 : (bl s)[k].toNat = 10 := by
    simp only [bne_eq_false_iff_eq] at t1; omega
   exact go (by simp [prn, h10])
 ·have : k = s.size := by have := of_decide_eq_false t; omega
  subst this
  rw [← hbs, List.take_length] at hall
  exact ⟨by rw [prnD, hall]; rfl, rfl⟩
theorem ctr60 (w : World) (s : ByteArray) (at_ : Int) (hs : s.size ≤ maxLen) : Calls Tryz.prog 60 #[.agg #[.string kAtom, .string s, .int .i64 at_]] w fun en w' => ∃ p, en = .returned (.bool p) ∧ (p = atomD s ∧ Ext w w') := by
 refine calls60 _ _ _ _ w ?_
 refine AllocK.mk fun b w5 hb hB hx => ?_
 refine ⟨s, by rw [add_mk, hB.cell]; rfl, kAtom, by rw [hB.cell]; rfl, BoolK.mk (fun t => by rw [tl_iff] at t; simp [kAtom] at t) (fun _ => ?_)⟩
 refine ⟨fun p w' => p = true ∧ w' = w5, ?_, BoolK.mk (fun t => ⟨t, rfl⟩) (fun t => by rw [kAtom_eq] at t; cases t)⟩
 rintro w12 _ ⟨rfl, rfl⟩
 refine BoolK.mk (fun _ => ?_) (fun t => by cases t)
 refine ⟨fun x w' => x = 60 ∧ w' = w12, ?_, ⟨kAtom, by rw [hB.cell]; rfl, BoolK.mk (fun t => by rw [tl_iff] at t; simp [kAtom] at t) (fun _ => ⟨rfl, rfl⟩)⟩⟩
 rintro w15 _ ⟨rfl, rfl⟩
 refine (ctr87 w15 s 60 hs).mono ?_
 rintro en w18 ⟨p, rfl, rfl, rfl⟩
 exact ⟨_, rfl, rfl, hx⟩
section
variable (w : World) (x : Int)
theorem ctr102 : Calls Tryz.prog 102 #[.int .u8 x] w fun en w' => ∃ p, en = .returned (.bool p) ∧ w' = w := by
 refine calls102 _ (fun _ w' => w' = w) w ?_
 exact BoolK.mk (fun _ => rfl) (fun _ => rfl)
theorem ctr103 : Calls Tryz.prog 103 #[.int .u8 x] w fun en w' => ∃ p, en = .returned (.bool p) ∧ w' = w := by
 refine calls103 _ (fun _ w' => w' = w) w ?_
 exact BoolK.mk (fun _ => rfl) (fun _ => rfl)
theorem ctr88 : Calls Tryz.prog 88 #[.int .u8 x] w fun en w' => ∃ p, en = .returned (.bool p) ∧ w' = w := by
 refine calls88 _ (fun _ w' => w' = w) w ?_
 exact BoolK.mk (fun _ => rfl) (fun _ => rfl)
theorem ctr104 : Calls Tryz.prog 104 #[.int .u8 x] w fun en w' => ∃ p, en = .returned (.bool p) ∧ w' = w := by
 refine calls104 _ (fun _ w' => w' = w) w ?_
 refine (ctr102 w x).mono ?_
 rintro en w3 ⟨p, rfl, rfl⟩
 refine ⟨_, rfl, BoolK.mk (fun _ => rfl) (fun _ => ?_)⟩
 refine (ctr103 w3 x).mono ?_
 rintro en w6 ⟨p, rfl, rfl⟩
 refine ⟨_, rfl, BoolK.mk (fun _ => rfl) (fun _ => ?_)⟩
 refine (ctr88 w6 x).mono ?_
 rintro en w9 ⟨p, rfl, rfl⟩
 exact ⟨_, rfl, BoolK.mk (fun _ => rfl) (fun _ => rfl)⟩
end
theorem ctr122 (w : World) (s : ByteArray) (hs : s.size ≤ maxLen) : Calls Tryz.prog 122 #[.string s] w fun en w' => ∃ p, en = .returned (.bool p) ∧ w' = w := by
 refine calls122 _ (fun _ w' => w' = w) w ?_
 simp only [maxLen] at hs
 refine ⟨fun i w' => ∃ k : Nat, i = k ∧ k ≤ s.size ∧ w' = w, fun i _ => s.size - i.toNat, ⟨⟨0, rfl, by omega, rfl⟩, trivial⟩, ?_⟩
 rintro w4 x ⟨k, rfl, hk, rfl⟩
 refine BoolK.mk (fun t => ?_) (fun _ => rfl)
 have hlt : k < s.size := by have := of_decide_eq_true t; omega
 refine ⟨_, ⟨by omega, by rw [Int.toNat_natCast, getElem?_pos s k hlt]⟩, (ctr104 w4 _).mono ?_⟩
 rintro en w8 ⟨p, rfl, rfl⟩
 refine ⟨_, rfl, BoolK.mk (fun _ => rfl) (fun _ => ?_)⟩
 rw [wrap_succ (by omega)]
 exact ⟨⟨k + 1, rfl, by omega, rfl⟩, by simp; omega⟩
theorem ctr90 (w : World) (s : ByteArray) : Calls Tryz.prog 90 #[.string s] w fun en w' => ∃ p, en = .returned (.bool p) ∧ w' = w := by
 refine calls90 _ (fun _ w' => w' = w) w ?_
 unfold N90
 repeat' (first | rfl | refine BoolK.mk (fun _ => ?_) (fun _ => ?_))
theorem ctr145 (w : World) (s : ByteArray) (hs : s.size ≤ maxLen) : Calls Tryz.prog 145 #[.string s] w fun en w' => ∃ p, en = .returned (.bool p) ∧ w' = w := by
 refine calls145 _ (fun _ w' => w' = w) w ?_
 refine BoolK.mk (fun t => BoolK.mk (fun _ => ?_) (fun _ => rfl)) (fun _ => rfl)
 have hlt : 0 < s.size := by
  rcases Nat.eq_zero_or_pos s.size with h | h
  ·have : s = ⟨#[]⟩ := by apply bl_inj; exact List.length_eq_zero_iff.1 (by rw [bl_size]; exact h)
   subst this; rw [tl_iff.2 rfl] at t; cases t
  ·exact h
 refine ⟨_, ⟨by omega, by show s[0]? = _; rw [getElem?_pos s 0 hlt]⟩, (ctr103 w _).mono ?_⟩
 rintro en w4 ⟨p, rfl, rfl⟩
 refine ⟨_, rfl, BoolK.mk (fun _ => ?_) (fun _ => rfl)⟩
 refine (ctr122 w4 s hs).mono ?_
 rintro en w7 ⟨p, rfl, rfl⟩
 refine ⟨_, rfl, BoolK.mk (fun _ => ?_) (fun _ => rfl)⟩
 refine (ctr90 w7 s).mono ?_
 rintro en w10 ⟨p, rfl, rfl⟩
 exact ⟨_, rfl, rfl⟩
theorem sltY : SlT Tryz.prog 120 5 1 1 := slOk.ok (by kernel_rfl : slOk Tryz.prog 120 5 1 1 = true)
def inQ1 (q c : UInt8) : List UInt8 := if c = q ∨ c = 92 then [92, c] else if c = 10 then [92, 110] else [c]
def inQ (q : UInt8) (s : List UInt8) : List UInt8 := q :: (s.flatMap (inQ1 q) ++ [q])
theorem inQ1_len (q c : UInt8) : (inQ1 q c).length ≤ 2 := by
 unfold inQ1; split
 ·simp
 ·split <;> simp
theorem ctr146 (w : World) (s : ByteArray) (q : UInt8) (hs : sz48 s) : Calls Tryz.prog 146 #[.string s, .int .u8 q.toNat] w fun en w' => ∃ t, en = .returned (.string t) ∧ (bl t = inQ q (bl s) ∧ Ext w w') := by
 refine calls146 _ _ _ w ?_
 simp only [sz48] at hs
 have hbs := bl_size s
 refine AllocK.mk fun b w4 hb hB hx => ?_
 have h0 : OwnR w.heap.size 5 1 eY w4 (some ⟨b, 0, none⟩) 1 1 [q] := ⟨rfl, by simp [eY], .inr ⟨b, 1, _, rfl, by omega, hB, Nat.le_refl _, by simp [maxLen], by simp, by simp [eY]⟩⟩
 refine ⟨fun a l c i w' => ∃ k : Nat, i = k ∧ k ≤ s.size ∧ Ext w w' ∧ OwnR w.heap.size 5 1 eY w' a l c (q :: ((bl s).take k).flatMap (inQ1 q)) ∧ ((q :: ((bl s).take k).flatMap (inQ1 q)).length ≤ 2 * k + 1), fun _ _ _ i _ => s.size - i.toNat, ⟨⟨0, rfl, by omega, hx, h0, by simp⟩, trivial⟩, ?_⟩
 rintro w7 a l c x ⟨k, rfl, hk, hx7, hO, hlen⟩
 refine BoolK.mk (fun t => ?_) (fun t => ?_)
 ·have hlt : k < s.size := by have := of_decide_eq_true t; omega
  have hlt2 : k < (bl s).length := by rw [hbs]; exact hlt
  have hg : s[((k : Nat) : Int).toNat]? = some (bl s)[k] := by rw [Int.toNat_natCast, bl_get, List.getElem?_eq_getElem hlt2]
  generalize hu : (bl s)[k] = u at hg
  have step : ((bl s).take (k + 1)).flatMap (inQ1 q) = ((bl s).take k).flatMap (inQ1 q) ++ inQ1 q u := by
   rw [List.take_add_one, List.getElem?_eq_getElem hlt2, hu, List.flatMap_append]; simp
  have go : ∀ (ys : List UInt8) (cs : Array Value) (n : Nat), ys = inQ1 q u → cs = (ys.flatMap eY).toArray → n = ys.length →
    AllocK w7 cs 5 fun b w1 => ∃ a' l' c' w2, Sem.run Tryz.prog (Builtin.append_ #[120, 120] 120 #[.slice a l c, .slice (some b) n n]) w1 = .ok (.slice a' l' c') w2 ∧
     ((∃ k' : Nat, IntKind.wrap .i64 ((k : Int) + 1) = (k' : Int) ∧ k' ≤ s.size ∧ Ext w w2 ∧ OwnR w.heap.size 5 1 eY w2 a' l' c' (q :: ((bl s).take k').flatMap (inQ1 q)) ∧ ((q :: ((bl s).take k').flatMap (inQ1 q)).length ≤ 2 * k' + 1)) ∧ s.size - (IntKind.wrap .i64 ((k : Int) + 1)).toNat < s.size - ((k : Nat) : Int).toNat) := by
   intro ys cs n hys hcs hn
   have hyl : ys.length ≤ 2 := by rw [hys]; exact inQ1_len q u
   refine OwnR.pushN ys sltY hO hx7.size eY_len eY_one (by omega) hcs hn fun a' c' w' h1 h2 _ => ?_
   rw [wrap_succ (by omega)]
   refine ⟨⟨k + 1, rfl, by omega, Below.trans hx7 (hO.below hx7.size h2), ?_, ?_⟩, by simp; omega⟩
   ·rw [step, ← hys]
    have e : (q :: ((bl s).take k).flatMap (inQ1 q)) ++ ys = q :: (((bl s).take k).flatMap (inQ1 q) ++ ys) := rfl
    rw [← e]
    have : (q :: ((bl s).take k).flatMap (inQ1 q)).length + ys.length = ((q :: ((bl s).take k).flatMap (inQ1 q)) ++ ys).length := by rw [List.length_append]
    exact h1
   ·rw [step, ← hys]
    simp only [List.length_cons, List.length_append] at hlen ⊢; omega
  refine ⟨u, ⟨by omega, hg⟩, fun p w' => w' = w7 ∧ p = decide (u = q ∨ u = 92), ?_, ?_⟩
  ·rintro w12 _ ⟨rfl, rfl⟩
   refine BoolK.mk (fun t1 => ?_) (fun t1 => ?_)
   ·have t1 := of_decide_eq_true t1
    exact go [92, u] _ 2 (by rw [inQ1, if_pos t1]) (by rfl) rfl
   ·have t1 := of_decide_eq_false t1
    refine BoolK.mk (fun t2 => ?_) (fun t2 => ?_)
    ·have : u = 10 := by
      apply UInt8.toNat_inj.1
      have := eq_of_beq t2
      show u.toNat = 10; omega
     exact go [92, 110] _ 2 (by rw [inQ1, if_neg t1, if_pos this]) (by rfl) rfl
    ·have : u ≠ 10 := by rintro rfl; simp at t2
     exact go [u] _ 1 (by rw [inQ1, if_neg t1, if_neg this]) rfl rfl
  ·have e1 : ((u.toNat : Int) == (q.toNat : Int)) = decide (u = q) := by
    rw [Bool.eq_iff_iff, beq_iff_eq, decide_eq_true_eq, ← UInt8.toNat_inj]; omega
   have e2 : ((u.toNat : Int) == 92) = decide (u = 92) := by
    rw [Bool.eq_iff_iff, beq_iff_eq, decide_eq_true_eq, ← UInt8.toNat_inj]
    show (u.toNat : Int) = 92 ↔ u.toNat = 92
    omega
   refine BoolK.mk (fun t1 => ⟨rfl, ?_⟩) (fun t1 => ⟨rfl, ?_⟩)
   ·rw [t1]; rw [e1] at t1; have := of_decide_eq_true t1; simp [this]
   ·rw [e2]; rw [e1] at t1; have := of_decide_eq_false t1; simp [this]
 ·have : k = s.size := by have := of_decide_eq_false t; omega
  subst this
  rw [← hbs, List.take_length] at hO hlen
  refine OwnR.pushN [q] sltY hO hx7.size eY_len eY_one (by simp only [List.length_singleton]; omega) rfl rfl fun a' c' w' h1 h2 _ => ?_
  refine ⟨_, _, OwnR.str Tryz.underlying120 Tryz.underlying5 Tryz.underlying9 h1 (by simp), ?_, Below.trans hx7 (hO.below hx7.size h2)⟩
  simp [bl, inQ]
theorem ctr121 (w : World) (s : ByteArray) (at_ : Int) (hs : s.size ≤ maxLen) : Calls Tryz.prog 121 #[.agg #[.string kAtom, .string s, .int .i64 at_]] w fun en w' => ∃ t e, en = .returned (.tuple #[.string t, .int .i64 e]) ∧ ((e = 0 ↔ atomD s = true) ∧ Ext w w') := by
 refine calls121 _ _ _ _ w ?_
 refine AllocK.mk fun b w5 hb hB hx => ?_
 refine ⟨_, by rw [add_mk, hB.cell]; rfl, _, by rw [add_mk, hB.cell]; rfl, _, by rw [add_mk, hB.cell]; rfl, ?_⟩
 refine (ctr60 w5 s at_ hs).mono ?_
 rintro en w10 ⟨p, rfl, rfl, hx10⟩
 refine ⟨_, rfl, BoolK.mk (fun t => ⟨?_, hx.trans hx10⟩) (fun t => ?_)⟩
 ·rw [Bool.not_eq_true'] at t; rw [t]; simp
 rw [Bool.not_eq_false'] at t
 have hB := hB.ext hx10
 have hs2 : sz48 s := by
  simp only [atomD, prnD, Bool.and_eq_true, decide_eq_true_eq] at t
  simp only [sz48]; omega
 refine ⟨kAtom, by rw [hB.cell]; rfl, BoolK.mk (fun _ => ?_) (fun t => by rw [kAtom_eq] at t; cases t)⟩
 refine ⟨s, by rw [add_mk, hB.cell]; rfl, (ctr145 w10 s hs).mono ?_⟩
 rintro en w15 ⟨p, rfl, rfl⟩
 refine ⟨_, rfl, BoolK.mk (fun _ => ⟨s, by rw [add_mk, hB.cell]; rfl, by simp [t], hx.trans hx10⟩) (fun _ => ?_)⟩
 refine ⟨s, by rw [add_mk, hB.cell]; rfl, (ctr146 w15 s 39 hs2).mono ?_⟩
 rintro en w20 ⟨q, rfl, _, hx20⟩
 exact ⟨_, rfl, by simp [t], (hx.trans hx10).trans hx20⟩
theorem ctr82 (w : World) (s : ByteArray) (hs : s.size ≤ maxLen) : Calls Tryz.prog 82 #[.string s] w fun en w' => ∃ t e, en = .returned (.tuple #[.string t, .int .i64 e]) ∧ ((e = 0 ↔ atomD s = true) ∧ Ext w w') := by
 refine calls82 _ _ w ?_
 refine (ctr121 w s 0 hs).mono ?_
 rintro en w4 ⟨t, e, rfl, h⟩
 exact ⟨_, _, rfl, h⟩
theorem ctr92 (w : World) (s : ByteArray) (hs : s.size ≤ maxLen) : Calls Tryz.prog 92 #[.string s] w fun en w' => ∃ p, en = .returned (.bool p) ∧ (p = atomD s ∧ Ext w w') := by
 refine calls92 _ _ w ?_
 refine (ctr82 w s hs).mono ?_
 rintro en w4 ⟨t, e, rfl, h, hx⟩
 refine ⟨_, _, rfl, ?_, hx⟩
 rw [Bool.eq_iff_iff, ← h]; simp
def featD (f : Ft) : Bool := if f.1 ≠ 0 then decide (1 ≤ f.1 ∧ f.1 ≤ 1000 ∧ f.2 = ⟨#[]⟩) else atomD f.2
def lessD (f g : Ft) : Bool := if 0 < f.1 ∧ 0 < g.1 then decide (f.1 < g.1) else if 0 < f.1 ∨ 0 < g.1 then decide (0 < f.1) else Op.bytesLess f.2.toList g.2.toList
theorem ctr61 (w : World) (f : Ft) (hs : f.2.size ≤ maxLen) : Calls Tryz.prog 61 #[.agg #[.int .i64 f.1, .string f.2]] w fun en w' => ∃ p, en = .returned (.bool p) ∧ (p = featD f ∧ Ext w w') := by
 refine calls61 _ _ _ w ?_
 refine AllocK.mk fun b w4 hb hB hx => ?_
 have g0 : w4.cell? (⟨b, 0, none⟩ : Addr) = some (.int .i64 f.1) := by rw [hB.cell]; rfl
 have g1 : w4.cell? ((⟨b, 0, none⟩ : Addr).add 1) = some (.string f.2) := by rw [add_mk, hB.cell]; rfl
 refine ⟨_, g0, BoolK.mk (fun t => ?_) (fun t => ?_)⟩
 ·have t : f.1 ≠ 0 := by simpa using t
  refine ⟨_, g0, BoolK.mk (fun t1 => ?_) (fun t1 => ?_)⟩
  ·have t1 := of_decide_eq_true t1
   refine ⟨_, g0, BoolK.mk (fun t2 => ⟨_, g1, ?_, hx⟩) (fun t2 => ⟨?_, hx⟩)⟩
   ·have t2 := of_decide_eq_true t2
    rw [featD, if_pos t, Bool.eq_iff_iff, tl_iff, decide_eq_true_eq]
    constructor
    ·intro h; exact ⟨by omega, t2, h⟩
    ·intro h; exact h.2.2
   ·have t2 := of_decide_eq_false t2
    rw [featD, if_pos t]; symm; rw [decide_eq_false_iff_not]; omega
  ·have t1 := of_decide_eq_false t1
   refine ⟨?_, hx⟩
   rw [featD, if_pos t]; symm; rw [decide_eq_false_iff_not]; omega
 ·have t : f.1 = 0 := by simpa using t
  refine ⟨_, g1, (ctr92 w4 f.2 hs).mono ?_⟩
  rintro en w11 ⟨p, rfl, rfl, hx11⟩
  exact ⟨_, rfl, by rw [featD, if_neg (by omega)], hx.trans hx11⟩
theorem ctr62 (w : World) (f g : Ft) : Calls Tryz.prog 62 #[.agg #[.int .i64 f.1, .string f.2], .agg #[.int .i64 g.1, .string g.2]] w fun en w' => ∃ p, en = .returned (.bool p) ∧ (p = lessD f g ∧ Ext w w') := by
 refine calls62 _ _ _ _ _ w ?_
 refine AllocK.mk fun b w4 hb hB hx => AllocK.mk fun b' w8 hb' hB' hx' => ?_
 have hB := hB.ext hx'
 have x8 := hx.trans hx'
 have g0 : w8.cell? (⟨b, 0, none⟩ : Addr) = some (.int .i64 f.1) := by rw [hB.cell]; rfl
 have g1 : w8.cell? ((⟨b, 0, none⟩ : Addr).add 1) = some (.string f.2) := by rw [add_mk, hB.cell]; rfl
 have k0 : w8.cell? (⟨b', 0, none⟩ : Addr) = some (.int .i64 g.1) := by rw [hB'.cell]; rfl
 have k1 : w8.cell? ((⟨b', 0, none⟩ : Addr).add 1) = some (.string g.2) := by rw [add_mk, hB'.cell]; rfl
 refine ⟨fun p w' => p = decide (0 < f.1 ∧ 0 < g.1) ∧ w' = w8, ?_, ?_⟩
 ·rintro w10 _ ⟨rfl, rfl⟩
  refine BoolK.mk (fun t => ⟨_, g0, _, k0, ?_, x8⟩) (fun t => ⟨_, g0, BoolK.mk (fun t1 => ⟨_, g0, ?_, x8⟩) (fun t1 => ⟨_, k0, BoolK.mk (fun t2 => ⟨_, g0, ?_, x8⟩) (fun t2 => ⟨_, g1, _, k1, ?_, x8⟩)⟩)⟩)
  ·have t := of_decide_eq_true t
   rw [lessD, if_pos t]
  all_goals have t := of_decide_eq_false t
  ·have t1 := of_decide_eq_true t1
   rw [lessD, if_neg t, if_pos (.inl (by omega))]
  all_goals have t1 := of_decide_eq_false t1
  ·have t2 := of_decide_eq_true t2
   rw [lessD, if_neg t, if_pos (.inr (by omega))]
  ·have t2 := of_decide_eq_false t2
   rw [lessD, if_neg t, if_neg (by omega)]
 ·refine ⟨_, g0, BoolK.mk (fun t => ⟨_, k0, ?_, rfl⟩) (fun t => ⟨?_, rfl⟩)⟩
  ·have t := of_decide_eq_true t
   rw [decide_eq_decide]; omega
  ·have t := of_decide_eq_false t
   symm; rw [decide_eq_false_iff_not]; omega
def sorts : List ByteArray := [⟨#[110, 97, 109, 101]⟩, ⟨#[112, 114, 111, 99]⟩, ⟨#[99, 101, 108, 108]⟩, ⟨#[112, 111, 114, 116]⟩, ⟨#[108, 111, 99, 107]⟩, ⟨#[100, 105, 99, 116]⟩, ⟨#[97, 114, 114, 97, 121]⟩, ⟨#[99, 104, 117, 110, 107]⟩, ⟨#[115, 112, 97, 99, 101]⟩, ⟨#[100, 101, 97, 100]⟩]
def sortD (s : ByteArray) : Bool := sorts.any fun t => decide (s = t)
theorem sortD_iff {s : ByteArray} : sortD s = true ↔ s ∈ sorts := by
 rw [sortD, List.any_eq_true]
 exact ⟨fun ⟨t, h, e⟩ => by rw [of_decide_eq_true e]; exact h, fun h => ⟨s, h, by simp⟩⟩
theorem ctr52 (w : World) (s : ByteArray) : Calls Tryz.prog 52 #[.string s] w fun en w' => ∃ p, en = .returned (.bool p) ∧ (p = sortD s ∧ w' = w) := by
 refine calls52 _ _ w ?_
 have yes : ∀ {t : ByteArray}, t ∈ sorts → (s.toList == t.toList) = true → true = sortD s := fun ht e => by
  rw [tl_iff] at e; subst e; symm; exact sortD_iff.2 ht
 have key : ∀ {t : ByteArray} {A B : Prop}, t ∈ sorts → (A ↔ (true = sortD s ∧ w = w)) → ((s.toList == t.toList) = false → B) → BoolK (s.toList == t.toList) (BoolK (s.toList == t.toList) A (false = sortD s ∧ w = w)) B := fun ht hA hB =>
  BoolK.mk (fun e => BoolK.mk (fun e => hA.2 ⟨yes ht e, rfl⟩) (fun e2 => by rw [e] at e2; cases e2)) hB
 refine key (by simp [sorts]) Iff.rfl fun n1 => key (by simp [sorts]) Iff.rfl fun n2 => key (by simp [sorts]) Iff.rfl fun n3 => key (by simp [sorts]) Iff.rfl fun n4 => key (by simp [sorts]) Iff.rfl fun n5 => key (by simp [sorts]) Iff.rfl fun n6 => key (by simp [sorts]) Iff.rfl fun n7 => key (by simp [sorts]) Iff.rfl fun n8 => key (by simp [sorts]) Iff.rfl fun n9 => ?_
 refine BoolK.mk (fun e => ⟨yes (by simp [sorts]) e, rfl⟩) (fun n10 => ⟨?_, rfl⟩)
 rw [← Bool.not_eq_true, tl_iff] at n1 n2 n3 n4 n5 n6 n7 n8 n9 n10
 symm; rw [← Bool.not_eq_true, sortD_iff]
 simp [sorts, n1, n2, n3, n4, n5, n6, n7, n8, n9, n10]
end Go.Proofs.YtnmldggopnbclaaGreatDoor

namespace Go.Proofs.YtnmldggopnbclaaGreatDoor
open Go Go.V Go.Proofs
open Go.RowKit (Below)
/-! manystrand/graph.fine -/
def N34 (s1 : ByteArray) (x2 : Int) (s3 : ByteArray) (a4 : Option Addr) (l4 : Nat) (c4 : Nat) (a5 : Option Addr) (l5 : Nat) (c5 : Nat) (x6 : Int) (K : Bool → World → Prop) (w : World) : Prop :=
 AllocK w (#[(.string s1), (.int .i64 x2), (.string s3), (.slice a4 l4 c4), (.slice a5 l5 c5)]) 39 fun b7 w8 =>
 ∃ (J9 : Bool → World → Prop),
 (∀ w10 p11, J9 p11 w10 →
 ∃ s12, w10.cell? b7 = some (.string s12) ∧
 (BoolK (s12.toList == (⟨#[105, 110, 116]⟩ : ByteArray).toList)
 (∃ s13, w10.cell? (b7.add 2) = some (.string s13) ∧
 (BoolK (s13.toList == (⟨#[]⟩ : ByteArray).toList)
 (BoolK p11
 (∃ x14, w10.cell? (b7.add 1) = some (.int .i64 x14) ∧
 (BoolK (decide (x14 ≤ 999999999999999999))
 (∃ x15, w10.cell? (b7.add 1) = some (.int .i64 x15) ∧
 (K (decide (x15 ≥ -999999999999999999)) w10))
 (K false w10)))
 (K false w10))
 (K false w10)))
 (BoolK (s12.toList == (⟨#[118, 97, 114]⟩ : ByteArray).toList)
 (∃ s16, w10.cell? (b7.add 2) = some (.string s16) ∧
 (BoolK (s16.toList == (⟨#[]⟩ : ByteArray).toList)
 (BoolK p11
 (∃ x17, w10.cell? (b7.add 1) = some (.int .i64 x17) ∧
 (BoolK (decide (x17 ≥ 1))
 (∃ x18, w10.cell? (b7.add 1) = some (.int .i64 x18) ∧
 (K (decide (x18 ≤ 999999999999999999)) w10))
 (K false w10)))
 (K false w10))
 (K false w10)))
 (BoolK (s12.toList == (⟨#[114, 101, 102]⟩ : ByteArray).toList)
 (∃ s19, w10.cell? (b7.add 2) = some (.string s19) ∧
 (Calls Tryz.prog 52 #[(.string s19)] w10 fun e22 w21 =>
 ∃ p20, e22 = .returned (.bool p20) ∧
 (BoolK p20
 (BoolK p11
 (∃ x23, w21.cell? (b7.add 1) = some (.int .i64 x23) ∧
 (BoolK (decide (x23 ≥ 1))
 (∃ x24, w21.cell? (b7.add 1) = some (.int .i64 x24) ∧
 (K (decide (x24 ≤ 999999999999999999)) w21))
 (K false w21)))
 (K false w21))
 (K false w21))))
 (BoolK (s12.toList == (⟨#[114, 101, 99]⟩ : ByteArray).toList)
 (∃ x25, w10.cell? (b7.add 1) = some (.int .i64 x25) ∧
 (BoolK (x25 != 0)
 (K false w10)
 (∃ s26, w10.cell? (b7.add 2) = some (.string s26) ∧
 (Calls Tryz.prog 60 #[(.agg #[(.string (⟨#[97, 116, 111, 109]⟩ : ByteArray)), (.string s26), (.int .i64 0)])] w10 fun e29 w28 =>
 ∃ p27, e29 = .returned (.bool p27) ∧
 (BoolK (!p27)
 (K false w28)
 (∃ a30 l30 c30, w28.cell? (b7.add 4) = some (.slice a30 l30 c30) ∧
 (∃ a31 l31 c31, w28.cell? (b7.add 3) = some (.slice a31 l31 c31) ∧
 (BoolK ((l30 : Int) != l31)
 (K false w28)
 (∃ a32 l32 c32, w28.cell? (b7.add 3) = some (.slice a32 l32 c32) ∧
 (∃ (I33 : Int → World → Prop) (μ34 : Int → World → Nat),
 (I33 0 w28 ∧ True) ∧
 ∀ w35 x36, I33 x36 w35 →
 BoolK (decide (x36 < l32))
 ((0 ≤ x36 ∧ x36 < l32) ∧
 AddrK a32 fun b37 =>
 ∃ x38, w35.cell? ((b37.add (x36.toNat * 2)).add 0) = some (.int .i64 x38) ∧
 (∃ s39, w35.cell? ((b37.add (x36.toNat * 2)).add 1) = some (.string s39) ∧
 (AllocK w35 (#[.int .i64 0, .string ⟨#[]⟩]) 41 fun b40 w41 =>
 SetK w41 (b40.add 0) (.int .i64 x38) fun w42 =>
 SetK w42 (b40.add 1) (.string s39) fun w43 =>
 DrewK w43 fun w44 =>
 ∃ x45, w44.cell? (b40.add 0) = some (.int .i64 x45) ∧
 (∃ s46, w44.cell? (b40.add 1) = some (.string s46) ∧
 (Calls Tryz.prog 61 #[(.agg #[(.int .i64 x45), (.string s46)])] w44 fun e49 w48 =>
 ∃ p47, e49 = .returned (.bool p47) ∧
 (Cel w44 w48 ∧
 (BoolK (!p47)
 (((K false w48) ∧
 (K false w48)) ∧
 (K false w48))
 (BoolK (decide (x36 > 0))
 ((∃ a50 l50 c50, w48.cell? (b7.add 3) = some (.slice a50 l50 c50) ∧
 (Cel w44 w48 ∧
 ((0 ≤ (IntKind.wrap .i64 (x36 - 1) : Int) ∧ (IntKind.wrap .i64 (x36 - 1) : Int) < l50) ∧
 AddrK a50 fun b51 =>
 (∃ x52, w48.cell? ((b51.add ((IntKind.wrap .i64 (x36 - 1) : Int).toNat * 2)).add 0) = some (.int .i64 x52) ∧
 (∃ s53, w48.cell? ((b51.add ((IntKind.wrap .i64 (x36 - 1) : Int).toNat * 2)).add 1) = some (.string s53) ∧
 (Cel w44 w48 ∧
 (∃ x54, w48.cell? (b40.add 0) = some (.int .i64 x54) ∧
 (∃ s55, w48.cell? (b40.add 1) = some (.string s55) ∧
 (Cel w44 w48 ∧
 (Calls Tryz.prog 62 #[(.agg #[(.int .i64 x52), (.string s53)]), (.agg #[(.int .i64 x54), (.string s55)])] w48 fun e58 w57 =>
 ∃ p56, e58 = .returned (.bool p56) ∧
 (BoolK (!p56)
 (K false w57)
 (I33 (IntKind.wrap .i64 (x36 + 1)) w57 ∧ μ34 (IntKind.wrap .i64 (x36 + 1)) w57 < μ34 x36 w35))))))))) ∧
 (∃ x59, w48.cell? (b40.add 0) = some (.int .i64 x59) ∧
 (∃ s60, w48.cell? (b40.add 1) = some (.string s60) ∧
 (Cel w44 w48 ∧
 (∃ x61, w48.cell? ((b51.add ((IntKind.wrap .i64 (x36 - 1) : Int).toNat * 2)).add 0) = some (.int .i64 x61) ∧
 (∃ s62, w48.cell? ((b51.add ((IntKind.wrap .i64 (x36 - 1) : Int).toNat * 2)).add 1) = some (.string s62) ∧
 (Cel w44 w48 ∧
 (Calls Tryz.prog 62 #[(.agg #[(.int .i64 x61), (.string s62)]), (.agg #[(.int .i64 x59), (.string s60)])] w48 fun e65 w64 =>
 ∃ p63, e65 = .returned (.bool p63) ∧
 (BoolK (!p63)
 (K false w64)
 (I33 (IntKind.wrap .i64 (x36 + 1)) w64 ∧ μ34 (IntKind.wrap .i64 (x36 + 1)) w64 < μ34 x36 w35)))))))))))) ∧
 (∃ x66, w48.cell? (b40.add 0) = some (.int .i64 x66) ∧
 (∃ s67, w48.cell? (b40.add 1) = some (.string s67) ∧
 (Cel w44 w48 ∧
 (∃ a68 l68 c68, w48.cell? (b7.add 3) = some (.slice a68 l68 c68) ∧
 (Cel w44 w48 ∧
 ((0 ≤ (IntKind.wrap .i64 (x36 - 1) : Int) ∧ (IntKind.wrap .i64 (x36 - 1) : Int) < l68) ∧
 AddrK a68 fun b69 =>
 ∃ x70, w48.cell? ((b69.add ((IntKind.wrap .i64 (x36 - 1) : Int).toNat * 2)).add 0) = some (.int .i64 x70) ∧
 (∃ s71, w48.cell? ((b69.add ((IntKind.wrap .i64 (x36 - 1) : Int).toNat * 2)).add 1) = some (.string s71) ∧
 (Cel w44 w48 ∧
 (Calls Tryz.prog 62 #[(.agg #[(.int .i64 x70), (.string s71)]), (.agg #[(.int .i64 x66), (.string s67)])] w48 fun e74 w73 =>
 ∃ p72, e74 = .returned (.bool p72) ∧
 (BoolK (!p72)
 (K false w73)
 (I33 (IntKind.wrap .i64 (x36 + 1)) w73 ∧ μ34 (IntKind.wrap .i64 (x36 + 1)) w73 < μ34 x36 w35))))))))))))
 (((I33 (IntKind.wrap .i64 (x36 + 1)) w48 ∧ μ34 (IntKind.wrap .i64 (x36 + 1)) w48 < μ34 x36 w35) ∧
 (I33 (IntKind.wrap .i64 (x36 + 1)) w48 ∧ μ34 (IntKind.wrap .i64 (x36 + 1)) w48 < μ34 x36 w35)) ∧
 (I33 (IntKind.wrap .i64 (x36 + 1)) w48 ∧ μ34 (IntKind.wrap .i64 (x36 + 1)) w48 < μ34 x36 w35))))))))))
 (∃ a75 l75 c75, w35.cell? (b7.add 4) = some (.slice a75 l75 c75) ∧
 (∃ (I76 : Int → World → Prop) (μ77 : Int → World → Nat),
 (I76 0 w35 ∧ True) ∧
 ∀ w78 x79, I76 x79 w78 →
 BoolK (decide (x79 < l75))
 ((0 ≤ x79 ∧ x79 < l75) ∧
 AddrK a75 fun b80 =>
 ∃ x81, w78.cell? (b80.add (x79.toNat * 1)) = some (.int .i64 x81) ∧
 (BoolK (decide (x81 < 0))
 (K false w78)
 (BoolK (decide (x81 ≥ x6))
 (K false w78)
 (I76 (IntKind.wrap .i64 (x79 + 1)) w78 ∧ μ77 (IntKind.wrap .i64 (x79 + 1)) w78 < μ77 x79 w78))))
 (K true w78)))))))))))))
 (K false w10)))))) ∧
 (∃ a82 l82 c82, w8.cell? (b7.add 3) = some (.slice a82 l82 c82) ∧
 (BoolK ((l82 : Int) == 0)
 (∃ a83 l83 c83, w8.cell? (b7.add 4) = some (.slice a83 l83 c83) ∧
 (J9 ((l83 : Int) == 0) w8))
 (J9 false w8)))
def ann34 : Ann := (.two .nil (.cut [(5, (.one .bool))] [1, 2] .nil (.two (.two .nil (.one (.two .nil (.two (.two .nil .nil) (.two .nil (.two (.two .nil .nil) (.two .nil (.two (.two .nil .nil) (.two .nil (.two (.two (.two .nil (.two (.two .nil .nil) .nil)) (.two (.two .nil (.one (.loop [(100, (.one (.int .i64)))] [1, 2, 98, 99] (.two .nil (.two (.two .nil .nil) (.two (.one (.two .nil (.two (.any 14 (.take 0 (.one 1 (.take 2 (.take 3 (.take 4 (.take 5 (.take 6 (.take 7 (.take 9 (.take 10 (.both 8 (.take 11 (.both 12 (.one 13 .done) (.one 13 (.one 12 .done)))) (.one 13 (.one 8 (.take 11 (.one 12 .done)))))))))))))))) (.two (.two .nil .nil) .nil)))) .nil)))))) (.two (.two .nil (.one (.loop [(127, (.one (.int .i64)))] [1, 125, 126] (.two .nil (.two (.two .nil .nil) (.two (.one (.two .nil (.two .nil (.two (.two .nil .nil) .nil)))) .nil)))))) (.two .nil .nil)))) .nil)))))))))) (.two .nil .nil))))
noncomputable def code34 : Code := match Tryz.f34.body with | some c => c | none => .skip
theorem calls34 (s1 : ByteArray) (x2 : Int) (s3 : ByteArray) (a4 : Option Addr) (l4 : Nat) (c4 : Nat) (a5 : Option Addr) (l5 : Nat) (c5 : Nat) (x6 : Int) (K : Bool → World → Prop) (w : World) (h : N34 s1 x2 s3 a4 l4 c4 a5 l5 c5 x6 K w) : Calls Tryz.prog 34 #[(.agg #[(.string s1), (.int .i64 x2), (.string s3), (.slice a4 l4 c4), (.slice a5 l5 c5)]), (.int .i64 x6)] w fun en w' => ∃ (p84 : Bool), en = .returned (.bool p84) ∧ K p84 w' :=
 fn_calls tabOk mixed Tryz.func34 (by kernel_rfl : Tryz.f34.body = some code34) ann34 [(.agg #[(.string s1), (.int .i64 x2), (.string s3), (.slice a4 l4 c4), (.slice a5 l5 c5)]), (.int .i64 x6)] [(.one .bool)] K w (by kernel_rfl) (by kernel_rfl) (by kernel_rfl) h
end Go.Proofs.YtnmldggopnbclaaGreatDoor

namespace Go.Proofs.YtnmldggopnbclaaGreatDoor
open Go Go.V Go.Proofs
open Go.RowKit (Below)
/-! manystrand/graph.Valid -/
def N15 (x1 : Int) (a2 : Option Addr) (l2 : Nat) (c2 : Nat) (K : Bool → World → Prop) (w : World) : Prop :=
 AllocK w (#[(.int .i64 x1), (.slice a2 l2 c2)]) 25 fun b3 w4 =>
 ∃ a5 l5 c5, w4.cell? (b3.add 1) = some (.slice a5 l5 c5) ∧
 (BoolK (decide ((l5 : Int) > 1000))
 (K false w4)
 (∃ x6, w4.cell? b3 = some (.int .i64 x6) ∧
 (BoolK (decide (x6 < 0))
 (K false w4)
 (∃ x7, w4.cell? b3 = some (.int .i64 x7) ∧
 (BoolK (decide (x7 ≥ l5))
 (K false w4)
 (∃ a8 l8 c8, w4.cell? (b3.add 1) = some (.slice a8 l8 c8) ∧
 (∃ (I9 : Int → World → Prop) (μ10 : Int → World → Nat),
 (I9 0 w4 ∧ True) ∧
 ∀ w11 x12, I9 x12 w11 →
 BoolK (decide (x12 < l8))
 ((0 ≤ x12 ∧ x12 < l8) ∧
 AddrK a8 fun b13 =>
 ∃ s14, w11.cell? ((b13.add (x12.toNat * 5)).add 0) = some (.string s14) ∧
 (∃ x15, w11.cell? ((b13.add (x12.toNat * 5)).add 1) = some (.int .i64 x15) ∧
 (∃ s16, w11.cell? ((b13.add (x12.toNat * 5)).add 2) = some (.string s16) ∧
 (∃ a17 l17 c17, w11.cell? ((b13.add (x12.toNat * 5)).add 3) = some (.slice a17 l17 c17) ∧
 (∃ a18 l18 c18, w11.cell? ((b13.add (x12.toNat * 5)).add 4) = some (.slice a18 l18 c18) ∧
 (AllocK w11 (#[.string ⟨#[]⟩, .int .i64 0, .string ⟨#[]⟩, .slice none 0 0, .slice none 0 0]) 39 fun b19 w20 =>
 SetK w20 (b19.add 0) (.string s14) fun w21 =>
 SetK w21 (b19.add 1) (.int .i64 x15) fun w22 =>
 SetK w22 (b19.add 2) (.string s16) fun w23 =>
 SetK w23 (b19.add 3) (.slice a17 l17 c17) fun w24 =>
 SetK w24 (b19.add 4) (.slice a18 l18 c18) fun w25 =>
 ∃ s26, w25.cell? (b19.add 0) = some (.string s26) ∧
 (∃ x27, w25.cell? (b19.add 1) = some (.int .i64 x27) ∧
 (∃ s28, w25.cell? (b19.add 2) = some (.string s28) ∧
 (∃ a29 l29 c29, w25.cell? (b19.add 3) = some (.slice a29 l29 c29) ∧
 (∃ a30 l30 c30, w25.cell? (b19.add 4) = some (.slice a30 l30 c30) ∧
 (Calls Tryz.prog 34 #[(.agg #[(.string s26), (.int .i64 x27), (.string s28), (.slice a29 l29 c29), (.slice a30 l30 c30)]), (.int .i64 l5)] w25 fun e33 w32 =>
 ∃ p31, e33 = .returned (.bool p31) ∧
 (BoolK (!p31)
 (K false w32)
 (I9 (IntKind.wrap .i64 (x12 + 1)) w32 ∧ μ10 (IntKind.wrap .i64 (x12 + 1)) w32 < μ10 x12 w11)))))))))))))
 (K true w11))))))))
def ann15 : Ann := (.two .nil (.two .nil (.two (.two .nil (.two (.two .nil .nil) .nil)) (.two (.two .nil (.one (.loop [(25, (.one (.int .i64)))] [3, 23, 24] (.two .nil (.two (.two .nil .nil) (.two (.one (.two .nil (.two .nil (.two (.two .nil .nil) .nil)))) .nil)))))) (.two .nil .nil)))))
noncomputable def code15 : Code := match Tryz.f15.body with | some c => c | none => .skip
theorem calls15 (x1 : Int) (a2 : Option Addr) (l2 : Nat) (c2 : Nat) (K : Bool → World → Prop) (w : World) (h : N15 x1 a2 l2 c2 K w) : Calls Tryz.prog 15 #[(.agg #[(.int .i64 x1), (.slice a2 l2 c2)])] w fun en w' => ∃ (p34 : Bool), en = .returned (.bool p34) ∧ K p34 w' :=
 fn_calls tabOk mixed Tryz.func15 (by kernel_rfl : Tryz.f15.body = some code15) ann15 [(.agg #[(.int .i64 x1), (.slice a2 l2 c2)])] [(.one .bool)] K w (by kernel_rfl) (by kernel_rfl) (by kernel_rfl) h
end Go.Proofs.YtnmldggopnbclaaGreatDoor

namespace Go.Proofs.YtnmldggopnbclaaGreatDoor
open Go Go.V Go.Proofs Go.V.Gr
open Go.RowKit (Below)
def kInt : ByteArray := ⟨#[105, 110, 116]⟩
def kVar : ByteArray := ⟨#[118, 97, 114]⟩
def kRef : ByteArray := ⟨#[114, 101, 102]⟩
def kRec : ByteArray := ⟨#[114, 101, 99]⟩
def featsOk (fs : List Ft) : Prop := ∀ (i : Nat) (f : Ft), fs[i]? = some f → featD f = true ∧ ∀ g, 0 < i → fs[i - 1]? = some g → lessD g f = true
def NdOk (x : Nd) (n : Int) : Prop :=
 (x.kd = kInt ∧ x.tx = ⟨#[]⟩ ∧ x.fs = [] ∧ x.ks = [] ∧ -999999999999999999 ≤ x.n ∧ x.n ≤ 999999999999999999) ∨
 (x.kd = kVar ∧ x.tx = ⟨#[]⟩ ∧ x.fs = [] ∧ x.ks = [] ∧ 1 ≤ x.n ∧ x.n ≤ 999999999999999999) ∨
 (x.kd = kRef ∧ sortD x.tx = true ∧ x.fs = [] ∧ x.ks = [] ∧ 1 ≤ x.n ∧ x.n ≤ 999999999999999999) ∨
 (x.kd = kRec ∧ x.n = 0 ∧ atomD x.tx = true ∧ x.ks.length = x.fs.length ∧ featsOk x.fs ∧ ∀ k ∈ x.ks, 0 ≤ k ∧ k < n)
section
variable {x : Nd} {n : Int}
theorem NdOk.int_iff (h : x.kd = kInt) : NdOk x n ↔ (x.tx = ⟨#[]⟩ ∧ x.fs = [] ∧ x.ks = [] ∧ -999999999999999999 ≤ x.n ∧ x.n ≤ 999999999999999999) := by
 unfold NdOk; rw [h]; simp [kInt, kVar, kRef, kRec]
theorem NdOk.var_iff (h : x.kd = kVar) : NdOk x n ↔ (x.tx = ⟨#[]⟩ ∧ x.fs = [] ∧ x.ks = [] ∧ 1 ≤ x.n ∧ x.n ≤ 999999999999999999) := by
 unfold NdOk; rw [h]; simp [kInt, kVar, kRef, kRec]
theorem NdOk.ref_iff (h : x.kd = kRef) : NdOk x n ↔ (sortD x.tx = true ∧ x.fs = [] ∧ x.ks = [] ∧ 1 ≤ x.n ∧ x.n ≤ 999999999999999999) := by
 unfold NdOk; rw [h]; simp [kInt, kVar, kRef, kRec]
theorem NdOk.rec_iff (h : x.kd = kRec) : NdOk x n ↔ (x.n = 0 ∧ atomD x.tx = true ∧ x.ks.length = x.fs.length ∧ featsOk x.fs ∧ ∀ k ∈ x.ks, 0 ≤ k ∧ k < n) := by
 unfold NdOk; rw [h]; simp [kInt, kVar, kRef, kRec]
theorem NdOk.other (h1 : x.kd ≠ kInt) (h2 : x.kd ≠ kVar) (h3 : x.kd ≠ kRef) (h4 : x.kd ≠ kRec) : ¬ NdOk x n := by
 unfold NdOk; simp [h1, h2, h3, h4]
end
theorem len0 {α : Type} {xs : List α} {l : Nat} (h : l = xs.length) : (((l : Nat) : Int) == 0) = true ↔ xs = [] := by
 rw [beq_iff_eq, ← List.length_eq_zero_iff]; omega
theorem tl_no {s t : ByteArray} (h : (s.toList == t.toList) = false) : s ≠ t := fun e => by rw [tl_iff.2 e] at h; cases h
theorem wrap_pred {k : Nat} (h : 0 < k) (h2 : k ≤ 9223372036854775807) : IntKind.wrap .i64 ((k : Int) - 1) = ((k - 1 : Nat) : Int) := by rw [wrap_id] <;> omega
theorem ftAt {w w' : World} {a : Option Addr} {l : Nat} {fs : List Ft} (h : RL 2 RFt w a l fs) (k : Ext w w') {i : Nat} (hi : i < fs.length) :
  ∃ b, a = some b ∧ w'.cell? ((b.add (((i : Nat) : Int).toNat * 2)).add 0) = some (.int .i64 fs[i].1) ∧ w'.cell? ((b.add (((i : Nat) : Int).toNat * 2)).add 1) = some (.string fs[i].2) ∧ fs[i].2.size ≤ maxLen := by
 obtain ⟨b, o, ha, h0, h1, h2⟩ := (h.1.ext RFt.mono k).get hi
 exact ⟨_, ha, by rw [Int.toNat_natCast, add_mk, add_mk]; exact h0, by rw [Int.toNat_natCast, add_mk, add_mk]; exact h1, h2⟩
theorem ksAt {w w' : World} {a : Option Addr} {l : Nat} {ks : List Int} (h : RL 1 RInt w a l ks) (k : Ext w w') {i : Nat} (hi : i < ks.length) :
  ∃ b, a = some b ∧ w'.cell? (b.add (((i : Nat) : Int).toNat * 1)) = some (.int .i64 ks[i]) := by
 obtain ⟨b, o, ha, h0⟩ := (h.1.ext RInt.mono k).get hi
 exact ⟨_, ha, by rw [Int.toNat_natCast, add_mk]; exact h0⟩
set_option maxRecDepth 100000 in
theorem ctr34 (w : World) (x : Nd) (n : Int) {a4 a5 : Option Addr} {l4 l5 : Nat} (c4 c5 : Nat) (htx : x.tx.size ≤ maxLen) (hfs : RL 2 RFt w a4 l4 x.fs) (hks : RL 1 RInt w a5 l5 x.ks) :
  Calls Tryz.prog 34 #[.agg #[.string x.kd, .int .i64 x.n, .string x.tx, .slice a4 l4 c4, .slice a5 l5 c5], .int .i64 n] w fun en w' => ∃ p, en = .returned (.bool p) ∧ ((p = true ↔ NdOk x n) ∧ Ext w w') := by
 refine calls34 _ _ _ _ _ _ _ _ _ _ _ w ?_
 refine AllocK.mk fun b w8 hb hB hx => ?_
 have e4 := hfs.len; have e5 := hks.len
 have m4 := hfs.2; have m5 := hks.2
 simp only [maxLen] at m4 m5
 have g0 : ∀ {w'}, Ext w8 w' → w'.cell? (⟨b, 0, none⟩ : Addr) = some (.string x.kd) := fun k => by rw [(hB.ext k).cell]; rfl
 have g1 : ∀ {w'}, Ext w8 w' → w'.cell? ((⟨b, 0, none⟩ : Addr).add 1) = some (.int .i64 x.n) := fun k => by rw [add_mk, (hB.ext k).cell]; rfl
 have g2 : ∀ {w'}, Ext w8 w' → w'.cell? ((⟨b, 0, none⟩ : Addr).add 2) = some (.string x.tx) := fun k => by rw [add_mk, (hB.ext k).cell]; rfl
 have g3 : ∀ {w'}, Ext w8 w' → w'.cell? ((⟨b, 0, none⟩ : Addr).add 3) = some (.slice a4 l4 c4) := fun k => by rw [add_mk, (hB.ext k).cell]; rfl
 have g4 : ∀ {w'}, Ext w8 w' → w'.cell? ((⟨b, 0, none⟩ : Addr).add 4) = some (.slice a5 l5 c5) := fun k => by rw [add_mk, (hB.ext k).cell]; rfl
 have rf := Ext.refl w8
 refine ⟨fun p w' => (p = true ↔ (x.fs = [] ∧ x.ks = [])) ∧ w' = w8, ?_, ⟨a4, l4, c4, g3 rf, BoolK.mk (fun t => ⟨a5, l5, c5, g4 rf, ?_, rfl⟩) (fun t => ⟨?_, rfl⟩)⟩⟩
 ·rintro w10 p11 ⟨hp, rfl⟩
  refine ⟨_, g0 rf, BoolK.mk (fun t => ?_) (fun n1 => ?_)⟩
  ·rw [NdOk.int_iff (tl_iff.1 t)]
   refine ⟨_, g2 rf, BoolK.mk (fun t1 => BoolK.mk (fun t2 => ⟨_, g1 rf, BoolK.mk (fun t3 => ⟨_, g1 rf, ?_, hx⟩) (fun t3 => ⟨?_, hx⟩)⟩) (fun t2 => ⟨?_, hx⟩)) (fun t1 => ⟨?_, hx⟩)⟩
   ·have t1 := tl_iff.1 t1; have t3 := of_decide_eq_true t3; have t2 := hp.1 t2
    rw [decide_eq_true_eq]
    exact ⟨fun h => ⟨t1, t2.1, t2.2, by omega, t3⟩, fun h => by have := h.2.2.2; omega⟩
   ·have t3 := of_decide_eq_false t3
    exact ⟨fun h => (by cases h), fun h => absurd h.2.2.2.2 t3⟩
   ·exact ⟨fun h => (by cases h), fun h => (by have := hp.2 ⟨h.2.1, h.2.2.1⟩; rw [this] at t2; cases t2)⟩
   ·exact ⟨fun h => (by cases h), fun h => absurd h.1 (tl_no t1)⟩
  refine BoolK.mk (fun t => ?_) (fun n2 => ?_)
  ·rw [NdOk.var_iff (tl_iff.1 t)]
   refine ⟨_, g2 rf, BoolK.mk (fun t1 => BoolK.mk (fun t2 => ⟨_, g1 rf, BoolK.mk (fun t3 => ⟨_, g1 rf, ?_, hx⟩) (fun t3 => ⟨?_, hx⟩)⟩) (fun t2 => ⟨?_, hx⟩)) (fun t1 => ⟨?_, hx⟩)⟩
   ·have t1 := tl_iff.1 t1; have t3 := of_decide_eq_true t3; have t2 := hp.1 t2
    rw [decide_eq_true_eq]
    exact ⟨fun h => ⟨t1, t2.1, t2.2, by omega, h⟩, fun h => h.2.2.2.2⟩
   ·have t3 := of_decide_eq_false t3
    exact ⟨fun h => (by cases h), fun h => by have := h.2.2.2.1; omega⟩
   ·exact ⟨fun h => (by cases h), fun h => (by have := hp.2 ⟨h.2.1, h.2.2.1⟩; rw [this] at t2; cases t2)⟩
   ·exact ⟨fun h => (by cases h), fun h => absurd h.1 (tl_no t1)⟩
  refine BoolK.mk (fun t => ?_) (fun n3 => ?_)
  ·rw [NdOk.ref_iff (tl_iff.1 t)]
   refine ⟨_, g2 rf, (ctr52 w10 x.tx).mono ?_⟩
   rintro en w21 ⟨p, rfl, rfl, rfl⟩
   refine ⟨_, rfl, BoolK.mk (fun t1 => BoolK.mk (fun t2 => ⟨_, g1 rf, BoolK.mk (fun t3 => ⟨_, g1 rf, ?_, hx⟩) (fun t3 => ⟨?_, hx⟩)⟩) (fun t2 => ⟨?_, hx⟩)) (fun t1 => ⟨?_, hx⟩)⟩
   ·have t3 := of_decide_eq_true t3; have t2 := hp.1 t2
    rw [decide_eq_true_eq]
    exact ⟨fun h => ⟨t1, t2.1, t2.2, by omega, h⟩, fun h => h.2.2.2.2⟩
   ·have t3 := of_decide_eq_false t3
    exact ⟨fun h => (by cases h), fun h => by have := h.2.2.2.1; omega⟩
   ·exact ⟨fun h => (by cases h), fun h => (by have := hp.2 ⟨h.2.1, h.2.2.1⟩; rw [this] at t2; cases t2)⟩
   ·exact ⟨fun h => (by cases h), fun h => (by rw [h.1] at t1; cases t1)⟩
  refine BoolK.mk (fun t => ?_) (fun n4 => ?_)
  ·rw [NdOk.rec_iff (tl_iff.1 t)]
   have no : ∀ {P : Prop}, ¬ P → (false = true ↔ P) := fun h => ⟨fun e => (by cases e), fun e => absurd e h⟩
   refine ⟨_, g1 rf, BoolK.mk (fun t1 => ⟨no fun h => (by rw [h.1] at t1; cases t1), hx⟩) (fun t1 => ?_)⟩
   have t1 : x.n = 0 := by simpa using t1
   refine ⟨_, g2 rf, (ctr60 w10 x.tx 0 htx).mono ?_⟩
   rintro en w28 ⟨p, rfl, rfl, x28⟩
   have y28 := hx.trans x28
   refine ⟨_, rfl, BoolK.mk (fun t2 => ⟨no fun h => (by rw [h.2.1] at t2; cases t2), y28⟩) (fun t2 => ?_)⟩
   rw [Bool.not_eq_false'] at t2
   refine ⟨_, _, _, g4 x28, _, _, _, g3 x28, BoolK.mk (fun t3 => ⟨no fun h => (by rw [← e4, ← e5] at h; have := h.2.2.1; simp [this] at t3), y28⟩) (fun t3 => ?_)⟩
   have t3 : x.ks.length = x.fs.length := by rw [← e4, ← e5]; simp at t3; omega
   refine ⟨_, _, _, g3 x28, ?_⟩
   refine ⟨fun i w' => ∃ k : Nat, i = k ∧ k ≤ x.fs.length ∧ Ext w28 w' ∧ ∀ (i : Nat) (f : Ft), i < k → x.fs[i]? = some f → featD f = true ∧ ∀ g, 0 < i → x.fs[i - 1]? = some g → lessD g f = true, fun i _ => x.fs.length - i.toNat, ⟨⟨0, rfl, by omega, Ext.refl _, fun i f hi => by omega⟩, trivial⟩, ?_⟩
   rintro w35 _ ⟨k, rfl, hk, x35, hall⟩
   have z35 := x28.trans x35
   refine BoolK.mk (fun t4 => ?_) (fun t4 => ?_)
   ·have hlt : k < x.fs.length := by have := of_decide_eq_true t4; omega
    obtain ⟨b1, ha, q0, q1, q2⟩ := ftAt (hfs.ext RFt.mono hx) z35 hlt
    refine ⟨⟨by omega, by omega⟩, adK ha ⟨_, q0, _, q1, ?_⟩⟩
    refine local2 fun b40 w43 hb40 hB40 x43 => DrewK.mk fun w44 x44 => ?_
    have hB40 := hB40.ext x44
    have z44 := (z35.trans x43).trans x44
    refine ⟨_, by rw [add_mk, hB40.cell]; rfl, _, by rw [add_mk, hB40.cell]; rfl, ?_⟩
    refine (ctr61 w44 x.fs[k] q2).mono ?_
    rintro en w48 ⟨p, rfl, rfl, x48⟩
    have hB40 := hB40.ext x48
    have z48 := z44.trans x48
    have u48 := hx.trans z48
    have cel : Cel w44 w48 := Below.cel x48
    have x28' : Ext w28 w48 := ((x35.trans x43).trans x44).trans x48
    refine ⟨_, rfl, cel, BoolK.mk (fun t5 => ?_) (fun t5 => ?_)⟩
    ·have : ¬ featsOk x.fs := fun h => by have := (h k _ (List.getElem?_eq_getElem hlt)).1; rw [this] at t5; cases t5
     exact ⟨⟨⟨no fun h => this h.2.2.2.1, u48⟩, no fun h => this h.2.2.2.1, u48⟩, no fun h => this h.2.2.2.1, u48⟩
    ·rw [Bool.not_eq_false'] at t5
     have next : ∀ {w' : World}, Ext w48 w' → (∀ g, 0 < k → x.fs[k - 1]? = some g → lessD g x.fs[k] = true) →
       (∃ k' : Nat, IntKind.wrap .i64 ((k : Int) + 1) = (k' : Int) ∧ k' ≤ x.fs.length ∧ Ext w28 w' ∧ ∀ (i : Nat) (f : Ft), i < k' → x.fs[i]? = some f → featD f = true ∧ ∀ g, 0 < i → x.fs[i - 1]? = some g → lessD g f = true) ∧
        x.fs.length - (IntKind.wrap .i64 ((k : Int) + 1)).toNat < x.fs.length - ((k : Nat) : Int).toNat := fun x' hl => by
      rw [wrap_succ (by omega)]
      refine ⟨⟨k + 1, rfl, by omega, x28'.trans x', fun i f hi hf => ?_⟩, by simp; omega⟩
      rcases Nat.lt_or_ge i k with h | h
      ·exact hall i f h hf
      ·have : i = k := by omega
       subst this
       rw [List.getElem?_eq_getElem hlt] at hf; cases hf
       exact ⟨t5, hl⟩
     refine BoolK.mk (fun t6 => ?_) (fun t6 => ?_)
     ·have t6 : 0 < k := by have := of_decide_eq_true t6; omega
      rw [wrap_pred t6 (by omega)]
      have hlt' : k - 1 < x.fs.length := by omega
      obtain ⟨b2, ha2, r0, r1, _⟩ := ftAt (hfs.ext RFt.mono hx) z48 hlt'
      have less : Calls Tryz.prog 62 #[.agg #[.int .i64 x.fs[k - 1].1, .string x.fs[k - 1].2], .agg #[.int .i64 x.fs[k].1, .string x.fs[k].2]] w48 fun e58 w57 => ∃ p56, e58 = .returned (.bool p56) ∧ BoolK (!p56)
        ((false = true ↔ (x.n = 0 ∧ atomD x.tx = true ∧ x.ks.length = x.fs.length ∧ featsOk x.fs ∧ ∀ k ∈ x.ks, 0 ≤ k ∧ k < n)) ∧ Ext w w57)
        ((∃ k' : Nat, IntKind.wrap .i64 ((k : Int) + 1) = (k' : Int) ∧ k' ≤ x.fs.length ∧ Ext w28 w57 ∧ ∀ (i : Nat) (f : Ft), i < k' → x.fs[i]? = some f → featD f = true ∧ ∀ g, 0 < i → x.fs[i - 1]? = some g → lessD g f = true) ∧
        x.fs.length - (IntKind.wrap .i64 ((k : Int) + 1)).toNat < x.fs.length - ((k : Nat) : Int).toNat) := by
       refine (ctr62 w48 x.fs[k - 1] x.fs[k]).mono ?_
       rintro en w57 ⟨p, rfl, rfl, x57⟩
       refine ⟨_, rfl, BoolK.mk (fun t7 => ⟨no fun h => ?_, u48.trans x57⟩) (fun t7 => next x57 fun g _ hg => ?_)⟩
       ·have := (h.2.2.2.1 k _ (List.getElem?_eq_getElem hlt)).2 _ t6 (List.getElem?_eq_getElem hlt')
        rw [this] at t7; cases t7
       ·rw [List.getElem?_eq_getElem hlt'] at hg; cases hg
        simpa using t7
      have c40 : w48.cell? ((⟨b40, 0, none⟩ : Addr).add 0) = some (.int .i64 x.fs[k].1) := by rw [add_mk, hB40.cell]; rfl
      have c41 : w48.cell? ((⟨b40, 0, none⟩ : Addr).add 1) = some (.string x.fs[k].2) := by rw [add_mk, hB40.cell]; rfl
      refine ⟨⟨_, _, _, g3 z48, cel, ⟨by omega, by omega⟩, adK ha2 ⟨⟨_, r0, _, r1, cel, _, c40, _, c41, cel, less⟩, _, c40, _, c41, cel, _, r0, _, r1, cel, less⟩⟩, _, c40, _, c41, cel, _, _, _, g3 z48, cel, ⟨by omega, by omega⟩, adK ha2 ⟨_, r0, _, r1, cel, less⟩⟩
     ·have t6 : ¬ 0 < k := by have := of_decide_eq_false t6; omega
      have := next (Ext.refl w48) fun g hg => absurd hg t6
      exact ⟨⟨this, this⟩, this⟩
   ·have : k = x.fs.length := by have := of_decide_eq_false t4; omega
    subst this
    have hfo : featsOk x.fs := fun i f hf => hall i f (List.getElem?_eq_some_iff.1 hf).1 hf
    refine ⟨_, _, _, g4 z35, ?_⟩
    refine ⟨fun i w' => ∃ k : Nat, i = k ∧ k ≤ x.ks.length ∧ w' = w35 ∧ ∀ (i : Nat) (f : Int), i < k → x.ks[i]? = some f → 0 ≤ f ∧ f < n, fun i _ => x.ks.length - i.toNat, ⟨⟨0, rfl, by omega, rfl, fun i f hi => by omega⟩, trivial⟩, ?_⟩
    rintro w78 _ ⟨k, rfl, hk, rfl, hall2⟩
    have y78 := hx.trans z35
    refine BoolK.mk (fun t4 => ?_) (fun t4 => ?_)
    ·have hlt : k < x.ks.length := by have := of_decide_eq_true t4; omega
     obtain ⟨b1, ha, q0⟩ := ksAt (hks.ext RInt.mono hx) z35 hlt
     refine ⟨⟨by omega, by omega⟩, adK ha ⟨_, q0, BoolK.mk (fun t5 => ⟨no fun h => ?_, y78⟩) (fun t5 => BoolK.mk (fun t6 => ⟨no fun h => ?_, y78⟩) (fun t6 => ?_))⟩⟩
     ·have t5 := of_decide_eq_true t5
      have := h.2.2.2.2 _ (List.getElem_mem hlt); omega
     ·have t6 := of_decide_eq_true t6
      have := h.2.2.2.2 _ (List.getElem_mem hlt); omega
     ·have t5 := of_decide_eq_false t5; have t6 := of_decide_eq_false t6
      rw [wrap_succ (by omega)]
      refine ⟨⟨k + 1, rfl, by omega, rfl, fun i f hi hf => ?_⟩, by simp; omega⟩
      rcases Nat.lt_or_ge i k with h | h
      ·exact hall2 i f h hf
      ·have : i = k := by omega
       subst this
       rw [List.getElem?_eq_getElem hlt] at hf; cases hf
       omega
    ·have : k = x.ks.length := by have := of_decide_eq_false t4; omega
     subst this
     refine ⟨⟨fun _ => ⟨t1, t2, t3, hfo, fun q hq => ?_⟩, fun _ => rfl⟩, y78⟩
     obtain ⟨i, hi⟩ := List.getElem?_of_mem hq
     exact hall2 i q (List.getElem?_eq_some_iff.1 hi).1 hi
  ·exact ⟨⟨fun h => (by cases h), fun h => absurd h (NdOk.other (tl_no n1) (tl_no n2) (tl_no n3) (tl_no n4))⟩, hx⟩
 ·rw [len0 e5]; exact ⟨fun h => ⟨(len0 e4).1 t, h⟩, fun h => h.2⟩
 ·exact ⟨fun h => (by cases h), fun h => by rw [(len0 e4).2 h.1] at t; cases t⟩
structure GrOk (root : Int) (l : List Nd) (most : Nat) : Prop where
 most : l.length ≤ most
 root : 0 ≤ root ∧ root < l.length
 nds : ∀ x ∈ l, NdOk x l.length
theorem ndAt {w w' : World} {a : Option Addr} {l : Nat} {xs : List Nd} (h : RNds w a l xs) (k : Ext w w') {i : Nat} (hi : i < xs.length) :
  ∃ b, a = some b ∧ w'.cell? ((b.add (((i : Nat) : Int).toNat * 5)).add 0) = some (.string xs[i].kd) ∧ w'.cell? ((b.add (((i : Nat) : Int).toNat * 5)).add 1) = some (.int .i64 xs[i].n) ∧ w'.cell? ((b.add (((i : Nat) : Int).toNat * 5)).add 2) = some (.string xs[i].tx) ∧
   xs[i].kd.size ≤ maxLen ∧ xs[i].tx.size ≤ maxLen ∧ (∃ a l c, w'.cell? ((b.add (((i : Nat) : Int).toNat * 5)).add 3) = some (.slice a l c) ∧ RL 2 RFt w' a l xs[i].fs) ∧ (∃ a l c, w'.cell? ((b.add (((i : Nat) : Int).toNat * 5)).add 4) = some (.slice a l c) ∧ RL 1 RInt w' a l xs[i].ks) ∧ (Lit.int .i64 xs[i].n).wf = true := by
 obtain ⟨b, o, ha, h0, h1, h2, h3, h4, ⟨a3, l3, c3, h5, h6⟩, ⟨a4, l4, c4, h7, h8⟩, h9⟩ := (h.1.ext RNd.mono k).get hi
 refine ⟨_, ha, ?_, ?_, ?_, h3, h4, ⟨a3, l3, c3, ?_, h6⟩, ⟨a4, l4, c4, ?_, h8⟩, h9⟩ <;> rw [Int.toNat_natCast, add_mk, add_mk] <;> assumption
theorem ctr15 (w : World) (root : Int) (xs : List Nd) {a : Option Addr} {l : Nat} (c : Nat) (h : RNds w a l xs) :
  Calls Tryz.prog 15 #[.agg #[.int .i64 root, .slice a l c]] w fun en w' => ∃ p, en = .returned (.bool p) ∧ ((p = true ↔ GrOk root xs 1000) ∧ Ext w w') := by
 refine calls15 _ _ _ _ _ w ?_
 have hl := h.len; have hm := h.2
 simp only [maxLen] at hm
 have no : ∀ {P : Prop}, ¬ P → (false = true ↔ P) := fun h => ⟨fun e => (by cases e), fun e => absurd e h⟩
 refine AllocK.mk fun b w4 hb hB hx => ?_
 have g0 : w4.cell? (⟨b, 0, none⟩ : Addr) = some (.int .i64 root) := by rw [hB.cell]; rfl
 have g1 : w4.cell? ((⟨b, 0, none⟩ : Addr).add 1) = some (.slice a l c) := by rw [add_mk, hB.cell]; rfl
 refine ⟨_, _, _, g1, BoolK.mk (fun t => ⟨no fun k => ?_, hx⟩) (fun t1 => ⟨_, g0, BoolK.mk (fun t => ⟨no fun k => ?_, hx⟩) (fun t2 => ⟨_, g0, BoolK.mk (fun t => ⟨no fun k => ?_, hx⟩) (fun t3 => ⟨_, _, _, g1, ?_⟩)⟩)⟩)⟩
 ·have := of_decide_eq_true t; have := k.most; omega
 ·have := of_decide_eq_true t; have := k.root; omega
 ·have := of_decide_eq_true t; have := k.root; omega
 have t1 := of_decide_eq_false t1; have t2 := of_decide_eq_false t2; have t3 := of_decide_eq_false t3
 refine ⟨fun i w' => ∃ k : Nat, i = k ∧ k ≤ xs.length ∧ Ext w4 w' ∧ ∀ (i : Nat) (x : Nd), i < k → xs[i]? = some x → NdOk x xs.length, fun i _ => xs.length - i.toNat, ⟨⟨0, rfl, by omega, Ext.refl _, fun i x hi => by omega⟩, trivial⟩, ?_⟩
 rintro w11 _ ⟨k, rfl, hk, x11, hall⟩
 refine BoolK.mk (fun t => ?_) (fun t => ?_)
 ·have hlt : k < xs.length := by have := of_decide_eq_true t; omega
  obtain ⟨b1, ha, h0, h1, h2, h3, h4, ⟨a3, l3, c3, h5, h6⟩, ⟨a4, l4, c4, h7, h8⟩, _⟩ := ndAt h (hx.trans x11) hlt
  refine ⟨⟨by omega, by omega⟩, adK ha ⟨_, h0, _, h1, _, h2, _, _, _, h5, _, _, _, h7, ?_⟩⟩
  refine local5 fun b19 w25 hb19 hB19 x25 => ?_
  refine ⟨_, by rw [add_mk, hB19.cell]; rfl, _, by rw [add_mk, hB19.cell]; rfl, _, by rw [add_mk, hB19.cell]; rfl, _, _, _, by rw [add_mk, hB19.cell]; rfl, _, _, _, by rw [add_mk, hB19.cell]; rfl, ?_⟩
  have e : ((l : Nat) : Int) = xs.length := by omega
  rw [e]
  refine (ctr34 w25 xs[k] xs.length c3 c4 h4 (h6.ext RFt.mono x25) (h8.ext RInt.mono x25)).mono ?_
  rintro en w32 ⟨p, rfl, hp, x32⟩
  have y := (x11.trans x25).trans x32
  refine ⟨_, rfl, BoolK.mk (fun t5 => ⟨no fun k' => ?_, hx.trans y⟩) (fun t5 => ?_)⟩
  ·have := hp.2 (k'.nds _ (List.getElem_mem hlt)); rw [this] at t5; cases t5
  ·rw [Bool.not_eq_false'] at t5
   rw [wrap_succ (by omega)]
   refine ⟨⟨k + 1, rfl, by omega, y, fun i x hi hxi => ?_⟩, by simp; omega⟩
   rcases Nat.lt_or_ge i k with h | h
   ·exact hall i x h hxi
   ·have : i = k := by omega
    subst this
    rw [List.getElem?_eq_getElem hlt] at hxi; cases hxi
    exact hp.1 t5
 ·have : k = xs.length := by have := of_decide_eq_false t; omega
  subst this
  refine ⟨⟨fun _ => ⟨by omega, by omega, fun x hx => ?_⟩, fun _ => rfl⟩, hx.trans x11⟩
  obtain ⟨i, hi⟩ := List.getElem?_of_mem hx
  exact hall i x (List.getElem?_eq_some_iff.1 hi).1 hi
end Go.Proofs.YtnmldggopnbclaaGreatDoor

namespace Go.V
open Go.RowKit (Below)
def cY (x : UInt8) : Value := .int .u8 x.toNat
def BufZ (base : Nat) (e : TypeId) (w : World) (a : Option Addr) (l c : Nat) (xs : List UInt8) : Prop :=
 l = xs.length ∧ xs.length ≤ c ∧ c ≤ maxLen ∧ ∃ g cur k k', a = some ⟨g, 0, none⟩ ∧ base ≤ g ∧ w.heap[g]? = some (.cells cur e (k, k')) ∧ (k' = 0 ∨ cur.size ≤ k) ∧ cur.size = c ∧ cur.toList.take xs.length = xs.map cY
section
variable {P : Program} {base : Nat} {e : TypeId} {w w' : World} {a : Option Addr} {l c : Nat} {xs : List UInt8}
theorem BufZ.len (h : BufZ base e w a l c xs) : l = xs.length := h.1
theorem BufZ.kept (h : BufZ base e w a l c xs) (k : ∀ g, base ≤ g → g < w.heap.size → w'.heap[g]? = w.heap[g]?) : BufZ base e w' a l c xs := by
 obtain ⟨h1, h2, h3, g, cur, p, q, h4, h5, h6, r⟩ := h
 exact ⟨h1, h2, h3, g, cur, p, q, h4, h5, (k g h5 (Array.getElem?_eq_some_iff.1 h6).1).trans h6, r⟩
theorem BufZ.ext (h : BufZ base e w a l c xs) (k : Ext w w') : BufZ base e w' a l c xs := h.kept fun g _ hg => k.block g hg
theorem BufZ.mono {base' : Nat} (h : BufZ base e w a l c xs) (hb : base' ≤ base) : BufZ base' e w a l c xs := by
 obtain ⟨h1, h2, h3, g, cur, p, q, h4, h5, r⟩ := h
 exact ⟨h1, h2, h3, g, cur, p, q, h4, Nat.le_trans hb h5, r⟩
theorem BufZ.made {b n : Nat} {cs : Array Value} (hB : Blk w b cs e) (hb : base ≤ b) (hc : cs.size = c) (hm : c ≤ maxLen) (hn : n = xs.length) (hle : n ≤ c) (ht : cs.toList.take n = xs.map cY) : BufZ base e w (some ⟨b, 0, none⟩) n c xs :=
 ⟨hn, by omega, hm, b, cs, 0, 0, rfl, hb, hB, .inl rfl, hc, by rw [← hn]; exact ht⟩
theorem setCells_fz {g t : Nat} {fz : Nat × Nat} : ∀ (vs : List Value) (w : World) (cur : Array Value) (o : Nat), w.heap[g]? = some (.cells cur t fz) → (w.setCells g o vs).heap[g]? = some (.cells (putL cur o vs) t fz) ∧ But g w (w.setCells g o vs)
 | [], w, cur, o, h => ⟨h, ⟨rfl, rfl, rfl, rfl, fun _ _ => rfl⟩⟩
 | v :: r, w, cur, o, h => by
  have h1 := Go.Lib.heap_setCell_same (i := o) h v
  have b1 : But g w (w.setCell ⟨g, o, none⟩ v) := ⟨rfl, rfl, rfl, by simp, fun k hk => heap_setCell_other w ⟨g, o, none⟩ k v hk⟩
  obtain ⟨h2, b2⟩ := setCells_fz r _ _ (o + 1) h1
  exact ⟨h2, b1.trans b2⟩
theorem BufZ.append {t tx ty : TypeId} {ys : List UInt8} {x : Value} (H : SlT P t e 1 1) (h : BufZ base e w a l c xs) (hb : base ≤ w.heap.size) (hs : Src P 1 tx x ys.length (ys.map cY) w) (hlen : xs.length + ys.length ≤ 140737488355328) :
  ∃ a' c' w', Sem.run P (Builtin.append_ #[t, tx] ty #[.slice a l c, x]) w = .ok (.slice a' (xs.length + ys.length) c') w' ∧ BufZ base e w' a' (xs.length + ys.length) c' (xs ++ ys) ∧ Below base w w' := by
 obtain ⟨i, z, hi, hz, hsz, hby, hzs⟩ := H.info
 obtain ⟨rfl, h2, h3, g, cur, p, q, rfl, h5, h6, h7, h8, h9⟩ := h
 have hlt := (Array.getElem?_eq_some_iff.1 h6).1
 have hcell : ∀ j, w.cell? ⟨g, j, none⟩ = cur[j]? := fun j => by
  simp only [World.cell?]; rw [show w.heap[(⟨g, j, none⟩ : Addr).block]? = _ from h6]; rfl
 by_cases hroom : xs.length + ys.length ≤ c
 ·have hr := run_append_room_src (P := P) w t tx ty e i H.under hi g 0 xs.length c x ys.length (ys.map cY) (by rw [hsz]; exact hs) hroom (fun j hj => by
   rw [List.length_map] at hj
   rw [hcell, Array.getElem?_eq_getElem (by rw [hsz]; omega)]; rfl) (fun j hj => by
   rw [List.length_map] at hj
   simp only [World.frozen?]; rw [show w.heap[(⟨g, 0 + xs.length * i.size + j, none⟩ : Addr).block]? = _ from h6]
   simp only [hsz, Nat.mul_one, Nat.zero_add, Bool.and_eq_false_iff, decide_eq_false_iff_not]
   rcases h7 with rfl | h7
   ·right; omega
   ·left; omega)
  rw [hsz, Nat.mul_one, Nat.zero_add] at hr
  obtain ⟨q1, q2⟩ := setCells_fz (ys.map cY) w cur xs.length h6
  refine ⟨_, _, _, hr, ⟨by simp, by simpa using hroom, h3, g, _, p, q, rfl, h5, q1, by rw [putL_size]; exact h7, by rw [putL_size]; exact h8, ?_⟩, q2.below (Below.refl _ _) h5⟩
  apply List.ext_getElem?
  intro j
  rw [List.length_append, List.map_append]
  rcases Nat.lt_or_ge j (xs.length + ys.length) with hj | hj
  ·rw [List.getElem?_take_of_lt hj, Array.getElem?_toList, putL_get _ _ _ (by rw [List.length_map]; omega)]
   rw [List.length_map]
   by_cases hjx : xs.length ≤ j
   ·rw [if_pos ⟨hjx, hj⟩, List.getElem?_append_right (by simpa using hjx), List.length_map]
   ·rw [if_neg (by omega), List.getElem?_append_left (by rw [List.length_map]; omega), ← h9, List.getElem?_take_of_lt (by omega), Array.getElem?_toList]
  ·rw [List.getElem?_eq_none (by simp; omega), List.getElem?_eq_none (by simp; omega)]
 ·have hold : (Builtin.firstCells i.size xs.length (.slice (some ⟨g, 0, none⟩) xs.length c)).run P w.drew = .ok (xs.map cY).toArray w.drew := by
   rw [hsz]
   refine run_firstCells_some (P := P) w.drew 1 xs.length ⟨g, 0, none⟩ xs.length c (xs.map cY) (by simp) (fun j u hj => ?_)
   have hjl : j < xs.length := by have := (List.getElem?_eq_some_iff.1 hj).1; simpa using this
   rw [add_mk, Nat.zero_add]
   show w.cell? _ = _
   rw [hcell, ← Array.getElem?_toList, ← List.getElem?_take_of_lt hjl, h9]; exact hj
  have hr := run_append_grow_src (P := P) w t tx ty e i z H.under hi hz (some ⟨g, 0, none⟩) xs.length c (xs.map cY) hold x ys.length (ys.map cY) (by rw [hsz]; exact hs) (by omega) (by omega)
   (growslice_fits (by omega) (by rw [hby]; omega))
  have hge := grownCap_ge w (xs.length + ys.length) c e
  have hx : Ext w (w.drew.alloc (.cells (((xs.map cY) ++ (ys.map cY)).toArray ++ Builtin.zeroCells z.cells (grownCap w (xs.length + ys.length) c e - (xs.length + ys.length))) e)) := (Ext.drew w).trans ((Below.refl _ _).alloc (Nat.le_refl _) _)
  refine ⟨_, _, _, hr, ?_, hx.mono hb⟩
  refine BufZ.made (xs := xs ++ ys) (show Blk _ w.heap.size _ e from heap_alloc_new w.drew _) hb ?_ (grownCap_le_maxLen w (xs.length + ys.length) c e (by simp only [maxLen]; omega)) (by simp) hge ?_
  ·simp [Builtin.zeroCells, hzs]; omega
  ·simp only [Array.toList_append, List.map_append]
   rw [List.take_append_of_le_length (by simp), List.take_of_length_le (by simp)]
theorem BufZ.push {t ty te : TypeId} {n : Nat} (ys : List UInt8) (H : SlT P t e 1 1) (h : BufZ base e w a l c xs) (hb : base ≤ w.heap.size) (hlen : xs.length + ys.length ≤ 140737488355328) {cs : Array Value} (hcs : cs = (ys.map cY).toArray) (hn : n = ys.length)
  {F : Option Addr → Nat → Nat → World → Prop} (k : ∀ a' c' w', BufZ base e w' a' (xs.length + ys.length) c' (xs ++ ys) → Below base w w' → F a' (xs.length + ys.length) c' w') :
  AllocK w cs te fun b w1 => ∃ a' l' c' w2, Sem.run P (Builtin.append_ #[t, t] ty #[.slice a l c, .slice (some b) n n]) w1 = .ok (.slice a' l' c') w2 ∧ F a' l' c' w2 := by
 subst hn
 refine AllocK.mk fun b w1 hb1 hblk hx => ?_
 obtain ⟨a', c', w', q1, q2, q3⟩ := (h.ext hx).append (ty := ty) (ys := ys) (tx := t) H (Nat.le_trans hb hx.size) (Src.ofSlice w1 H.under ⟨b, 0, none⟩ ys.length ys.length _ (by simp) (fun j u hu => by
  rw [add_mk, Nat.zero_add, hblk.cell, hcs]; simpa using hu) (fun u hu => by obtain ⟨_, _, rfl⟩ := List.mem_map.1 hu; rfl)) hlen
 exact ⟨_, _, _, _, q1, k a' c' w' q2 ((hx.mono hb).trans q3)⟩
theorem BufZ.appendS {t ts ty : TypeId} {s : ByteArray} (H : SlT P t e 1 1) (hts : P.underlying ts = some .string) (h : BufZ base e w a l c xs) (hb : base ≤ w.heap.size) (hlen : xs.length + s.size ≤ 140737488355328) :
  ∃ a' c' w', Sem.run P (Builtin.append_ #[t, ts] ty #[.slice a l c, .string s]) w = .ok (.slice a' (xs.length + s.size) c') w' ∧ BufZ base e w' a' (xs.length + s.size) c' (xs ++ bl s) ∧ Below base w w' := by
 have := BufZ.append (ty := ty) (ys := bl s) (tx := ts) H h hb (by rw [bl_size]; exact Src.ofString w hts s) (by rw [bl_size]; exact hlen)
 rw [bl_size] at this; exact this
theorem BufZ.ofStr {ts t : TypeId} (s : ByteArray) (hts : P.underlying ts = some .string) (H : SlT P t e 1 1) (he : P.underlying e = some (.int .u8)) (hlen : s.size ≤ 140737488355328) :
  ∃ a' c' w', Sem.run P (convert ts t (.string s)) w = .ok (.slice a' s.size c') w' ∧ BufZ w.heap.size e w' a' s.size c' (bl s) ∧ Ext w w' := by
 have hrun := Go.Lib.run_convert_string_bytes (P := P) w ts t e s hts H.under he
 have hnew := Go.Lib.bytesWorld_at_new w e s
 have hge := grownCap_ge w s.size 0 e
 have hsz : (Go.Lib.bytesCells w e s).size = grownCap w s.size 0 e := by
  simp [Go.Lib.bytesCells]
  have e1 : s.data.size = s.size := rfl
  omega
 refine ⟨_, _, _, hrun, ⟨(bl_size s).symm, by rw [bl_size]; exact hge, (grownCap_le_maxLen w s.size 0 e (by simp only [maxLen]; omega)), w.heap.size, _, _, _, rfl, Nat.le_refl _, hnew, .inr (Nat.le_refl _), hsz, ?_⟩,
  ⟨rfl, rfl, rfl, by rw [Go.Lib.bytesWorld_size]; omega, fun i hi => Go.Lib.bytesWorld_at_old w e s i hi⟩⟩
 unfold Go.Lib.bytesCells
 rw [Array.toList_append, List.take_append_of_le_length (by simp [bl]), List.take_of_length_le (by simp [bl])]
 simp only [bl, Array.toList_map]; rfl
theorem BufZ.str {src dst : TypeId} (hs : P.underlying src = some (.slice e)) (he : P.underlying e = some (.int .u8)) (hd : P.underlying dst = some .string) (h : BufZ base e w a l c xs) :
  ∃ t, Sem.run P (convert src dst (.slice a l c)) w = .ok (.string t) w ∧ bl t = xs := by
 obtain ⟨rfl, h2, h3, g, cur, p, q, rfl, h5, h6, h7, h8, h9⟩ := h
 refine ⟨⟨xs.toArray⟩, ?_, rfl⟩
 rw [run_convert_bytes_string w src dst e _ _ _ hs he hd]
 have hcell : ∀ j, w.cell? ⟨g, j, none⟩ = cur[j]? := fun j => by
  simp only [World.cell?]; rw [show w.heap[(⟨g, j, none⟩ : Addr).block]? = _ from h6]; rfl
 have := run_loadCells_list (P := P) (w := w) ⟨g, 0, none⟩ (xs.map cY) (fun j v hj => by
  have hlt : j < xs.length := by have := (List.getElem?_eq_some_iff.1 hj).1; simpa using this
  rw [add_mk, Nat.zero_add, hcell]
  rw [← h9, List.getElem?_take_of_lt (by omega), Array.getElem?_toList] at hj
  exact hj)
 rw [List.length_map] at this
 have e2 := run_bytesToString w ⟨g, 0, none⟩ xs.length c (xs.map fun x => ((x.toNat : Nat) : Int)) (by
  rw [List.map_map]; exact this)
 rw [e2, push_all]
 congr 2
end
end Go.V

namespace Go.Proofs.YtnmldggopnbclaaGreatDoor
open Go Go.Proofs
def itoaLay_ren : Go.Shelf.Ren := ⟨fun | 171 => 55 | 243 => 81 | 246 => 120 | 283 => 141 | 284 => 142 | 285 => 143 | 286 => 144 | 129 => 166 | 317 => 170 | 318 => 171 | 319 => 172 | 320 => 173 | 337 => 185 | 338 => 186 | n => n, fun | 3 => 3 | 9 => 9 | 2 => 2 | 4 => 4 | 171 => 164 | 0 => 0 | 53 => 165 | 37 => 120 | 5 => 5 | 173 => 168 | 212 => 190 | 51 => 186 | 20 => 20 | 213 => 191 | 46 => 156 | 232 => 208 | 233 => 209 | n => n, fun | 17 => 5 | 18 => 6 | 19 => 7 | n => n⟩
theorem itoaLay : LaysM.n171 Tryz.prog itoaLay_ren where
 mixed := by kernel_rfl
 f129 := Tryz.func166.trans (congrArg some (by kernel_rfl))
 f171 := Tryz.func55.trans (congrArg some (by kernel_rfl))
 f243 := Tryz.func81.trans (congrArg some (by kernel_rfl))
 f246 := Tryz.func120.trans (congrArg some (by kernel_rfl))
 f283 := Tryz.func141.trans (congrArg some (by kernel_rfl))
 f284 := Tryz.func142.trans (congrArg some (by kernel_rfl))
 f285 := Tryz.func143.trans (congrArg some (by kernel_rfl))
 f286 := Tryz.func144.trans (congrArg some (by kernel_rfl))
 f317 := Tryz.func170.trans (congrArg some (by kernel_rfl))
 f318 := Tryz.func171.trans (congrArg some (by kernel_rfl))
 f319 := Tryz.func172.trans (congrArg some (by kernel_rfl))
 f320 := Tryz.func173.trans (congrArg some (by kernel_rfl))
 f337 := Tryz.func185.trans (congrArg some (by kernel_rfl))
 f338 := Tryz.func186.trans (congrArg some (by kernel_rfl))
 t0 := Tryz.underlying0
 a0 := Tryz.isAgg0
 z0 := Tryz.sizeOf0
 v0 := Tryz.zeroValue0
 t2 := Tryz.underlying2
 a2 := Tryz.isAgg2
 z2 := Tryz.sizeOf2
 v2 := Tryz.zeroValue2
 t3 := Tryz.underlying3
 a3 := Tryz.isAgg3
 z3 := Tryz.sizeOf3
 v3 := Tryz.zeroValue3
 t4 := Tryz.underlying4
 a4 := Tryz.isAgg4
 z4 := Tryz.sizeOf4
 v4 := Tryz.zeroValue4
 t5 := Tryz.underlying5
 a5 := Tryz.isAgg5
 z5 := Tryz.sizeOf5
 v5 := Tryz.zeroValue5
 t9 := Tryz.underlying9
 a9 := Tryz.isAgg9
 z9 := Tryz.sizeOf9
 v9 := Tryz.zeroValue9
 t20 := Tryz.underlying20
 a20 := Tryz.isAgg20
 z20 := Tryz.sizeOf20
 v20 := Tryz.zeroValue20
 t37 := Tryz.underlying120
 a37 := Tryz.isAgg120
 z37 := Tryz.sizeOf120
 v37 := Tryz.zeroValue120
 t46 := Tryz.underlying156
 a46 := Tryz.isAgg156
 z46 := Tryz.sizeOf156
 v46 := Tryz.zeroValue156
 t51 := Tryz.underlying186
 a51 := Tryz.isAgg186
 z51 := Tryz.sizeOf186
 v51 := Tryz.zeroValue186
 t53 := Tryz.underlying165
 a53 := Tryz.isAgg165
 z53 := Tryz.sizeOf165
 v53 := Tryz.zeroValue165
 t171 := Tryz.underlying164
 a171 := Tryz.isAgg164
 z171 := Tryz.sizeOf164
 v171 := Tryz.zeroValue164
 t173 := Tryz.underlying168
 a173 := Tryz.isAgg168
 z173 := Tryz.sizeOf168
 v173 := Tryz.zeroValue168
 t212 := Tryz.underlying190
 a212 := Tryz.isAgg190
 z212 := Tryz.sizeOf190
 v212 := Tryz.zeroValue190
 t213 := Tryz.underlying191
 a213 := Tryz.isAgg191
 z213 := Tryz.sizeOf191
 t232 := Tryz.underlying208
 a232 := Tryz.isAgg208
 z232 := Tryz.sizeOf208
 v232 := Tryz.zeroValue208
 t233 := Tryz.underlying209
 a233 := Tryz.isAgg209
 z233 := Tryz.sizeOf209
 v233 := Tryz.zeroValue209
 g17 := by kernel_rfl
 g18 := by kernel_rfl
 g19 := by kernel_rfl
 i0 := by kernel_rfl
 i2 := by kernel_rfl
 i3 := by kernel_rfl
 i4 := by kernel_rfl
 i5 := by kernel_rfl
 i9 := by kernel_rfl
 i20 := by kernel_rfl
 i37 := by kernel_rfl
 i46 := by kernel_rfl
 i51 := by kernel_rfl
 i53 := by kernel_rfl
 i171 := by kernel_rfl
 i173 := by kernel_rfl
 i212 := by kernel_rfl
 i232 := by kernel_rfl
 i233 := by kernel_rfl
 m17 := by kernel_rfl
 m18 := by kernel_rfl
 m19 := by kernel_rfl
end Go.Proofs.YtnmldggopnbclaaGreatDoor

namespace Go.Proofs.YtnmldggopnbclaaGreatDoor
open Go Go.V Go.Proofs
open Go.RowKit (Below)
/-! internal/strconv.AppendUint -/
def N148 (a1 : Option Addr) (l1 : Nat) (c1 : Nat) (x2 : Int) (x3 : Int) (K : Option Addr → Nat → Nat → World → Prop) (w : World) : Prop :=
 BoolK (x3 == 10)
 (BoolK (decide (x2 < 100))
 (Calls Tryz.prog 141 #[(.int .i64 (IntKind.wrap .i64 x2))] w fun e6 w5 =>
 ∃ s4, e6 = .returned (.string s4) ∧
 (∃ a7, ∃ l7, ∃ c7, ∃ w8, Sem.run Tryz.prog (Builtin.append_ #[120, 9] 120 #[(.slice a1 l1 c1), (.string s4)]) w5 = .ok (.slice a7 l7 c7) w8 ∧
 (K a7 l7 c7 w8)))
 (AllocK w (#[.int .u8 0, .int .u8 0, .int .u8 0, .int .u8 0, .int .u8 0, .int .u8 0, .int .u8 0, .int .u8 0, .int .u8 0, .int .u8 0, .int .u8 0, .int .u8 0, .int .u8 0, .int .u8 0, .int .u8 0, .int .u8 0, .int .u8 0, .int .u8 0, .int .u8 0, .int .u8 0, .int .u8 0, .int .u8 0, .int .u8 0, .int .u8 0]) 164 fun b9 w10 =>
 Calls Tryz.prog 142 #[(.int .u64 x2)] w10 fun e13 w12 =>
 ∃ x11, e13 = .returned (.int .i64 x11) ∧
 (∃ a14, ∃ l14, ∃ c14, ∃ w15, Sem.run Tryz.prog (Instr.sliceAt 164 (.pointer (some b9)) none (some (.int .i64 x11)) none) w12 = .ok (.slice a14 l14 c14) w15 ∧
 (Calls Tryz.prog 143 #[(.slice a14 l14 c14), (.int .u64 x2)] w15 fun e17 w16 =>
 e17 = .returned (.tuple #[]) ∧
 (∃ a18, ∃ l18, ∃ c18, ∃ w19, Sem.run Tryz.prog (Instr.sliceAt 164 (.pointer (some b9)) none (some (.int .i64 x11)) none) w16 = .ok (.slice a18 l18 c18) w19 ∧
 (∃ a20, ∃ l20, ∃ c20, ∃ w21, Sem.run Tryz.prog (Builtin.append_ #[120, 120] 120 #[(.slice a1 l1 c1), (.slice a18 l18 c18)]) w19 = .ok (.slice a20 l20 c20) w21 ∧
 (K a20 l20 c20 w21)))))))
 (Calls Tryz.prog 144 #[(.slice a1 l1 c1), (.int .u64 x2), (.int .i64 x3), (.bool false), (.bool true)] w fun e25 w24 =>
 ∃ a22, ∃ l22, ∃ c22, ∃ s23, e25 = .returned (.tuple #[(.slice a22 l22 c22), (.string s23)]) ∧
 (K a22 l22 c22 w24))
def ann148 : Ann := (.two .nil (.two (.two .nil (.two (.two (.two .nil (.two (.two .nil .nil) .nil)) (.two .nil (.two .nil (.two .nil (.two .nil .nil))))) .nil)) (.two .nil (.two .nil .nil))))
noncomputable def code148 : Code := match Tryz.f148.body with | some c => c | none => .skip
theorem calls148 (a1 : Option Addr) (l1 : Nat) (c1 : Nat) (x2 : Int) (x3 : Int) (K : Option Addr → Nat → Nat → World → Prop) (w : World) (h : N148 a1 l1 c1 x2 x3 K w) : Calls Tryz.prog 148 #[(.slice a1 l1 c1), (.int .u64 x2), (.int .i64 x3)] w fun en w' => ∃ (a26 : Option Addr), ∃ (l26 : Nat), ∃ (c26 : Nat), en = .returned (.slice a26 l26 c26) ∧ K a26 l26 c26 w' :=
 fn_calls tabOk mixed Tryz.func148 (by kernel_rfl : Tryz.f148.body = some code148) ann148 [(.slice a1 l1 c1), (.int .u64 x2), (.int .i64 x3)] [(.one .slice)] K w (by kernel_rfl) (by kernel_rfl) (by kernel_rfl) h
end Go.Proofs.YtnmldggopnbclaaGreatDoor

namespace Go.Proofs.YtnmldggopnbclaaGreatDoor
open Go Go.V Go.Proofs
open Go.RowKit (Below)
/-! internal/strconv.AppendInt -/
def N124 (a1 : Option Addr) (l1 : Nat) (c1 : Nat) (x2 : Int) (x3 : Int) (K : Option Addr → Nat → Nat → World → Prop) (w : World) : Prop :=
 ∃ (J4 : Option Addr → Nat → Nat → Int → World → Prop),
 (∀ w5 a6 l6 c6 x7, J4 a6 l6 c6 x7 w5 →
 Calls Tryz.prog 148 #[(.slice a6 l6 c6), (.int .u64 x7), (.int .i64 x3)] w5 fun e10 w9 =>
 ∃ a8, ∃ l8, ∃ c8, e10 = .returned (.slice a8 l8 c8) ∧
 (K a8 l8 c8 w9)) ∧
 (BoolK (decide (x2 < 0))
 (AllocK w (#[(.int .u8 45)]) 5 fun b11 w12 =>
 ∃ a13, ∃ l13, ∃ c13, ∃ w14, Sem.run Tryz.prog (Builtin.append_ #[120, 120] 120 #[(.slice a1 l1 c1), (.slice (some b11) 1 1)]) w12 = .ok (.slice a13 l13 c13) w14 ∧
 (J4 a13 l13 c13 (IntKind.wrap .u64 (0 - (IntKind.wrap .u64 x2))) w14))
 (J4 a1 l1 c1 (IntKind.wrap .u64 x2) w))
def ann124 : Ann := (.two .nil (.two .nil (.cut [(0, (.one .slice)), (7, (.one (.int .u64)))] [2] (.two .nil (.two (.two .nil .nil) .nil)) (.two .nil .nil))))
noncomputable def code124 : Code := match Tryz.f124.body with | some c => c | none => .skip
theorem calls124 (a1 : Option Addr) (l1 : Nat) (c1 : Nat) (x2 : Int) (x3 : Int) (K : Option Addr → Nat → Nat → World → Prop) (w : World) (h : N124 a1 l1 c1 x2 x3 K w) : Calls Tryz.prog 124 #[(.slice a1 l1 c1), (.int .i64 x2), (.int .i64 x3)] w fun en w' => ∃ (a15 : Option Addr), ∃ (l15 : Nat), ∃ (c15 : Nat), en = .returned (.slice a15 l15 c15) ∧ K a15 l15 c15 w' :=
 fn_calls tabOk mixed Tryz.func124 (by kernel_rfl : Tryz.f124.body = some code124) ann124 [(.slice a1 l1 c1), (.int .i64 x2), (.int .i64 x3)] [(.one .slice)] K w (by kernel_rfl) (by kernel_rfl) (by kernel_rfl) h
end Go.Proofs.YtnmldggopnbclaaGreatDoor

namespace Go.Proofs.YtnmldggopnbclaaGreatDoor
open Go Go.V Go.Proofs
open Go.RowKit (Below)
/-! strconv.AppendInt -/
def N94 (a1 : Option Addr) (l1 : Nat) (c1 : Nat) (x2 : Int) (x3 : Int) (K : Option Addr → Nat → Nat → World → Prop) (w : World) : Prop :=
 Calls Tryz.prog 124 #[(.slice a1 l1 c1), (.int .i64 x2), (.int .i64 x3)] w fun e6 w5 =>
 ∃ a4, ∃ l4, ∃ c4, e6 = .returned (.slice a4 l4 c4) ∧
 (K a4 l4 c4 w5)
def ann94 : Ann := (.two .nil (.two .nil .nil))
noncomputable def code94 : Code := match Tryz.f94.body with | some c => c | none => .skip
theorem calls94 (a1 : Option Addr) (l1 : Nat) (c1 : Nat) (x2 : Int) (x3 : Int) (K : Option Addr → Nat → Nat → World → Prop) (w : World) (h : N94 a1 l1 c1 x2 x3 K w) : Calls Tryz.prog 94 #[(.slice a1 l1 c1), (.int .i64 x2), (.int .i64 x3)] w fun en w' => ∃ (a7 : Option Addr), ∃ (l7 : Nat), ∃ (c7 : Nat), en = .returned (.slice a7 l7 c7) ∧ K a7 l7 c7 w' :=
 fn_calls tabOk mixed Tryz.func94 (by kernel_rfl : Tryz.f94.body = some code94) ann94 [(.slice a1 l1 c1), (.int .i64 x2), (.int .i64 x3)] [(.one .slice)] K w (by kernel_rfl) (by kernel_rfl) (by kernel_rfl) h
end Go.Proofs.YtnmldggopnbclaaGreatDoor

namespace Go.Proofs.YtnmldggopnbclaaGreatDoor
open Go Go.V Go.Proofs Go.V.Gr
open Go.RowKit (Below)
def Tb (w : World) : Prop := Lib.TabIs Tryz.prog w "internal/strconv.uint64pow10" .u64 Lib.pow10Tab
theorem Tb.ext {w w' : World} (h : Tb w) (x : Ext w w') : Tb w' := Lib.tabBelow_of_tabIs h w' x
theorem Tb.below {w0 w : World} (h : Tb w0) (x : Below w0.heap.size w0 w) : Tb w := Lib.tabBelow_of_tabIs h w x
def i64 (n : Int) : Prop := -9223372036854775808 ≤ n ∧ n ≤ 9223372036854775807
theorem ctr55 (w : World) {n : Int} (hn : i64 n) (ht : Tb w) : Calls Tryz.prog 55 #[.int .i64 n] w fun en w' => ∃ s, en = .returned (.string s) ∧ (bl s = Lib.itoa n ∧ Ext w w') := by
 refine (Any.strconv_Itoa itoaLay n hn.1 hn.2 w ht).mono ?_
 rintro en w' ⟨rfl, k, os, rfl⟩
 exact ⟨_, rfl, rfl, Lib.below_grow _ w (Nat.le_refl _) k os⟩
theorem digits_len {u : Nat} (h : u < 18446744073709551616) : (Lib.decDigits u).length ≤ 20 := by
 rw [Lib.decDigits_length]
 by_cases h1 : 1 ≤ u
 ·have := Lib.numDigits_eq u h1 h; split at this <;> omega
 ·rw [Lib.nDigits_small (by omega)]; omega
theorem itoa_len {n : Int} (h : i64 n) : (Lib.itoa n).length ≤ 21 := by
 obtain ⟨h0, h1⟩ := h
 unfold Lib.itoa
 split
 ·have := digits_len (u := n.natAbs) (by omega)
  simp only [List.length_cons]; omega
 ·have := digits_len (u := n.toNat) (by omega); omega
theorem mapBlock_but (w : World) (b : Nat) (f : Array Value → Array Value) : But b w (Sort.mapBlock w b f) :=
 ⟨rfl, rfl, rfl, by simp [Sort.mapBlock], fun k hk => by simp [Sort.mapBlock, Array.getElem?_modify, Ne.symm hk]⟩
set_option maxRecDepth 100000 in
theorem ctr148 {base : Nat} {w : World} {a : Option Addr} {l c : Nat} {xs : List UInt8} (h : BufZ base 5 w a l c xs) (hb : base ≤ w.heap.size) (hlen : xs.length ≤ 100000000000000) {u : Nat} (hu : u < 18446744073709551616) (ht : Tb w) :
  Calls Tryz.prog 148 #[.slice a l c, .int .u64 u, .int .i64 10] w fun en w' => ∃ a' l' c', en = .returned (.slice a' l' c') ∧ (BufZ base 5 w' a' l' c' (xs ++ Lib.decDigits u) ∧ Below base w w') := by
 refine calls148 _ _ _ _ _ _ w ?_
 have hd := digits_len hu
 refine BoolK.mk (fun _ => BoolK.mk (fun t => ?_) (fun t => ?_)) (fun t => by cases t)
 ·have t : u < 100 := by have := of_decide_eq_true t; omega
  rw [wrap_id (by omega) (by omega)]
  refine (Any.internal_strconv_small { itoaLay with } u t w).mono ?_
  rintro en w5 ⟨rfl, rfl⟩
  have hs : (⟨(Lib.decDigits u).toArray⟩ : ByteArray).size = (Lib.decDigits u).length := by simp [ByteArray.size]
  obtain ⟨a', c', w', q1, q2, q3⟩ := h.appendS (ty := 120) (s := ⟨(Lib.decDigits u).toArray⟩) sltY Tryz.underlying9 hb (by rw [hs]; omega)
  exact ⟨_, rfl, _, _, _, _, q1, q2, q3⟩
 ·have t : 100 ≤ u := by have := of_decide_eq_false t; omega
  refine AllocK.mk fun b w10 hb10 hB10 x10 => ?_
  refine (Any.internal_strconv_numDigits { itoaLay with } u (by omega) hu w10 (ht.ext x10)).mono ?_
  rintro en w12 ⟨rfl, rfl⟩
  have hnd : Lib.nDigits u ≤ 20 := by rw [← Lib.decDigits_length]; exact hd
  have hal : Tryz.prog.arrayLen 164 = 24 := by kernel_rfl
  have hsl : ∀ W, (Instr.sliceAt 164 (.pointer (some ⟨b, 0, none⟩)) none (some (.int .i64 (Lib.nDigits u : Int))) none).run Tryz.prog W = .ok (.slice (some ⟨b, 0, none⟩) (Lib.nDigits u) 24) W := fun W => by
   have he : Tryz.prog.elem 164 = 5 := by kernel_rfl
   rw [run_sliceAt_array_h W 164 ⟨b, 0, none⟩ (by rw [hal, he]; exact Tryz.underlying164) .i64 (Lib.nDigits u : Int) (by omega) (by rw [hal]; omega), he, hal, Tryz.sizeOf5]
   simp [Result.andThen, slicedAt, add_mk]
  refine ⟨_, rfl, _, _, _, _, hsl _, ?_⟩
  have hH : Sort.Holds (fun (b : UInt8) => Value.int .u8 (b.toNat : Int)) w12 b 0 (Array.replicate (Lib.nDigits u) (0 : UInt8)) := fun j hj => by
   have hj : j < Lib.nDigits u := by simpa using hj
   refine ⟨?_, hB10.frozen _⟩
   rw [Nat.zero_add, hB10.cell, getElem!_pos _ j (by simpa using hj)]
   have : ∀ i, i < 24 → (#[Value.int .u8 0, .int .u8 0, .int .u8 0, .int .u8 0, .int .u8 0, .int .u8 0, .int .u8 0, .int .u8 0, .int .u8 0, .int .u8 0, .int .u8 0, .int .u8 0, .int .u8 0, .int .u8 0, .int .u8 0, .int .u8 0, .int .u8 0, .int .u8 0, .int .u8 0, .int .u8 0, .int .u8 0, .int .u8 0, .int .u8 0, .int .u8 0] : Array Value)[i]? = some (.int .u8 0) := fun i hi => Lib.zeros24_at i hi
   rw [this j (by omega)]; simp
  have hfmt := Any.internal_strconv_formatBase10 { itoaLay with } b 0 24 u (Array.replicate (Lib.nDigits u) 0) w12 hH (by rw [Array.size_replicate]; exact Lib.lt_pow_nDigits u) hu (by rw [Array.size_replicate]; omega)
  rw [Array.size_replicate] at hfmt
  refine hfmt.mono ?_
  rintro en w16 ⟨rfl, k, v', dk, rfl, hF⟩
  refine ⟨rfl, _, _, _, _, hsl _, ?_⟩
  have hbut : But b w12 (Sort.putRow (fun (b : UInt8) => Value.int .u8 (b.toNat : Int)) w12 b 0 dk) := mapBlock_but _ _ _
  have hdr : Ext (Sort.putRow (fun (b : UInt8) => Value.int .u8 (b.toNat : Int)) w12 b 0 dk) ((Sort.putRow (fun (b : UInt8) => Value.int .u8 (b.toNat : Int)) w12 b 0 dk).drewN k) := ⟨rfl, rfl, rfl, Nat.le_refl _, fun _ _ => rfl⟩
  have hcells : ∀ j u', ((Lib.decDigits u).map cY)[j]? = some u' → ((Sort.putRow (fun (b : UInt8) => Value.int .u8 (b.toNat : Int)) w12 b 0 dk).drewN k).cell? ((⟨b, 0, none⟩ : Addr).add j) = some u' := by
   intro j u' hj
   have hjl : j < (Lib.decDigits u).length := by have := (List.getElem?_eq_some_iff.1 hj).1; simpa using this
   rw [List.getElem?_map, List.getElem?_eq_getElem hjl] at hj
   cases hj
   rw [Lib.row_is_numeral hF j hjl, Lib.add_plain, World.cell?_drewN]
   exact Sort.cell?_putRow (fun (b : UInt8) => Value.int .u8 (b.toNat : Int)) _ b 0 _ dk hH (by rw [hF.size, Array.size_replicate]) j (by rw [hF.size]; rw [Lib.decDigits_length] at hjl; exact hjl)
  have x12 : Ext w ((Sort.putRow (fun (b : UInt8) => Value.int .u8 (b.toNat : Int)) w12 b 0 dk).drewN k) := Below.trans (hbut.below x10 (by omega)) (hdr.mono (by rw [hbut.size]; exact x10.size))
  generalize (Sort.putRow (fun (b : UInt8) => Value.int .u8 (b.toNat : Int)) w12 b 0 dk).drewN k = W2 at hcells x12
  have hl2 := Lib.decDigits_length u
  obtain ⟨a', c', w', q1, q2, q3⟩ := (h.ext x12).append (ty := 120) (tx := 120) (ys := Lib.decDigits u) (x := .slice (some ⟨b, 0, none⟩) (Lib.nDigits u) 24) sltY (Nat.le_trans hb x12.size)
   (by rw [hl2]; exact Src.ofSlice W2 sltY.under ⟨b, 0, none⟩ (Lib.nDigits u) 24 _ (by simp [hl2]) hcells (fun u hu => by obtain ⟨_, _, rfl⟩ := List.mem_map.1 hu; rfl)) (by omega)
  exact ⟨_, _, _, _, q1, q2, (x12.mono hb).trans q3⟩
theorem ctr124 {base : Nat} {w : World} {a : Option Addr} {l c : Nat} {xs : List UInt8} (h : BufZ base 5 w a l c xs) (hb : base ≤ w.heap.size) (hlen : xs.length ≤ 100000000000000) {n : Int} (h0 : 0 ≤ n) (h1 : n ≤ 9223372036854775807) (ht : Tb w) :
  Calls Tryz.prog 124 #[.slice a l c, .int .i64 n, .int .i64 10] w fun en w' => ∃ a' l' c', en = .returned (.slice a' l' c') ∧ (BufZ base 5 w' a' l' c' (xs ++ Lib.itoa n) ∧ Below base w w') := by
 refine calls124 _ _ _ _ _ _ w ?_
 obtain ⟨u, rfl⟩ : ∃ u : Nat, n = u := ⟨n.toNat, by omega⟩
 refine ⟨fun a' l' c' x w' => a' = a ∧ l' = l ∧ c' = c ∧ x = (u : Int) ∧ w' = w, ?_, BoolK.mk (fun t => by have := of_decide_eq_true t; omega) (fun _ => ⟨rfl, rfl, rfl, by rw [IntKind.wrap_u64]; omega, rfl⟩)⟩
 rintro w5 a' l' c' x ⟨rfl, rfl, rfl, rfl, rfl⟩
 refine (ctr148 h hb hlen (u := u) (by omega) ht).mono ?_
 rintro en w9 ⟨a2, l2, c2, rfl, q1, q2⟩
 exact ⟨_, _, _, rfl, by rw [Lib.itoa_nonneg]; exact q1, q2⟩
theorem ctr94 {base : Nat} {w : World} {a : Option Addr} {l c : Nat} {xs : List UInt8} (h : BufZ base 5 w a l c xs) (hb : base ≤ w.heap.size) (hlen : xs.length ≤ 100000000000000) {n : Int} (h0 : 0 ≤ n) (h1 : n ≤ 9223372036854775807) (ht : Tb w) :
  Calls Tryz.prog 94 #[.slice a l c, .int .i64 n, .int .i64 10] w fun en w' => ∃ a' l' c', en = .returned (.slice a' l' c') ∧ (BufZ base 5 w' a' l' c' (xs ++ Lib.itoa n) ∧ Below base w w') := by
 refine calls94 _ _ _ _ _ _ w ?_
 refine (ctr124 h hb hlen h0 h1 ht).mono ?_
 rintro en w9 ⟨a2, l2, c2, rfl, q⟩
 exact ⟨_, _, _, rfl, q⟩
end Go.Proofs.YtnmldggopnbclaaGreatDoor

namespace Go.Proofs.YtnmldggopnbclaaGreatDoor
open Go Go.V Go.Proofs
open Go.RowKit (Below)
/-! strconv.IsPrint -/
def N187 (x1 : Int) (K : Bool → World → Prop) (w : World) : Prop :=
 BoolK (decide (x1 ≤ 255))
 (∃ (J2 : World → Prop),
 (∀ w3, J2 w3 →
 BoolK (decide ((161 : Int) ≤ x1))
 (BoolK (decide (x1 ≤ 255))
 (K (x1 != 173) w3)
 (K false w3))
 (K false w3)) ∧
 (BoolK (decide ((32 : Int) ≤ x1))
 (BoolK (decide (x1 ≤ 126))
 (K true w)
 (J2 w))
 (J2 w)))
 (∃ (J4 : Bool → World → Prop),
 (∀ w5 p6, J4 p6 w5 →
 BoolK p6
 (DrewK w5 fun w7 =>
 ∃ a8 l8 c8, w7.cell? (⟨8, 0, none⟩) = some (.slice a8 l8 c8) ∧
 (∃ a9 l9 c9, w7.cell? (⟨9, 0, none⟩) = some (.slice a9 l9 c9) ∧
 (Calls Tryz.prog 194 #[(.slice a8 l8 c8), (.int .u16 (IntKind.wrap .u16 x1))] w7 fun e13 w12 =>
 ∃ x10, ∃ p11, e13 = .returned (.tuple #[(.int .i64 x10), (.bool p11)]) ∧
 (BoolK (decide (x10 ≥ l8))
 (K false w12)
 ((0 ≤ (IntKind.wrap .i64 (((BitVec.ofInt (IntKind.bits .i64) x10) &&& ~~~(BitVec.ofInt (IntKind.bits .i64) 1)).toNat) : Int) ∧ (IntKind.wrap .i64 (((BitVec.ofInt (IntKind.bits .i64) x10) &&& ~~~(BitVec.ofInt (IntKind.bits .i64) 1)).toNat) : Int) < l8) ∧
 AddrK a8 fun b14 =>
 ∃ x15, w12.cell? (b14.add ((IntKind.wrap .i64 (((BitVec.ofInt (IntKind.bits .i64) x10) &&& ~~~(BitVec.ofInt (IntKind.bits .i64) 1)).toNat) : Int).toNat * 1)) = some (.int .u16 x15) ∧
 (BoolK (decide ((IntKind.wrap .u16 x1 : Int) < x15))
 (K false w12)
 ((0 ≤ (IntKind.wrap .i64 (((BitVec.ofInt (IntKind.bits .i64) x10) ||| (BitVec.ofInt (IntKind.bits .i64) 1)).toNat) : Int) ∧ (IntKind.wrap .i64 (((BitVec.ofInt (IntKind.bits .i64) x10) ||| (BitVec.ofInt (IntKind.bits .i64) 1)).toNat) : Int) < l8) ∧
 AddrK a8 fun b16 =>
 ∃ x17, w12.cell? (b16.add ((IntKind.wrap .i64 (((BitVec.ofInt (IntKind.bits .i64) x10) ||| (BitVec.ofInt (IntKind.bits .i64) 1)).toNat) : Int).toNat * 1)) = some (.int .u16 x17) ∧
 (BoolK (decide (x17 < IntKind.wrap .u16 x1))
 (K false w12)
 (Calls Tryz.prog 194 #[(.slice a9 l9 c9), (.int .u16 (IntKind.wrap .u16 x1))] w12 fun e21 w20 =>
 ∃ x18, ∃ p19, e21 = .returned (.tuple #[(.int .i64 x18), (.bool p19)]) ∧
 (K (!p19) w20))))))))))
 (DrewK w5 fun w22 =>
 ∃ a23 l23 c23, w22.cell? (⟨10, 0, none⟩) = some (.slice a23 l23 c23) ∧
 (∃ a24 l24 c24, w22.cell? (⟨11, 0, none⟩) = some (.slice a24 l24 c24) ∧
 (Calls Tryz.prog 195 #[(.slice a23 l23 c23), (.int .u32 (IntKind.wrap .u32 x1))] w22 fun e28 w27 =>
 ∃ x25, ∃ p26, e28 = .returned (.tuple #[(.int .i64 x25), (.bool p26)]) ∧
 (BoolK (decide (x25 ≥ l23))
 (K false w27)
 ((0 ≤ (IntKind.wrap .i64 (((BitVec.ofInt (IntKind.bits .i64) x25) &&& ~~~(BitVec.ofInt (IntKind.bits .i64) 1)).toNat) : Int) ∧ (IntKind.wrap .i64 (((BitVec.ofInt (IntKind.bits .i64) x25) &&& ~~~(BitVec.ofInt (IntKind.bits .i64) 1)).toNat) : Int) < l23) ∧
 AddrK a23 fun b29 =>
 ∃ x30, w27.cell? (b29.add ((IntKind.wrap .i64 (((BitVec.ofInt (IntKind.bits .i64) x25) &&& ~~~(BitVec.ofInt (IntKind.bits .i64) 1)).toNat) : Int).toNat * 1)) = some (.int .u32 x30) ∧
 (BoolK (decide ((IntKind.wrap .u32 x1 : Int) < x30))
 (K false w27)
 ((0 ≤ (IntKind.wrap .i64 (((BitVec.ofInt (IntKind.bits .i64) x25) ||| (BitVec.ofInt (IntKind.bits .i64) 1)).toNat) : Int) ∧ (IntKind.wrap .i64 (((BitVec.ofInt (IntKind.bits .i64) x25) ||| (BitVec.ofInt (IntKind.bits .i64) 1)).toNat) : Int) < l23) ∧
 AddrK a23 fun b31 =>
 ∃ x32, w27.cell? (b31.add ((IntKind.wrap .i64 (((BitVec.ofInt (IntKind.bits .i64) x25) ||| (BitVec.ofInt (IntKind.bits .i64) 1)).toNat) : Int).toNat * 1)) = some (.int .u32 x32) ∧
 (BoolK (decide (x32 < IntKind.wrap .u32 x1))
 (K false w27)
 (BoolK (decide (x1 ≥ 131072))
 (K true w27)
 (Calls Tryz.prog 194 #[(.slice a24 l24 c24), (.int .u16 (IntKind.wrap .u16 (IntKind.wrap .i32 (x1 - 65536))))] w27 fun e36 w35 =>
 ∃ x33, ∃ p34, e36 = .returned (.tuple #[(.int .i64 x33), (.bool p34)]) ∧
 (K (!p34) w35)))))))))))) ∧
 (BoolK (decide ((0 : Int) ≤ x1))
 (J4 (decide (x1 < 65536)) w)
 (J4 false w)))
def ann187 : Ann := (.two .nil (.two (.two .nil (.two (.cut [] [0] (.two .nil (.two (.two .nil .nil) .nil)) (.two (.two .nil (.two (.two .nil .nil) .nil)) (.two .nil .nil))) .nil)) (.two (.cut [(38, (.one .bool))] [0] .nil (.two (.two (.anyC 7 (.take 0 (.take 1 (.take 2 (.take 3 (.take 4 (.take 5 (.take 6 .done)))))))) (.two .nil (.two (.two .nil (.two (.two .nil .nil) .nil)) (.two .nil (.two .nil .nil))))) .nil)) (.two (.anyC 7 (.take 0 (.take 1 (.take 2 (.take 3 (.take 4 (.take 5 (.take 6 .done)))))))) (.two .nil (.two (.two .nil (.two (.two .nil .nil) .nil)) (.two (.two .nil (.two (.two .nil .nil) .nil)) (.two .nil (.two .nil (.two .nil .nil))))))))))
noncomputable def code187 : Code := match Tryz.f187.body with | some c => c | none => .skip
theorem calls187 (x1 : Int) (K : Bool → World → Prop) (w : World) (h : N187 x1 K w) : Calls Tryz.prog 187 #[(.int .i32 x1)] w fun en w' => ∃ (p37 : Bool), en = .returned (.bool p37) ∧ K p37 w' :=
 fn_calls tabOk mixed Tryz.func187 (by kernel_rfl : Tryz.f187.body = some code187) ann187 [(.int .i32 x1)] [(.one .bool)] K w (by kernel_rfl) (by kernel_rfl) (by kernel_rfl) h
end Go.Proofs.YtnmldggopnbclaaGreatDoor

namespace Go.Proofs.YtnmldggopnbclaaGreatDoor
open Go Go.V Go.Proofs
open Go.RowKit (Below)
/-! unicode/utf8.AppendRune -/
def N189 (a1 : Option Addr) (l1 : Nat) (c1 : Nat) (x2 : Int) (K : Option Addr → Nat → Nat → World → Prop) (w : World) : Prop :=
 BoolK (decide ((IntKind.wrap .u32 x2 : Int) ≤ 127))
 (AllocK w (#[(.int .u8 (IntKind.wrap .u8 x2))]) 5 fun b3 w4 =>
 ∃ a5, ∃ l5, ∃ c5, ∃ w6, Sem.run Tryz.prog (Builtin.append_ #[120, 120] 120 #[(.slice a1 l1 c1), (.slice (some b3) 1 1)]) w4 = .ok (.slice a5 l5 c5) w6 ∧
 (K a5 l5 c5 w6))
 (Calls Tryz.prog 196 #[(.slice a1 l1 c1), (.int .i32 x2)] w fun e9 w8 =>
 ∃ a7, ∃ l7, ∃ c7, e9 = .returned (.slice a7 l7 c7) ∧
 (K a7 l7 c7 w8))
def ann189 : Ann := (.two .nil (.two (.two .nil (.two (.two .nil .nil) .nil)) (.two .nil .nil)))
noncomputable def code189 : Code := match Tryz.f189.body with | some c => c | none => .skip
theorem calls189 (a1 : Option Addr) (l1 : Nat) (c1 : Nat) (x2 : Int) (K : Option Addr → Nat → Nat → World → Prop) (w : World) (h : N189 a1 l1 c1 x2 K w) : Calls Tryz.prog 189 #[(.slice a1 l1 c1), (.int .i32 x2)] w fun en w' => ∃ (a10 : Option Addr), ∃ (l10 : Nat), ∃ (c10 : Nat), en = .returned (.slice a10 l10 c10) ∧ K a10 l10 c10 w' :=
 fn_calls tabOk mixed Tryz.func189 (by kernel_rfl : Tryz.f189.body = some code189) ann189 [(.slice a1 l1 c1), (.int .i32 x2)] [(.one .slice)] K w (by kernel_rfl) (by kernel_rfl) (by kernel_rfl) h
end Go.Proofs.YtnmldggopnbclaaGreatDoor

namespace Go.Proofs.YtnmldggopnbclaaGreatDoor
open Go Go.V Go.Proofs
open Go.RowKit (Below)
/-! unicode/utf8.DecodeRuneInString -/
def N79 (s1 : ByteArray) (K : Int → Int → World → Prop) (w : World) : Prop :=
 ∃ (J2 : Bool → World → Prop),
 (∀ w3 p4, J2 p4 w3 →
 BoolK p4
 (∃ (u5 : UInt8), (0 ≤ (0 : Int) ∧ s1[(0 : Int).toNat]? = some u5) ∧
 (K (IntKind.wrap .i32 u5.toNat) 1 w3))
 (Calls Tryz.prog 119 #[(.string s1)] w3 fun e9 w8 =>
 ∃ x6, ∃ x7, e9 = .returned (.tuple #[(.int .i32 x6), (.int .i64 x7)]) ∧
 (K x6 x7 w8))) ∧
 (BoolK (!(s1.toList == (⟨#[]⟩ : ByteArray).toList))
 (∃ (u10 : UInt8), (0 ≤ (0 : Int) ∧ s1[(0 : Int).toNat]? = some u10) ∧
 (J2 (decide ((u10.toNat : Int) < 128)) w))
 (J2 false w))
def ann79 : Ann := (.two .nil (.two (.cut [(10, (.one .bool))] [0] .nil (.two (.two .nil .nil) .nil)) .nil))
noncomputable def code79 : Code := match Tryz.f79.body with | some c => c | none => .skip
theorem calls79 (s1 : ByteArray) (K : Int → Int → World → Prop) (w : World) (h : N79 s1 K w) : Calls Tryz.prog 79 #[(.string s1)] w fun en w' => ∃ (x11 : Int), ∃ (x12 : Int), en = .returned (.tuple #[(.int .i32 x11), (.int .i64 x12)]) ∧ K x11 x12 w' :=
 fn_calls tabOk mixed Tryz.func79 (by kernel_rfl : Tryz.f79.body = some code79) ann79 [(.string s1)] [(.one (.int .i32)), (.one (.int .i64))] K w (by kernel_rfl) (by kernel_rfl) (by kernel_rfl) h
end Go.Proofs.YtnmldggopnbclaaGreatDoor

namespace Go.Proofs.YtnmldggopnbclaaGreatDoor
open Go Go.V Go.Proofs
open Go.RowKit (Below)
/-! strconv.appendEscapedRune -/
def N174 (a1 : Option Addr) (l1 : Nat) (c1 : Nat) (x2 : Int) (x3 : Int) (p4 : Bool) (p5 : Bool) (K : Option Addr → Nat → Nat → World → Prop) (w : World) : Prop :=
 ∃ (J6 : Bool → World → Prop),
 (∀ w7 p8, J6 p8 w7 →
 BoolK p8
 (AllocK w7 (#[(.int .u8 92)]) 5 fun b9 w10 =>
 ∃ a11, ∃ l11, ∃ c11, ∃ w12, Sem.run Tryz.prog (Builtin.append_ #[120, 120] 120 #[(.slice a1 l1 c1), (.slice (some b9) 1 1)]) w10 = .ok (.slice a11 l11 c11) w12 ∧
 (AllocK w12 (#[(.int .u8 (IntKind.wrap .u8 x2))]) 5 fun b13 w14 =>
 ∃ a15, ∃ l15, ∃ c15, ∃ w16, Sem.run Tryz.prog (Builtin.append_ #[120, 120] 120 #[(.slice a11 l11 c11), (.slice (some b13) 1 1)]) w14 = .ok (.slice a15 l15 c15) w16 ∧
 (K a15 l15 c15 w16)))
 (∃ (J17 : Option Addr → Nat → Nat → World → Prop),
 (∀ w18 a19 l19 c19, J17 a19 l19 c19 w18 →
 BoolK (x2 == 7)
 (∃ a20, ∃ l20, ∃ c20, ∃ w21, Sem.run Tryz.prog (Builtin.append_ #[120, 9] 120 #[(.slice a19 l19 c19), (.string (⟨#[92, 97]⟩ : ByteArray))]) w18 = .ok (.slice a20 l20 c20) w21 ∧
 (K a20 l20 c20 w21))
 (BoolK (x2 == 8)
 (∃ a22, ∃ l22, ∃ c22, ∃ w23, Sem.run Tryz.prog (Builtin.append_ #[120, 9] 120 #[(.slice a19 l19 c19), (.string (⟨#[92, 98]⟩ : ByteArray))]) w18 = .ok (.slice a22 l22 c22) w23 ∧
 (K a22 l22 c22 w23))
 (BoolK (x2 == 12)
 (∃ a24, ∃ l24, ∃ c24, ∃ w25, Sem.run Tryz.prog (Builtin.append_ #[120, 9] 120 #[(.slice a19 l19 c19), (.string (⟨#[92, 102]⟩ : ByteArray))]) w18 = .ok (.slice a24 l24 c24) w25 ∧
 (K a24 l24 c24 w25))
 (BoolK (x2 == 10)
 (∃ a26, ∃ l26, ∃ c26, ∃ w27, Sem.run Tryz.prog (Builtin.append_ #[120, 9] 120 #[(.slice a19 l19 c19), (.string (⟨#[92, 110]⟩ : ByteArray))]) w18 = .ok (.slice a26 l26 c26) w27 ∧
 (K a26 l26 c26 w27))
 (BoolK (x2 == 13)
 (∃ a28, ∃ l28, ∃ c28, ∃ w29, Sem.run Tryz.prog (Builtin.append_ #[120, 9] 120 #[(.slice a19 l19 c19), (.string (⟨#[92, 114]⟩ : ByteArray))]) w18 = .ok (.slice a28 l28 c28) w29 ∧
 (K a28 l28 c28 w29))
 (BoolK (x2 == 9)
 (∃ a30, ∃ l30, ∃ c30, ∃ w31, Sem.run Tryz.prog (Builtin.append_ #[120, 9] 120 #[(.slice a19 l19 c19), (.string (⟨#[92, 116]⟩ : ByteArray))]) w18 = .ok (.slice a30 l30 c30) w31 ∧
 (K a30 l30 c30 w31))
 (BoolK (x2 == 11)
 (∃ a32, ∃ l32, ∃ c32, ∃ w33, Sem.run Tryz.prog (Builtin.append_ #[120, 9] 120 #[(.slice a19 l19 c19), (.string (⟨#[92, 118]⟩ : ByteArray))]) w18 = .ok (.slice a32 l32 c32) w33 ∧
 (K a32 l32 c32 w33))
 (∃ (J34 : Option Addr → Nat → Nat → Int → World → Prop),
 (∀ w35 a36 l36 c36 x37, J34 a36 l36 c36 x37 w35 →
 ∃ a38, ∃ l38, ∃ c38, ∃ w39, Sem.run Tryz.prog (Builtin.append_ #[120, 9] 120 #[(.slice a36 l36 c36), (.string (⟨#[92, 117]⟩ : ByteArray))]) w35 = .ok (.slice a38 l38 c38) w39 ∧
 (∃ (I40 : Option Addr → Nat → Nat → Int → World → Prop) (μ41 : Option Addr → Nat → Nat → Int → World → Nat),
 (I40 a38 l38 c38 12 w39 ∧ True) ∧
 ∀ w42 a43 l43 c43 x44, I40 a43 l43 c43 x44 w42 →
 BoolK (decide (x44 ≥ 0))
 (0 ≤ (IntKind.wrap .u64 x44 : Int) ∧
 (∃ (u45 : UInt8), (0 ≤ (IntKind.wrap .i32 (((BitVec.ofInt (IntKind.bits .i32) (x37.fdiv (2 ^ (min (IntKind.wrap .u64 x44 : Int).toNat (IntKind.bits .i32))))) &&& (BitVec.ofInt (IntKind.bits .i32) 15)).toNat) : Int) ∧ (⟨#[48, 49, 50, 51, 52, 53, 54, 55, 56, 57, 97, 98, 99, 100, 101, 102]⟩ : ByteArray)[(IntKind.wrap .i32 (((BitVec.ofInt (IntKind.bits .i32) (x37.fdiv (2 ^ (min (IntKind.wrap .u64 x44 : Int).toNat (IntKind.bits .i32))))) &&& (BitVec.ofInt (IntKind.bits .i32) 15)).toNat) : Int).toNat]? = some u45) ∧
 (AllocK w42 (#[(.int .u8 u45.toNat)]) 5 fun b46 w47 =>
 ∃ a48, ∃ l48, ∃ c48, ∃ w49, Sem.run Tryz.prog (Builtin.append_ #[120, 120] 120 #[(.slice a43 l43 c43), (.slice (some b46) 1 1)]) w47 = .ok (.slice a48 l48 c48) w49 ∧
 (I40 a48 l48 c48 (IntKind.wrap .i64 (x44 - 4)) w49 ∧ μ41 a48 l48 c48 (IntKind.wrap .i64 (x44 - 4)) w49 < μ41 a43 l43 c43 x44 w42))))
 (K a43 l43 c43 w42))) ∧
 (∃ (J50 : World → Prop),
 (∀ w51, J50 w51 →
 ∃ a52, ∃ l52, ∃ c52, ∃ w53, Sem.run Tryz.prog (Builtin.append_ #[120, 9] 120 #[(.slice a19 l19 c19), (.string (⟨#[92, 120]⟩ : ByteArray))]) w51 = .ok (.slice a52 l52 c52) w53 ∧
 (0 ≤ (4 : Int) ∧
 (∃ (u54 : UInt8), (0 ≤ ((IntKind.wrap .u8 x2 : Int).fdiv (2 ^ (min (4 : Int).toNat (IntKind.bits .u8))) : Int) ∧ (⟨#[48, 49, 50, 51, 52, 53, 54, 55, 56, 57, 97, 98, 99, 100, 101, 102]⟩ : ByteArray)[((IntKind.wrap .u8 x2 : Int).fdiv (2 ^ (min (4 : Int).toNat (IntKind.bits .u8))) : Int).toNat]? = some u54) ∧
 (AllocK w53 (#[(.int .u8 u54.toNat)]) 5 fun b55 w56 =>
 ∃ a57, ∃ l57, ∃ c57, ∃ w58, Sem.run Tryz.prog (Builtin.append_ #[120, 120] 120 #[(.slice a52 l52 c52), (.slice (some b55) 1 1)]) w56 = .ok (.slice a57 l57 c57) w58 ∧
 (∃ (u59 : UInt8), (0 ≤ (IntKind.wrap .u8 (((BitVec.ofInt (IntKind.bits .u8) (IntKind.wrap .u8 x2)) &&& (BitVec.ofInt (IntKind.bits .u8) 15)).toNat) : Int) ∧ (⟨#[48, 49, 50, 51, 52, 53, 54, 55, 56, 57, 97, 98, 99, 100, 101, 102]⟩ : ByteArray)[(IntKind.wrap .u8 (((BitVec.ofInt (IntKind.bits .u8) (IntKind.wrap .u8 x2)) &&& (BitVec.ofInt (IntKind.bits .u8) 15)).toNat) : Int).toNat]? = some u59) ∧
 (AllocK w58 (#[(.int .u8 u59.toNat)]) 5 fun b60 w61 =>
 ∃ a62, ∃ l62, ∃ c62, ∃ w63, Sem.run Tryz.prog (Builtin.append_ #[120, 120] 120 #[(.slice a57 l57 c57), (.slice (some b60) 1 1)]) w61 = .ok (.slice a62 l62 c62) w63 ∧
 (K a62 l62 c62 w63))))))) ∧
 (BoolK (decide (x2 < 32))
 (J50 w18)
 (BoolK (x2 == 127)
 (J50 w18)
 (Calls Tryz.prog 190 #[(.int .i32 x2)] w18 fun e66 w65 =>
 ∃ p64, e66 = .returned (.bool p64) ∧
 (BoolK (!p64)
 (J34 a19 l19 c19 65533 w65)
 (BoolK (decide (x2 < 65536))
 (J34 a19 l19 c19 x2 w65)
 (∃ a67, ∃ l67, ∃ c67, ∃ w68, Sem.run Tryz.prog (Builtin.append_ #[120, 9] 120 #[(.slice a19 l19 c19), (.string (⟨#[92, 85]⟩ : ByteArray))]) w65 = .ok (.slice a67 l67 c67) w68 ∧
 (∃ (I69 : Option Addr → Nat → Nat → Int → World → Prop) (μ70 : Option Addr → Nat → Nat → Int → World → Nat),
 (I69 a67 l67 c67 28 w68 ∧ True) ∧
 ∀ w71 a72 l72 c72 x73, I69 a72 l72 c72 x73 w71 →
 BoolK (decide (x73 ≥ 0))
 (0 ≤ (IntKind.wrap .u64 x73 : Int) ∧
 (∃ (u74 : UInt8), (0 ≤ (IntKind.wrap .i32 (((BitVec.ofInt (IntKind.bits .i32) (x2.fdiv (2 ^ (min (IntKind.wrap .u64 x73 : Int).toNat (IntKind.bits .i32))))) &&& (BitVec.ofInt (IntKind.bits .i32) 15)).toNat) : Int) ∧ (⟨#[48, 49, 50, 51, 52, 53, 54, 55, 56, 57, 97, 98, 99, 100, 101, 102]⟩ : ByteArray)[(IntKind.wrap .i32 (((BitVec.ofInt (IntKind.bits .i32) (x2.fdiv (2 ^ (min (IntKind.wrap .u64 x73 : Int).toNat (IntKind.bits .i32))))) &&& (BitVec.ofInt (IntKind.bits .i32) 15)).toNat) : Int).toNat]? = some u74) ∧
 (AllocK w71 (#[(.int .u8 u74.toNat)]) 5 fun b75 w76 =>
 ∃ a77, ∃ l77, ∃ c77, ∃ w78, Sem.run Tryz.prog (Builtin.append_ #[120, 120] 120 #[(.slice a72 l72 c72), (.slice (some b75) 1 1)]) w76 = .ok (.slice a77 l77 c77) w78 ∧
 (I69 a77 l77 c77 (IntKind.wrap .i64 (x73 - 4)) w78 ∧ μ70 a77 l77 c77 (IntKind.wrap .i64 (x73 - 4)) w78 < μ70 a72 l72 c72 x73 w71))))
 (K a72 l72 c72 w71))))))))))))))))) ∧
 (BoolK p4
 (∃ (J79 : Bool → World → Prop),
 (∀ w80 p81, J79 p81 w80 →
 BoolK p81
 (AllocK w80 (#[(.int .u8 (IntKind.wrap .u8 x2))]) 5 fun b82 w83 =>
 ∃ a84, ∃ l84, ∃ c84, ∃ w85, Sem.run Tryz.prog (Builtin.append_ #[120, 120] 120 #[(.slice a1 l1 c1), (.slice (some b82) 1 1)]) w83 = .ok (.slice a84 l84 c84) w85 ∧
 (K a84 l84 c84 w85))
 (J17 a1 l1 c1 w80)) ∧
 (BoolK (decide (x2 < 128))
 (Calls Tryz.prog 187 #[(.int .i32 x2)] w7 fun e88 w87 =>
 ∃ p86, e88 = .returned (.bool p86) ∧
 (J79 p86 w87))
 (J79 false w7)))
 (∃ (J89 : Bool → World → Prop),
 (∀ w90 p91, J89 p91 w90 →
 BoolK p91
 (Calls Tryz.prog 189 #[(.slice a1 l1 c1), (.int .i32 x2)] w90 fun e94 w93 =>
 ∃ a92, ∃ l92, ∃ c92, e94 = .returned (.slice a92 l92 c92) ∧
 (K a92 l92 c92 w93))
 (J17 a1 l1 c1 w90)) ∧
 (Calls Tryz.prog 187 #[(.int .i32 x2)] w7 fun e97 w96 =>
 ∃ p95, e97 = .returned (.bool p95) ∧
 (BoolK p95
 (J89 true w96)
 (BoolK p5
 (Calls Tryz.prog 188 #[(.int .i32 x2)] w96 fun e100 w99 =>
 ∃ p98, e100 = .returned (.bool p98) ∧
 (J89 p98 w99))
 (J89 false w96)))))))) ∧
 (BoolK (x2 == IntKind.wrap .i32 x3)
 (J6 true w)
 (J6 (x2 == 92) w))
def ann174 : Ann := (.two .nil (.two (.cut [(20, (.one .bool))] [0, 1, 3, 4] .nil (.two (.two .nil (.two .nil (.two .nil .nil))) .nil)) (.cut [(0, (.one .slice))] [1] (.two .nil (.two (.cut [(36, (.one .bool))] [0, 1] .nil (.two (.two .nil (.two .nil .nil)) .nil)) (.cut [(51, (.one .bool))] [0, 1] .nil (.two (.two .nil .nil) .nil)))) (.two (.two .nil (.one (.two .nil (.two .nil (.two .nil (.two .nil (.two .nil (.two .nil (.two .nil (.two .nil (.two .nil (.two .nil (.two .nil (.two .nil (.two .nil (.two .nil (.one (.two (.one (.cut [(0, (.one .slice)), (1, (.one (.int .i32)))] [] (.one (.two (.one (.cut [] [0, 1] (.one (.two (.two (.two .nil (.two .nil .nil)) (.two (.two .nil (.two .nil .nil)) (.two .nil (.two .nil .nil)))) .nil)) (.two (.two .nil (.two .nil .nil)) .nil))) .nil)) (.two (.two .nil (.two .nil (.one (.loop [(0, (.one .slice)), (11, (.one (.int .i64)))] [1] (.two (.two .nil (.two .nil .nil)) (.two (.one .nil) .nil)))))) .nil))) (.two (.two .nil (.two .nil (.one (.loop [(0, (.one .slice)), (12, (.one (.int .i64)))] [1] (.two (.two .nil (.two .nil .nil)) (.two (.one .nil) .nil)))))) .nil))))))))))))))))))) (.two .nil .nil)))))
noncomputable def code174 : Code := match Tryz.f174.body with | some c => c | none => .skip
theorem calls174 (a1 : Option Addr) (l1 : Nat) (c1 : Nat) (x2 : Int) (x3 : Int) (p4 : Bool) (p5 : Bool) (K : Option Addr → Nat → Nat → World → Prop) (w : World) (h : N174 a1 l1 c1 x2 x3 p4 p5 K w) : Calls Tryz.prog 174 #[(.slice a1 l1 c1), (.int .i32 x2), (.int .u8 x3), (.bool p4), (.bool p5)] w fun en w' => ∃ (a101 : Option Addr), ∃ (l101 : Nat), ∃ (c101 : Nat), en = .returned (.slice a101 l101 c101) ∧ K a101 l101 c101 w' :=
 fn_calls tabOk mixed Tryz.func174 (by kernel_rfl : Tryz.f174.body = some code174) ann174 [(.slice a1 l1 c1), (.int .i32 x2), (.int .u8 x3), (.bool p4), (.bool p5)] [(.one .slice)] K w (by kernel_rfl) (by kernel_rfl) (by kernel_rfl) h
end Go.Proofs.YtnmldggopnbclaaGreatDoor

namespace Go.Proofs.YtnmldggopnbclaaGreatDoor
open Go Go.V Go.Proofs
open Go.RowKit (Below)
/-! strconv.appendQuotedWith -/
def N147 (a1 : Option Addr) (l1 : Nat) (c1 : Nat) (s2 : ByteArray) (x3 : Int) (p4 : Bool) (p5 : Bool) (K : Option Addr → Nat → Nat → World → Prop) (w : World) : Prop :=
 ∃ (J6 : Option Addr → Nat → Nat → World → Prop),
 (∀ w7 a8 l8 c8, J6 a8 l8 c8 w7 →
 AllocK w7 (#[(.int .u8 x3)]) 5 fun b9 w10 =>
 ∃ a11, ∃ l11, ∃ c11, ∃ w12, Sem.run Tryz.prog (Builtin.append_ #[120, 120] 120 #[(.slice a8 l8 c8), (.slice (some b9) 1 1)]) w10 = .ok (.slice a11 l11 c11) w12 ∧
 (∃ (I13 : Option Addr → Nat → Nat → ByteArray → World → Prop) (μ14 : Option Addr → Nat → Nat → ByteArray → World → Nat),
 (I13 a11 l11 c11 s2 w12 ∧ True) ∧
 ∀ w15 a16 l16 c16 s17, I13 a16 l16 c16 s17 w15 →
 BoolK (decide (((s17.size : Nat) : Int) > 0))
 (Calls Tryz.prog 79 #[(.string s17)] w15 fun e21 w20 =>
 ∃ x18, ∃ x19, e21 = .returned (.tuple #[(.int .i32 x18), (.int .i64 x19)]) ∧
 (∃ (J22 : Bool → World → Prop),
 (∀ w23 p24, J22 p24 w23 →
 BoolK p24
 (∃ a25, ∃ l25, ∃ c25, ∃ w26, Sem.run Tryz.prog (Builtin.append_ #[120, 9] 120 #[(.slice a16 l16 c16), (.string (⟨#[92, 120]⟩ : ByteArray))]) w23 = .ok (.slice a25 l25 c25) w26 ∧
 (∃ (u27 : UInt8), (0 ≤ (0 : Int) ∧ s17[(0 : Int).toNat]? = some u27) ∧
 (0 ≤ (4 : Int) ∧
 (∃ (u28 : UInt8), (0 ≤ ((u27.toNat : Int).fdiv (2 ^ (min (4 : Int).toNat (IntKind.bits .u8))) : Int) ∧ (⟨#[48, 49, 50, 51, 52, 53, 54, 55, 56, 57, 97, 98, 99, 100, 101, 102]⟩ : ByteArray)[((u27.toNat : Int).fdiv (2 ^ (min (4 : Int).toNat (IntKind.bits .u8))) : Int).toNat]? = some u28) ∧
 (AllocK w26 (#[(.int .u8 u28.toNat)]) 5 fun b29 w30 =>
 ∃ a31, ∃ l31, ∃ c31, ∃ w32, Sem.run Tryz.prog (Builtin.append_ #[120, 120] 120 #[(.slice a25 l25 c25), (.slice (some b29) 1 1)]) w30 = .ok (.slice a31 l31 c31) w32 ∧
 (∃ (u33 : UInt8), (0 ≤ (0 : Int) ∧ s17[(0 : Int).toNat]? = some u33) ∧
 (∃ (u34 : UInt8), (0 ≤ (IntKind.wrap .u8 (((BitVec.ofInt (IntKind.bits .u8) u33.toNat) &&& (BitVec.ofInt (IntKind.bits .u8) 15)).toNat) : Int) ∧ (⟨#[48, 49, 50, 51, 52, 53, 54, 55, 56, 57, 97, 98, 99, 100, 101, 102]⟩ : ByteArray)[(IntKind.wrap .u8 (((BitVec.ofInt (IntKind.bits .u8) u33.toNat) &&& (BitVec.ofInt (IntKind.bits .u8) 15)).toNat) : Int).toNat]? = some u34) ∧
 (AllocK w32 (#[(.int .u8 u34.toNat)]) 5 fun b35 w36 =>
 ∃ a37, ∃ l37, ∃ c37, ∃ w38, Sem.run Tryz.prog (Builtin.append_ #[120, 120] 120 #[(.slice a31 l31 c31), (.slice (some b35) 1 1)]) w36 = .ok (.slice a37 l37 c37) w38 ∧
 (0 ≤ x19 ∧
 ((x19.toNat ≤ s17.size ∧ s17.size ≤ s17.size) ∧
 (I13 a37 l37 c37 (s17.extract (x19.toNat) s17.size) w38 ∧ μ14 a37 l37 c37 (s17.extract (x19.toNat) s17.size) w38 < μ14 a16 l16 c16 s17 w15)))))))))))
 (Calls Tryz.prog 174 #[(.slice a16 l16 c16), (.int .i32 x18), (.int .u8 x3), (.bool p4), (.bool p5)] w23 fun e41 w40 =>
 ∃ a39, ∃ l39, ∃ c39, e41 = .returned (.slice a39 l39 c39) ∧
 (0 ≤ x19 ∧
 ((x19.toNat ≤ s17.size ∧ s17.size ≤ s17.size) ∧
 (I13 a39 l39 c39 (s17.extract (x19.toNat) s17.size) w40 ∧ μ14 a39 l39 c39 (s17.extract (x19.toNat) s17.size) w40 < μ14 a16 l16 c16 s17 w15))))) ∧
 (BoolK (x19 == 1)
 (J22 (x18 == 65533) w20)
 (J22 false w20))))
 (AllocK w15 (#[(.int .u8 x3)]) 5 fun b42 w43 =>
 ∃ a44, ∃ l44, ∃ c44, ∃ w45, Sem.run Tryz.prog (Builtin.append_ #[120, 120] 120 #[(.slice a16 l16 c16), (.slice (some b42) 1 1)]) w43 = .ok (.slice a44 l44 c44) w45 ∧
 (K a44 l44 c44 w45)))) ∧
 (BoolK (decide ((IntKind.wrap .i64 (c1 - l1) : Int) < (s2.size : Nat)))
 ((0 ≤ (l1 : Int) ∧ (l1 : Int) ≤ IntKind.wrap .i64 ((IntKind.wrap .i64 ((IntKind.wrap .i64 (l1 + 1)) + (s2.size : Nat))) + 1) ∧ ((1 : Nat) : Int) * (IntKind.wrap .i64 ((IntKind.wrap .i64 ((IntKind.wrap .i64 (l1 + 1)) + (s2.size : Nat))) + 1)) ≤ 281474976710656 ∧ (IntKind.wrap .i64 ((IntKind.wrap .i64 ((IntKind.wrap .i64 (l1 + 1)) + (s2.size : Nat))) + 1) : Int) ≤ 9223372036854775807) ∧
 AllocK w (madeCells (#[.int .u8 0]) ((IntKind.wrap .i64 ((IntKind.wrap .i64 ((IntKind.wrap .i64 (l1 + 1)) + (s2.size : Nat))) + 1) : Int).toNat * 1)) 5 fun b46 w47 =>
 ∃ x48, ∃ w49, Sem.run Tryz.prog (Builtin.copy_ #[120, 120] 3 #[(.slice (some b46) ((l1 : Int).toNat) ((IntKind.wrap .i64 ((IntKind.wrap .i64 ((IntKind.wrap .i64 (l1 + 1)) + (s2.size : Nat))) + 1) : Int).toNat)), (.slice a1 l1 c1)]) w47 = .ok (.int .i64 x48) w49 ∧
 (J6 (some b46) ((l1 : Int).toNat) ((IntKind.wrap .i64 ((IntKind.wrap .i64 ((IntKind.wrap .i64 (l1 + 1)) + (s2.size : Nat))) + 1) : Int).toNat) w49))
 (J6 a1 l1 c1 w))
def ann147 : Ann := (.two .nil (.cut [(0, (.one .slice))] [1, 2, 3, 4] (.two .nil (.two (.two .nil (.two .nil .nil)) .nil)) (.two .nil (.two (.two .nil (.one (.loop [(0, (.one .slice)), (1, (.one .str))] [2, 3, 4] (.two (.two .nil (.two .nil .nil)) (.two (.one (.two .nil (.two (.cut [(56, (.one .bool))] [0, 1, 2, 3, 4, 12, 13] .nil (.two (.two .nil (.two .nil (.two .nil .nil))) .nil)) .nil))) .nil))))) (.two .nil (.two .nil .nil))))))
noncomputable def code147 : Code := match Tryz.f147.body with | some c => c | none => .skip
theorem calls147 (a1 : Option Addr) (l1 : Nat) (c1 : Nat) (s2 : ByteArray) (x3 : Int) (p4 : Bool) (p5 : Bool) (K : Option Addr → Nat → Nat → World → Prop) (w : World) (h : N147 a1 l1 c1 s2 x3 p4 p5 K w) : Calls Tryz.prog 147 #[(.slice a1 l1 c1), (.string s2), (.int .u8 x3), (.bool p4), (.bool p5)] w fun en w' => ∃ (a50 : Option Addr), ∃ (l50 : Nat), ∃ (c50 : Nat), en = .returned (.slice a50 l50 c50) ∧ K a50 l50 c50 w' :=
 fn_calls tabOk mixed Tryz.func147 (by kernel_rfl : Tryz.f147.body = some code147) ann147 [(.slice a1 l1 c1), (.string s2), (.int .u8 x3), (.bool p4), (.bool p5)] [(.one .slice)] K w (by kernel_rfl) (by kernel_rfl) (by kernel_rfl) h
end Go.Proofs.YtnmldggopnbclaaGreatDoor

namespace Go.Proofs.YtnmldggopnbclaaGreatDoor
open Go Go.V Go.Proofs
open Go.RowKit (Below)
/-! strconv.quoteWith -/
def N123 (s1 : ByteArray) (x2 : Int) (p3 : Bool) (p4 : Bool) (K : ByteArray → World → Prop) (w : World) : Prop :=
 (2 : Int) ≠ 0 ∧
 ((0 ≤ (0 : Int) ∧ (0 : Int) ≤ IntKind.wrap .i64 ((IntKind.wrap .i64 (3 * (s1.size : Nat)) : Int).tdiv 2) ∧ ((1 : Nat) : Int) * (IntKind.wrap .i64 ((IntKind.wrap .i64 (3 * (s1.size : Nat)) : Int).tdiv 2)) ≤ 281474976710656 ∧ (IntKind.wrap .i64 ((IntKind.wrap .i64 (3 * (s1.size : Nat)) : Int).tdiv 2) : Int) ≤ 9223372036854775807) ∧
 AllocK w (madeCells (#[.int .u8 0]) ((IntKind.wrap .i64 ((IntKind.wrap .i64 (3 * (s1.size : Nat)) : Int).tdiv 2) : Int).toNat * 1)) 5 fun b5 w6 =>
 Calls Tryz.prog 147 #[(.slice (some b5) ((0 : Int).toNat) ((IntKind.wrap .i64 ((IntKind.wrap .i64 (3 * (s1.size : Nat)) : Int).tdiv 2) : Int).toNat)), (.string s1), (.int .u8 x2), (.bool p3), (.bool p4)] w6 fun e9 w8 =>
 ∃ a7, ∃ l7, ∃ c7, e9 = .returned (.slice a7 l7 c7) ∧
 (∃ s10, ∃ w11, Sem.run Tryz.prog (convert 120 9 (.slice a7 l7 c7)) w8 = .ok (.string s10) w11 ∧
 (K s10 w11)))
def ann123 : Ann := (.two .nil (.two .nil .nil))
noncomputable def code123 : Code := match Tryz.f123.body with | some c => c | none => .skip
theorem calls123 (s1 : ByteArray) (x2 : Int) (p3 : Bool) (p4 : Bool) (K : ByteArray → World → Prop) (w : World) (h : N123 s1 x2 p3 p4 K w) : Calls Tryz.prog 123 #[(.string s1), (.int .u8 x2), (.bool p3), (.bool p4)] w fun en w' => ∃ (s12 : ByteArray), en = .returned (.string s12) ∧ K s12 w' :=
 fn_calls tabOk mixed Tryz.func123 (by kernel_rfl : Tryz.f123.body = some code123) ann123 [(.string s1), (.int .u8 x2), (.bool p3), (.bool p4)] [(.one .str)] K w (by kernel_rfl) (by kernel_rfl) (by kernel_rfl) h
end Go.Proofs.YtnmldggopnbclaaGreatDoor

namespace Go.Proofs.YtnmldggopnbclaaGreatDoor
open Go Go.V Go.Proofs
open Go.RowKit (Below)
/-! strconv.Quote -/
def N93 (s1 : ByteArray) (K : ByteArray → World → Prop) (w : World) : Prop :=
 Calls Tryz.prog 123 #[(.string s1), (.int .u8 34), (.bool false), (.bool false)] w fun e4 w3 =>
 ∃ s2, e4 = .returned (.string s2) ∧
 (K s2 w3)
def ann93 : Ann := (.two .nil (.two .nil .nil))
noncomputable def code93 : Code := match Tryz.f93.body with | some c => c | none => .skip
theorem calls93 (s1 : ByteArray) (K : ByteArray → World → Prop) (w : World) (h : N93 s1 K w) : Calls Tryz.prog 93 #[(.string s1)] w fun en w' => ∃ (s5 : ByteArray), en = .returned (.string s5) ∧ K s5 w' :=
 fn_calls tabOk mixed Tryz.func93 (by kernel_rfl : Tryz.f93.body = some code93) ann93 [(.string s1)] [(.one .str)] K w (by kernel_rfl) (by kernel_rfl) (by kernel_rfl) h
end Go.Proofs.YtnmldggopnbclaaGreatDoor

namespace Go.Proofs.YtnmldggopnbclaaGreatDoor
open Go Go.V Go.Proofs Go.V.Gr
open Go.RowKit (Below)
theorem ctr187 (w : World) {u : UInt8} (h : prn u = true) : Calls Tryz.prog 187 #[.int .i32 u.toNat] w fun en w' => ∃ p, en = .returned (.bool p) ∧ (p = decide (u ≠ 10) ∧ w' = w) := by
 refine calls187 _ _ w ?_
 have hlt := u.toNat_lt
 simp only [prn, Bool.or_eq_true, beq_iff_eq, decide_eq_true_eq] at h
 have h10 : u = 10 ↔ u.toNat = 10 := by rw [← UInt8.toNat_inj]; exact Iff.rfl
 refine BoolK.mk (fun _ => ⟨fun w' => w' = w ∧ u.toNat = 10, ?_, BoolK.mk (fun t => BoolK.mk (fun t2 => ⟨?_, rfl⟩) (fun t2 => ⟨rfl, ?_⟩)) (fun t => ⟨rfl, ?_⟩)⟩) (fun t => ?_)
 ·rintro w3 ⟨rfl, e⟩
  refine BoolK.mk (fun t => by have := of_decide_eq_true t; omega) (fun _ => ⟨?_, rfl⟩)
  simp [h10.2 e]
 ·have := of_decide_eq_true t
  symm; rw [decide_eq_true_eq, Ne, h10]; omega
 ·have := of_decide_eq_false t2; omega
 ·have := of_decide_eq_false t; omega
 ·have := of_decide_eq_false t; omega
section
variable {base : Nat} {w : World} {a : Option Addr} {l c : Nat} {xs : List UInt8}
theorem ctr189 (h : BufZ base 5 w a l c xs) (hb : base ≤ w.heap.size) (hlen : xs.length ≤ 100000000000000) {u : UInt8} (hu : u.toNat ≤ 127) :
  Calls Tryz.prog 189 #[.slice a l c, .int .i32 u.toNat] w fun en w' => ∃ a' l' c', en = .returned (.slice a' l' c') ∧ (BufZ base 5 w' a' l' c' (xs ++ [u]) ∧ Below base w w') := by
 refine calls189 _ _ _ _ _ w ?_
 have e1 : IntKind.wrap .u32 (u.toNat : Int) = u.toNat := by rw [IntKind.wrap_u32]; omega
 have e2 : IntKind.wrap .u8 (u.toNat : Int) = u.toNat := by rw [IntKind.wrap_u8]; omega
 rw [N189, e1, e2]
 refine BoolK.mk (fun _ => ?_) (fun t => by have := of_decide_eq_false t; omega)
 exact BufZ.push [u] sltY h hb (by simp only [List.length_singleton]; omega) rfl rfl fun a' c' w' q1 q2 => ⟨q1, q2⟩
theorem ctr174 (h : BufZ base 5 w a l c xs) (hb : base ≤ w.heap.size) (hlen : xs.length ≤ 100000000000000) {u : UInt8} (hu : prn u = true) :
  Calls Tryz.prog 174 #[.slice a l c, .int .i32 u.toNat, .int .u8 34, .bool false, .bool false] w fun en w' => ∃ a' l' c', en = .returned (.slice a' l' c') ∧ (BufZ base 5 w' a' l' c' (xs ++ esc u) ∧ Below base w w') := by
 refine calls174 _ _ _ _ _ _ _ _ w ?_
 have hlt := u.toNat_lt
 have hp := hu
 simp only [prn, Bool.or_eq_true, beq_iff_eq, decide_eq_true_eq] at hp
 have e2 : IntKind.wrap .u8 (u.toNat : Int) = u.toNat := by rw [IntKind.wrap_u8]; omega
 have e3 : IntKind.wrap .i32 (34 : Int) = 34 := by rw [IntKind.wrap_i32]; omega
 have eq : ∀ k : UInt8, u = k ↔ u.toNat = k.toNat := fun k => by rw [← UInt8.toNat_inj]
 have e34 := eq 34; have e92 := eq 92; have e10 := eq 10
 have t34 : (34 : UInt8).toNat = 34 := rfl
 have t92 : (92 : UInt8).toNat = 92 := rfl
 have t10 : (10 : UInt8).toNat = 10 := rfl
 rw [t34] at e34; rw [t92] at e92; rw [t10] at e10
 rw [N174, e2, e3]
 refine ⟨fun p w' => w' = w ∧ p = decide (u = 34 ∨ u = 92), ?_, BoolK.mk (fun t => ⟨rfl, ?_⟩) (fun t => ⟨rfl, ?_⟩)⟩
 ·rintro w7 _ ⟨rfl, rfl⟩
  refine BoolK.mk (fun t => ?_) (fun t => ?_)
  ·have t := of_decide_eq_true t
   refine BufZ.push [92] sltY h hb (by simp only [List.length_singleton]; omega) rfl rfl fun a' c' w' q1 q2 => ?_
   have hl : xs.length + [(92 : UInt8)].length = (xs ++ [92]).length := by rw [List.length_append]
   refine BufZ.push [u] sltY q1 (Nat.le_trans hb q2.size) (by simp only [List.length_singleton, List.length_append]; omega) rfl rfl fun a2 c2 w2 r1 r2 => ?_
   refine ⟨?_, q2.trans r2⟩
   have : esc u = [92, u] := by
    rcases t with t | t <;> subst t <;> rfl
   rw [this]
   have e : xs ++ [92, u] = xs ++ [92] ++ [u] := by simp
   rw [e]; exact r1
  ·have t := of_decide_eq_false t
   refine ⟨fun a' l' c' w' => a' = a ∧ l' = l ∧ c' = c ∧ w' = w7 ∧ u = 10, ?_, BoolK.mk (fun t => by cases t) (fun _ => ?_)⟩
   ·rintro w18 a' l' c' ⟨rfl, rfl, rfl, rfl, e⟩
    have en := e10.1 e
    have n7 : ((u.toNat : Int) == 7) = false := by rw [beq_eq_false_iff_ne]; omega
    have n8 : ((u.toNat : Int) == 8) = false := by rw [beq_eq_false_iff_ne]; omega
    have n12 : ((u.toNat : Int) == 12) = false := by rw [beq_eq_false_iff_ne]; omega
    have y10 : ((u.toNat : Int) == 10) = true := by rw [beq_iff_eq]; omega
    refine BoolK.mk (fun t => by rw [n7] at t; cases t) (fun _ => BoolK.mk (fun t => by rw [n8] at t; cases t) (fun _ => BoolK.mk (fun t => by rw [n12] at t; cases t) (fun _ => BoolK.mk (fun _ => ?_) (fun t => by rw [y10] at t; cases t))))
    obtain ⟨a2, c2, w2, q1, q2, q3⟩ := h.appendS (ty := 120) (s := ⟨#[92, 110]⟩) sltY Tryz.underlying9 hb (by show xs.length + 2 ≤ _; omega)
    refine ⟨_, _, _, _, q1, ?_, q3⟩
    have : esc u = [92, 110] := by subst e; rfl
    rw [this]; exact q2
   ·refine ⟨fun p w' => p = decide (u ≠ 10) ∧ w' = w7, ?_, ?_⟩
    ·rintro w90 _ ⟨rfl, rfl⟩
     refine BoolK.mk (fun t1 => ?_) (fun t1 => ?_)
     ·have t1 := of_decide_eq_true t1
      refine (ctr189 h hb hlen (u := u) (by omega)).mono ?_
      rintro en w93 ⟨a2, l2, c2, rfl, q1, q2⟩
      refine ⟨_, _, _, rfl, ?_, q2⟩
      have : esc u = [u] := by
       rw [esc, if_neg (fun e => t (.inl e)), if_neg (fun e => t (.inr e)), if_neg t1]
      rw [this]; exact q1
     ·have t1 := of_decide_eq_false t1
      exact ⟨rfl, rfl, rfl, rfl, Classical.byContradiction fun e => t1 e⟩
    ·refine (ctr187 w7 hu).mono ?_
     rintro en w96 ⟨p, rfl, rfl, rfl⟩
     refine ⟨_, rfl, BoolK.mk (fun t1 => ⟨t1.symm, rfl⟩) (fun t1 => BoolK.mk (fun t => by cases t) (fun _ => ⟨t1.symm, rfl⟩))⟩
 ·symm; rw [decide_eq_true_eq]; left; rw [e34]; have := eq_of_beq t; omega
 ·rw [Bool.eq_iff_iff, beq_iff_eq, decide_eq_true_eq, e34, e92]
  rw [beq_eq_false_iff_ne] at t
  omega
end
theorem ctr79 (w : World) (s : ByteArray) {u : UInt8} {r : List UInt8} (hs : bl s = u :: r) (hu : u.toNat ≤ 127) :
  Calls Tryz.prog 79 #[.string s] w fun en w' => ∃ x k, en = .returned (.tuple #[.int .i32 x, .int .i64 k]) ∧ (x = u.toNat ∧ k = 1 ∧ w' = w) := by
 refine calls79 _ _ w ?_
 have h0 : s[((0 : Int)).toNat]? = some u := by show s[0]? = _; rw [bl_get, hs]; rfl
 refine ⟨fun p w' => p = true ∧ w' = w, ?_, BoolK.mk (fun _ => ⟨u, ⟨by omega, h0⟩, decide_eq_true (by omega), rfl⟩) (fun t => ?_)⟩
 ·rintro w3 _ ⟨rfl, rfl⟩
  refine BoolK.mk (fun _ => ⟨u, ⟨by omega, h0⟩, ?_, rfl, rfl⟩) (fun t => by cases t)
  rw [IntKind.wrap_i32]; omega
 ·rw [Bool.not_eq_false', tl_iff] at t; subst t; simp [bl] at hs
theorem prn_le {u : UInt8} (h : prn u = true) : u.toNat ≤ 126 := by
 simp only [prn, Bool.or_eq_true, beq_iff_eq, decide_eq_true_eq] at h; omega
theorem esc_len (u : UInt8) : (esc u).length ≤ 2 := by
 unfold esc; repeat' split
 all_goals simp
theorem ctr147 {base : Nat} {w : World} {b cap : Nat} (s : ByteArray) (hs : (bl s).all prn = true) (hsz : s.size ≤ 1000) (h : BufZ base 5 w (some ⟨b, 0, none⟩) 0 cap []) (hb : base ≤ w.heap.size) (hc : s.size ≤ cap) (hc2 : cap ≤ 10000) :
  Calls Tryz.prog 147 #[.slice (some ⟨b, 0, none⟩) 0 cap, .string s, .int .u8 34, .bool false, .bool false] w fun en w' => ∃ a' l' c', en = .returned (.slice a' l' c') ∧ (BufZ base 5 w' a' l' c' (qt (bl s)) ∧ Below base w w') := by
 refine calls147 _ _ _ _ _ _ _ _ w ?_
 have hbs := bl_size s
 refine ⟨fun a l c w' => a = some ⟨b, 0, none⟩ ∧ l = 0 ∧ c = cap ∧ w' = w, ?_, BoolK.mk (fun t => ?_) (fun _ => ⟨rfl, rfl, rfl, rfl⟩)⟩
 ·rintro w7 a l c ⟨rfl, rfl, rfl, rfl⟩
  refine BufZ.push [34] sltY h hb (by simp) rfl rfl fun a1 c1 w1 q1 q2 => ?_
  refine ⟨fun a l c s' w' => ∃ k : Nat, k ≤ s.size ∧ bl s' = (bl s).drop k ∧ BufZ base 5 w' a l c (34 :: ((bl s).take k).flatMap esc) ∧ (34 :: ((bl s).take k).flatMap esc).length ≤ 2 * k + 1 ∧ Below base w7 w', fun _ _ _ s' _ => s'.size, ⟨⟨0, by omega, rfl, q1, by simp, q2⟩, trivial⟩, ?_⟩
  rintro w15 a l c s' ⟨k, hk, hs', hB, hl, hbel⟩
  have hsz' : s'.size = s.size - k := by rw [← bl_size, hs', List.length_drop, hbs]
  refine BoolK.mk (fun t => ?_) (fun t => ?_)
  ·have hlt : k < s.size := by have := of_decide_eq_true t; omega
   have hlt2 : k < (bl s).length := by omega
   have hd : bl s' = (bl s)[k] :: (bl s).drop (k + 1) := by rw [hs', List.drop_eq_getElem_cons hlt2]
   have hp : prn (bl s)[k] = true := (List.all_eq_true.1 hs) _ (List.getElem_mem hlt2)
   have hle := prn_le hp
   refine (ctr79 w15 s' hd (by omega)).mono ?_
   rintro en w20 ⟨x, n, rfl, rfl, rfl, rfl⟩
   refine ⟨_, _, rfl, fun p w' => p = false ∧ w' = w20, ?_, BoolK.mk (fun _ => ⟨?_, rfl⟩) (fun t => by cases t)⟩
   ·rintro w23 _ ⟨rfl, rfl⟩
    refine BoolK.mk (fun t => by cases t) (fun _ => ?_)
    have hbs2 := Nat.le_trans hb hbel.size
    refine (ctr174 hB hbs2 (by omega) hp).mono ?_
    rintro en w40 ⟨a2, l2, c2, rfl, r1, r2⟩
    refine ⟨_, _, _, rfl, by omega, ⟨by show 1 ≤ _; omega, Nat.le_refl _⟩, ?_⟩
    have he : bl (s'.extract ((1 : Int)).toNat s'.size) = (bl s).drop (k + 1) := by
     rw [bl_extract]; show (bl s').extract 1 _ = _
     rw [hd, ← bl_size s', hd]; simp
     rw [List.take_of_length_le (by simp; omega)]
    have step : ((bl s).take (k + 1)).flatMap esc = ((bl s).take k).flatMap esc ++ esc (bl s)[k] := by
     rw [List.take_add_one, List.getElem?_eq_getElem hlt2, List.flatMap_append]; simp
    have := esc_len (bl s)[k]
    refine ⟨⟨k + 1, by omega, he, ?_, ?_, hbel.trans r2⟩, ?_⟩
    ·rw [step]; exact r1
    ·rw [step]; simp only [List.length_cons, List.length_append] at hl ⊢; omega
    ·have e1 := congrArg List.length he
     rw [bl_size, List.length_drop, hbs] at e1
     show (s'.extract ((1 : Int)).toNat s'.size).size < s'.size
     omega
   ·rw [beq_eq_false_iff_ne]; omega
  ·have : k = s.size := by have := of_decide_eq_false t; omega
   subst this
   rw [← hbs, List.take_length] at hB hl
   refine BufZ.push [34] sltY hB (Nat.le_trans hb hbel.size) (by simp only [List.length_singleton]; omega) rfl rfl fun a2 c2 w2 r1 r2 => ?_
   exact ⟨by simpa [qt] using r1, hbel.trans r2⟩
 ·exfalso
  have := of_decide_eq_true t
  rw [wrap_id (by omega) (by omega)] at this
  omega
theorem ctr123 (w : World) (s : ByteArray) (hs : (bl s).all prn = true) (hsz : s.size ≤ 1000) :
  Calls Tryz.prog 123 #[.string s, .int .u8 34, .bool false, .bool false] w fun en w' => ∃ t, en = .returned (.string t) ∧ (bl t = qt (bl s) ∧ Ext w w') := by
 refine calls123 _ _ _ _ _ w ?_
 have e1 : IntKind.wrap .i64 (3 * (s.size : Int)) = 3 * (s.size : Int) := wrap_id (by omega) (by omega)
 have e2 : (3 * (s.size : Int)).tdiv 2 = ((3 * s.size / 2 : Nat) : Int) := by
  rw [Int.tdiv_eq_ediv_of_nonneg (by omega)]; omega
 have e3 : IntKind.wrap .i64 ((3 * s.size / 2 : Nat) : Int) = ((3 * s.size / 2 : Nat) : Int) := wrap_id (by omega) (by omega)
 rw [N123, e1, e2, e3]
 refine ⟨by omega, ⟨by omega, by omega, by omega, by omega⟩, AllocK.mk fun b w6 hb hB x6 => ?_⟩
 have hBuf : BufZ w.heap.size 5 w6 (some ⟨b, 0, none⟩) 0 (3 * s.size / 2) [] := by
  refine BufZ.made hB (by omega) ?_ (by simp only [maxLen]; omega) rfl (by omega) (by simp)
  have := congrArg List.length (toList_madeCells_one (Value.int .u8 0) (3 * s.size / 2))
  rw [Int.toNat_natCast, Nat.mul_one]
  simpa using this
 refine (ctr147 s hs hsz hBuf x6.size (by omega) (by omega)).mono ?_
 rintro en w8 ⟨a, l, c, rfl, q1, q2⟩
 obtain ⟨t, r1, r2⟩ := q1.str (src := 120) (dst := 9) Tryz.underlying120 Tryz.underlying5 Tryz.underlying9
 exact ⟨_, _, _, rfl, _, _, r1, r2, Below.trans x6 q2⟩
theorem ctr93 (w : World) (s : ByteArray) (hs : (bl s).all prn = true) (hsz : s.size ≤ 1000) :
  Calls Tryz.prog 93 #[.string s] w fun en w' => ∃ t, en = .returned (.string t) ∧ (bl t = qt (bl s) ∧ Ext w w') := by
 refine calls93 _ _ w ?_
 refine (ctr123 w s hs hsz).mono ?_
 rintro en w3 ⟨t, rfl, h⟩
 exact ⟨_, rfl, h⟩
end Go.Proofs.YtnmldggopnbclaaGreatDoor

namespace Go.Proofs.YtnmldggopnbclaaGreatDoor
open Go Go.V Go.Proofs
open Go.RowKit (Below)
/-! manystrand/graph.head -/
def N63 (s1 : ByteArray) (x2 : Int) (s3 : ByteArray) (a4 : Option Addr) (l4 : Nat) (c4 : Nat) (a5 : Option Addr) (l5 : Nat) (c5 : Nat) (K : ByteArray → World → Prop) (w : World) : Prop :=
 AllocK w (#[(.string s1), (.int .i64 x2), (.string s3), (.slice a4 l4 c4), (.slice a5 l5 c5)]) 39 fun b6 w7 =>
 DrewK w7 fun w8 =>
 ∃ s9, w8.cell? b6 = some (.string s9) ∧
 (((s9.size + (⟨#[32]⟩ : ByteArray).size : Nat) : Int) ≤ IntKind.i64.max ∧
 (∃ x10, w8.cell? (b6.add 1) = some (.int .i64 x10) ∧
 (∃ s11, w8.cell? (b6.add 2) = some (.string s11) ∧
 (Calls Tryz.prog 55 #[(.int .i64 x10)] w8 fun e14 w13 =>
 ∃ s12, e14 = .returned (.string s12) ∧
 (Cel w8 w13 ∧
 ((((s9 ++ (⟨#[32]⟩ : ByteArray) : ByteArray).size + s12.size : Nat) : Int) ≤ IntKind.i64.max ∧
 (((((s9 ++ (⟨#[32]⟩ : ByteArray) : ByteArray) ++ s12 : ByteArray).size + (⟨#[32]⟩ : ByteArray).size : Nat) : Int) ≤ IntKind.i64.max ∧
 (Calls Tryz.prog 93 #[(.string s11)] w13 fun e17 w16 =>
 ∃ s15, e17 = .returned (.string s15) ∧
 (Cel w8 w16 ∧
 ((((((s9 ++ (⟨#[32]⟩ : ByteArray) : ByteArray) ++ s12 : ByteArray) ++ (⟨#[32]⟩ : ByteArray) : ByteArray).size + s15.size : Nat) : Int) ≤ IntKind.i64.max ∧
 (∃ a18 l18 c18, w16.cell? (b6.add 3) = some (.slice a18 l18 c18) ∧
 (∃ (I19 : ByteArray → Int → World → Prop) (μ20 : ByteArray → Int → World → Nat),
 (I19 ((((s9 ++ (⟨#[32]⟩ : ByteArray) : ByteArray) ++ s12 : ByteArray) ++ (⟨#[32]⟩ : ByteArray) : ByteArray) ++ s15) 0 w16 ∧ True) ∧
 ∀ w21 s22 x23, I19 s22 x23 w21 →
 BoolK (decide (x23 < l18))
 ((0 ≤ x23 ∧ x23 < l18) ∧
 AddrK a18 fun b24 =>
 ∃ x25, w21.cell? ((b24.add (x23.toNat * 2)).add 0) = some (.int .i64 x25) ∧
 (∃ s26, w21.cell? ((b24.add (x23.toNat * 2)).add 1) = some (.string s26) ∧
 (AllocK w21 (#[.int .i64 0, .string ⟨#[]⟩]) 41 fun b27 w28 =>
 SetK w28 (b27.add 0) (.int .i64 x25) fun w29 =>
 SetK w29 (b27.add 1) (.string s26) fun w30 =>
 DrewK w30 fun w31 =>
 ∃ x32, w31.cell? b27 = some (.int .i64 x32) ∧
 (∃ s33, w31.cell? (b27.add 1) = some (.string s33) ∧
 (Calls Tryz.prog 55 #[(.int .i64 x32)] w31 fun e36 w35 =>
 ∃ s34, e36 = .returned (.string s34) ∧
 (Cel w31 w35 ∧
 ((((⟨#[32]⟩ : ByteArray).size + s34.size : Nat) : Int) ≤ IntKind.i64.max ∧
 (Calls Tryz.prog 93 #[(.string s33)] w35 fun e39 w38 =>
 ∃ s37, e39 = .returned (.string s37) ∧
 (Cel w31 w38 ∧
 (((((⟨#[32]⟩ : ByteArray) ++ s34 : ByteArray).size + s37.size : Nat) : Int) ≤ IntKind.i64.max ∧
 (((s22.size + (((⟨#[32]⟩ : ByteArray) ++ s34 : ByteArray) ++ s37 : ByteArray).size : Nat) : Int) ≤ IntKind.i64.max ∧
 (I19 (s22 ++ (((⟨#[32]⟩ : ByteArray) ++ s34 : ByteArray) ++ s37 : ByteArray)) (IntKind.wrap .i64 (x23 + 1)) w38 ∧ μ20 (s22 ++ (((⟨#[32]⟩ : ByteArray) ++ s34 : ByteArray) ++ s37 : ByteArray)) (IntKind.wrap .i64 (x23 + 1)) w38 < μ20 s22 x23 w21))))))))))))
 (K s22 w21)))))))))))))
def ann63 : Ann := (.two .nil (.two (.any 13 (.take 0 (.take 1 (.take 2 (.take 3 (.take 4 (.take 8 (.take 9 (.one 5 (.take 6 (.take 7 (.one 10 (.take 11 (.take 12 .done)))))))))))))) (.two (.two .nil (.one (.loop [(3, (.one .str)), (21, (.one (.int .i64)))] [19, 20] (.two .nil (.two (.two .nil .nil) (.two (.one (.two .nil (.any 11 (.take 0 (.take 1 (.take 2 (.take 5 (.take 6 (.one 3 (.take 4 (.one 7 (.take 8 (.take 9 (.take 10 .done)))))))))))))) .nil)))))) (.two .nil .nil))))
noncomputable def code63 : Code := match Tryz.f63.body with | some c => c | none => .skip
theorem calls63 (s1 : ByteArray) (x2 : Int) (s3 : ByteArray) (a4 : Option Addr) (l4 : Nat) (c4 : Nat) (a5 : Option Addr) (l5 : Nat) (c5 : Nat) (K : ByteArray → World → Prop) (w : World) (h : N63 s1 x2 s3 a4 l4 c4 a5 l5 c5 K w) : Calls Tryz.prog 63 #[(.agg #[(.string s1), (.int .i64 x2), (.string s3), (.slice a4 l4 c4), (.slice a5 l5 c5)])] w fun en w' => ∃ (s40 : ByteArray), en = .returned (.string s40) ∧ K s40 w' :=
 fn_calls tabOk mixed Tryz.func63 (by kernel_rfl : Tryz.f63.body = some code63) ann63 [(.agg #[(.string s1), (.int .i64 x2), (.string s3), (.slice a4 l4 c4), (.slice a5 l5 c5)])] [(.one .str)] K w (by kernel_rfl) (by kernel_rfl) (by kernel_rfl) h
end Go.Proofs.YtnmldggopnbclaaGreatDoor

namespace Go.Proofs.YtnmldggopnbclaaGreatDoor
open Go Go.V Go.Proofs
open Go.RowKit (Below)
/-! manystrand/graph.key -/
def N65 (s1 : ByteArray) (a2 : Option Addr) (l2 : Nat) (_c2 : Nat) (a3 : Option Addr) (l3 : Nat) (_c3 : Nat) (K : ByteArray → World → Prop) (w : World) : Prop :=
 ∃ a4, ∃ l4, ∃ c4, ∃ w5, Sem.run Tryz.prog (convert 9 120 (.string s1)) w = .ok (.slice a4 l4 c4) w5 ∧
 (∃ (I6 : Option Addr → Nat → Nat → Int → World → Prop) (μ7 : Option Addr → Nat → Nat → Int → World → Nat),
 (I6 a4 l4 c4 0 w5 ∧ True) ∧
 ∀ w8 a9 l9 c9 x10, I6 a9 l9 c9 x10 w8 →
 BoolK (decide (x10 < l2))
 ((0 ≤ x10 ∧ x10 < l2) ∧
 AddrK a2 fun b11 =>
 ∃ x12, w8.cell? (b11.add (x10.toNat * 1)) = some (.int .i64 x12) ∧
 (DrewK w8 fun w13 =>
 ∃ v14, Cel v14 w13 ∧
 ((0 ≤ x12 ∧ x12 < l3) ∧
 AddrK a3 fun b15 =>
 ∃ x16, v14.cell? (b15.add (x12.toNat * 1)) = some (.int .i64 x16) ∧
 (AllocK w13 (#[(.int .u8 44)]) 5 fun b17 w18 =>
 Cel v14 w18 ∧
 (∃ a19, ∃ l19, ∃ c19, ∃ w20, Sem.run Tryz.prog (Builtin.append_ #[120, 120] 120 #[(.slice a9 l9 c9), (.slice (some b17) 1 1)]) w18 = .ok (.slice a19 l19 c19) w20 ∧
 (Cel v14 w20 ∧
 (Calls Tryz.prog 94 #[(.slice a19 l19 c19), (.int .i64 x16), (.int .i64 10)] w20 fun e23 w22 =>
 ∃ a21, ∃ l21, ∃ c21, e23 = .returned (.slice a21 l21 c21) ∧
 (I6 a21 l21 c21 (IntKind.wrap .i64 (x10 + 1)) w22 ∧ μ7 a21 l21 c21 (IntKind.wrap .i64 (x10 + 1)) w22 < μ7 a9 l9 c9 x10 w8))))))))
 (∃ s24, ∃ w25, Sem.run Tryz.prog (convert 120 9 (.slice a9 l9 c9)) w8 = .ok (.string s24) w25 ∧
 (K s24 w25)))
def ann65 : Ann := (.two .nil (.two .nil (.two (.two .nil (.one (.loop [(7, (.one .slice)), (14, (.one (.int .i64)))] [2, 12, 13] (.two .nil (.two (.two .nil .nil) (.two (.one (.two .nil (.anyD 9 (.take 0 (.take 3 (.take 4 (.take 5 (.take 6 (.one 1 (.one 2 (.one 7 (.take 8 .done)))))))))))) .nil)))))) (.two .nil .nil))))
noncomputable def code65 : Code := match Tryz.f65.body with | some c => c | none => .skip
theorem calls65 (s1 : ByteArray) (a2 : Option Addr) (l2 : Nat) (c2 : Nat) (a3 : Option Addr) (l3 : Nat) (c3 : Nat) (K : ByteArray → World → Prop) (w : World) (h : N65 s1 a2 l2 c2 a3 l3 c3 K w) : Calls Tryz.prog 65 #[(.string s1), (.slice a2 l2 c2), (.slice a3 l3 c3)] w fun en w' => ∃ (s26 : ByteArray), en = .returned (.string s26) ∧ K s26 w' :=
 fn_calls tabOk mixed Tryz.func65 (by kernel_rfl : Tryz.f65.body = some code65) ann65 [(.string s1), (.slice a2 l2 c2), (.slice a3 l3 c3)] [(.one .str)] K w (by kernel_rfl) (by kernel_rfl) (by kernel_rfl) h
end Go.Proofs.YtnmldggopnbclaaGreatDoor

namespace Go.Proofs.YtnmldggopnbclaaGreatDoor
open Go Go.V Go.Proofs Go.V.Gr
open Go.RowKit (Below)
theorem i64max : IntKind.i64.max = 9223372036854775807 := by decide
def prS (s : ByteArray) : Prop := (bl s).all prn = true ∧ s.size ≤ 60
structure HdOk (x : Nd) : Prop where
 kd : x.kd.size ≤ 10
 n : i64 x.n
 tx : prS x.tx
 fs : ∀ f ∈ x.fs, prS f.2 ∧ i64 f.1
 len : x.fs.length ≤ 1000000
theorem qt_len {s : ByteArray} (h : prS s) : (qt (bl s)).length ≤ 122 := by
 have key : ∀ l : List UInt8, (l.flatMap esc).length ≤ 2 * l.length := by
  intro l; induction l with
  | nil => simp
  | cons c l ih => have := esc_len c; simp only [List.flatMap_cons, List.length_append, List.length_cons]; omega
 have := key (bl s)
 have h2 := bl_size s
 have := h.2
 simp only [qt, List.length_cons, List.length_append, List.length_nil]; omega
theorem featK_len {f : Ft} (h : prS f.2 ∧ i64 f.1) : (featK f).length ≤ 144 := by
 have := qt_len h.1; have := itoa_len h.2
 simp only [featK, List.length_cons, List.length_append]; omega
theorem ctr63 (w : World) (x : Nd) {a4 a5 : Option Addr} {l4 l5 : Nat} (c4 c5 : Nat) (hx : HdOk x) (hfs : RL 2 RFt w a4 l4 x.fs) (ht : Tb w) :
  Calls Tryz.prog 63 #[.agg #[.string x.kd, .int .i64 x.n, .string x.tx, .slice a4 l4 c4, .slice a5 l5 c5]] w fun en w' => ∃ s, en = .returned (.string s) ∧ ((bl s = headK x ∧ s.size ≤ 200 + 144 * x.fs.length) ∧ Ext w w') := by
 refine calls63 _ _ _ _ _ _ _ _ _ _ w ?_
 have e4 := hfs.len
 obtain ⟨hkd, hn, htx, hff, hfl⟩ := hx
 have qtl := qt_len htx; have itl := itoa_len hn
 refine AllocK.mk fun b w7 hb hB x7 => DrewK.mk fun w8 x8 => ?_
 have hB := hB.ext x8
 have y8 := x7.trans x8
 refine ⟨_, by rw [hB.cell]; rfl, by rw [i64max]; show ((x.kd.size + 1 : Nat) : Int) ≤ _; omega, _, by rw [add_mk, hB.cell]; rfl, _, by rw [add_mk, hB.cell]; rfl, (ctr55 w8 hn (ht.ext y8)).mono ?_⟩
 rintro en w13 ⟨s12, rfl, hs12, x13⟩
 have z12 : s12.size ≤ 21 := by rw [← bl_size, hs12]; exact itl
 have sz1 : ∀ (p q : ByteArray), (p ++ q).size = p.size + q.size := fun p q => by rw [← bl_size, ← bl_size, ← bl_size, bl_append, List.length_append]
 have k32 : (⟨#[32]⟩ : ByteArray).size = 1 := rfl
 refine ⟨_, rfl, Below.cel x13, by rw [i64max, sz1, k32]; omega, by rw [i64max, sz1, sz1, k32]; omega, (ctr93 w13 x.tx htx.1 (by have := htx.2; omega)).mono ?_⟩
 rintro en w16 ⟨s15, rfl, hs15, x16⟩
 have z15 : s15.size ≤ 122 := by rw [← bl_size, hs15]; exact qtl
 have y16 := (y8.trans x13).trans x16
 have hB := (hB.ext x13).ext x16
 refine ⟨_, rfl, Below.cel (x13.trans x16), by rw [i64max, sz1, sz1, sz1, k32]; omega, _, _, _, by rw [add_mk, hB.cell]; rfl, ?_⟩
 let pre : List UInt8 := bl x.kd ++ (32 :: (Lib.itoa x.n ++ (32 :: qt (bl x.tx))))
 refine ⟨fun s i w' => ∃ k : Nat, i = k ∧ k ≤ x.fs.length ∧ Ext w w' ∧ bl s = pre ++ (x.fs.take k).flatMap featK ∧ s.size ≤ 200 + 144 * k, fun _ i _ => x.fs.length - i.toNat, ⟨⟨0, rfl, by omega, y16, ?_, ?_⟩, trivial⟩, ?_⟩
 ·simp only [bl_append, hs12, hs15, List.take_zero, List.flatMap_nil, List.append_nil, pre]
  show (((bl x.kd ++ [32]) ++ Lib.itoa x.n) ++ [32]) ++ qt (bl x.tx) = _
  simp
 ·rw [sz1, sz1, sz1, sz1, k32]; omega
 rintro w21 s22 _ ⟨k, rfl, hk, y21, hs, hz⟩
 refine BoolK.mk (fun t => ?_) (fun t => ?_)
 ·have hlt : k < x.fs.length := by have := of_decide_eq_true t; omega
  obtain ⟨b1, ha, q0, q1, q2⟩ := ftAt hfs y21 hlt
  have hf := hff _ (List.getElem_mem hlt)
  have fl := featK_len hf
  refine ⟨⟨by omega, by omega⟩, adK ha ⟨_, q0, _, q1, ?_⟩⟩
  refine local2 fun b27 w30 hb27 hB27 x30 => DrewK.mk fun w31 x31 => ?_
  have hB27 := hB27.ext x31
  have y31 := (y21.trans x30).trans x31
  refine ⟨_, by rw [hB27.cell]; rfl, _, by rw [add_mk, hB27.cell]; rfl, (ctr55 w31 hf.2 (ht.ext y31)).mono ?_⟩
  rintro en w35 ⟨s34, rfl, hs34, x35⟩
  have z34 : s34.size ≤ 21 := by rw [← bl_size, hs34]; exact itoa_len hf.2
  refine ⟨_, rfl, Below.cel x35, by rw [i64max, k32]; omega, (ctr93 w35 x.fs[k].2 hf.1.1 (by have := hf.1.2; omega)).mono ?_⟩
  rintro en w38 ⟨s37, rfl, hs37, x38⟩
  have z37 : s37.size ≤ 122 := by rw [← bl_size, hs37]; exact qt_len hf.1
  have eK : bl (((⟨#[32]⟩ : ByteArray) ++ s34) ++ s37) = featK x.fs[k] := by
   rw [bl_append, bl_append, hs34, hs37]; show ([32] ++ _) ++ _ = _; simp [featK]
  refine ⟨_, rfl, Below.cel (x35.trans x38), by rw [i64max, sz1, k32]; omega, by rw [i64max, sz1, sz1, k32]; omega, ?_⟩
  rw [wrap_succ (by omega)]
  refine ⟨⟨k + 1, rfl, by omega, (y31.trans x35).trans x38, ?_, ?_⟩, by simp; omega⟩
  ·rw [bl_append, eK, hs, List.take_add_one, List.getElem?_eq_getElem hlt, List.flatMap_append]; simp
  ·rw [sz1, sz1, sz1, k32]; omega
 ·have : k = x.fs.length := by have := of_decide_eq_false t; omega
  subst this
  rw [List.take_length] at hs
  exact ⟨⟨by rw [hs]; simp [pre, headK], hz⟩, y21⟩
theorem ctr65 (w : World) (s : ByteArray) {a2 a3 : Option Addr} {l2 l3 : Nat} (c2 c3 : Nat) {ks cl : List Int} (hs : s.size ≤ 10000000000) (hks : RL 1 RInt w a2 l2 ks) (hkl : ks.length ≤ 1000000000) (hcl : Ints w a3 l3 cl) (hin : ∀ k ∈ ks, 0 ≤ k ∧ k < cl.length) (hc0 : ∀ c ∈ cl, 0 ≤ c ∧ c ≤ 9223372036854775807) (ht : Tb w) :
  Calls Tryz.prog 65 #[.string s, .slice a2 l2 c2, .slice a3 l3 c3] w fun en w' => ∃ t, en = .returned (.string t) ∧ (bl t = bl s ++ kidsK (ks.map fun k => cl[k.toNat]?.getD 0) ∧ Ext w w') := by
 refine calls65 _ _ _ _ _ _ _ _ w ?_
 have e2 := hks.len; have e3 := hcl.1
 have hbs := bl_size s
 obtain ⟨a4, c4, w5, q1, q2, x5⟩ := BufZ.ofStr (P := Tryz.prog) (t := 120) (w := w) s Tryz.underlying9 sltY Tryz.underlying5 (by omega)
 refine ⟨_, _, _, _, q1, ?_⟩
 refine ⟨fun a l c i w' => ∃ k : Nat, i = k ∧ k ≤ ks.length ∧ Ext w w' ∧ BufZ w.heap.size 5 w' a l c (bl s ++ kidsK ((ks.take k).map fun k => cl[k.toNat]?.getD 0)) ∧ (bl s ++ kidsK ((ks.take k).map fun k => cl[k.toNat]?.getD 0)).length ≤ s.size + 22 * k, fun _ _ _ i _ => ks.length - i.toNat, ⟨⟨0, rfl, by omega, x5, by simpa [kidsK] using q2, by simp [kidsK, hbs]⟩, trivial⟩, ?_⟩
 rintro w8 a l c _ ⟨k, rfl, hk, y8, hB, hl⟩
 refine BoolK.mk (fun t => ?_) (fun t => ?_)
 ·have hlt : k < ks.length := by have := of_decide_eq_true t; omega
  obtain ⟨b1, ha, r0⟩ := ksAt hks y8 hlt
  refine ⟨⟨by omega, by omega⟩, adK ha ⟨_, r0, DrewK.mk fun w13 x13 => ⟨w, Below.cel (y8.trans x13), ?_⟩⟩⟩
  have y13 := y8.trans x13
  have hk2 := hin _ (List.getElem_mem hlt)
  have hlt3 : ks[k].toNat < cl.length := by omega
  obtain ⟨b2, o2, ha2, r1⟩ := hcl.get hlt3
  have hc := hc0 _ (List.getElem_mem hlt3)
  refine ⟨⟨by omega, by omega⟩, adK ha2 ⟨cl[ks[k].toNat], by rw [add_mk]; simpa [RInt] using r1, ?_⟩⟩
  refine AllocK.mk fun b16 w17 hb16 hB16 x17 => ⟨Below.cel (y13.trans x17), ?_⟩
  have hx8 : w.heap.size ≤ w13.heap.size := y13.size
  obtain ⟨a18, c18, w19, p1, p2, p3⟩ := ((hB.ext x13).ext x17).append (ty := 120) (tx := 120) (ys := [44]) (x := .slice (some ⟨b16, 0, none⟩) 1 1) sltY (Nat.le_trans hx8 x17.size)
   (Src.ofSlice w17 sltY.under ⟨b16, 0, none⟩ 1 1 _ (by simp) (fun j u hu => by rw [add_mk, Nat.zero_add, hB16.cell]; simpa [cY] using hu) (fun u hu => by obtain ⟨_, _, rfl⟩ := List.mem_map.1 hu; rfl)) (by simp only [List.length_singleton]; omega)
  have b19 : Below w.heap.size w13 w19 := (x17.mono hx8).trans p3
  have y19 : Ext w w19 := Below.trans y13 b19
  refine ⟨_, _, _, _, p1, Below.cel y19, ?_⟩
  refine (ctr94 p2 y19.size (by simp only [List.length_append, List.length_singleton] at hl ⊢; omega) hc.1 hc.2 (ht.ext y19)).mono ?_
  rintro en w21 ⟨a20, l20, c20, rfl, s1, s2⟩
  refine ⟨_, _, _, rfl, ?_⟩
  have step : kidsK ((ks.take (k + 1)).map fun k => cl[k.toNat]?.getD 0) = kidsK ((ks.take k).map fun k => cl[k.toNat]?.getD 0) ++ (44 :: Lib.itoa cl[ks[k].toNat]) := by
   rw [List.take_add_one, List.getElem?_eq_getElem hlt, List.map_append]
   simp [kidsK, List.getElem?_eq_getElem hlt3]
  have il := itoa_len (n := cl[ks[k].toNat]) ⟨by omega, hc.2⟩
  rw [wrap_succ (by omega)]
  refine ⟨⟨k + 1, rfl, by omega, Below.trans y19 s2, ?_, ?_⟩, by simp; omega⟩
  ·rw [step]
   have e : bl s ++ (kidsK ((ks.take k).map fun k => cl[k.toNat]?.getD 0) ++ (44 :: Lib.itoa cl[ks[k].toNat])) = bl s ++ kidsK ((ks.take k).map fun k => cl[k.toNat]?.getD 0) ++ [44] ++ Lib.itoa cl[ks[k].toNat] := by simp
   rw [e]; exact s1
  ·rw [step]
   simp only [List.length_append, List.length_cons] at hl ⊢; omega
 ·have : k = ks.length := by have := of_decide_eq_false t; omega
  subst this
  rw [List.take_length] at hB
  obtain ⟨t, r1, r2⟩ := hB.str (src := 120) (dst := 9) Tryz.underlying120 Tryz.underlying5 Tryz.underlying9
  exact ⟨_, _, r1, r2, y8⟩
end Go.Proofs.YtnmldggopnbclaaGreatDoor

namespace Go.Proofs.YtnmldggopnbclaaGreatDoor
open Go Go.V Go.Proofs
open Go.RowKit (Below)
/-! manystrand/graph.order -/
def N32 (a1 : Option Addr) (l1 : Nat) (_c1 : Nat) (K : Option Addr → Nat → Nat → Option Addr → Nat → Nat → World → Prop) (w : World) : Prop :=
 (0 ≤ (l1 : Int) ∧ (l1 : Int) ≤ l1 ∧ ((1 : Nat) : Int) * l1 ≤ 281474976710656 ∧ (l1 : Int) ≤ 9223372036854775807) ∧
 AllocK w (madeCells (#[.bool false]) ((l1 : Int).toNat * 1)) 4 fun b2 w3 =>
 (0 ≤ (l1 : Int) ∧ (l1 : Int) ≤ l1 ∧ ((8 : Nat) : Int) * l1 ≤ 281474976710656 ∧ (l1 : Int) ≤ 9223372036854775807) ∧
 AllocK w3 (madeCells (#[.int .i64 0]) ((l1 : Int).toNat * 1)) 3 fun b4 w5 =>
 (0 ≤ (l1 : Int) ∧ (l1 : Int) ≤ l1 ∧ ((24 : Nat) : Int) * l1 ≤ 281474976710656 ∧ (l1 : Int) ≤ 9223372036854775807) ∧
 AllocK w5 (madeCells (#[.slice none 0 0]) ((l1 : Int).toNat * 1)) 37 fun b6 w7 =>
 ∃ (I8 : Int → World → Prop) (μ9 : Int → World → Nat),
 (I8 0 w7 ∧ True) ∧
 ∀ w10 x11, I8 x11 w10 →
 BoolK (decide (x11 < l1))
 ((0 ≤ x11 ∧ x11 < l1) ∧
 AddrK a1 fun b12 =>
 ∃ s13, w10.cell? ((b12.add (x11.toNat * 5)).add 0) = some (.string s13) ∧
 (∃ x14, w10.cell? ((b12.add (x11.toNat * 5)).add 1) = some (.int .i64 x14) ∧
 (∃ s15, w10.cell? ((b12.add (x11.toNat * 5)).add 2) = some (.string s15) ∧
 (∃ a16 l16 c16, w10.cell? ((b12.add (x11.toNat * 5)).add 3) = some (.slice a16 l16 c16) ∧
 (∃ a17 l17 c17, w10.cell? ((b12.add (x11.toNat * 5)).add 4) = some (.slice a17 l17 c17) ∧
 (AllocK w10 (#[.string ⟨#[]⟩, .int .i64 0, .string ⟨#[]⟩, .slice none 0 0, .slice none 0 0]) 39 fun b18 w19 =>
 SetK w19 (b18.add 0) (.string s13) fun w20 =>
 SetK w20 (b18.add 1) (.int .i64 x14) fun w21 =>
 SetK w21 (b18.add 2) (.string s15) fun w22 =>
 SetK w22 (b18.add 3) (.slice a16 l16 c16) fun w23 =>
 SetK w23 (b18.add 4) (.slice a17 l17 c17) fun w24 =>
 ∃ a25 l25 c25, w24.cell? (b18.add 4) = some (.slice a25 l25 c25) ∧
 ((0 ≤ x11 ∧ x11 < ((l1 : Int).toNat : Nat)) ∧
 SetK w24 (b4.add (x11.toNat * 1)) (.int .i64 l25) fun w26 =>
 ∃ a27 l27 c27, w26.cell? (b18.add 4) = some (.slice a27 l27 c27) ∧
 (∃ (I28 : Int → World → Prop) (μ29 : Int → World → Nat),
 (I28 0 w26 ∧ True) ∧
 ∀ w30 x31, I28 x31 w30 →
 BoolK (decide (x31 < l27))
 ((0 ≤ x31 ∧ x31 < l27) ∧
 AddrK a27 fun b32 =>
 ∃ x33, w30.cell? (b32.add (x31.toNat * 1)) = some (.int .i64 x33) ∧
 ((0 ≤ x33 ∧ x33 < ((l1 : Int).toNat : Nat)) ∧
 ∃ a34 l34 c34, w30.cell? (b6.add (x33.toNat * 1)) = some (.slice a34 l34 c34) ∧
 (AllocK w30 (#[(.int .i64 x11)]) 3 fun b35 w36 =>
 ∃ a37, ∃ l37, ∃ c37, ∃ w38, Sem.run Tryz.prog (Builtin.append_ #[37, 37] 37 #[(.slice a34 l34 c34), (.slice (some b35) 1 1)]) w36 = .ok (.slice a37 l37 c37) w38 ∧
 ((0 ≤ x33 ∧ x33 < ((l1 : Int).toNat : Nat)) ∧
 SetK w38 (b6.add (x33.toNat * 1)) (.slice a37 l37 c37) fun w39 =>
 I28 (IntKind.wrap .i64 (x31 + 1)) w39 ∧ μ29 (IntKind.wrap .i64 (x31 + 1)) w39 < μ29 x31 w30))))
 (I8 (IntKind.wrap .i64 (x11 + 1)) w30 ∧ μ9 (IntKind.wrap .i64 (x11 + 1)) w30 < μ9 x11 w10)))))))))
 (∃ (I40 : Option Addr → Nat → Nat → Int → World → Prop) (μ41 : Option Addr → Nat → Nat → Int → World → Nat),
 (I40 none 0 0 0 w10 ∧ True) ∧
 ∀ w42 a43 l43 c43 x44, I40 a43 l43 c43 x44 w42 →
 BoolK (decide (x44 < l1))
 ((0 ≤ x44 ∧ x44 < ((l1 : Int).toNat : Nat)) ∧
 ∃ x45, w42.cell? (b4.add (x44.toNat * 1)) = some (.int .i64 x45) ∧
 (BoolK (x45 == 0)
 (AllocK w42 (#[(.int .i64 x44)]) 3 fun b46 w47 =>
 ∃ a48, ∃ l48, ∃ c48, ∃ w49, Sem.run Tryz.prog (Builtin.append_ #[37, 37] 37 #[(.slice a43 l43 c43), (.slice (some b46) 1 1)]) w47 = .ok (.slice a48 l48 c48) w49 ∧
 (I40 a48 l48 c48 (IntKind.wrap .i64 (x44 + 1)) w49 ∧ μ41 a48 l48 c48 (IntKind.wrap .i64 (x44 + 1)) w49 < μ41 a43 l43 c43 x44 w42))
 (I40 a43 l43 c43 (IntKind.wrap .i64 (x44 + 1)) w42 ∧ μ41 a43 l43 c43 (IntKind.wrap .i64 (x44 + 1)) w42 < μ41 a43 l43 c43 x44 w42)))
 (∃ (I50 : Option Addr → Nat → Nat → Int → World → Prop) (μ51 : Option Addr → Nat → Nat → Int → World → Nat),
 (I50 a43 l43 c43 0 w42 ∧ True) ∧
 ∀ w52 a53 l53 c53 x54, I50 a53 l53 c53 x54 w52 →
 BoolK (decide (x54 < l53))
 ((0 ≤ x54 ∧ x54 < l53) ∧
 AddrK a53 fun b55 =>
 ∃ x56, w52.cell? (b55.add (x54.toNat * 1)) = some (.int .i64 x56) ∧
 ((0 ≤ x56 ∧ x56 < ((l1 : Int).toNat : Nat)) ∧
 SetK w52 (b2.add (x56.toNat * 1)) (.bool true) fun w57 =>
 (0 ≤ x54 ∧ x54 < l53) ∧
 AddrK a53 fun b58 =>
 ∃ x59, w57.cell? (b58.add (x54.toNat * 1)) = some (.int .i64 x59) ∧
 ((0 ≤ x59 ∧ x59 < ((l1 : Int).toNat : Nat)) ∧
 ∃ a60 l60 c60, w57.cell? (b6.add (x59.toNat * 1)) = some (.slice a60 l60 c60) ∧
 (∃ (I61 : Option Addr → Nat → Nat → Int → World → Prop) (μ62 : Option Addr → Nat → Nat → Int → World → Nat),
 (I61 a53 l53 c53 0 w57 ∧ True) ∧
 ∀ w63 a64 l64 c64 x65, I61 a64 l64 c64 x65 w63 →
 BoolK (decide (x65 < l60))
 ((0 ≤ x65 ∧ x65 < l60) ∧
 AddrK a60 fun b66 =>
 ∃ x67, w63.cell? (b66.add (x65.toNat * 1)) = some (.int .i64 x67) ∧
 ((0 ≤ x67 ∧ x67 < ((l1 : Int).toNat : Nat)) ∧
 ∃ x68, w63.cell? (b4.add (x67.toNat * 1)) = some (.int .i64 x68) ∧
 ((0 ≤ x67 ∧ x67 < ((l1 : Int).toNat : Nat)) ∧
 SetK w63 (b4.add (x67.toNat * 1)) (.int .i64 (IntKind.wrap .i64 (x68 - 1))) fun w69 =>
 (0 ≤ x67 ∧ x67 < ((l1 : Int).toNat : Nat)) ∧
 ∃ x70, w69.cell? (b4.add (x67.toNat * 1)) = some (.int .i64 x70) ∧
 (BoolK (x70 == 0)
 (AllocK w69 (#[(.int .i64 x67)]) 3 fun b71 w72 =>
 ∃ a73, ∃ l73, ∃ c73, ∃ w74, Sem.run Tryz.prog (Builtin.append_ #[37, 37] 37 #[(.slice a64 l64 c64), (.slice (some b71) 1 1)]) w72 = .ok (.slice a73 l73 c73) w74 ∧
 (I61 a73 l73 c73 (IntKind.wrap .i64 (x65 + 1)) w74 ∧ μ62 a73 l73 c73 (IntKind.wrap .i64 (x65 + 1)) w74 < μ62 a64 l64 c64 x65 w63))
 (I61 a64 l64 c64 (IntKind.wrap .i64 (x65 + 1)) w69 ∧ μ62 a64 l64 c64 (IntKind.wrap .i64 (x65 + 1)) w69 < μ62 a64 l64 c64 x65 w63)))))
 (I50 a64 l64 c64 (IntKind.wrap .i64 (x54 + 1)) w63 ∧ μ51 a64 l64 c64 (IntKind.wrap .i64 (x54 + 1)) w63 < μ51 a53 l53 c53 x54 w52)))))
 (K a53 l53 c53 (some b2) ((l1 : Int).toNat) ((l1 : Int).toNat) w52)))
def ann32 : Ann := (.two .nil (.two .nil (.two .nil (.two .nil (.two (.two .nil (.one (.loop [(25, (.one (.int .i64)))] [0, 2, 3, 4, 5, 23, 24] (.two .nil (.two (.two .nil .nil) (.two (.one (.two .nil (.two .nil (.two .nil (.one (.loop [(39, (.one (.int .i64)))] [0, 2, 3, 4, 5, 6, 23, 24, 25, 37, 38] (.two .nil (.two (.two .nil .nil) (.two (.one (.two .nil .nil)) .nil))))))))) .nil)))))) (.two (.two .nil (.one (.loop [(2, (.one .slice)), (57, (.one (.int .i64)))] [3, 4, 5, 56] (.two .nil (.two (.two .nil .nil) (.two (.one (.two .nil (.two .nil (.two .nil .nil)))) .nil)))))) (.two (.two .nil (.one (.loop [(2, (.one .slice)), (11, (.one (.int .i64)))] [3, 4, 5] (.two (.two .nil (.two .nil .nil)) (.two (.one (.two .nil (.two .nil (.one (.loop [(2, (.one .slice)), (90, (.one (.int .i64)))] [3, 4, 5, 11, 88, 89] (.two .nil (.two (.two .nil .nil) (.two (.one (.two .nil (.two .nil (.two .nil (.two .nil .nil))))) .nil)))))))) .nil))))) (.two .nil .nil))))))))
noncomputable def code32 : Code := match Tryz.f32.body with | some c => c | none => .skip
theorem calls32 (a1 : Option Addr) (l1 : Nat) (c1 : Nat) (K : Option Addr → Nat → Nat → Option Addr → Nat → Nat → World → Prop) (w : World) (h : N32 a1 l1 c1 K w) : Calls Tryz.prog 32 #[(.slice a1 l1 c1)] w fun en w' => ∃ (a75 : Option Addr), ∃ (l75 : Nat), ∃ (c75 : Nat), ∃ (a76 : Option Addr), ∃ (l76 : Nat), ∃ (c76 : Nat), en = .returned (.tuple #[(.slice a75 l75 c75), (.slice a76 l76 c76)]) ∧ K a75 l75 c75 a76 l76 c76 w' :=
 fn_calls tabOk mixed Tryz.func32 (by kernel_rfl : Tryz.f32.body = some code32) ann32 [(.slice a1 l1 c1)] [(.one .slice), (.one .slice)] K w (by kernel_rfl) (by kernel_rfl) (by kernel_rfl) h
end Go.Proofs.YtnmldggopnbclaaGreatDoor

namespace Go.Proofs.YtnmldggopnbclaaGreatDoor
open Go Go.V Go.Proofs Go.V.Gr
open Go.RowKit (Below)
theorem sltI : SlT Tryz.prog 37 3 1 8 := slOk.ok (by kernel_rfl : slOk Tryz.prog 37 3 1 8 = true)
theorem eI_flat (xs : List Int) : xs.flatMap eI = xs.map fun x => Value.int .i64 x := flat_one _ xs
theorem eB1_flat (xs : List Bool) : xs.flatMap eB1 = xs.map fun x => Value.bool x := flat_one _ xs
theorem eS_flat (xs : List SL) : xs.flatMap eS = xs.map fun s => Value.slice s.1 s.2.1 s.2.2 := flat_one _ xs
def zs (q : List Nat) : List Int := q.map fun i => ((i : Nat) : Int)
theorem zs_len (q : List Nat) : (zs q).length = q.length := List.length_map _
theorem zs_snoc (q : List Nat) (i : Nat) : zs (q ++ [i]) = zs q ++ [(i : Int)] := by simp [zs]
structure Sz (xs : List Nd) : Prop where
 len : xs.length ≤ 1000000
 fs : ∀ x ∈ xs, x.fs.length ≤ 1000000
 ks : ∀ x ∈ xs, x.ks.length ≤ 1000000
theorem Mine.own {ρ : Type} {own : OwnM ρ} {w0 w : World} {r : ρ} {α : Type} {e : TypeId} {sz : Nat} {enc : α → List Value} {s : SL} {xs : List α} (h : RowR own r e sz enc w s xs) (L : Mine own w0 w) : OwnR w0.heap.size e sz enc w s.1 s.2.1 s.2.2 xs := by
 obtain ⟨⟨h1, h2, h3⟩, ho⟩ := h
 refine ⟨h1, h2, h3.imp id fun ⟨g, cap, cur, e1, _, e2⟩ => ⟨g, cap, cur, e1, ?_, e2⟩⟩
 refine Nat.le_of_not_lt fun hlt => ?_
 have := L.fr.free g hlt rfl
 rw [ho g (by show (Value.slice s.1 s.2.1 s.2.2).ownBlock = _; rw [e1]; rfl)] at this
 cases this
section
variable {ρ : Type} {own : OwnM ρ} {r : ρ} {w : World}
theorem RowR.geti {e : TypeId} {b n c : Nat} {xs : List Int} (h : RowR own r e 1 eI w (some ⟨b, 0, none⟩, n, c) xs) {i : Nat} (hi : i < xs.length) : w.cell? ((⟨b, 0, none⟩ : Addr).add (((i : Nat) : Int).toNat * 1)) = some (.int .i64 (ga xs i)) := by
 obtain ⟨g, l, c', e1, _, _, e2⟩ := h.at_ eI_len hi
 simp only [Prod.mk.injEq, Option.some.injEq, Addr.mk.injEq, and_true] at e1
 obtain ⟨rfl, _, _⟩ := e1
 have := e2 0 (by omega)
 rw [Int.toNat_natCast, add_mk, ga_get hi, Nat.zero_add]; exact this
theorem RowR.seti {e : TypeId} {b n c : Nat} {xs : List Int} (h : RowR own r e 1 eI w (some ⟨b, 0, none⟩, n, c) xs) {i : Nat} (hi : i < xs.length) (v : Int) {F : World → Prop}
  (k : ∀ w', RowR own r e 1 eI w' (some ⟨b, 0, none⟩, n, c) (xs.set i v) → Upd own own r w w' → F w') : SetK w ((⟨b, 0, none⟩ : Addr).add (((i : Nat) : Int).toNat * 1)) (.int .i64 v) F := by
 rw [Int.toNat_natCast, add_mk, Nat.zero_add, Nat.mul_one]
 refine RowR.set h i _ (by omega) (by simp) ?_ k
 rw [eI_flat, eI_flat, List.map_set]
end
structure OSt (w0 w : World) (own : OwnM Nat) (n b2 b4 b6 : Nat) (fl : List Bool) (op : List Int) (S : List SL) (ab : List (List Nat)) (s3 : SL) (ord : List Nat) : Prop where
 loc : Mine own w0 w
 fl : RowR own 0 4 1 eB1 w (some ⟨b2, 0, none⟩, n, n) fl
 op : RowR own 1 3 1 eI w (some ⟨b4, 0, none⟩, n, n) op
 sl : RowR own 2 37 1 eS w (some ⟨b6, 0, none⟩, n, n) S
 abl : ab.length = n
 rows : ∀ (k : Nat) (s : SL) (q : List Nat), S[k]? = some s → ab[k]? = some q → RowR own (4 + k) 3 1 eI w s (zs q)
 ord : RowR own 3 3 1 eI w s3 (zs ord)
section
variable {w0 w w' : World} {own own' : OwnM Nat} {n b2 b4 b6 : Nat} {fl : List Bool} {op : List Int} {S : List SL} {ab : List (List Nat)} {s3 : SL} {ord : List Nat}
theorem OSt.ext (h : OSt w0 w own n b2 b4 b6 fl op S ab s3 ord) (x : Ext w w') : OSt w0 w' own n b2 b4 b6 fl op S ab s3 ord :=
 ⟨h.loc.ext x, h.fl.ext x, h.op.ext x, h.sl.ext x, h.abl, fun k s q h1 h2 => (h.rows k s q h1 h2).ext x, h.ord.ext x⟩
theorem OSt.opl (h : OSt w0 w own n b2 b4 b6 fl op S ab s3 ord) : op.length = n := h.op.len.symm
theorem OSt.fll (h : OSt w0 w own n b2 b4 b6 fl op S ab s3 ord) : fl.length = n := h.fl.len.symm
theorem OSt.sll (h : OSt w0 w own n b2 b4 b6 fl op S ab s3 ord) : S.length = n := h.sl.len.symm
theorem OSt.set_op (h : OSt w0 w own n b2 b4 b6 fl op S ab s3 ord) {i : Nat} (hi : i < n) (v : Int) {F : World → Prop} (k : ∀ w', OSt w0 w' own n b2 b4 b6 fl (op.set i v) S ab s3 ord → Upd own own 1 w w' → F w') :
  SetK w ((⟨b4, 0, none⟩ : Addr).add (((i : Nat) : Int).toNat * 1)) (.int .i64 v) F :=
 RowR.seti h.op (by rw [h.opl]; exact hi) v fun w' h1 u => k w' ⟨h.loc.upd u, h.fl.upd u (by decide), h1, h.sl.upd u (by decide), h.abl, fun k s q e1 e2 => (h.rows k s q e1 e2).upd u (by omega), h.ord.upd u (by decide)⟩ u
theorem OSt.set_fl (h : OSt w0 w own n b2 b4 b6 fl op S ab s3 ord) {i : Nat} (hi : i < n) (v : Bool) {F : World → Prop} (k : ∀ w', OSt w0 w' own n b2 b4 b6 (fl.set i v) op S ab s3 ord → F w') :
  SetK w ((⟨b2, 0, none⟩ : Addr).add (((i : Nat) : Int).toNat * 1)) (.bool v) F := by
 rw [Int.toNat_natCast, add_mk, Nat.zero_add, Nat.mul_one]
 refine RowR.set h.fl i _ (by rw [h.fll]; omega) (by simp) ?_ fun w' h1 u => k w' ⟨h.loc.upd u, h1, h.op.upd u (by decide), h.sl.upd u (by decide), h.abl, fun k s q e1 e2 => (h.rows k s q e1 e2).upd u (by omega), h.ord.upd u (by decide)⟩
 rw [eB1_flat, eB1_flat, List.map_set]
theorem OSt.get_op (h : OSt w0 w own n b2 b4 b6 fl op S ab s3 ord) {i : Nat} (hi : i < n) : w.cell? ((⟨b4, 0, none⟩ : Addr).add (((i : Nat) : Int).toNat * 1)) = some (.int .i64 (ga op i)) := RowR.geti h.op (by rw [h.opl]; exact hi)
theorem OSt.get_sl (h : OSt w0 w own n b2 b4 b6 fl op S ab s3 ord) {k : Nat} (hk : k < n) : ∃ (s : SL) (q : List Nat), S[k]? = some s ∧ ab[k]? = some q ∧ w.cell? ((⟨b6, 0, none⟩ : Addr).add (((k : Nat) : Int).toNat * 1)) = some (.slice s.1 s.2.1 s.2.2) ∧ RowR own (4 + k) 3 1 eI w s (zs q) := by
 have hs : S[k]? = some (S[k]'(by rw [h.sll]; exact hk)) := List.getElem?_eq_getElem _
 have hq : ab[k]? = some (ab[k]'(by rw [h.abl]; exact hk)) := List.getElem?_eq_getElem _
 refine ⟨_, _, hs, hq, ?_, h.rows k _ _ hs hq⟩
 obtain ⟨g, l, c', e1, _, _, e2⟩ := h.sl.at_ eS_len (i := k) (by rw [h.sll]; exact hk)
 simp only [Prod.mk.injEq, Option.some.injEq, Addr.mk.injEq, and_true] at e1
 obtain ⟨rfl, _, _⟩ := e1
 have := e2 0 (by omega)
 rw [Int.toNat_natCast, add_mk, Nat.zero_add]; exact this
theorem OSt.push_ab (h : OSt w0 w own n b2 b4 b6 fl op S ab s3 ord) {k i : Nat} (hk : k < n) {s : SL} {q : List Nat} (hs : S[k]? = some s) (hq : ab[k]? = some q) (hlen : q.length ≤ 10000000000000) {P F : World → Prop}
  (kk : ∀ w' own' S', OSt w0 w' own' n b2 b4 b6 fl op S' (ab.set k (q ++ [i])) s3 ord → F w') (_hP : P w) :
  AllocK w #[(.int .i64 (i : Int))] 3 fun b35 w36 => ∃ (a37 : Option Addr), ∃ (l37 : Nat), ∃ (c37 : Nat), ∃ (w38 : World), Sem.run Tryz.prog (Builtin.append_ #[37, 37] 37 #[(.slice s.1 s.2.1 s.2.2), (.slice (some b35) 1 1)]) w36 = .ok (.slice a37 l37 c37) w38 ∧
   ((0 ≤ (k : Int) ∧ (k : Int) < (n : Nat)) ∧ SetK w38 ((⟨b6, 0, none⟩ : Addr).add (((k : Nat) : Int).toNat * 1)) (.slice a37 l37 c37) F) := by
 have hr := h.rows k s q hs hq
 refine RowR.push ((i : Nat) : Int) sltI hr eI_len eI_one (by rw [zs_len]; omega) rfl fun s' w' h1 u => ⟨⟨by omega, by omega⟩, ?_⟩
 rw [Int.toNat_natCast, add_mk, Nat.zero_add, Nat.mul_one]
 have hsl := h.sl.upd u (by omega)
 refine RowR.set (ys := S.set k s') hsl k _ (by rw [h.sll]; omega) (by simp) (by rw [eS_flat, eS_flat, List.map_set]) fun w2 h2 u2 => ?_
 refine kk w2 _ (S.set k s') ⟨(h.loc.upd u).upd u2, (h.fl.upd u (by omega)).upd u2 (by decide), (h.op.upd u (by omega)).upd u2 (by decide), h2, by rw [List.length_set]; exact h.abl, fun j s2 q2 e1 e2 => ?_, (h.ord.upd u (by omega)).upd u2 (by decide)⟩
 rw [List.getElem?_set] at e1 e2
 by_cases hj : k = j
 ·subst hj
  rw [if_pos rfl, if_pos (by rw [h.sll]; exact hk)] at e1
  rw [if_pos rfl, if_pos (by rw [h.abl]; exact hk)] at e2
  cases e1; cases e2
  rw [zs_snoc]
  exact h1.upd u2 (by omega)
 ·rw [if_neg hj] at e1 e2
  exact ((h.rows j s2 q2 e1 e2).upd u (by omega)).upd u2 (by omega)
theorem OSt.push_ord (h : OSt w0 w own n b2 b4 b6 fl op S ab s3 ord) (i : Nat) (hlen : ord.length ≤ 10000000000000) {F : Option Addr → Nat → Nat → World → Prop}
  (kk : ∀ w' own' s', OSt w0 w' own' n b2 b4 b6 fl op S ab s' (ord ++ [i]) → F s'.1 s'.2.1 s'.2.2 w') :
  AllocK w #[(.int .i64 (i : Int))] 3 fun b35 w36 => ∃ (a37 : Option Addr), ∃ (l37 : Nat), ∃ (c37 : Nat), ∃ (w38 : World), Sem.run Tryz.prog (Builtin.append_ #[37, 37] 37 #[(.slice s3.1 s3.2.1 s3.2.2), (.slice (some b35) 1 1)]) w36 = .ok (.slice a37 l37 c37) w38 ∧ F a37 l37 c37 w38 := by
 refine RowR.push ((i : Nat) : Int) sltI h.ord eI_len eI_one (by rw [zs_len]; omega) rfl fun s' w' h1 u => ?_
 refine kk w' _ s' ⟨h.loc.upd u, h.fl.upd u (by decide), h.op.upd u (by decide), h.sl.upd u (by decide), h.abl, fun k s q e1 e2 => (h.rows k s q e1 e2).upd u (by omega), by rw [zs_snoc]; exact h1⟩
end
theorem OSt.get_ord {w0 w : World} {own : OwnM Nat} {n b2 b4 b6 : Nat} {fl : List Bool} {op : List Int} {S : List SL} {ab : List (List Nat)} {s3 : SL} {ord : List Nat} (h : OSt w0 w own n b2 b4 b6 fl op S ab s3 ord) {p : Nat} (hp : p < ord.length) :
  ∃ b, s3.1 = some b ∧ w.cell? (b.add (((p : Nat) : Int).toNat * 1)) = some (.int .i64 ((ord[p] : Nat) : Int)) := by
 obtain ⟨g, l, c', e1, _, _, e2⟩ := h.ord.at_ eI_len (i := p) (by rw [zs_len]; exact hp)
 refine ⟨_, by rw [e1], ?_⟩
 have := e2 0 (by omega)
 rw [Int.toNat_natCast, add_mk, Nat.zero_add]
 rw [show p * 1 = p * 1 + 0 by rfl]
 refine this.trans ?_
 simp [eI, zs]
theorem row_get {ρ : Type} {own : OwnM ρ} {r : ρ} {w : World} {e : TypeId} {s : SL} {q : List Nat} (h : RowR own r e 1 eI w s (zs q)) {p : Nat} (hp : p < q.length) :
  ∃ b, s.1 = some b ∧ w.cell? (b.add (((p : Nat) : Int).toNat * 1)) = some (.int .i64 ((q[p] : Nat) : Int)) := by
 obtain ⟨g, l, c', e1, _, _, e2⟩ := h.at_ eI_len (i := p) (by rw [zs_len]; exact hp)
 refine ⟨_, by rw [e1], ?_⟩
 have := e2 0 (by omega)
 rw [Int.toNat_natCast, add_mk, Nat.zero_add]
 rw [show p * 1 = p * 1 + 0 by rfl]
 refine this.trans ?_
 simp [eI, zs]
theorem map_set {n x : Nat} {f g : Nat → Bool} (hx : x < n) (hg : g x = true) (h : ∀ i, i ≠ x → g i = f i) : ((List.range n).map f).set x true = (List.range n).map g := by
 apply List.ext_getElem?
 intro i
 rw [List.getElem?_set]
 by_cases e : x = i
 ·subst e; simp [hx, hg]
 ·rw [if_neg e]
  rcases Nat.lt_or_ge i n with hi | hi
  ·simp [hi, h i (Ne.symm e)]
  ·rw [List.getElem?_eq_none (by simpa using hi), List.getElem?_eq_none (by simpa using hi)]
theorem ga_rep {n i : Nat} : ga (List.replicate n 0) i = 0 := by
 rw [ga, List.getElem?_replicate]; split <;> rfl
theorem bound_len {ab : List (List Nat)} {k B : Nat} (h : ∀ q ∈ ab, q.length ≤ B) {q : List Nat} (hq : ab[k]? = some q) : q.length ≤ B := h q (List.mem_of_getElem? hq)
set_option maxRecDepth 100000 in
theorem ctr32 (w : World) {a1 : Option Addr} {l1 : Nat} (c1 : Nat) {xs : List Nd} (h : RNds w a1 l1 xs) (hc : Closed xs) (hz : Sz xs) :
  Calls Tryz.prog 32 #[.slice a1 l1 c1] w fun en w' => ∃ a2 l2 c2 a3 l3 c3, en = .returned (.tuple #[.slice a2 l2 c2, .slice a3 l3 c3]) ∧
   (∃ ord : List Nat, (Topo xs ord ∧ ord.Nodup) ∧ OwnR w.heap.size 3 1 eI w' a2 l2 c2 (zs ord) ∧ OwnR w.heap.size 4 1 eB1 w' a3 l3 c3 ((List.range xs.length).map fun i => decide (i ∈ ord)) ∧ Ext w w') := by
 refine calls32 _ _ _ _ w ?_
 have hl := h.len
 have hn := hz.len
 obtain rfl : l1 = xs.length := hl
 simp only [N32, Int.toNat_natCast]
 refine ⟨⟨by omega, by omega, by omega, by omega⟩, RowR.make (x := false) (enc := eB1) rfl (by simp only [maxLen]; omega) (fun _ => (none : Option Nat)) 0 fun b2 w3 r2 u2 x3 hb2 => ?_⟩
 refine ⟨⟨by omega, by omega, by omega, by omega⟩, RowR.make (x := (0 : Int)) (enc := eI) rfl (by simp only [maxLen]; omega) (setOwn (fun _ => none) (some b2) 0) 1 fun b4 w5 r4 u4 x5 hb4 => ?_⟩
 refine ⟨⟨by omega, by omega, by omega, by omega⟩, RowR.make (x := ((none, 0, 0) : SL)) (enc := eS) rfl (by simp only [maxLen]; omega) (setOwn (setOwn (fun _ => none) (some b2) 0) (some b4) 1) 2 fun b6 w7 r6 u6 x7 hb6 => ?_⟩
 have L7 : Mine _ w w7 := (((Mine.refl w).upd u2).upd u4).upd u6
 have st7 : OSt w w7 _ xs.length b2 b4 b6 (List.replicate xs.length false) (List.replicate xs.length 0) (List.replicate xs.length ((none, 0, 0) : SL)) (List.replicate xs.length []) (none, 0, 0) [] :=
  ⟨L7, (r2.upd u4 (by decide)).upd u6 (by decide), r4.upd u6 (by decide), r6, by simp, fun k s q e1 e2 => (by
   rw [List.getElem?_replicate] at e1 e2
   split at e1
   ·rename_i hk
    rw [if_pos hk] at e2; cases e1; cases e2; exact RowR.nil _ _ _ _ _ _
   ·cases e1), RowR.nil _ _ _ _ _ _⟩
 have ab0 : Above xs (List.replicate xs.length []) 0 0 := ⟨by simp, fun k hk j => (by
  rw [List.getElem?_replicate, if_pos hk]; simp), fun k j hj => (by
  rw [List.getElem?_replicate] at hj; split at hj <;> simp at hj)⟩
 refine ⟨fun i w' => ∃ k : Nat, i = k ∧ k ≤ xs.length ∧ ∃ own op S ab, OSt w w' own xs.length b2 b4 b6 (List.replicate xs.length false) op S ab (none, 0, 0) [] ∧ Above xs ab k 0 ∧ (∀ j, j < xs.length → ga op j = if j < k then ((Gr.kids xs j).length : Int) else 0) ∧ ∀ q ∈ ab, q.length ≤ k * 1000000, fun i _ => xs.length - i.toNat,
  ⟨⟨0, rfl, by omega, _, _, _, _, st7, ab0, fun j hj => by rw [ga_rep, if_neg (by omega)], fun q hq => by rw [List.eq_of_mem_replicate hq]; simp⟩, trivial⟩, ?_⟩
 rintro w10 _ ⟨k, rfl, hk, own, op, S, ab, st, hab, hop, hbd⟩
 refine BoolK.mk (fun t => ?_) (fun t => ?_)
 ·have hlt : k < xs.length := by have := of_decide_eq_true t; omega
  obtain ⟨b12, ha, h0, h1, h2, h3, h4, ⟨a3, l3, c3, h5, h6⟩, ⟨a4, l4, c4, h7, h8⟩, _⟩ := ndAt h (Ext.refl w) hlt
  have y := st.loc.below
  have hkl : l4 = (Gr.kids xs k).length := by rw [h8.len, kids_len, nd_get hlt]
  have hks := hz.ks _ (List.getElem_mem hlt)
  have h8l : l4 = xs[k].ks.length := h8.len
  refine ⟨⟨by omega, by omega⟩, adK ha ⟨_, y.cell h0, _, y.cell h1, _, y.cell h2, _, _, _, y.cell h5, _, _, _, y.cell h7, ?_⟩⟩
  have hno0 := st.loc.top
  refine local5 fun b18 w24 hb18 hB18 x24 => ?_
  have st := st.ext x24
  refine ⟨_, _, _, by rw [add_mk, hB18.cell]; rfl, ⟨by omega, by omega⟩, ?_⟩
  refine st.set_op hlt _ fun w26 st26 u26 => ?_
  have hno : own b18 = none := hno0 b18 (by omega)
  have hB18 := Fr.blk hB18 u26.fr hno
  refine ⟨_, _, _, by rw [add_mk, hB18.cell]; rfl, ?_⟩
  refine ⟨fun i w' => ∃ m : Nat, i = m ∧ m ≤ l4 ∧ ∃ own S ab, OSt w w' own xs.length b2 b4 b6 (List.replicate xs.length false) (op.set k (l4 : Nat)) S ab (none, 0, 0) [] ∧ Above xs ab k m ∧ ∀ q ∈ ab, q.length ≤ k * 1000000 + m, fun i _ => l4 - i.toNat,
   ⟨⟨0, rfl, by omega, _, _, _, st26, hab, fun q hq => Nat.le_trans (hbd q hq) (Nat.le_add_right _ _)⟩, trivial⟩, ?_⟩
  rintro w30 _ ⟨m, rfl, hm, own, S, ab, st, hab, hbd⟩
  refine BoolK.mk (fun t => ?_) (fun t => ?_)
  ·have hmlt : m < l4 := by have := of_decide_eq_true t; omega
   have hmk : m < xs[k].ks.length := by rw [← h8.len]; exact hmlt
   obtain ⟨b32, ha2, q0⟩ := ksAt h8 st.loc.below hmk
   have hkid := hc _ (List.getElem_mem hlt) _ (List.getElem_mem hmk)
   refine ⟨⟨by omega, by omega⟩, adK ha2 ⟨_, q0, ?_⟩⟩
   obtain ⟨kk, hkk⟩ : ∃ kk : Nat, xs[k].ks[m] = (kk : Int) := ⟨xs[k].ks[m].toNat, by omega⟩
   rw [hkk] at hkid ⊢
   have hkl2 : kk < xs.length := by omega
   obtain ⟨s, q, e1, e2, e3, _⟩ := st.get_sl hkl2
   have hql := bound_len hbd e2
   refine ⟨⟨by omega, by omega⟩, _, _, _, e3, ?_⟩
   refine st.push_ab (P := fun _ => True) hkl2 e1 e2 (by omega) (fun w39 own' S' st' => ?_) trivial
   rw [wrap_succ (by omega)]
   refine ⟨⟨m + 1, rfl, by omega, _, _, _, st', ?_, ?_⟩, by simp; omega⟩
   ·have := hab.put (k := kk) (by rw [Gr.kids, nd_get hlt, List.getElem?_map, List.getElem?_eq_getElem hmk, hkk]; rfl) hkl2 hlt
    rw [e2] at this; exact this
   ·intro q' hq'
    rcases List.mem_or_eq_of_mem_set hq' with h | rfl
    ·have := hbd q' h; omega
    ·simp; omega
  ·have : m = l4 := by have := of_decide_eq_false t; omega
   subst this
   rw [wrap_succ (by omega)]
   refine ⟨⟨k + 1, rfl, by omega, _, _, _, _, st, hab.next (by omega), fun j hj => ?_, fun q hq => by have := hbd q hq; omega⟩, by simp; omega⟩
   rw [ga_set (by rw [← st.opl, List.length_set] at hlt; exact hlt)]
   by_cases e : j = k
   ·subst e; rw [if_pos rfl, if_pos (by omega), hkl]
   ·rw [if_neg e, hop j hj]
    by_cases e2 : j < k
    ·rw [if_pos e2, if_pos (by omega)]
    ·rw [if_neg e2, if_neg (by omega)]
 ·have : k = xs.length := by have := of_decide_eq_false t; omega
  subst this
  have hop' : ∀ j, j < xs.length → ga op j = ((Gr.kids xs j).length : Nat) := fun j hj => by rw [hop j hj, if_pos hj]
  refine ⟨fun a l c i w' => ∃ k : Nat, i = k ∧ k ≤ xs.length ∧ ∃ own, OSt w w' own xs.length b2 b4 b6 (List.replicate xs.length false) op S ab (a, l, c) ((List.range k).filter fun i => decide (ga op i = 0)), fun _ _ _ i _ => xs.length - i.toNat,
   ⟨⟨0, rfl, by omega, _, st⟩, trivial⟩, ?_⟩
  rintro w42 a43 l43 c43 _ ⟨k, rfl, hk, own, st⟩
  refine BoolK.mk (fun t => ?_) (fun t => ?_)
  ·have hlt : k < xs.length := by have := of_decide_eq_true t; omega
   refine ⟨⟨by omega, by omega⟩, _, st.get_op hlt, BoolK.mk (fun t1 => ?_) (fun t1 => ?_)⟩
   ·have t1 : ga op k = 0 := eq_of_beq t1
    have hfl : ((List.range k).filter fun i => decide (ga op i = 0)).length ≤ k := by
     have := List.length_filter_le (fun i => decide (ga op i = 0)) (List.range k); simpa using this
    refine st.push_ord k (by omega) fun w49 own' s' st' => ?_
    rw [wrap_succ (by omega)]
    refine ⟨⟨k + 1, rfl, by omega, own', ?_⟩, by simp; omega⟩
    rw [List.range_succ, List.filter_append]
    simpa [t1] using st'
   ·have t1 : ga op k ≠ 0 := by simpa using t1
    rw [wrap_succ (by omega)]
    refine ⟨⟨k + 1, rfl, by omega, own, ?_⟩, by simp; omega⟩
    rw [List.range_succ, List.filter_append]
    simpa [t1] using st
  ·have : k = xs.length := by have := of_decide_eq_false t; omega
   subst this
   have run0 : Run xs ((List.range xs.length).filter fun i => decide (ga op i = 0)) op 0 [] := Run.start st.opl hop' rfl
   have hf0 : (List.replicate xs.length false) = (List.range xs.length).map fun i => decide (i ∈ ((List.range xs.length).filter fun i => decide (ga op i = 0)).take 0) := by
    apply List.ext_getElem <;> simp
   generalize hO : ((List.range xs.length).filter fun i => decide (ga op i = 0)) = ord0 at st run0 hf0
   rw [hf0] at st
   clear hf0
   have habk : ∀ (x : Nat) (q : List Nat), x < xs.length → ab[x]? = some q → (∀ i, i < xs.length → q.count i = (Gr.kids xs i).count x) ∧ ∀ j ∈ q, j < xs.length := fun x q hx hq => by
    have h1 := hab.cnt x hx
    have h2 := hab.lt x
    rw [hq] at h1 h2
    exact ⟨fun i hi => by have := h1 i; rw [if_pos hi] at this; exact this, h2⟩
   have ordn : ∀ {o : List Nat} {op : List Int} {p : Nat} {E : List Nat}, Run xs o op p E → o.length ≤ xs.length := fun r => by
    have := len_le_of_sub _ (List.range xs.length) r.nodup fun x hx => List.mem_range.2 (r.lt x hx)
    simpa using this
   refine ⟨fun a l c i w' => ∃ p : Nat, i = p ∧ ∃ own op ord, OSt w w' own xs.length b2 b4 b6 ((List.range xs.length).map fun i => decide (i ∈ ord.take p)) op S ab (a, l, c) ord ∧ Run xs ord op p [], fun _ _ _ i _ => xs.length - i.toNat,
    ⟨⟨0, rfl, _, _, _, st, run0⟩, trivial⟩, ?_⟩
   rintro w52 a53 l53 c53 _ ⟨p, rfl, own, op, ord, st, run⟩
   have hl53 : l53 = ord.length := by have := st.ord.len; rw [zs_len] at this; exact this
   have hon := ordn run
   refine BoolK.mk (fun t => ?_) (fun t => ?_)
   ·have hlt : p < ord.length := by have := of_decide_eq_true t; omega
    obtain ⟨b55, ha, q0⟩ := st.get_ord hlt
    have hxl := run.lt _ (List.getElem_mem hlt)
    have hx : ord[p]? = some ord[p] := List.getElem?_eq_getElem hlt
    refine ⟨⟨by omega, by omega⟩, adK ha ⟨_, q0, ⟨by omega, by omega⟩, ?_⟩⟩
    refine st.set_fl hxl true fun w57 st57 => ?_
    obtain ⟨b58, ha2, q1⟩ := st57.get_ord hlt
    refine ⟨⟨by omega, by omega⟩, adK ha2 ⟨_, q1, ⟨by omega, by omega⟩, ?_⟩⟩
    obtain ⟨s, q, e1, e2, e3, _⟩ := st57.get_sl hxl
    obtain ⟨hcnt, hqlt⟩ := habk _ q hxl e2
    refine ⟨_, _, _, e3, ?_⟩
    have hsq : s.2.1 = q.length := by have := (st57.rows _ s q e1 e2).len; rw [zs_len] at this; exact this
    have hfl : ((List.range xs.length).map fun i => decide (i ∈ ord.take p)).set ord[p] true = (List.range xs.length).map fun i => decide (i ∈ ord.take (p + 1)) :=
     map_set (f := fun i => decide (i ∈ ord.take p)) (g := fun i => decide (i ∈ ord.take (p + 1))) hxl (decide_eq_true (by rw [take_succ_get hx]; exact List.mem_append_right _ List.mem_cons_self)) fun i hi => by
      show decide (i ∈ ord.take (p + 1)) = decide (i ∈ ord.take p)
      rw [take_succ_get hx, decide_eq_decide, List.mem_append, List.mem_singleton]; exact ⟨fun h => h.resolve_right hi, .inl⟩
    rw [hfl] at st57
    have hqb : q.length ≤ xs.length * 1000000 := bound_len hbd e2
    refine ⟨fun a l c i w' => ∃ m : Nat, i = m ∧ m ≤ q.length ∧ ∃ own op ord', OSt w w' own xs.length b2 b4 b6 ((List.range xs.length).map fun i => decide (i ∈ ord.take (p + 1))) op S ab (a, l, c) ord' ∧ Run xs ord' op p (q.take m) ∧ ord'.take (p + 1) = ord.take (p + 1) ∧ ord'[p]? = some ord[p], fun _ _ _ i _ => q.length - i.toNat,
     ⟨⟨0, rfl, by omega, _, _, _, st57, run, rfl, hx⟩, trivial⟩, ?_⟩
    rintro w63 a64 l64 c64 _ ⟨m, rfl, hm, own, op, ord', st, run, hto, hx'⟩
    refine BoolK.mk (fun t => ?_) (fun t => ?_)
    ·have hmlt : m < q.length := by have := of_decide_eq_true t; omega
     obtain ⟨b66, ha3, q2⟩ := row_get (st.rows _ s q e1 e2) hmlt
     have hul := hqlt _ (List.getElem_mem hmlt)
     refine ⟨⟨by omega, by omega⟩, adK ha3 ⟨_, q2, ⟨by omega, by omega⟩, _, st.get_op hul, ⟨by omega, by omega⟩, ?_⟩⟩
     have htk : q.take (m + 1) = q.take m ++ [q[m]] := take_succ_get (List.getElem?_eq_getElem hmlt)
     obtain ⟨h1, run'⟩ := run.up hx' hul fun i hi => by
      rw [← htk, ← hcnt i hi]; exact (List.take_sublist _ _).count_le _
     have hv := run.opv _ hul
     have hcb : (cnt xs (ord'.take p) q[m] : Int) ≤ 1000000 := by
      have e := List.countP_le_length (p := fun k => decide (k ∉ ord'.take p)) (l := Gr.kids xs q[m])
      have e2 := hz.ks _ (List.getElem_mem hul)
      rw [kids_len, nd_get hul] at e
      unfold cnt; omega
     rw [wrap_id (by omega) (by omega)]
     refine st.set_op hul _ fun w69 st69 _ => ?_
     refine ⟨⟨by omega, by omega⟩, _, st69.get_op hul, ?_⟩
     have hpl : p < ord'.length := (List.getElem?_eq_some_iff.1 hx').1
     have hon' := ordn run
     rw [ga_set (by rw [st.opl]; exact hul), if_pos rfl]
     rw [← htk] at run'
     refine BoolK.mk (fun t1 => ?_) (fun t1 => ?_)
     ·have t1 : ga op q[m] - 1 = 0 := eq_of_beq t1
      rw [if_pos t1] at run'
      refine st69.push_ord q[m] (by omega) fun w74 own' s' st' => ?_
      rw [wrap_succ (by omega)]
      exact ⟨⟨m + 1, rfl, by omega, _, _, _, st', run', by rw [List.take_append_of_le_length (by omega)]; exact hto, by rw [List.getElem?_append_left hpl]; exact hx'⟩, by simp; omega⟩
     ·have t1 : ga op q[m] - 1 ≠ 0 := by simpa using t1
      rw [if_neg t1] at run'
      rw [wrap_succ (by omega)]
      exact ⟨⟨m + 1, rfl, by omega, _, _, _, st69, run', hto, hx'⟩, by simp; omega⟩
    ·have : m = q.length := by have := of_decide_eq_false t; omega
     subst this
     rw [List.take_length] at run
     rw [wrap_succ (by omega)]
     refine ⟨⟨p + 1, rfl, _, _, _, by rw [hto]; exact st, run.next hx' hcnt⟩, by simp; omega⟩
   ·have hp : p = ord.length := by have := of_decide_eq_false t; have := run.le; omega
    subst hp
    have h1 := st.fl
    rw [List.take_length] at h1
    exact ⟨ord, ⟨run.done hc, run.nodup⟩, Mine.own st.ord st.loc, Mine.own h1 st.loc, st.loc.below⟩
end Go.Proofs.YtnmldggopnbclaaGreatDoor

namespace Go.V.Gr
open Go Go.V
structure KeyOk (x : Nd) : Prop where
 kd : KdOk x
 ks : x.ks.length = x.fs.length
structure RInv (xs : List Nd) (ord : List Nat) (base cnt : Nat) (c : Nat → Int) : Prop where
 flat : ∀ (i j : Nat), i ∈ ord → j ∈ ord → (c i = c j ↔ Eqv xs xs i j)
 low : ∀ i ∈ ord, 0 ≤ c i ∧ c i < base
 part : cnt = 0 ∨ Part xs ord base cnt c
def keyN (xs : List Nd) (c : Nat → Int) (cnt : Nat) (i : Nat) : List UInt8 := if cnt = 0 then headK (nd xs i) else keyR xs c i
theorem RInv.round {xs : List Nd} {ord : List Nat} {base cnt : Nat} {c c' : Nat → Int} {N : List ByteArray} (h : RInv xs ord base cnt c) (ho : Topo xs ord) (hc : Closed xs) (hk : ∀ x ∈ xs, KeyOk x) (hN : N.Nodup)
  (hflat : ∀ i ∈ ord, c' i = c i) (num : ∀ i, i < xs.length → i ∉ ord → ∃ (q : Nat) (s : ByteArray), c' i = base + q ∧ N[q]? = some s ∧ bl s = keyN xs c cnt i)
  (hit : ∀ q, q < N.length → ∃ i, i < xs.length ∧ i ∉ ord ∧ c' i = base + (q : Nat)) :
  (N.length = cnt → ∀ i j, i < xs.length → j < xs.length → (c' i = c' j ↔ Eqv xs xs i j)) ∧ (N.length ≠ cnt → cnt < N.length ∧ RInv xs ord base N.length c') := by
 have hkd : ∀ i, i < xs.length → KeyOk (nd xs i) := fun i hi => by rw [nd_get hi]; exact hk _ (List.getElem_mem _)
 have nd : Numd N (keyN xs c cnt) c' base ((List.range xs.length).filter fun i => decide (i ∉ ord)) := fun i hi => by
  simp only [List.mem_filter, List.mem_range, decide_eq_true_eq] at hi
  exact num i hi.1 hi.2
 have mem : ∀ i, i < xs.length → i ∉ ord → i ∈ ((List.range xs.length).filter fun i => decide (i ∉ ord)) := fun i h1 h2 => by simp [h1, h2]
 have iff0 : ∀ i j, i < xs.length → j < xs.length → i ∉ ord → j ∉ ord → (c' i = c' j ↔ keyN xs c cnt i = keyN xs c cnt j) := fun i j hi hj ni nj => nd.iff hN (mem i hi ni) (mem j hj nj)
 have flat' : ∀ i j, i ∈ ord → j ∈ ord → (c' i = c' j ↔ Eqv xs xs i j) := fun i j hi hj => by rw [hflat i hi, hflat j hj]; exact h.flat i j hi hj
 have low' : ∀ i ∈ ord, 0 ≤ c' i ∧ c' i < base := fun i hi => by rw [hflat i hi]; exact h.low i hi
 have high : ∀ i, i < xs.length → i ∉ ord → (base : Int) ≤ c' i ∧ c' i < base + N.length := fun i hi ni => by
  obtain ⟨q, s, e1, e2, _⟩ := num i hi ni
  have := (List.getElem?_eq_some_iff.1 e2).1
  omega
 by_cases h0 : cnt = 0
 ·subst h0
  have iff1 : ∀ i j, i < xs.length → j < xs.length → i ∉ ord → j ∉ ord → (c' i = c' j ↔ (Gr.nd xs i).hd = (Gr.nd xs j).hd) := fun i j hi hj ni nj => by
   rw [iff0 i j hi hj ni nj, keyN, keyN, if_pos rfl, if_pos rfl]
   exact headK_iff (hkd i hi).kd (hkd j hj).kd (hkd i hi).ks (hkd j hj).ks
  constructor
  ·intro hN0 i j hi hj
   have all : ∀ i, i < xs.length → i ∈ ord := fun i hi => Classical.byContradiction fun ni => by
    have := high i hi ni; omega
   exact flat' i j (all i hi) (all j hj)
  ·intro hN0
   exact ⟨by omega, flat', low', .inr ⟨flat', low', high, hit, fun i j hi hj ni nj e => (iff1 i j hi hj ni nj).2 e.head, fun i j hi hj ni nj e => (iff1 i j hi hj ni nj).1 e⟩⟩
 ·have P := h.part.resolve_left h0
  obtain ⟨P', hle, hfin⟩ := P.step ho hc hflat high hit fun i j hi hj ni nj => by
   rw [iff0 i j hi hj ni nj, keyN, keyN, if_neg h0, if_neg h0]; exact keyR_iff
  exact ⟨fun e => hfin e, fun e => ⟨by omega, flat', low', .inr P'⟩⟩
end Go.V.Gr

namespace Go.Proofs.YtnmldggopnbclaaGreatDoor
open Go Go.V Go.Proofs
open Go.RowKit (Below)
/-! manystrand/graph.classes -/
def N35 (a1 : Option Addr) (l1 : Nat) (c1 : Nat) (K : Option Addr → Nat → Nat → World → Prop) (w : World) : Prop :=
 (0 ≤ (l1 : Int) ∧ (l1 : Int) ≤ l1 ∧ ((8 : Nat) : Int) * l1 ≤ 281474976710656 ∧ (l1 : Int) ≤ 9223372036854775807) ∧
 AllocK w (madeCells (#[.int .i64 0]) ((l1 : Int).toNat * 1)) 3 fun b2 w3 =>
 (0 ≤ (l1 : Int) ∧ (l1 : Int) ≤ l1 ∧ ((16 : Nat) : Int) * l1 ≤ 281474976710656 ∧ (l1 : Int) ≤ 9223372036854775807) ∧
 AllocK w3 (madeCells (#[.string ⟨#[]⟩]) ((l1 : Int).toNat * 1)) 9 fun b4 w5 =>
 ∃ (I6 : Int → World → Prop) (μ7 : Int → World → Nat),
 (I6 0 w5 ∧ True) ∧
 ∀ w8 x9, I6 x9 w8 →
 BoolK (decide (x9 < l1))
 ((0 ≤ x9 ∧ x9 < l1) ∧
 AddrK a1 fun b10 =>
 ∃ s11, w8.cell? ((b10.add (x9.toNat * 5)).add 0) = some (.string s11) ∧
 (∃ x12, w8.cell? ((b10.add (x9.toNat * 5)).add 1) = some (.int .i64 x12) ∧
 (∃ s13, w8.cell? ((b10.add (x9.toNat * 5)).add 2) = some (.string s13) ∧
 (∃ a14 l14 c14, w8.cell? ((b10.add (x9.toNat * 5)).add 3) = some (.slice a14 l14 c14) ∧
 (∃ a15 l15 c15, w8.cell? ((b10.add (x9.toNat * 5)).add 4) = some (.slice a15 l15 c15) ∧
 (AllocK w8 (#[.string ⟨#[]⟩, .int .i64 0, .string ⟨#[]⟩, .slice none 0 0, .slice none 0 0]) 39 fun b16 w17 =>
 SetK w17 (b16.add 0) (.string s11) fun w18 =>
 SetK w18 (b16.add 1) (.int .i64 x12) fun w19 =>
 SetK w19 (b16.add 2) (.string s13) fun w20 =>
 SetK w20 (b16.add 3) (.slice a14 l14 c14) fun w21 =>
 SetK w21 (b16.add 4) (.slice a15 l15 c15) fun w22 =>
 ∃ s23, w22.cell? (b16.add 0) = some (.string s23) ∧
 (∃ x24, w22.cell? (b16.add 1) = some (.int .i64 x24) ∧
 (∃ s25, w22.cell? (b16.add 2) = some (.string s25) ∧
 (∃ a26 l26 c26, w22.cell? (b16.add 3) = some (.slice a26 l26 c26) ∧
 (∃ a27 l27 c27, w22.cell? (b16.add 4) = some (.slice a27 l27 c27) ∧
 (Calls Tryz.prog 63 #[(.agg #[(.string s23), (.int .i64 x24), (.string s25), (.slice a26 l26 c26), (.slice a27 l27 c27)])] w22 fun e30 w29 =>
 ∃ s28, e30 = .returned (.string s28) ∧
 ((0 ≤ x9 ∧ x9 < ((l1 : Int).toNat : Nat)) ∧
 SetK w29 (b4.add (x9.toNat * 1)) (.string s28) fun w31 =>
 I6 (IntKind.wrap .i64 (x9 + 1)) w31 ∧ μ7 (IntKind.wrap .i64 (x9 + 1)) w31 < μ7 x9 w8))))))))))))
 (Calls Tryz.prog 32 #[(.slice a1 l1 c1)] w8 fun e35 w34 =>
 ∃ a32, ∃ l32, ∃ c32, ∃ a33, ∃ l33, ∃ c33, e35 = .returned (.tuple #[(.slice a32 l32 c32), (.slice a33 l33 c33)]) ∧
 (∃ m36, ∃ w37, Sem.run Tryz.prog (Instr.makeMap 63 none) w34 = .ok (.map m36) w37 ∧
 (AllocK w37 (#[.map none]) 63 fun b38 w39 =>
 SetK w39 b38 (.map m36) fun w40 =>
 ∃ (I41 : Int → World → Prop) (μ42 : Int → World → Nat),
 (I41 0 w40 ∧ True) ∧
 ∀ w43 x44, I41 x44 w43 →
 BoolK (decide (x44 < l32))
 ((0 ≤ x44 ∧ x44 < l32) ∧
 AddrK a32 fun b45 =>
 ∃ x46, w43.cell? (b45.add (x44.toNat * 1)) = some (.int .i64 x46) ∧
 (DrewK w43 fun w47 =>
 (0 ≤ x46 ∧ x46 < ((l1 : Int).toNat : Nat)) ∧
 ∃ s48, w47.cell? (b4.add (x46.toNat * 1)) = some (.string s48) ∧
 ((0 ≤ x46 ∧ x46 < l1) ∧
 AddrK a1 fun b49 =>
 ∃ a50 l50 c50, w47.cell? ((b49.add (x46.toNat * 5)).add 4) = some (.slice a50 l50 c50) ∧
 (Calls Tryz.prog 65 #[(.string s48), (.slice a50 l50 c50), (.slice (some b2) ((l1 : Int).toNat) ((l1 : Int).toNat))] w47 fun e53 w52 =>
 ∃ s51, e53 = .returned (.string s51) ∧
 ((((⟨#[102, 32]⟩ : ByteArray).size + s51.size : Nat) : Int) ≤ IntKind.i64.max ∧
 (Enters Tryz.prog 64 ∧
 (Calls Tryz.prog 64 #[(.string ((⟨#[102, 32]⟩ : ByteArray) ++ s51)), (.pointer (some b38))] w52 fun e56 w55 =>
 ∃ x54, e56 = .returned (.int .i64 x54) ∧
 ((0 ≤ x46 ∧ x46 < ((l1 : Int).toNat : Nat)) ∧
 SetK w55 (b2.add (x46.toNat * 1)) (.int .i64 x54) fun w57 =>
 I41 (IntKind.wrap .i64 (x44 + 1)) w57 ∧ μ42 (IntKind.wrap .i64 (x44 + 1)) w57 < μ42 x44 w43))))))))
 (∃ m58, w43.cell? b38 = some (.map m58) ∧
 (∃ x59, ∃ w60, Sem.run Tryz.prog (Builtin.len_ #[63] 3 #[(.map m58)]) w43 = .ok (.int .i64 x59) w60 ∧
 (∃ (I61 : Option Addr → Nat → Nat → Int → World → Prop) (μ62 : Option Addr → Nat → Nat → Int → World → Nat),
 (I61 none 0 0 0 w60 ∧ True) ∧
 ∀ w63 a64 l64 c64 x65, I61 a64 l64 c64 x65 w63 →
 BoolK (decide (x65 < l1))
 ((0 ≤ x65 ∧ x65 < l33) ∧
 AddrK a33 fun b66 =>
 ∃ p67, w63.cell? (b66.add (x65.toNat * 1)) = some (.bool p67) ∧
 (BoolK (!p67)
 (AllocK w63 (#[(.int .i64 x65)]) 3 fun b68 w69 =>
 ∃ a70, ∃ l70, ∃ c70, ∃ w71, Sem.run Tryz.prog (Builtin.append_ #[37, 37] 37 #[(.slice a64 l64 c64), (.slice (some b68) 1 1)]) w69 = .ok (.slice a70 l70 c70) w71 ∧
 (I61 a70 l70 c70 (IntKind.wrap .i64 (x65 + 1)) w71 ∧ μ62 a70 l70 c70 (IntKind.wrap .i64 (x65 + 1)) w71 < μ62 a64 l64 c64 x65 w63))
 (I61 a64 l64 c64 (IntKind.wrap .i64 (x65 + 1)) w63 ∧ μ62 a64 l64 c64 (IntKind.wrap .i64 (x65 + 1)) w63 < μ62 a64 l64 c64 x65 w63)))
 (∃ (I72 : Int → World → Prop) (μ73 : Int → World → Nat),
 (I72 0 w63 ∧ True) ∧
 ∀ w74 x75, I72 x75 w74 →
 ∃ m76, ∃ w77, Sem.run Tryz.prog (Instr.makeMap 63 none) w74 = .ok (.map m76) w77 ∧
 ((0 ≤ (l64 : Int) ∧ (l64 : Int) ≤ l64 ∧ ((8 : Nat) : Int) * l64 ≤ 281474976710656 ∧ (l64 : Int) ≤ 9223372036854775807) ∧
 AllocK w77 (madeCells (#[.int .i64 0]) ((l64 : Int).toNat * 1)) 3 fun b78 w79 =>
 ∃ (I80 : Int → World → Prop) (μ81 : Int → World → Nat),
 (I80 0 w79 ∧ True) ∧
 ∀ w82 x83, I80 x83 w82 →
 BoolK (decide (x83 < l64))
 ((0 ≤ x83 ∧ x83 < l64) ∧
 AddrK a64 fun b84 =>
 ∃ x85, w82.cell? (b84.add (x83.toNat * 1)) = some (.int .i64 x85) ∧
 ((0 ≤ x85 ∧ x85 < ((l1 : Int).toNat : Nat)) ∧
 ∃ x86, w82.cell? (b2.add (x85.toNat * 1)) = some (.int .i64 x86) ∧
 (Calls Tryz.prog 55 #[(.int .i64 x86)] w82 fun e89 w88 =>
 ∃ s87, e89 = .returned (.string s87) ∧
 (((s87.size + (⟨#[32]⟩ : ByteArray).size : Nat) : Int) ≤ IntKind.i64.max ∧
 (∃ (J90 : ByteArray → World → Prop),
 (∀ w91 s92, J90 s92 w91 →
 ∃ x93, ∃ p94, ∃ w95, Sem.run Tryz.prog (Instr.lookup 63 (.map m76) (.string s92) true) w91 = .ok (.tuple #[(.int .i64 x93), (.bool p94)]) w95 ∧
 (BoolK (!p94)
 (∃ x96, ∃ w97, Sem.run Tryz.prog (Builtin.len_ #[63] 3 #[(.map m76)]) w95 = .ok (.int .i64 x96) w97 ∧
 (∃ w98, Sem.run Tryz.prog (Instr.mapUpdate 63 (.map m76) (.string s92) (.int .i64 (IntKind.wrap .i64 (x59 + x96)))) w97 = .ok () w98 ∧
 ((0 ≤ x83 ∧ x83 < ((l64 : Int).toNat : Nat)) ∧
 SetK w98 (b78.add (x83.toNat * 1)) (.int .i64 (IntKind.wrap .i64 (x59 + x96))) fun w99 =>
 I80 (IntKind.wrap .i64 (x83 + 1)) w99 ∧ μ81 (IntKind.wrap .i64 (x83 + 1)) w99 < μ81 x83 w82)))
 ((0 ≤ x83 ∧ x83 < ((l64 : Int).toNat : Nat)) ∧
 SetK w95 (b78.add (x83.toNat * 1)) (.int .i64 x93) fun w100 =>
 I80 (IntKind.wrap .i64 (x83 + 1)) w100 ∧ μ81 (IntKind.wrap .i64 (x83 + 1)) w100 < μ81 x83 w82))) ∧
 (BoolK (x75 == 0)
 ((0 ≤ x85 ∧ x85 < ((l1 : Int).toNat : Nat)) ∧
 ∃ s101, w88.cell? (b4.add (x85.toNat * 1)) = some (.string s101) ∧
 (J90 s101 w88))
 ((0 ≤ x85 ∧ x85 < l1) ∧
 AddrK a1 fun b102 =>
 ∃ a103 l103 c103, w88.cell? ((b102.add (x85.toNat * 5)).add 4) = some (.slice a103 l103 c103) ∧
 (Calls Tryz.prog 65 #[(.string (s87 ++ (⟨#[32]⟩ : ByteArray))), (.slice a103 l103 c103), (.slice (some b2) ((l1 : Int).toNat) ((l1 : Int).toNat))] w88 fun e106 w105 =>
 ∃ s104, e106 = .returned (.string s104) ∧
 (J90 s104 w105)))))))))
 (∃ (I107 : Int → World → Prop) (μ108 : Int → World → Nat),
 (I107 0 w82 ∧ True) ∧
 ∀ w109 x110, I107 x110 w109 →
 BoolK (decide (x110 < l64))
 ((0 ≤ x110 ∧ x110 < l64) ∧
 AddrK a64 fun b111 =>
 ∃ x112, w109.cell? (b111.add (x110.toNat * 1)) = some (.int .i64 x112) ∧
 ((0 ≤ x110 ∧ x110 < ((l64 : Int).toNat : Nat)) ∧
 ∃ x113, w109.cell? (b78.add (x110.toNat * 1)) = some (.int .i64 x113) ∧
 ((0 ≤ x112 ∧ x112 < ((l1 : Int).toNat : Nat)) ∧
 SetK w109 (b2.add (x112.toNat * 1)) (.int .i64 x113) fun w114 =>
 I107 (IntKind.wrap .i64 (x110 + 1)) w114 ∧ μ108 (IntKind.wrap .i64 (x110 + 1)) w114 < μ108 x110 w109)))
 (∃ x115, ∃ w116, Sem.run Tryz.prog (Builtin.len_ #[63] 3 #[(.map m76)]) w109 = .ok (.int .i64 x115) w116 ∧
 (BoolK (x115 == x75)
 (K (some b2) ((l1 : Int).toNat) ((l1 : Int).toNat) w116)
 (∃ x117, ∃ w118, Sem.run Tryz.prog (Builtin.len_ #[63] 3 #[(.map m76)]) w116 = .ok (.int .i64 x117) w118 ∧
 (I72 x117 w118 ∧ μ73 x117 w118 < μ73 x75 w74)))))))))))))
def ann35 : Ann := (.two .nil (.two .nil (.two .nil (.two (.two .nil (.one (.loop [(34, (.one (.int .i64)))] [0, 3, 4, 32, 33] (.two .nil (.two (.two .nil .nil) (.two (.one (.two .nil .nil)) .nil)))))) (.two .nil (.two .nil (.two .nil (.two (.two .nil (.one (.loop [(54, (.one (.int .i64)))] [0, 3, 4, 8, 9, 10, 52, 53] (.two .nil (.two (.two .nil .nil) (.two (.one (.two .nil (.anyC 17 (.take 0 (.take 1 (.take 2 (.take 3 (.take 4 (.take 5 (.take 6 (.take 7 (.take 8 (.take 9 (.take 10 (.take 11 (.take 12 (.one 13 (.take 14 (.one 15 (.take 16 .done)))))))))))))))))))) .nil)))))) (.two .nil (.two .nil (.two (.two .nil (.one (.loop [(14, (.one .slice)), (80, (.one (.int .i64)))] [0, 3, 4, 8, 13, 79] (.two .nil (.two (.two .nil .nil) (.two (.one (.two .nil (.two .nil (.two .nil .nil)))) .nil)))))) (.two .nil (.one (.loop [(16, (.one (.int .i64)))] [0, 3, 4, 13, 14] (.one (.two .nil (.two .nil (.two (.two .nil (.one (.loop [(99, (.one (.int .i64)))] [0, 3, 4, 13, 14, 16, 17, 18, 97, 98] (.two .nil (.two (.two .nil .nil) (.two (.one (.two .nil (.two .nil (.cut [(21, (.one .str))] [0, 3, 4, 13, 14, 16, 17, 18, 19, 97, 98, 99] (.two .nil (.two .nil .nil)) (.two .nil (.two (.two .nil (.two (.two .nil .nil) .nil)) .nil)))))) .nil)))))) (.two (.two .nil (.one (.loop [(146, (.one (.int .i64)))] [0, 3, 4, 13, 14, 16, 17, 18, 144, 145] (.two .nil (.two (.two .nil .nil) (.two (.one (.two .nil .nil)) .nil)))))) (.two (.two .nil (.two (.two .nil .nil) .nil)) .nil))))))))))))))))))))
noncomputable def code35 : Code := match Tryz.f35.body with | some c => c | none => .skip
theorem calls35 (a1 : Option Addr) (l1 : Nat) (c1 : Nat) (K : Option Addr → Nat → Nat → World → Prop) (w : World) (h : N35 a1 l1 c1 K w) : Calls Tryz.prog 35 #[(.slice a1 l1 c1)] w fun en w' => ∃ (a119 : Option Addr), ∃ (l119 : Nat), ∃ (c119 : Nat), en = .returned (.slice a119 l119 c119) ∧ K a119 l119 c119 w' :=
 fn_calls tabOk mixed Tryz.func35 (by kernel_rfl : Tryz.f35.body = some code35) ann35 [(.slice a1 l1 c1)] [(.one .slice)] K w (by kernel_rfl) (by kernel_rfl) (by kernel_rfl) h
end Go.Proofs.YtnmldggopnbclaaGreatDoor

namespace Go.Proofs.YtnmldggopnbclaaGreatDoor
open Go Go.V Go.Proofs
open Go.RowKit (Below)
/-! manystrand/graph.classes$1 -/
def N64 (s1 : ByteArray) (o2 : Option Addr) (K : Int → World → Prop) (w : World) : Prop :=
 AddrK o2 fun b3 =>
 ∃ m4, w.cell? b3 = some (.map m4) ∧
 (∃ x5, ∃ p6, ∃ w7, Sem.run Tryz.prog (Instr.lookup 63 (.map m4) (.string s1) true) w = .ok (.tuple #[(.int .i64 x5), (.bool p6)]) w7 ∧
 (BoolK (!p6)
 (AddrK o2 fun b8 =>
 ∃ m9, w7.cell? b8 = some (.map m9) ∧
 (∃ x10, ∃ w11, Sem.run Tryz.prog (Builtin.len_ #[63] 3 #[(.map m9)]) w7 = .ok (.int .i64 x10) w11 ∧
 (AddrK o2 fun b12 =>
 ∃ m13, w11.cell? b12 = some (.map m13) ∧
 (∃ w14, Sem.run Tryz.prog (Instr.mapUpdate 63 (.map m13) (.string s1) (.int .i64 x10)) w11 = .ok () w14 ∧
 (K x10 w14)))))
 (K x5 w7)))
def ann64 : Ann := (.two .nil (.two .nil (.two (.two .nil (.two (.two .nil .nil) .nil)) (.two .nil .nil))))
noncomputable def code64 : Code := match Tryz.f64.body with | some c => c | none => .skip
theorem calls64 (s1 : ByteArray) (o2 : Option Addr) (K : Int → World → Prop) (w : World) (h : N64 s1 o2 K w) : Calls Tryz.prog 64 #[(.string s1), (.pointer o2)] w fun en w' => ∃ (x15 : Int), en = .returned (.int .i64 x15) ∧ K x15 w' :=
 fn_calls tabOk mixed Tryz.func64 (by kernel_rfl : Tryz.f64.body = some code64) ann64 [(.string s1), (.pointer o2)] [(.one (.int .i64))] K w (by kernel_rfl) (by kernel_rfl) (by kernel_rfl) h
end Go.Proofs.YtnmldggopnbclaaGreatDoor

namespace Go.Proofs.YtnmldggopnbclaaGreatDoor
open Go Go.V Go.Proofs Go.V.Gr
open Go.RowKit (Below)
theorem mtS : MapT Tryz.prog 63 9 3 eStr eK 0 := ⟨Tryz.underlying63, keyStr Tryz.underlying9, Tryz.zeroValue3⟩
theorem eSt_flat (xs : List ByteArray) : xs.flatMap eSt = xs.map fun x => Value.string x := flat_one _ xs
structure FRow {ρ α : Type} (own : OwnM ρ) (e : TypeId) (enc : α → List Value) (w : World) (s : SL) (xs : List α) : Prop where
 row : OwnR 0 e 1 enc w s.1 s.2.1 s.2.2 xs
 free : ∀ k, sblk s = some k → own k = none
section
variable {ρ α : Type} {own own' : OwnM ρ} {r : ρ} {e : TypeId} {enc : α → List Value} {w w' : World} {s : SL} {xs : List α}
theorem FRow.ext (h : FRow own e enc w s xs) (x : Ext w w') : FRow own e enc w' s xs := ⟨h.row.ext x, h.free⟩
theorem FRow.upd (h : FRow own e enc w s xs) (u : Upd own own' r w w') : FRow own' e enc w' s xs :=
 ⟨h.row.kept fun k hk => u.block k (h.row.lt k hk).2 (by rw [h.free k hk]; simp), fun k hk => by rw [u.same k (h.row.lt k hk).2]; exact h.free k hk⟩
theorem FRow.of {base : Nat} (h : OwnR base e 1 enc w s.1 s.2.1 s.2.2 xs) (ht : ∀ k, base ≤ k → own k = none) : FRow own e enc w s xs :=
 ⟨h.mono (Nat.zero_le _), fun k hk => ht k (h.lt k hk).1⟩
theorem FRow.at_ (h : FRow own e enc w s xs) (he : ∀ x, (enc x).length = 1) {i : Nat} (hi : i < xs.length) : ∃ g, s.1 = some ⟨g, 0, none⟩ ∧ w.cell? ((⟨g, 0, none⟩ : Addr).add (((i : Nat) : Int).toNat * 1)) = (enc xs[i])[0]? := by
 obtain ⟨g, e1, _, _, hc⟩ := h.row.cellAt he (List.getElem?_eq_getElem hi)
 refine ⟨g, e1, ?_⟩
 have := hc 0 (by omega)
 rw [Int.toNat_natCast, add_mk, Nat.zero_add]; exact this
end
structure CA (w0 w : World) (own : OwnM Nat) (n b2 b4 : Nat) (cl : List Int) (hs : List ByteArray) : Prop where
 loc : Mine own w0 w
 cl : RowR own 0 3 1 eI w (some ⟨b2, 0, none⟩, n, n) cl
 hs : RowR own 1 9 1 eSt w (some ⟨b4, 0, none⟩, n, n) hs
section
variable {w0 w w' : World} {own own' : OwnM Nat} {n b2 b4 : Nat} {cl : List Int} {hs : List ByteArray}
theorem CA.ext (h : CA w0 w own n b2 b4 cl hs) (x : Ext w w') : CA w0 w' own n b2 b4 cl hs := ⟨h.loc.ext x, h.cl.ext x, h.hs.ext x⟩
theorem CA.upd {r : Nat} (h : CA w0 w own n b2 b4 cl hs) (u : Upd own own' r w w') (h0 : 2 ≤ r) : CA w0 w' own' n b2 b4 cl hs := ⟨h.loc.upd u, h.cl.upd u (by omega), h.hs.upd u (by omega)⟩
theorem CA.cll (h : CA w0 w own n b2 b4 cl hs) : cl.length = n := h.cl.len.symm
theorem CA.hsl (h : CA w0 w own n b2 b4 cl hs) : hs.length = n := h.hs.len.symm
theorem CA.get_cl (h : CA w0 w own n b2 b4 cl hs) {i : Nat} (hi : i < n) : w.cell? ((⟨b2, 0, none⟩ : Addr).add (((i : Nat) : Int).toNat * 1)) = some (.int .i64 (ga cl i)) := RowR.geti h.cl (by rw [h.cll]; exact hi)
theorem CA.set_cl (h : CA w0 w own n b2 b4 cl hs) {i : Nat} (hi : i < n) (v : Int) {F : World → Prop} (k : ∀ w', CA w0 w' own n b2 b4 (cl.set i v) hs → Upd own own 0 w w' → F w') :
  SetK w ((⟨b2, 0, none⟩ : Addr).add (((i : Nat) : Int).toNat * 1)) (.int .i64 v) F :=
 RowR.seti h.cl (by rw [h.cll]; exact hi) v fun w' h1 u => k w' ⟨h.loc.upd u, h1, h.hs.upd u (by decide)⟩ u
theorem CA.get_hs (h : CA w0 w own n b2 b4 cl hs) {i : Nat} (hi : i < n) : w.cell? ((⟨b4, 0, none⟩ : Addr).add (((i : Nat) : Int).toNat * 1)) = some (.string (hs[i]'(by rw [h.hsl]; exact hi))) := by
 obtain ⟨g, l, c', e1, _, _, e2⟩ := h.hs.at_ eSt_len (i := i) (by rw [h.hsl]; exact hi)
 simp only [Prod.mk.injEq, Option.some.injEq, Addr.mk.injEq, and_true] at e1
 obtain ⟨rfl, _, _⟩ := e1
 have := e2 0 (by omega)
 rw [Int.toNat_natCast, add_mk, Nat.zero_add]; exact this
theorem CA.set_hs (h : CA w0 w own n b2 b4 cl hs) {i : Nat} (hi : i < n) (v : ByteArray) {F : World → Prop} (k : ∀ w', CA w0 w' own n b2 b4 cl (hs.set i v) → F w') :
  SetK w ((⟨b4, 0, none⟩ : Addr).add (((i : Nat) : Int).toNat * 1)) (.string v) F := by
 rw [Int.toNat_natCast, add_mk, Nat.zero_add, Nat.mul_one]
 refine RowR.set h.hs i _ (by rw [h.hsl]; omega) (by simp) ?_ fun w' h1 u => k w' ⟨h.loc.upd u, h.cl.upd u (by decide), h1⟩
 rw [eSt_flat, eSt_flat, List.map_set]
end
section
variable {w : World} {own : OwnM Nat} {m b : Nat} {T : List ByteArray}
theorem ctr64 (hm : Mx own 2 eStr w m T 0) (hb : Bx own 3 w b #[.map (some m)] 63) (s : ByteArray) :
  Calls Tryz.prog 64 #[.string s, .pointer (some ⟨b, 0, none⟩)] w fun en w' => ∃ x, en = .returned (.int .i64 x) ∧
   (∃ (v : Nat) (T' : List ByteArray), x = v ∧ T'[v]? = some s ∧ (T' = T ∨ (T' = T ++ [s] ∧ v = T.length)) ∧ Mx own 2 eStr w' m T' 0 ∧ Upd own own 2 w w') := by
 refine calls64 _ _ _ w ?_
 have g : w.cell? (⟨b, 0, none⟩ : Addr) = some (.map (some m)) := by rw [hb.blk.cell]; rfl
 obtain ⟨v, ok, q1, q2⟩ := hm.num.look2 (P := Tryz.prog) mtS s
 refine ⟨_, g, _, _, _, q1, ?_⟩
 rcases q2 with ⟨i, e1, rfl, rfl⟩ | ⟨hn, rfl, rfl⟩
 ·refine BoolK.mk (fun t => by cases t) (fun _ => ?_)
  exact ⟨i, T, by omega, e1, .inl rfl, hm, Upd.none (Ext.refl _) _⟩
 ·refine BoolK.mk (fun _ => ?_) (fun t => by cases t)
  obtain ⟨w', r1, r2, r3⟩ := hm.add (P := Tryz.prog) mtS (a := s) (v := (T.length : Nat)) (by omega) hn
  exact ⟨_, g, _, _, hm.num.len mtS _, _, g, _, r1, T.length, T ++ [s], rfl, by simp, .inr ⟨rfl, rfl⟩, r2, r3⟩
end
theorem kidsK_len {cs : List Int} (h : ∀ c ∈ cs, i64 c) : (kidsK cs).length ≤ 22 * cs.length := by
 induction cs with
 | nil => simp [kidsK]
 | cons c cs ih =>
  have := itoa_len (h c (by simp))
  have := ih fun x hx => h x (List.mem_cons_of_mem _ hx)
  simp only [kidsK, List.flatMap_cons, List.length_append, List.length_cons] at *; omega
structure NdW (x : Nd) : Prop where
 hd : HdOk x
 key : KeyOk x
theorem ints_kc {xs : List Nd} {cl : List Int} {i : Nat} (hi : i < xs.length) : (xs[i].ks.map fun k => cl[k.toNat]?.getD 0) = kc xs (ga cl) i := by
 rw [kc, Gr.kids, nd_get hi, List.map_map]; rfl
theorem ga_mem {cl : List Int} {P : Int → Prop} (h0 : P 0) (h : ∀ c ∈ cl, P c) (i : Nat) : P (ga cl i) := by
 rw [ga]
 cases e : cl[i]? with
 | none => exact h0
 | some v => exact h v (List.mem_of_getElem? e)
end Go.Proofs.YtnmldggopnbclaaGreatDoor
