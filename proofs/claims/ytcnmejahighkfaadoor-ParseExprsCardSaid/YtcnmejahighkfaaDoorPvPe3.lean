/- Part 3 of the texts for: parse.Expr and the specification of layer 3 read every list of tokens alike -/
import Derived.Orders
import Derived.Below
import Derived.Laws.Sem
import Derived.WalkKit
import Derived.Laws.CopyRow
import Derived.Laws.BytesString
import Derived.MapKept
import Derived.Laws.Append
import Derived.LoopN
import Derived.Test.YtcnmejahighkfaaDoorProg
import Derived.KernelRfl
import Derived.IntWalk
import Derived.Test.YtcnmejahighkfaaDoorPvPe2
set_option autoImplicit false
set_option linter.unusedVariables false
set_option linter.unusedSimpArgs false
set_option linter.defProp false
-- QD
namespace Go.Pv.D
open Go Go.RowKit Go.Proofs Go.Pv
noncomputable abbrev tt : TT := ttOf Tryd.prog
theorem q_slz_0 : slz tt 0 = none := by kernel_rfl
theorem q_tsz_1 : tsz tt 1 = some (1, false) := by kernel_rfl
theorem q_slz_1 : slz tt 1 = none := by kernel_rfl
theorem q_ifc_1 : isIfc tt 1 = some false := by kernel_rfl
theorem q_zcs_1 : zcs tt 1 = some [.val .nilFunc] := by kernel_rfl
theorem q_tsz_2 : tsz tt 2 = some (1, false) := by kernel_rfl
theorem q_slz_2 : slz tt 2 = none := by kernel_rfl
theorem q_ifc_2 : isIfc tt 2 = some false := by kernel_rfl
theorem q_zcs_2 : zcs tt 2 = some [.val (.int .i64 0)] := by kernel_rfl
theorem q_cvi_2_2 : cvI tt 2 2 = some .i64 := by kernel_rfl
theorem q_cvi_2_3 : cvI tt 2 3 = some .i64 := by kernel_rfl
theorem q_cvi_2_5 : cvI tt 2 5 = some .u8 := by kernel_rfl
theorem q_cvi_2_6 : cvI tt 2 6 = some .u8 := by kernel_rfl
theorem q_cvi_2_12 : cvI tt 2 12 = some .u64 := by kernel_rfl
theorem q_cvi_2_21 : cvI tt 2 21 = some .i32 := by kernel_rfl
theorem q_cvi_2_28 : cvI tt 2 28 = some .i64 := by kernel_rfl
theorem q_cvi_2_117 : cvI tt 2 117 = some .u64 := by kernel_rfl
theorem q_cvi_2_169 : cvI tt 2 169 = some .u64 := by kernel_rfl
theorem q_cvi_2_180 : cvI tt 2 180 = some .u32 := by kernel_rfl
theorem q_cvi_2_193 : cvI tt 2 193 = some .u8 := by kernel_rfl
theorem q_cvi_2_194 : cvI tt 2 194 = some .u8 := by kernel_rfl
theorem q_cvi_2_197 : cvI tt 2 197 = some .i32 := by kernel_rfl
theorem q_cvi_2_198 : cvI tt 2 198 = some .i32 := by kernel_rfl
theorem q_tsz_3 : tsz tt 3 = some (1, false) := by kernel_rfl
theorem q_slz_3 : slz tt 3 = none := by kernel_rfl
theorem q_ifc_3 : isIfc tt 3 = some false := by kernel_rfl
theorem q_zcs_3 : zcs tt 3 = some [.val (.int .i64 0)] := by kernel_rfl
theorem q_cvi_3_2 : cvI tt 3 2 = some .i64 := by kernel_rfl
theorem q_cvi_3_3 : cvI tt 3 3 = some .i64 := by kernel_rfl
theorem q_cvi_3_5 : cvI tt 3 5 = some .u8 := by kernel_rfl
theorem q_cvi_3_6 : cvI tt 3 6 = some .u8 := by kernel_rfl
theorem q_cvi_3_12 : cvI tt 3 12 = some .u64 := by kernel_rfl
theorem q_cvi_3_21 : cvI tt 3 21 = some .i32 := by kernel_rfl
theorem q_cvi_3_28 : cvI tt 3 28 = some .i64 := by kernel_rfl
theorem q_cvi_3_117 : cvI tt 3 117 = some .u64 := by kernel_rfl
theorem q_cvi_3_169 : cvI tt 3 169 = some .u64 := by kernel_rfl
theorem q_cvi_3_180 : cvI tt 3 180 = some .u32 := by kernel_rfl
theorem q_cvi_3_193 : cvI tt 3 193 = some .u8 := by kernel_rfl
theorem q_cvi_3_194 : cvI tt 3 194 = some .u8 := by kernel_rfl
theorem q_cvi_3_197 : cvI tt 3 197 = some .i32 := by kernel_rfl
theorem q_cvi_3_198 : cvI tt 3 198 = some .i32 := by kernel_rfl
theorem q_tsz_4 : tsz tt 4 = some (1, false) := by kernel_rfl
theorem q_slz_4 : slz tt 4 = none := by kernel_rfl
theorem q_isb_4 : isBool tt 4 = true := by kernel_rfl
theorem q_ifc_4 : isIfc tt 4 = some false := by kernel_rfl
theorem q_zcs_4 : zcs tt 4 = some [.val (.bool false)] := by kernel_rfl
theorem q_tsz_5 : tsz tt 5 = some (1, false) := by kernel_rfl
theorem q_slz_5 : slz tt 5 = none := by kernel_rfl
theorem q_ifc_5 : isIfc tt 5 = some false := by kernel_rfl
theorem q_zcs_5 : zcs tt 5 = some [.val (.int .u8 0)] := by kernel_rfl
theorem q_cvi_5_2 : cvI tt 5 2 = some .i64 := by kernel_rfl
theorem q_cvi_5_3 : cvI tt 5 3 = some .i64 := by kernel_rfl
theorem q_cvi_5_5 : cvI tt 5 5 = some .u8 := by kernel_rfl
theorem q_cvi_5_6 : cvI tt 5 6 = some .u8 := by kernel_rfl
theorem q_cvi_5_12 : cvI tt 5 12 = some .u64 := by kernel_rfl
theorem q_cvi_5_21 : cvI tt 5 21 = some .i32 := by kernel_rfl
theorem q_cvi_5_28 : cvI tt 5 28 = some .i64 := by kernel_rfl
theorem q_cvi_5_117 : cvI tt 5 117 = some .u64 := by kernel_rfl
theorem q_cvi_5_169 : cvI tt 5 169 = some .u64 := by kernel_rfl
theorem q_cvi_5_180 : cvI tt 5 180 = some .u32 := by kernel_rfl
theorem q_cvi_5_193 : cvI tt 5 193 = some .u8 := by kernel_rfl
theorem q_cvi_5_194 : cvI tt 5 194 = some .u8 := by kernel_rfl
theorem q_cvi_5_197 : cvI tt 5 197 = some .i32 := by kernel_rfl
theorem q_cvi_5_198 : cvI tt 5 198 = some .i32 := by kernel_rfl
theorem q_tsz_6 : tsz tt 6 = some (1, false) := by kernel_rfl
theorem q_slz_6 : slz tt 6 = none := by kernel_rfl
theorem q_ifc_6 : isIfc tt 6 = some false := by kernel_rfl
theorem q_zcs_6 : zcs tt 6 = some [.val (.int .u8 0)] := by kernel_rfl
theorem q_cvi_6_2 : cvI tt 6 2 = some .i64 := by kernel_rfl
theorem q_cvi_6_3 : cvI tt 6 3 = some .i64 := by kernel_rfl
theorem q_cvi_6_5 : cvI tt 6 5 = some .u8 := by kernel_rfl
theorem q_cvi_6_6 : cvI tt 6 6 = some .u8 := by kernel_rfl
theorem q_cvi_6_12 : cvI tt 6 12 = some .u64 := by kernel_rfl
theorem q_cvi_6_21 : cvI tt 6 21 = some .i32 := by kernel_rfl
theorem q_cvi_6_28 : cvI tt 6 28 = some .i64 := by kernel_rfl
theorem q_cvi_6_117 : cvI tt 6 117 = some .u64 := by kernel_rfl
theorem q_cvi_6_169 : cvI tt 6 169 = some .u64 := by kernel_rfl
theorem q_cvi_6_180 : cvI tt 6 180 = some .u32 := by kernel_rfl
theorem q_cvi_6_193 : cvI tt 6 193 = some .u8 := by kernel_rfl
theorem q_cvi_6_194 : cvI tt 6 194 = some .u8 := by kernel_rfl
theorem q_cvi_6_197 : cvI tt 6 197 = some .i32 := by kernel_rfl
theorem q_cvi_6_198 : cvI tt 6 198 = some .i32 := by kernel_rfl
theorem q_tsz_7 : tsz tt 7 = some (4, true) := by kernel_rfl
theorem q_slz_7 : slz tt 7 = none := by kernel_rfl
theorem q_ifc_7 : isIfc tt 7 = some false := by kernel_rfl
theorem q_zcs_7 : zcs tt 7 = some [.val (.int .i64 0), .val (.int .i64 0), .val (.bool false), .val (.int .u8 0)] := by kernel_rfl
theorem q_bld_7 : bld tt 7 = some ([(0, 1), (1, 1), (2, 1), (3, 1)], [.val (.int .i64 0), .val (.int .i64 0), .val (.bool false), .val (.int .u8 0)]) := by kernel_rfl
theorem q_fld_7_0 : fieldOf tt 7 0 = some (0, 2) := by kernel_rfl
theorem q_fld_7_1 : fieldOf tt 7 1 = some (1, 3) := by kernel_rfl
theorem q_fld_7_2 : fieldOf tt 7 2 = some (2, 4) := by kernel_rfl
theorem q_fld_7_3 : fieldOf tt 7 3 = some (3, 6) := by kernel_rfl
theorem q_tsz_8 : tsz tt 8 = some (4, true) := by kernel_rfl
theorem q_slz_8 : slz tt 8 = none := by kernel_rfl
theorem q_ifc_8 : isIfc tt 8 = some false := by kernel_rfl
theorem q_zcs_8 : zcs tt 8 = some [.val (.int .i64 0), .val (.int .i64 0), .val (.bool false), .val (.int .u8 0)] := by kernel_rfl
theorem q_bld_8 : bld tt 8 = some ([(0, 1), (1, 1), (2, 1), (3, 1)], [.val (.int .i64 0), .val (.int .i64 0), .val (.bool false), .val (.int .u8 0)]) := by kernel_rfl
theorem q_fld_8_0 : fieldOf tt 8 0 = some (0, 2) := by kernel_rfl
theorem q_fld_8_1 : fieldOf tt 8 1 = some (1, 3) := by kernel_rfl
theorem q_fld_8_2 : fieldOf tt 8 2 = some (2, 4) := by kernel_rfl
theorem q_fld_8_3 : fieldOf tt 8 3 = some (3, 6) := by kernel_rfl
theorem q_tsz_9 : tsz tt 9 = some (1, false) := by kernel_rfl
theorem q_slz_9 : slz tt 9 = none := by kernel_rfl
theorem q_str_9 : isStr tt 9 = true := by kernel_rfl
theorem q_arz_9 : arz tt 9 = none := by kernel_rfl
theorem q_ifc_9 : isIfc tt 9 = some false := by kernel_rfl
theorem q_zcs_9 : zcs tt 9 = some [.val (.string ⟨#[]⟩)] := by kernel_rfl
theorem q_tsz_10 : tsz tt 10 = some (1, false) := by kernel_rfl
theorem q_slz_10 : slz tt 10 = none := by kernel_rfl
theorem q_str_10 : isStr tt 10 = true := by kernel_rfl
theorem q_arz_10 : arz tt 10 = none := by kernel_rfl
theorem q_ifc_10 : isIfc tt 10 = some false := by kernel_rfl
theorem q_zcs_10 : zcs tt 10 = some [.val (.string ⟨#[]⟩)] := by kernel_rfl
theorem q_tsz_11 : tsz tt 11 = some (1, false) := by kernel_rfl
theorem q_slz_11 : slz tt 11 = none := by kernel_rfl
theorem q_str_11 : isStr tt 11 = true := by kernel_rfl
theorem q_arz_11 : arz tt 11 = none := by kernel_rfl
theorem q_ifc_11 : isIfc tt 11 = some false := by kernel_rfl
theorem q_zcs_11 : zcs tt 11 = some [.val (.string ⟨#[]⟩)] := by kernel_rfl
theorem q_tsz_12 : tsz tt 12 = some (1, false) := by kernel_rfl
theorem q_slz_12 : slz tt 12 = none := by kernel_rfl
theorem q_ifc_12 : isIfc tt 12 = some false := by kernel_rfl
theorem q_zcs_12 : zcs tt 12 = some [.val (.int .u64 0)] := by kernel_rfl
theorem q_cvi_12_2 : cvI tt 12 2 = some .i64 := by kernel_rfl
theorem q_cvi_12_3 : cvI tt 12 3 = some .i64 := by kernel_rfl
theorem q_cvi_12_5 : cvI tt 12 5 = some .u8 := by kernel_rfl
theorem q_cvi_12_6 : cvI tt 12 6 = some .u8 := by kernel_rfl
theorem q_cvi_12_12 : cvI tt 12 12 = some .u64 := by kernel_rfl
theorem q_cvi_12_21 : cvI tt 12 21 = some .i32 := by kernel_rfl
theorem q_cvi_12_28 : cvI tt 12 28 = some .i64 := by kernel_rfl
theorem q_cvi_12_117 : cvI tt 12 117 = some .u64 := by kernel_rfl
theorem q_cvi_12_169 : cvI tt 12 169 = some .u64 := by kernel_rfl
theorem q_cvi_12_180 : cvI tt 12 180 = some .u32 := by kernel_rfl
theorem q_cvi_12_193 : cvI tt 12 193 = some .u8 := by kernel_rfl
theorem q_cvi_12_194 : cvI tt 12 194 = some .u8 := by kernel_rfl
theorem q_cvi_12_197 : cvI tt 12 197 = some .i32 := by kernel_rfl
theorem q_cvi_12_198 : cvI tt 12 198 = some .i32 := by kernel_rfl
theorem q_tsz_13 : tsz tt 13 = some (2, true) := by kernel_rfl
theorem q_slz_13 : slz tt 13 = none := by kernel_rfl
theorem q_ifc_13 : isIfc tt 13 = some false := by kernel_rfl
theorem q_zcs_13 : zcs tt 13 = some [.val (.string ⟨#[]⟩), .val (.int .u64 0)] := by kernel_rfl
theorem q_bld_13 : bld tt 13 = some ([(0, 1), (1, 1)], [.val (.string ⟨#[]⟩), .val (.int .u64 0)]) := by kernel_rfl
theorem q_fld_13_0 : fieldOf tt 13 0 = some (0, 9) := by kernel_rfl
theorem q_fld_13_1 : fieldOf tt 13 1 = some (1, 12) := by kernel_rfl
theorem q_tsz_14 : tsz tt 14 = some (2, true) := by kernel_rfl
theorem q_slz_14 : slz tt 14 = none := by kernel_rfl
theorem q_ifc_14 : isIfc tt 14 = some false := by kernel_rfl
theorem q_zcs_14 : zcs tt 14 = some [.val (.string ⟨#[]⟩), .val (.int .u64 0)] := by kernel_rfl
theorem q_bld_14 : bld tt 14 = some ([(0, 1), (1, 1)], [.val (.string ⟨#[]⟩), .val (.int .u64 0)]) := by kernel_rfl
theorem q_fld_14_0 : fieldOf tt 14 0 = some (0, 9) := by kernel_rfl
theorem q_fld_14_1 : fieldOf tt 14 1 = some (1, 12) := by kernel_rfl
theorem q_tsz_15 : tsz tt 15 = some (1, false) := by kernel_rfl
theorem q_slz_15 : slz tt 15 = none := by kernel_rfl
theorem q_ifc_15 : isIfc tt 15 = some false := by kernel_rfl
theorem q_zcs_15 : zcs tt 15 = some [.val (.pointer none)] := by kernel_rfl
theorem q_tsz_16 : tsz tt 16 = some (1, false) := by kernel_rfl
theorem q_slz_16 : slz tt 16 = none := by kernel_rfl
theorem q_ifc_16 : isIfc tt 16 = some false := by kernel_rfl
theorem q_zcs_16 : zcs tt 16 = some [.val (.pointer none)] := by kernel_rfl
theorem q_tsz_17 : tsz tt 17 = some (1, false) := by kernel_rfl
theorem q_slz_17 : slz tt 17 = none := by kernel_rfl
theorem q_ifc_17 : isIfc tt 17 = some false := by kernel_rfl
theorem q_zcs_17 : zcs tt 17 = some [.val (.pointer none)] := by kernel_rfl
theorem q_tsz_18 : tsz tt 18 = some (1, true) := by kernel_rfl
theorem q_slz_18 : slz tt 18 = none := by kernel_rfl
theorem q_ifc_18 : isIfc tt 18 = some false := by kernel_rfl
theorem q_zcs_18 : zcs tt 18 = some [.val (.pointer none)] := by kernel_rfl
theorem q_bld_18 : bld tt 18 = some ([(0, 1)], [.val (.pointer none)]) := by kernel_rfl
theorem q_fld_18_0 : fieldOf tt 18 0 = some (0, 17) := by kernel_rfl
theorem q_tsz_19 : tsz tt 19 = some (1, true) := by kernel_rfl
theorem q_slz_19 : slz tt 19 = none := by kernel_rfl
theorem q_ifc_19 : isIfc tt 19 = some false := by kernel_rfl
theorem q_zcs_19 : zcs tt 19 = some [.val (.pointer none)] := by kernel_rfl
theorem q_bld_19 : bld tt 19 = some ([(0, 1)], [.val (.pointer none)]) := by kernel_rfl
theorem q_fld_19_0 : fieldOf tt 19 0 = some (0, 17) := by kernel_rfl
theorem q_tsz_20 : tsz tt 20 = some (1, false) := by kernel_rfl
theorem q_slz_20 : slz tt 20 = none := by kernel_rfl
theorem q_ifc_20 : isIfc tt 20 = some true := by kernel_rfl
theorem q_zcs_20 : zcs tt 20 = some [.val .nilIface] := by kernel_rfl
theorem q_tsz_21 : tsz tt 21 = some (1, false) := by kernel_rfl
theorem q_slz_21 : slz tt 21 = none := by kernel_rfl
theorem q_ifc_21 : isIfc tt 21 = some false := by kernel_rfl
theorem q_zcs_21 : zcs tt 21 = some [.val (.int .i32 0)] := by kernel_rfl
theorem q_cvi_21_2 : cvI tt 21 2 = some .i64 := by kernel_rfl
theorem q_cvi_21_3 : cvI tt 21 3 = some .i64 := by kernel_rfl
theorem q_cvi_21_5 : cvI tt 21 5 = some .u8 := by kernel_rfl
theorem q_cvi_21_6 : cvI tt 21 6 = some .u8 := by kernel_rfl
theorem q_cvi_21_12 : cvI tt 21 12 = some .u64 := by kernel_rfl
theorem q_cvi_21_21 : cvI tt 21 21 = some .i32 := by kernel_rfl
theorem q_cvi_21_28 : cvI tt 21 28 = some .i64 := by kernel_rfl
theorem q_cvi_21_117 : cvI tt 21 117 = some .u64 := by kernel_rfl
theorem q_cvi_21_169 : cvI tt 21 169 = some .u64 := by kernel_rfl
theorem q_cvi_21_180 : cvI tt 21 180 = some .u32 := by kernel_rfl
theorem q_cvi_21_193 : cvI tt 21 193 = some .u8 := by kernel_rfl
theorem q_cvi_21_194 : cvI tt 21 194 = some .u8 := by kernel_rfl
theorem q_cvi_21_197 : cvI tt 21 197 = some .i32 := by kernel_rfl
theorem q_cvi_21_198 : cvI tt 21 198 = some .i32 := by kernel_rfl
theorem q_tsz_22 : tsz tt 22 = some (1, false) := by kernel_rfl
theorem q_slz_22 : slz tt 22 = some (1, 1) := by kernel_rfl
theorem q_str_22 : isStr tt 22 = false := by kernel_rfl
theorem q_arz_22 : arz tt 22 = none := by kernel_rfl
theorem q_ifc_22 : isIfc tt 22 = some false := by kernel_rfl
theorem q_zcs_22 : zcs tt 22 = some [.list .full 1 []] := by kernel_rfl
theorem q_bsl_22 : bsl tt 22 = some (1, .val (.int .u8 0)) := by kernel_rfl
theorem q_bsq_22_9 : bsq tt 22 9 = true := by kernel_rfl
theorem q_bsq_22_10 : bsq tt 22 10 = true := by kernel_rfl
theorem q_bsq_22_11 : bsq tt 22 11 = true := by kernel_rfl
theorem q_tsz_23 : tsz tt 23 = some (1, false) := by kernel_rfl
theorem q_slz_23 : slz tt 23 = some (4, 40) := by kernel_rfl
theorem q_str_23 : isStr tt 23 = false := by kernel_rfl
theorem q_arz_23 : arz tt 23 = none := by kernel_rfl
theorem q_ifc_23 : isIfc tt 23 = some false := by kernel_rfl
theorem q_zcs_23 : zcs tt 23 = some [.list .full 4 []] := by kernel_rfl
theorem q_bsl_23 : bsl tt 23 = some (4, .agg [.val (.int .i64 0), .val (.int .i64 0), .val (.int .i64 0), .val (.string ⟨#[]⟩)]) := by kernel_rfl
theorem q_tsz_24 : tsz tt 24 = some (1, false) := by kernel_rfl
theorem q_slz_24 : slz tt 24 = none := by kernel_rfl
theorem q_ifc_24 : isIfc tt 24 = some false := by kernel_rfl
theorem q_zcs_24 : zcs tt 24 = some [.val .nilFunc] := by kernel_rfl
theorem q_tsz_25 : tsz tt 25 = some (1, false) := by kernel_rfl
theorem q_slz_25 : slz tt 25 = some (5, 64) := by kernel_rfl
theorem q_str_25 : isStr tt 25 = false := by kernel_rfl
theorem q_arz_25 : arz tt 25 = none := by kernel_rfl
theorem q_ifc_25 : isIfc tt 25 = some false := by kernel_rfl
theorem q_zcs_25 : zcs tt 25 = some [.list .full 5 []] := by kernel_rfl
theorem q_bsl_25 : bsl tt 25 = some (5, .agg [.val (.int .i64 0), .val (.int .i64 0), .val (.string ⟨#[]⟩), .val (.int .i64 0), .list .any 5 []]) := by kernel_rfl
theorem q_tsz_26 : tsz tt 26 = some (5, true) := by kernel_rfl
theorem q_slz_26 : slz tt 26 = none := by kernel_rfl
theorem q_ifc_26 : isIfc tt 26 = some false := by kernel_rfl
theorem q_zcs_26 : zcs tt 26 = some [.val (.int .i64 0), .val (.int .i64 0), .val (.string ⟨#[]⟩), .val (.int .i64 0), .list .full 5 []] := by kernel_rfl
theorem q_bld_26 : bld tt 26 = some ([(0, 1), (1, 1), (2, 1), (3, 1), (4, 1)], [.val (.int .i64 0), .val (.int .i64 0), .val (.string ⟨#[]⟩), .val (.int .i64 0), .list .full 5 []]) := by kernel_rfl
theorem q_fld_26_0 : fieldOf tt 26 0 = some (0, 3) := by kernel_rfl
theorem q_fld_26_1 : fieldOf tt 26 1 = some (1, 3) := by kernel_rfl
theorem q_fld_26_2 : fieldOf tt 26 2 = some (2, 9) := by kernel_rfl
theorem q_fld_26_3 : fieldOf tt 26 3 = some (3, 3) := by kernel_rfl
theorem q_fld_26_4 : fieldOf tt 26 4 = some (4, 25) := by kernel_rfl
theorem q_tsz_27 : tsz tt 27 = some (5, true) := by kernel_rfl
theorem q_slz_27 : slz tt 27 = none := by kernel_rfl
theorem q_ifc_27 : isIfc tt 27 = some false := by kernel_rfl
theorem q_zcs_27 : zcs tt 27 = some [.val (.int .i64 0), .val (.int .i64 0), .val (.string ⟨#[]⟩), .val (.int .i64 0), .list .full 5 []] := by kernel_rfl
theorem q_bld_27 : bld tt 27 = some ([(0, 1), (1, 1), (2, 1), (3, 1), (4, 1)], [.val (.int .i64 0), .val (.int .i64 0), .val (.string ⟨#[]⟩), .val (.int .i64 0), .list .full 5 []]) := by kernel_rfl
theorem q_fld_27_0 : fieldOf tt 27 0 = some (0, 3) := by kernel_rfl
theorem q_fld_27_1 : fieldOf tt 27 1 = some (1, 3) := by kernel_rfl
theorem q_fld_27_2 : fieldOf tt 27 2 = some (2, 9) := by kernel_rfl
theorem q_fld_27_3 : fieldOf tt 27 3 = some (3, 3) := by kernel_rfl
theorem q_fld_27_4 : fieldOf tt 27 4 = some (4, 25) := by kernel_rfl
theorem q_tsz_28 : tsz tt 28 = some (1, false) := by kernel_rfl
theorem q_slz_28 : slz tt 28 = none := by kernel_rfl
theorem q_ifc_28 : isIfc tt 28 = some false := by kernel_rfl
theorem q_zcs_28 : zcs tt 28 = some [.val (.int .i64 0)] := by kernel_rfl
theorem q_cvi_28_2 : cvI tt 28 2 = some .i64 := by kernel_rfl
theorem q_cvi_28_3 : cvI tt 28 3 = some .i64 := by kernel_rfl
theorem q_cvi_28_5 : cvI tt 28 5 = some .u8 := by kernel_rfl
theorem q_cvi_28_6 : cvI tt 28 6 = some .u8 := by kernel_rfl
theorem q_cvi_28_12 : cvI tt 28 12 = some .u64 := by kernel_rfl
theorem q_cvi_28_21 : cvI tt 28 21 = some .i32 := by kernel_rfl
theorem q_cvi_28_28 : cvI tt 28 28 = some .i64 := by kernel_rfl
theorem q_cvi_28_117 : cvI tt 28 117 = some .u64 := by kernel_rfl
theorem q_cvi_28_169 : cvI tt 28 169 = some .u64 := by kernel_rfl
theorem q_cvi_28_180 : cvI tt 28 180 = some .u32 := by kernel_rfl
theorem q_cvi_28_193 : cvI tt 28 193 = some .u8 := by kernel_rfl
theorem q_cvi_28_194 : cvI tt 28 194 = some .u8 := by kernel_rfl
theorem q_cvi_28_197 : cvI tt 28 197 = some .i32 := by kernel_rfl
theorem q_cvi_28_198 : cvI tt 28 198 = some .i32 := by kernel_rfl
theorem q_slz_29 : slz tt 29 = none := by kernel_rfl
theorem q_tsz_30 : tsz tt 30 = some (1, false) := by kernel_rfl
theorem q_slz_30 : slz tt 30 = none := by kernel_rfl
theorem q_ifc_30 : isIfc tt 30 = some false := by kernel_rfl
theorem q_zcs_30 : zcs tt 30 = some [.val .nilFunc] := by kernel_rfl
theorem q_tsz_31 : tsz tt 31 = some (1, false) := by kernel_rfl
theorem q_slz_31 : slz tt 31 = none := by kernel_rfl
theorem q_ifc_31 : isIfc tt 31 = some false := by kernel_rfl
theorem q_zcs_31 : zcs tt 31 = some [.val .nilFunc] := by kernel_rfl
theorem q_tsz_32 : tsz tt 32 = some (1, false) := by kernel_rfl
theorem q_slz_32 : slz tt 32 = none := by kernel_rfl
theorem q_ifc_32 : isIfc tt 32 = some false := by kernel_rfl
theorem q_zcs_32 : zcs tt 32 = some [.val .nilFunc] := by kernel_rfl
theorem q_tsz_33 : tsz tt 33 = some (1, false) := by kernel_rfl
theorem q_slz_33 : slz tt 33 = none := by kernel_rfl
theorem q_ifc_33 : isIfc tt 33 = some false := by kernel_rfl
theorem q_zcs_33 : zcs tt 33 = some [.val .nilFunc] := by kernel_rfl
theorem q_tsz_34 : tsz tt 34 = some (1, false) := by kernel_rfl
theorem q_slz_34 : slz tt 34 = some (1, 8) := by kernel_rfl
theorem q_str_34 : isStr tt 34 = false := by kernel_rfl
theorem q_arz_34 : arz tt 34 = none := by kernel_rfl
theorem q_ifc_34 : isIfc tt 34 = some false := by kernel_rfl
theorem q_zcs_34 : zcs tt 34 = some [.list .full 1 []] := by kernel_rfl
theorem q_bsl_34 : bsl tt 34 = some (1, .val (.int .i64 0)) := by kernel_rfl
theorem q_tsz_35 : tsz tt 35 = some (1, false) := by kernel_rfl
theorem q_slz_35 : slz tt 35 = none := by kernel_rfl
theorem q_ifc_35 : isIfc tt 35 = some false := by kernel_rfl
theorem q_zcs_35 : zcs tt 35 = some [.val .nilFunc] := by kernel_rfl
theorem q_tsz_36 : tsz tt 36 = some (1, false) := by kernel_rfl
theorem q_slz_36 : slz tt 36 = some (1, 16) := by kernel_rfl
theorem q_str_36 : isStr tt 36 = false := by kernel_rfl
theorem q_arz_36 : arz tt 36 = none := by kernel_rfl
theorem q_ifc_36 : isIfc tt 36 = some false := by kernel_rfl
theorem q_zcs_36 : zcs tt 36 = some [.list .full 1 []] := by kernel_rfl
theorem q_bsl_36 : bsl tt 36 = some (1, .val (.string ⟨#[]⟩)) := by kernel_rfl
theorem q_tsz_37 : tsz tt 37 = some (1, false) := by kernel_rfl
theorem q_slz_37 : slz tt 37 = some (3, 40) := by kernel_rfl
theorem q_str_37 : isStr tt 37 = false := by kernel_rfl
theorem q_arz_37 : arz tt 37 = none := by kernel_rfl
theorem q_ifc_37 : isIfc tt 37 = some false := by kernel_rfl
theorem q_zcs_37 : zcs tt 37 = some [.list .full 3 []] := by kernel_rfl
theorem q_bsl_37 : bsl tt 37 = some (3, .agg [.val (.string ⟨#[]⟩), .val (.int .i64 0), .val (.string ⟨#[]⟩)]) := by kernel_rfl
theorem q_tsz_38 : tsz tt 38 = some (1, false) := by kernel_rfl
theorem q_slz_38 : slz tt 38 = some (11, 192) := by kernel_rfl
theorem q_str_38 : isStr tt 38 = false := by kernel_rfl
theorem q_arz_38 : arz tt 38 = none := by kernel_rfl
theorem q_ifc_38 : isIfc tt 38 = some false := by kernel_rfl
theorem q_zcs_38 : zcs tt 38 = some [.list .full 11 []] := by kernel_rfl
theorem q_bsl_38 : bsl tt 38 = some (11, .agg [.val (.string ⟨#[]⟩), .val (.int .i64 0), .val (.int .i64 0), .val (.int .i64 0), .val (.int .i64 0), .list .any 3 [], .list .any 1 [], .list .any 2 [], .list .any 4 [], .list .any 2 [], .list .any 8 []]) := by kernel_rfl
theorem q_tsz_39 : tsz tt 39 = some (3, true) := by kernel_rfl
theorem q_slz_39 : slz tt 39 = none := by kernel_rfl
theorem q_ifc_39 : isIfc tt 39 = some false := by kernel_rfl
theorem q_zcs_39 : zcs tt 39 = some [.list .full 1 [], .list .full 3 [], .list .full 11 []] := by kernel_rfl
theorem q_bld_39 : bld tt 39 = some ([(0, 1), (1, 1), (2, 1)], [.list .full 1 [], .list .full 3 [], .list .full 11 []]) := by kernel_rfl
theorem q_fld_39_0 : fieldOf tt 39 0 = some (0, 36) := by kernel_rfl
theorem q_fld_39_1 : fieldOf tt 39 1 = some (1, 37) := by kernel_rfl
theorem q_fld_39_2 : fieldOf tt 39 2 = some (2, 38) := by kernel_rfl
theorem q_tsz_40 : tsz tt 40 = some (3, true) := by kernel_rfl
theorem q_slz_40 : slz tt 40 = none := by kernel_rfl
theorem q_ifc_40 : isIfc tt 40 = some false := by kernel_rfl
theorem q_zcs_40 : zcs tt 40 = some [.list .full 1 [], .list .full 3 [], .list .full 11 []] := by kernel_rfl
theorem q_bld_40 : bld tt 40 = some ([(0, 1), (1, 1), (2, 1)], [.list .full 1 [], .list .full 3 [], .list .full 11 []]) := by kernel_rfl
theorem q_fld_40_0 : fieldOf tt 40 0 = some (0, 36) := by kernel_rfl
theorem q_fld_40_1 : fieldOf tt 40 1 = some (1, 37) := by kernel_rfl
theorem q_fld_40_2 : fieldOf tt 40 2 = some (2, 38) := by kernel_rfl
theorem q_tsz_41 : tsz tt 41 = some (1, false) := by kernel_rfl
theorem q_slz_41 : slz tt 41 = none := by kernel_rfl
theorem q_ifc_41 : isIfc tt 41 = some false := by kernel_rfl
theorem q_zcs_41 : zcs tt 41 = some [.val .nilFunc] := by kernel_rfl
theorem q_tsz_42 : tsz tt 42 = some (1, false) := by kernel_rfl
theorem q_slz_42 : slz tt 42 = none := by kernel_rfl
theorem q_ifc_42 : isIfc tt 42 = some false := by kernel_rfl
theorem q_zcs_42 : zcs tt 42 = some [.val (.pointer none)] := by kernel_rfl
theorem q_tsz_43 : tsz tt 43 = some (1, false) := by kernel_rfl
theorem q_slz_43 : slz tt 43 = none := by kernel_rfl
theorem q_ifc_43 : isIfc tt 43 = some false := by kernel_rfl
theorem q_zcs_43 : zcs tt 43 = some [.val .nilFunc] := by kernel_rfl
theorem q_tsz_44 : tsz tt 44 = some (1, false) := by kernel_rfl
theorem q_slz_44 : slz tt 44 = some (3, 32) := by kernel_rfl
theorem q_str_44 : isStr tt 44 = false := by kernel_rfl
theorem q_arz_44 : arz tt 44 = none := by kernel_rfl
theorem q_ifc_44 : isIfc tt 44 = some false := by kernel_rfl
theorem q_zcs_44 : zcs tt 44 = some [.list .full 3 []] := by kernel_rfl
theorem q_bsl_44 : bsl tt 44 = some (3, .agg [.val (.string ⟨#[]⟩), .val (.int .i64 0), .val (.int .i64 0)]) := by kernel_rfl
theorem q_tsz_45 : tsz tt 45 = some (1, false) := by kernel_rfl
theorem q_slz_45 : slz tt 45 = some (2, 24) := by kernel_rfl
theorem q_str_45 : isStr tt 45 = false := by kernel_rfl
theorem q_arz_45 : arz tt 45 = none := by kernel_rfl
theorem q_ifc_45 : isIfc tt 45 = some false := by kernel_rfl
theorem q_zcs_45 : zcs tt 45 = some [.list .full 2 []] := by kernel_rfl
theorem q_bsl_45 : bsl tt 45 = some (2, .agg [.val (.string ⟨#[]⟩), .val (.int .i64 0)]) := by kernel_rfl
theorem q_tsz_46 : tsz tt 46 = some (1, false) := by kernel_rfl
theorem q_slz_46 : slz tt 46 = some (4, 48) := by kernel_rfl
theorem q_str_46 : isStr tt 46 = false := by kernel_rfl
theorem q_arz_46 : arz tt 46 = none := by kernel_rfl
theorem q_ifc_46 : isIfc tt 46 = some false := by kernel_rfl
theorem q_zcs_46 : zcs tt 46 = some [.list .full 4 []] := by kernel_rfl
theorem q_bsl_46 : bsl tt 46 = some (4, .agg [.val (.string ⟨#[]⟩), .val (.string ⟨#[]⟩), .val (.int .i64 0), .val (.int .i64 0)]) := by kernel_rfl
theorem q_tsz_47 : tsz tt 47 = some (1, false) := by kernel_rfl
theorem q_slz_47 : slz tt 47 = some (2, 16) := by kernel_rfl
theorem q_str_47 : isStr tt 47 = false := by kernel_rfl
theorem q_arz_47 : arz tt 47 = none := by kernel_rfl
theorem q_ifc_47 : isIfc tt 47 = some false := by kernel_rfl
theorem q_zcs_47 : zcs tt 47 = some [.list .full 2 []] := by kernel_rfl
theorem q_bsl_47 : bsl tt 47 = some (2, .agg [.val (.int .i64 0), .val (.int .i64 0)]) := by kernel_rfl
theorem q_tsz_48 : tsz tt 48 = some (1, false) := by kernel_rfl
theorem q_slz_48 : slz tt 48 = some (8, 136) := by kernel_rfl
theorem q_str_48 : isStr tt 48 = false := by kernel_rfl
theorem q_arz_48 : arz tt 48 = none := by kernel_rfl
theorem q_ifc_48 : isIfc tt 48 = some false := by kernel_rfl
theorem q_zcs_48 : zcs tt 48 = some [.list .full 8 []] := by kernel_rfl
theorem q_bsl_48 : bsl tt 48 = some (8, .agg [.val (.int .i64 0), .val (.string ⟨#[]⟩), .list .any 5 [], .list .any 5 [], .val (.int .i64 0), .val (.int .i64 0), .list .any 8 [], .list .any 8 []]) := by kernel_rfl
theorem q_tsz_49 : tsz tt 49 = some (11, true) := by kernel_rfl
theorem q_slz_49 : slz tt 49 = none := by kernel_rfl
theorem q_ifc_49 : isIfc tt 49 = some false := by kernel_rfl
theorem q_zcs_49 : zcs tt 49 = some [.val (.string ⟨#[]⟩), .val (.int .i64 0), .val (.int .i64 0), .val (.int .i64 0), .val (.int .i64 0), .list .full 3 [], .list .full 1 [], .list .full 2 [], .list .full 4 [], .list .full 2 [], .list .full 8 []] := by kernel_rfl
theorem q_bld_49 : bld tt 49 = some ([(0, 1), (1, 1), (2, 1), (3, 1), (4, 1), (5, 1), (6, 1), (7, 1), (8, 1), (9, 1), (10, 1)], [.val (.string ⟨#[]⟩), .val (.int .i64 0), .val (.int .i64 0), .val (.int .i64 0), .val (.int .i64 0), .list .full 3 [], .list .full 1 [], .list .full 2 [], .list .full 4 [], .list .full 2 [], .list .full 8 []]) := by kernel_rfl
theorem q_fld_49_0 : fieldOf tt 49 0 = some (0, 9) := by kernel_rfl
theorem q_fld_49_1 : fieldOf tt 49 1 = some (1, 3) := by kernel_rfl
theorem q_fld_49_2 : fieldOf tt 49 2 = some (2, 3) := by kernel_rfl
theorem q_fld_49_3 : fieldOf tt 49 3 = some (3, 3) := by kernel_rfl
theorem q_fld_49_4 : fieldOf tt 49 4 = some (4, 3) := by kernel_rfl
theorem q_fld_49_5 : fieldOf tt 49 5 = some (5, 44) := by kernel_rfl
theorem q_fld_49_6 : fieldOf tt 49 6 = some (6, 36) := by kernel_rfl
theorem q_fld_49_7 : fieldOf tt 49 7 = some (7, 45) := by kernel_rfl
theorem q_fld_49_8 : fieldOf tt 49 8 = some (8, 46) := by kernel_rfl
theorem q_fld_49_9 : fieldOf tt 49 9 = some (9, 47) := by kernel_rfl
theorem q_fld_49_10 : fieldOf tt 49 10 = some (10, 48) := by kernel_rfl
theorem q_tsz_50 : tsz tt 50 = some (11, true) := by kernel_rfl
theorem q_slz_50 : slz tt 50 = none := by kernel_rfl
theorem q_ifc_50 : isIfc tt 50 = some false := by kernel_rfl
theorem q_zcs_50 : zcs tt 50 = some [.val (.string ⟨#[]⟩), .val (.int .i64 0), .val (.int .i64 0), .val (.int .i64 0), .val (.int .i64 0), .list .full 3 [], .list .full 1 [], .list .full 2 [], .list .full 4 [], .list .full 2 [], .list .full 8 []] := by kernel_rfl
theorem q_bld_50 : bld tt 50 = some ([(0, 1), (1, 1), (2, 1), (3, 1), (4, 1), (5, 1), (6, 1), (7, 1), (8, 1), (9, 1), (10, 1)], [.val (.string ⟨#[]⟩), .val (.int .i64 0), .val (.int .i64 0), .val (.int .i64 0), .val (.int .i64 0), .list .full 3 [], .list .full 1 [], .list .full 2 [], .list .full 4 [], .list .full 2 [], .list .full 8 []]) := by kernel_rfl
theorem q_fld_50_0 : fieldOf tt 50 0 = some (0, 9) := by kernel_rfl
theorem q_fld_50_1 : fieldOf tt 50 1 = some (1, 3) := by kernel_rfl
theorem q_fld_50_2 : fieldOf tt 50 2 = some (2, 3) := by kernel_rfl
theorem q_fld_50_3 : fieldOf tt 50 3 = some (3, 3) := by kernel_rfl
theorem q_fld_50_4 : fieldOf tt 50 4 = some (4, 3) := by kernel_rfl
theorem q_fld_50_5 : fieldOf tt 50 5 = some (5, 44) := by kernel_rfl
theorem q_fld_50_6 : fieldOf tt 50 6 = some (6, 36) := by kernel_rfl
theorem q_fld_50_7 : fieldOf tt 50 7 = some (7, 45) := by kernel_rfl
theorem q_fld_50_8 : fieldOf tt 50 8 = some (8, 46) := by kernel_rfl
theorem q_fld_50_9 : fieldOf tt 50 9 = some (9, 47) := by kernel_rfl
theorem q_fld_50_10 : fieldOf tt 50 10 = some (10, 48) := by kernel_rfl
theorem q_tsz_51 : tsz tt 51 = some (8, true) := by kernel_rfl
theorem q_slz_51 : slz tt 51 = none := by kernel_rfl
theorem q_ifc_51 : isIfc tt 51 = some false := by kernel_rfl
theorem q_zcs_51 : zcs tt 51 = some [.val (.int .i64 0), .val (.string ⟨#[]⟩), .list .full 5 [], .list .full 5 [], .val (.int .i64 0), .val (.int .i64 0), .list .full 8 [], .list .full 8 []] := by kernel_rfl
theorem q_bld_51 : bld tt 51 = some ([(0, 1), (1, 1), (2, 1), (3, 1), (4, 1), (5, 1), (6, 1), (7, 1)], [.val (.int .i64 0), .val (.string ⟨#[]⟩), .list .full 5 [], .list .full 5 [], .val (.int .i64 0), .val (.int .i64 0), .list .full 8 [], .list .full 8 []]) := by kernel_rfl
theorem q_fld_51_0 : fieldOf tt 51 0 = some (0, 3) := by kernel_rfl
theorem q_fld_51_1 : fieldOf tt 51 1 = some (1, 9) := by kernel_rfl
theorem q_fld_51_2 : fieldOf tt 51 2 = some (2, 25) := by kernel_rfl
theorem q_fld_51_3 : fieldOf tt 51 3 = some (3, 25) := by kernel_rfl
theorem q_fld_51_4 : fieldOf tt 51 4 = some (4, 3) := by kernel_rfl
theorem q_fld_51_5 : fieldOf tt 51 5 = some (5, 3) := by kernel_rfl
theorem q_fld_51_6 : fieldOf tt 51 6 = some (6, 48) := by kernel_rfl
theorem q_fld_51_7 : fieldOf tt 51 7 = some (7, 48) := by kernel_rfl
theorem q_tsz_52 : tsz tt 52 = some (8, true) := by kernel_rfl
theorem q_slz_52 : slz tt 52 = none := by kernel_rfl
theorem q_ifc_52 : isIfc tt 52 = some false := by kernel_rfl
theorem q_zcs_52 : zcs tt 52 = some [.val (.int .i64 0), .val (.string ⟨#[]⟩), .list .full 5 [], .list .full 5 [], .val (.int .i64 0), .val (.int .i64 0), .list .full 8 [], .list .full 8 []] := by kernel_rfl
theorem q_bld_52 : bld tt 52 = some ([(0, 1), (1, 1), (2, 1), (3, 1), (4, 1), (5, 1), (6, 1), (7, 1)], [.val (.int .i64 0), .val (.string ⟨#[]⟩), .list .full 5 [], .list .full 5 [], .val (.int .i64 0), .val (.int .i64 0), .list .full 8 [], .list .full 8 []]) := by kernel_rfl
theorem q_fld_52_0 : fieldOf tt 52 0 = some (0, 3) := by kernel_rfl
theorem q_fld_52_1 : fieldOf tt 52 1 = some (1, 9) := by kernel_rfl
theorem q_fld_52_2 : fieldOf tt 52 2 = some (2, 25) := by kernel_rfl
theorem q_fld_52_3 : fieldOf tt 52 3 = some (3, 25) := by kernel_rfl
theorem q_fld_52_4 : fieldOf tt 52 4 = some (4, 3) := by kernel_rfl
theorem q_fld_52_5 : fieldOf tt 52 5 = some (5, 3) := by kernel_rfl
theorem q_fld_52_6 : fieldOf tt 52 6 = some (6, 48) := by kernel_rfl
theorem q_fld_52_7 : fieldOf tt 52 7 = some (7, 48) := by kernel_rfl
theorem q_slz_53 : slz tt 53 = none := by kernel_rfl
theorem q_tsz_54 : tsz tt 54 = some (1, false) := by kernel_rfl
theorem q_slz_54 : slz tt 54 = none := by kernel_rfl
theorem q_ifc_54 : isIfc tt 54 = some false := by kernel_rfl
theorem q_zcs_54 : zcs tt 54 = some [.val .nilFunc] := by kernel_rfl
theorem q_slz_55 : slz tt 55 = none := by kernel_rfl
theorem q_tsz_56 : tsz tt 56 = some (1, false) := by kernel_rfl
theorem q_slz_56 : slz tt 56 = none := by kernel_rfl
theorem q_ifc_56 : isIfc tt 56 = some false := by kernel_rfl
theorem q_zcs_56 : zcs tt 56 = some [.val .nilFunc] := by kernel_rfl
theorem q_tsz_57 : tsz tt 57 = some (1, false) := by kernel_rfl
theorem q_slz_57 : slz tt 57 = none := by kernel_rfl
theorem q_ifc_57 : isIfc tt 57 = some false := by kernel_rfl
theorem q_zcs_57 : zcs tt 57 = some [.val .nilFunc] := by kernel_rfl
theorem q_tsz_58 : tsz tt 58 = some (4, true) := by kernel_rfl
theorem q_slz_58 : slz tt 58 = none := by kernel_rfl
theorem q_ifc_58 : isIfc tt 58 = some false := by kernel_rfl
theorem q_zcs_58 : zcs tt 58 = some [.val (.int .i64 0), .val (.int .i64 0), .val (.int .i64 0), .val (.string ⟨#[]⟩)] := by kernel_rfl
theorem q_bld_58 : bld tt 58 = some ([(0, 1), (1, 1), (2, 1), (3, 1)], [.val (.int .i64 0), .val (.int .i64 0), .val (.int .i64 0), .val (.string ⟨#[]⟩)]) := by kernel_rfl
theorem q_fld_58_0 : fieldOf tt 58 0 = some (0, 3) := by kernel_rfl
theorem q_fld_58_1 : fieldOf tt 58 1 = some (1, 3) := by kernel_rfl
theorem q_fld_58_2 : fieldOf tt 58 2 = some (2, 3) := by kernel_rfl
theorem q_fld_58_3 : fieldOf tt 58 3 = some (3, 9) := by kernel_rfl
theorem q_tsz_59 : tsz tt 59 = some (4, true) := by kernel_rfl
theorem q_slz_59 : slz tt 59 = none := by kernel_rfl
theorem q_ifc_59 : isIfc tt 59 = some false := by kernel_rfl
theorem q_zcs_59 : zcs tt 59 = some [.val (.int .i64 0), .val (.int .i64 0), .val (.int .i64 0), .val (.string ⟨#[]⟩)] := by kernel_rfl
theorem q_bld_59 : bld tt 59 = some ([(0, 1), (1, 1), (2, 1), (3, 1)], [.val (.int .i64 0), .val (.int .i64 0), .val (.int .i64 0), .val (.string ⟨#[]⟩)]) := by kernel_rfl
theorem q_fld_59_0 : fieldOf tt 59 0 = some (0, 3) := by kernel_rfl
theorem q_fld_59_1 : fieldOf tt 59 1 = some (1, 3) := by kernel_rfl
theorem q_fld_59_2 : fieldOf tt 59 2 = some (2, 3) := by kernel_rfl
theorem q_fld_59_3 : fieldOf tt 59 3 = some (3, 9) := by kernel_rfl
theorem q_tsz_60 : tsz tt 60 = some (1, false) := by kernel_rfl
theorem q_slz_60 : slz tt 60 = none := by kernel_rfl
theorem q_ifc_60 : isIfc tt 60 = some false := by kernel_rfl
theorem q_zcs_60 : zcs tt 60 = some [.val .nilFunc] := by kernel_rfl
theorem q_tsz_61 : tsz tt 61 = some (1, false) := by kernel_rfl
theorem q_slz_61 : slz tt 61 = none := by kernel_rfl
theorem q_ifc_61 : isIfc tt 61 = some false := by kernel_rfl
theorem q_zcs_61 : zcs tt 61 = some [.val .nilFunc] := by kernel_rfl
theorem q_tsz_62 : tsz tt 62 = some (1, false) := by kernel_rfl
theorem q_slz_62 : slz tt 62 = none := by kernel_rfl
theorem q_ifc_62 : isIfc tt 62 = some false := by kernel_rfl
theorem q_zcs_62 : zcs tt 62 = some [.val .nilFunc] := by kernel_rfl
theorem q_tsz_63 : tsz tt 63 = some (1, false) := by kernel_rfl
theorem q_slz_63 : slz tt 63 = none := by kernel_rfl
theorem q_ifc_63 : isIfc tt 63 = some false := by kernel_rfl
theorem q_zcs_63 : zcs tt 63 = some [.val .nilFunc] := by kernel_rfl
theorem q_tsz_64 : tsz tt 64 = some (1, false) := by kernel_rfl
theorem q_slz_64 : slz tt 64 = none := by kernel_rfl
theorem q_ifc_64 : isIfc tt 64 = some false := by kernel_rfl
theorem q_zcs_64 : zcs tt 64 = some [.val .nilFunc] := by kernel_rfl
theorem q_tsz_65 : tsz tt 65 = some (1, false) := by kernel_rfl
theorem q_slz_65 : slz tt 65 = none := by kernel_rfl
theorem q_ifc_65 : isIfc tt 65 = some false := by kernel_rfl
theorem q_zcs_65 : zcs tt 65 = some [.val .nilFunc] := by kernel_rfl
theorem q_tsz_66 : tsz tt 66 = some (1, false) := by kernel_rfl
theorem q_slz_66 : slz tt 66 = none := by kernel_rfl
theorem q_ifc_66 : isIfc tt 66 = some false := by kernel_rfl
theorem q_zcs_66 : zcs tt 66 = some [.val .nilFunc] := by kernel_rfl
theorem q_tsz_67 : tsz tt 67 = some (1, false) := by kernel_rfl
theorem q_slz_67 : slz tt 67 = none := by kernel_rfl
theorem q_ifc_67 : isIfc tt 67 = some false := by kernel_rfl
theorem q_zcs_67 : zcs tt 67 = some [.val .nilFunc] := by kernel_rfl
theorem q_tsz_68 : tsz tt 68 = some (1, false) := by kernel_rfl
theorem q_slz_68 : slz tt 68 = none := by kernel_rfl
theorem q_ifc_68 : isIfc tt 68 = some false := by kernel_rfl
theorem q_zcs_68 : zcs tt 68 = some [.val .nilFunc] := by kernel_rfl
theorem q_tsz_69 : tsz tt 69 = some (1, false) := by kernel_rfl
theorem q_slz_69 : slz tt 69 = none := by kernel_rfl
theorem q_ifc_69 : isIfc tt 69 = some false := by kernel_rfl
theorem q_zcs_69 : zcs tt 69 = some [.val .nilFunc] := by kernel_rfl
theorem q_tsz_70 : tsz tt 70 = some (1, false) := by kernel_rfl
theorem q_slz_70 : slz tt 70 = some (1, 1) := by kernel_rfl
theorem q_str_70 : isStr tt 70 = false := by kernel_rfl
theorem q_arz_70 : arz tt 70 = none := by kernel_rfl
theorem q_ifc_70 : isIfc tt 70 = some false := by kernel_rfl
theorem q_zcs_70 : zcs tt 70 = some [.list .full 1 []] := by kernel_rfl
theorem q_bsl_70 : bsl tt 70 = some (1, .val (.bool false)) := by kernel_rfl
theorem q_tsz_71 : tsz tt 71 = some (1, false) := by kernel_rfl
theorem q_slz_71 : slz tt 71 = none := by kernel_rfl
theorem q_ifc_71 : isIfc tt 71 = some false := by kernel_rfl
theorem q_zcs_71 : zcs tt 71 = some [.val .nilFunc] := by kernel_rfl
theorem q_tsz_72 : tsz tt 72 = some (1, false) := by kernel_rfl
theorem q_slz_72 : slz tt 72 = none := by kernel_rfl
theorem q_ifc_72 : isIfc tt 72 = some false := by kernel_rfl
theorem q_zcs_72 : zcs tt 72 = some [.val .nilFunc] := by kernel_rfl
theorem q_tsz_73 : tsz tt 73 = some (1, false) := by kernel_rfl
theorem q_slz_73 : slz tt 73 = none := by kernel_rfl
theorem q_ifc_73 : isIfc tt 73 = some false := by kernel_rfl
theorem q_zcs_73 : zcs tt 73 = some [.val .nilFunc] := by kernel_rfl
theorem q_tsz_74 : tsz tt 74 = some (1, false) := by kernel_rfl
theorem q_slz_74 : slz tt 74 = none := by kernel_rfl
theorem q_ifc_74 : isIfc tt 74 = some false := by kernel_rfl
theorem q_zcs_74 : zcs tt 74 = some [.val .nilFunc] := by kernel_rfl
theorem q_tsz_75 : tsz tt 75 = some (1, false) := by kernel_rfl
theorem q_slz_75 : slz tt 75 = none := by kernel_rfl
theorem q_ifc_75 : isIfc tt 75 = some false := by kernel_rfl
theorem q_zcs_75 : zcs tt 75 = some [.val .nilFunc] := by kernel_rfl
theorem q_slz_76 : slz tt 76 = none := by kernel_rfl
theorem q_tsz_77 : tsz tt 77 = some (1, false) := by kernel_rfl
theorem q_slz_77 : slz tt 77 = none := by kernel_rfl
theorem q_ifc_77 : isIfc tt 77 = some false := by kernel_rfl
theorem q_zcs_77 : zcs tt 77 = some [.val .nilFunc] := by kernel_rfl
theorem q_tsz_78 : tsz tt 78 = some (1, false) := by kernel_rfl
theorem q_slz_78 : slz tt 78 = none := by kernel_rfl
theorem q_ifc_78 : isIfc tt 78 = some false := by kernel_rfl
theorem q_zcs_78 : zcs tt 78 = some [.val .nilFunc] := by kernel_rfl
theorem q_tsz_79 : tsz tt 79 = some (7, true) := by kernel_rfl
theorem q_slz_79 : slz tt 79 = none := by kernel_rfl
theorem q_ifc_79 : isIfc tt 79 = some false := by kernel_rfl
theorem q_zcs_79 : zcs tt 79 = some [.val (.int .i64 0), .val (.int .i64 0), .val (.string ⟨#[]⟩), .val (.int .i64 0), .list .full 5 [], .val (.int .i64 0), .val (.bool false)] := by kernel_rfl
theorem q_bld_79 : bld tt 79 = some ([(0, 5), (5, 1), (6, 1)], [.val (.int .i64 0), .val (.int .i64 0), .val (.string ⟨#[]⟩), .val (.int .i64 0), .list .full 5 [], .val (.int .i64 0), .val (.bool false)]) := by kernel_rfl
theorem q_fld_79_0 : fieldOf tt 79 0 = some (0, 27) := by kernel_rfl
theorem q_fld_79_1 : fieldOf tt 79 1 = some (5, 3) := by kernel_rfl
theorem q_fld_79_2 : fieldOf tt 79 2 = some (6, 4) := by kernel_rfl
theorem q_tsz_80 : tsz tt 80 = some (7, true) := by kernel_rfl
theorem q_slz_80 : slz tt 80 = none := by kernel_rfl
theorem q_ifc_80 : isIfc tt 80 = some false := by kernel_rfl
theorem q_zcs_80 : zcs tt 80 = some [.val (.int .i64 0), .val (.int .i64 0), .val (.string ⟨#[]⟩), .val (.int .i64 0), .list .full 5 [], .val (.int .i64 0), .val (.bool false)] := by kernel_rfl
theorem q_bld_80 : bld tt 80 = some ([(0, 5), (5, 1), (6, 1)], [.val (.int .i64 0), .val (.int .i64 0), .val (.string ⟨#[]⟩), .val (.int .i64 0), .list .full 5 [], .val (.int .i64 0), .val (.bool false)]) := by kernel_rfl
theorem q_fld_80_0 : fieldOf tt 80 0 = some (0, 27) := by kernel_rfl
theorem q_fld_80_1 : fieldOf tt 80 1 = some (5, 3) := by kernel_rfl
theorem q_fld_80_2 : fieldOf tt 80 2 = some (6, 4) := by kernel_rfl
theorem q_tsz_81 : tsz tt 81 = some (1, false) := by kernel_rfl
theorem q_slz_81 : slz tt 81 = none := by kernel_rfl
theorem q_ifc_81 : isIfc tt 81 = some false := by kernel_rfl
theorem q_zcs_81 : zcs tt 81 = some [.val (.pointer none)] := by kernel_rfl
theorem q_tsz_82 : tsz tt 82 = some (2, true) := by kernel_rfl
theorem q_slz_82 : slz tt 82 = none := by kernel_rfl
theorem q_ifc_82 : isIfc tt 82 = some false := by kernel_rfl
theorem q_zcs_82 : zcs tt 82 = some [.list .full 4 [], .val (.int .i64 0)] := by kernel_rfl
theorem q_bld_82 : bld tt 82 = some ([(0, 1), (1, 1)], [.list .full 4 [], .val (.int .i64 0)]) := by kernel_rfl
theorem q_fld_82_0 : fieldOf tt 82 0 = some (0, 23) := by kernel_rfl
theorem q_fld_82_1 : fieldOf tt 82 1 = some (1, 3) := by kernel_rfl
theorem q_tsz_83 : tsz tt 83 = some (2, true) := by kernel_rfl
theorem q_slz_83 : slz tt 83 = none := by kernel_rfl
theorem q_ifc_83 : isIfc tt 83 = some false := by kernel_rfl
theorem q_zcs_83 : zcs tt 83 = some [.list .full 4 [], .val (.int .i64 0)] := by kernel_rfl
theorem q_bld_83 : bld tt 83 = some ([(0, 1), (1, 1)], [.list .full 4 [], .val (.int .i64 0)]) := by kernel_rfl
theorem q_fld_83_0 : fieldOf tt 83 0 = some (0, 23) := by kernel_rfl
theorem q_fld_83_1 : fieldOf tt 83 1 = some (1, 3) := by kernel_rfl
theorem q_tsz_84 : tsz tt 84 = some (1, false) := by kernel_rfl
theorem q_slz_84 : slz tt 84 = none := by kernel_rfl
theorem q_ifc_84 : isIfc tt 84 = some false := by kernel_rfl
theorem q_zcs_84 : zcs tt 84 = some [.val .nilFunc] := by kernel_rfl
theorem q_tsz_85 : tsz tt 85 = some (1, false) := by kernel_rfl
theorem q_slz_85 : slz tt 85 = none := by kernel_rfl
theorem q_ifc_85 : isIfc tt 85 = some false := by kernel_rfl
theorem q_zcs_85 : zcs tt 85 = some [.val .nilFunc] := by kernel_rfl
theorem q_tsz_86 : tsz tt 86 = some (1, false) := by kernel_rfl
theorem q_slz_86 : slz tt 86 = none := by kernel_rfl
theorem q_ifc_86 : isIfc tt 86 = some false := by kernel_rfl
theorem q_zcs_86 : zcs tt 86 = some [.val (.pointer none)] := by kernel_rfl
theorem q_tsz_87 : tsz tt 87 = some (5, true) := by kernel_rfl
theorem q_slz_87 : slz tt 87 = none := by kernel_rfl
theorem q_ifc_87 : isIfc tt 87 = some false := by kernel_rfl
theorem q_zcs_87 : zcs tt 87 = some [.list .full 4 [], .val (.int .i64 0), .val (.int .i64 0), .val (.int .i64 0), .val (.bool false)] := by kernel_rfl
theorem q_bld_87 : bld tt 87 = some ([(0, 1), (1, 1), (2, 1), (3, 1), (4, 1)], [.list .full 4 [], .val (.int .i64 0), .val (.int .i64 0), .val (.int .i64 0), .val (.bool false)]) := by kernel_rfl
theorem q_fld_87_0 : fieldOf tt 87 0 = some (0, 23) := by kernel_rfl
theorem q_fld_87_1 : fieldOf tt 87 1 = some (1, 3) := by kernel_rfl
theorem q_fld_87_2 : fieldOf tt 87 2 = some (2, 3) := by kernel_rfl
theorem q_fld_87_3 : fieldOf tt 87 3 = some (3, 28) := by kernel_rfl
theorem q_fld_87_4 : fieldOf tt 87 4 = some (4, 4) := by kernel_rfl
theorem q_tsz_88 : tsz tt 88 = some (5, true) := by kernel_rfl
theorem q_slz_88 : slz tt 88 = none := by kernel_rfl
theorem q_ifc_88 : isIfc tt 88 = some false := by kernel_rfl
theorem q_zcs_88 : zcs tt 88 = some [.list .full 4 [], .val (.int .i64 0), .val (.int .i64 0), .val (.int .i64 0), .val (.bool false)] := by kernel_rfl
theorem q_bld_88 : bld tt 88 = some ([(0, 1), (1, 1), (2, 1), (3, 1), (4, 1)], [.list .full 4 [], .val (.int .i64 0), .val (.int .i64 0), .val (.int .i64 0), .val (.bool false)]) := by kernel_rfl
theorem q_fld_88_0 : fieldOf tt 88 0 = some (0, 23) := by kernel_rfl
theorem q_fld_88_1 : fieldOf tt 88 1 = some (1, 3) := by kernel_rfl
theorem q_fld_88_2 : fieldOf tt 88 2 = some (2, 3) := by kernel_rfl
theorem q_fld_88_3 : fieldOf tt 88 3 = some (3, 28) := by kernel_rfl
theorem q_fld_88_4 : fieldOf tt 88 4 = some (4, 4) := by kernel_rfl
theorem q_slz_89 : slz tt 89 = none := by kernel_rfl
theorem q_tsz_90 : tsz tt 90 = some (1, false) := by kernel_rfl
theorem q_slz_90 : slz tt 90 = none := by kernel_rfl
theorem q_ifc_90 : isIfc tt 90 = some false := by kernel_rfl
theorem q_zcs_90 : zcs tt 90 = some [.val .nilFunc] := by kernel_rfl
theorem q_tsz_91 : tsz tt 91 = some (1, false) := by kernel_rfl
theorem q_slz_91 : slz tt 91 = none := by kernel_rfl
theorem q_ifc_91 : isIfc tt 91 = some false := by kernel_rfl
theorem q_zcs_91 : zcs tt 91 = some [.val .nilFunc] := by kernel_rfl
theorem q_tsz_92 : tsz tt 92 = some (1, false) := by kernel_rfl
theorem q_slz_92 : slz tt 92 = none := by kernel_rfl
theorem q_ifc_92 : isIfc tt 92 = some false := by kernel_rfl
theorem q_zcs_92 : zcs tt 92 = some [.val .nilFunc] := by kernel_rfl
theorem q_tsz_93 : tsz tt 93 = some (2, true) := by kernel_rfl
theorem q_slz_93 : slz tt 93 = none := by kernel_rfl
theorem q_ifc_93 : isIfc tt 93 = some false := by kernel_rfl
theorem q_zcs_93 : zcs tt 93 = some [.list .full 1 [], .val (.int .i64 0)] := by kernel_rfl
theorem q_bld_93 : bld tt 93 = some ([(0, 1), (1, 1)], [.list .full 1 [], .val (.int .i64 0)]) := by kernel_rfl
theorem q_fld_93_0 : fieldOf tt 93 0 = some (0, 34) := by kernel_rfl
theorem q_fld_93_1 : fieldOf tt 93 1 = some (1, 3) := by kernel_rfl
theorem q_tsz_94 : tsz tt 94 = some (2, true) := by kernel_rfl
theorem q_slz_94 : slz tt 94 = none := by kernel_rfl
theorem q_ifc_94 : isIfc tt 94 = some false := by kernel_rfl
theorem q_zcs_94 : zcs tt 94 = some [.list .full 1 [], .val (.int .i64 0)] := by kernel_rfl
theorem q_bld_94 : bld tt 94 = some ([(0, 1), (1, 1)], [.list .full 1 [], .val (.int .i64 0)]) := by kernel_rfl
theorem q_fld_94_0 : fieldOf tt 94 0 = some (0, 34) := by kernel_rfl
theorem q_fld_94_1 : fieldOf tt 94 1 = some (1, 3) := by kernel_rfl
theorem q_tsz_95 : tsz tt 95 = some (1, false) := by kernel_rfl
theorem q_slz_95 : slz tt 95 = none := by kernel_rfl
theorem q_ifc_95 : isIfc tt 95 = some false := by kernel_rfl
theorem q_zcs_95 : zcs tt 95 = some [.val .nilFunc] := by kernel_rfl
theorem q_tsz_96 : tsz tt 96 = some (1, false) := by kernel_rfl
theorem q_slz_96 : slz tt 96 = none := by kernel_rfl
theorem q_ifc_96 : isIfc tt 96 = some false := by kernel_rfl
theorem q_zcs_96 : zcs tt 96 = some [.val .nilFunc] := by kernel_rfl
theorem q_tsz_97 : tsz tt 97 = some (1, false) := by kernel_rfl
theorem q_slz_97 : slz tt 97 = none := by kernel_rfl
theorem q_ifc_97 : isIfc tt 97 = some false := by kernel_rfl
theorem q_zcs_97 : zcs tt 97 = some [.val .nilFunc] := by kernel_rfl
theorem q_tsz_98 : tsz tt 98 = some (1, false) := by kernel_rfl
theorem q_slz_98 : slz tt 98 = none := by kernel_rfl
theorem q_ifc_98 : isIfc tt 98 = some false := by kernel_rfl
theorem q_zcs_98 : zcs tt 98 = some [.val (.map none)] := by kernel_rfl
theorem q_tsz_99 : tsz tt 99 = some (1, false) := by kernel_rfl
theorem q_slz_99 : slz tt 99 = none := by kernel_rfl
theorem q_ifc_99 : isIfc tt 99 = some false := by kernel_rfl
theorem q_zcs_99 : zcs tt 99 = some [.val .nilFunc] := by kernel_rfl
theorem q_slz_100 : slz tt 100 = none := by kernel_rfl
theorem q_tsz_101 : tsz tt 101 = some (1, false) := by kernel_rfl
theorem q_slz_101 : slz tt 101 = none := by kernel_rfl
theorem q_ifc_101 : isIfc tt 101 = some false := by kernel_rfl
theorem q_zcs_101 : zcs tt 101 = some [.val .nilFunc] := by kernel_rfl
theorem q_tsz_102 : tsz tt 102 = some (1, false) := by kernel_rfl
theorem q_slz_102 : slz tt 102 = none := by kernel_rfl
theorem q_ifc_102 : isIfc tt 102 = some false := by kernel_rfl
theorem q_zcs_102 : zcs tt 102 = some [.val .nilFunc] := by kernel_rfl
theorem q_tsz_103 : tsz tt 103 = some (1, false) := by kernel_rfl
theorem q_slz_103 : slz tt 103 = none := by kernel_rfl
theorem q_ifc_103 : isIfc tt 103 = some false := by kernel_rfl
theorem q_zcs_103 : zcs tt 103 = some [.val .nilFunc] := by kernel_rfl
theorem q_tsz_104 : tsz tt 104 = some (1, false) := by kernel_rfl
theorem q_slz_104 : slz tt 104 = none := by kernel_rfl
theorem q_ifc_104 : isIfc tt 104 = some false := by kernel_rfl
theorem q_zcs_104 : zcs tt 104 = some [.val .nilFunc] := by kernel_rfl
theorem q_tsz_105 : tsz tt 105 = some (1, false) := by kernel_rfl
theorem q_slz_105 : slz tt 105 = none := by kernel_rfl
theorem q_ifc_105 : isIfc tt 105 = some false := by kernel_rfl
theorem q_zcs_105 : zcs tt 105 = some [.val .nilFunc] := by kernel_rfl
theorem q_tsz_106 : tsz tt 106 = some (1, false) := by kernel_rfl
theorem q_slz_106 : slz tt 106 = none := by kernel_rfl
theorem q_ifc_106 : isIfc tt 106 = some false := by kernel_rfl
theorem q_zcs_106 : zcs tt 106 = some [.val .nilFunc] := by kernel_rfl
theorem q_tsz_107 : tsz tt 107 = some (2, true) := by kernel_rfl
theorem q_slz_107 : slz tt 107 = none := by kernel_rfl
theorem q_ifc_107 : isIfc tt 107 = some false := by kernel_rfl
theorem q_zcs_107 : zcs tt 107 = some [.val (.int .i64 0), .val (.int .i64 0)] := by kernel_rfl
theorem q_bld_107 : bld tt 107 = some ([(0, 1), (1, 1)], [.val (.int .i64 0), .val (.int .i64 0)]) := by kernel_rfl
theorem q_fld_107_0 : fieldOf tt 107 0 = some (0, 3) := by kernel_rfl
theorem q_fld_107_1 : fieldOf tt 107 1 = some (1, 28) := by kernel_rfl
theorem q_tsz_108 : tsz tt 108 = some (2, true) := by kernel_rfl
theorem q_slz_108 : slz tt 108 = none := by kernel_rfl
theorem q_ifc_108 : isIfc tt 108 = some false := by kernel_rfl
theorem q_zcs_108 : zcs tt 108 = some [.val (.int .i64 0), .val (.int .i64 0)] := by kernel_rfl
theorem q_bld_108 : bld tt 108 = some ([(0, 1), (1, 1)], [.val (.int .i64 0), .val (.int .i64 0)]) := by kernel_rfl
theorem q_fld_108_0 : fieldOf tt 108 0 = some (0, 3) := by kernel_rfl
theorem q_fld_108_1 : fieldOf tt 108 1 = some (1, 28) := by kernel_rfl
theorem q_slz_109 : slz tt 109 = none := by kernel_rfl
theorem q_tsz_110 : tsz tt 110 = some (1, false) := by kernel_rfl
theorem q_slz_110 : slz tt 110 = none := by kernel_rfl
theorem q_ifc_110 : isIfc tt 110 = some false := by kernel_rfl
theorem q_zcs_110 : zcs tt 110 = some [.val .nilFunc] := by kernel_rfl
theorem q_tsz_111 : tsz tt 111 = some (1, false) := by kernel_rfl
theorem q_slz_111 : slz tt 111 = none := by kernel_rfl
theorem q_ifc_111 : isIfc tt 111 = some false := by kernel_rfl
theorem q_zcs_111 : zcs tt 111 = some [.val .nilFunc] := by kernel_rfl
theorem q_tsz_112 : tsz tt 112 = some (1, false) := by kernel_rfl
theorem q_slz_112 : slz tt 112 = none := by kernel_rfl
theorem q_ifc_112 : isIfc tt 112 = some false := by kernel_rfl
theorem q_zcs_112 : zcs tt 112 = some [.val .nilFunc] := by kernel_rfl
theorem q_tsz_113 : tsz tt 113 = some (1, false) := by kernel_rfl
theorem q_slz_113 : slz tt 113 = none := by kernel_rfl
theorem q_ifc_113 : isIfc tt 113 = some false := by kernel_rfl
theorem q_zcs_113 : zcs tt 113 = some [.val .nilFunc] := by kernel_rfl
theorem q_tsz_114 : tsz tt 114 = some (1, false) := by kernel_rfl
theorem q_slz_114 : slz tt 114 = none := by kernel_rfl
theorem q_ifc_114 : isIfc tt 114 = some false := by kernel_rfl
theorem q_zcs_114 : zcs tt 114 = some [.val .nilFunc] := by kernel_rfl
theorem q_tsz_115 : tsz tt 115 = some (1, false) := by kernel_rfl
theorem q_slz_115 : slz tt 115 = none := by kernel_rfl
theorem q_ifc_115 : isIfc tt 115 = some false := by kernel_rfl
theorem q_zcs_115 : zcs tt 115 = some [.val .nilFunc] := by kernel_rfl
theorem q_tsz_116 : tsz tt 116 = some (1, false) := by kernel_rfl
theorem q_slz_116 : slz tt 116 = none := by kernel_rfl
theorem q_ifc_116 : isIfc tt 116 = some false := by kernel_rfl
theorem q_zcs_116 : zcs tt 116 = some [.val .nilFunc] := by kernel_rfl
theorem q_tsz_117 : tsz tt 117 = some (1, false) := by kernel_rfl
theorem q_slz_117 : slz tt 117 = none := by kernel_rfl
theorem q_ifc_117 : isIfc tt 117 = some false := by kernel_rfl
theorem q_zcs_117 : zcs tt 117 = some [.val (.int .u64 0)] := by kernel_rfl
theorem q_cvi_117_2 : cvI tt 117 2 = some .i64 := by kernel_rfl
theorem q_cvi_117_3 : cvI tt 117 3 = some .i64 := by kernel_rfl
theorem q_cvi_117_5 : cvI tt 117 5 = some .u8 := by kernel_rfl
theorem q_cvi_117_6 : cvI tt 117 6 = some .u8 := by kernel_rfl
theorem q_cvi_117_12 : cvI tt 117 12 = some .u64 := by kernel_rfl
theorem q_cvi_117_21 : cvI tt 117 21 = some .i32 := by kernel_rfl
theorem q_cvi_117_28 : cvI tt 117 28 = some .i64 := by kernel_rfl
theorem q_cvi_117_117 : cvI tt 117 117 = some .u64 := by kernel_rfl
theorem q_cvi_117_169 : cvI tt 117 169 = some .u64 := by kernel_rfl
theorem q_cvi_117_180 : cvI tt 117 180 = some .u32 := by kernel_rfl
theorem q_cvi_117_193 : cvI tt 117 193 = some .u8 := by kernel_rfl
theorem q_cvi_117_194 : cvI tt 117 194 = some .u8 := by kernel_rfl
theorem q_cvi_117_197 : cvI tt 117 197 = some .i32 := by kernel_rfl
theorem q_cvi_117_198 : cvI tt 117 198 = some .i32 := by kernel_rfl
theorem q_tsz_118 : tsz tt 118 = some (2, true) := by kernel_rfl
theorem q_slz_118 : slz tt 118 = none := by kernel_rfl
theorem q_ifc_118 : isIfc tt 118 = some false := by kernel_rfl
theorem q_zcs_118 : zcs tt 118 = some [.val (.string ⟨#[]⟩), .val (.int .i64 0)] := by kernel_rfl
theorem q_bld_118 : bld tt 118 = some ([(0, 1), (1, 1)], [.val (.string ⟨#[]⟩), .val (.int .i64 0)]) := by kernel_rfl
theorem q_fld_118_0 : fieldOf tt 118 0 = some (0, 9) := by kernel_rfl
theorem q_fld_118_1 : fieldOf tt 118 1 = some (1, 3) := by kernel_rfl
theorem q_tsz_119 : tsz tt 119 = some (2, true) := by kernel_rfl
theorem q_slz_119 : slz tt 119 = none := by kernel_rfl
theorem q_ifc_119 : isIfc tt 119 = some false := by kernel_rfl
theorem q_zcs_119 : zcs tt 119 = some [.val (.string ⟨#[]⟩), .val (.int .i64 0)] := by kernel_rfl
theorem q_bld_119 : bld tt 119 = some ([(0, 1), (1, 1)], [.val (.string ⟨#[]⟩), .val (.int .i64 0)]) := by kernel_rfl
theorem q_fld_119_0 : fieldOf tt 119 0 = some (0, 9) := by kernel_rfl
theorem q_fld_119_1 : fieldOf tt 119 1 = some (1, 3) := by kernel_rfl
theorem q_tsz_120 : tsz tt 120 = some (3, true) := by kernel_rfl
theorem q_slz_120 : slz tt 120 = none := by kernel_rfl
theorem q_ifc_120 : isIfc tt 120 = some false := by kernel_rfl
theorem q_zcs_120 : zcs tt 120 = some [.val (.string ⟨#[]⟩), .val (.int .i64 0), .val (.string ⟨#[]⟩)] := by kernel_rfl
theorem q_bld_120 : bld tt 120 = some ([(0, 2), (2, 1)], [.val (.string ⟨#[]⟩), .val (.int .i64 0), .val (.string ⟨#[]⟩)]) := by kernel_rfl
theorem q_fld_120_0 : fieldOf tt 120 0 = some (0, 119) := by kernel_rfl
theorem q_fld_120_1 : fieldOf tt 120 1 = some (2, 9) := by kernel_rfl
theorem q_tsz_121 : tsz tt 121 = some (3, true) := by kernel_rfl
theorem q_slz_121 : slz tt 121 = none := by kernel_rfl
theorem q_ifc_121 : isIfc tt 121 = some false := by kernel_rfl
theorem q_zcs_121 : zcs tt 121 = some [.val (.string ⟨#[]⟩), .val (.int .i64 0), .val (.string ⟨#[]⟩)] := by kernel_rfl
theorem q_bld_121 : bld tt 121 = some ([(0, 2), (2, 1)], [.val (.string ⟨#[]⟩), .val (.int .i64 0), .val (.string ⟨#[]⟩)]) := by kernel_rfl
theorem q_fld_121_0 : fieldOf tt 121 0 = some (0, 119) := by kernel_rfl
theorem q_fld_121_1 : fieldOf tt 121 1 = some (2, 9) := by kernel_rfl
theorem q_tsz_122 : tsz tt 122 = some (1, false) := by kernel_rfl
theorem q_slz_122 : slz tt 122 = none := by kernel_rfl
theorem q_ifc_122 : isIfc tt 122 = some false := by kernel_rfl
theorem q_zcs_122 : zcs tt 122 = some [.val .nilFunc] := by kernel_rfl
theorem q_tsz_123 : tsz tt 123 = some (1, false) := by kernel_rfl
theorem q_slz_123 : slz tt 123 = none := by kernel_rfl
theorem q_ifc_123 : isIfc tt 123 = some false := by kernel_rfl
theorem q_zcs_123 : zcs tt 123 = some [.val .nilFunc] := by kernel_rfl
theorem q_tsz_124 : tsz tt 124 = some (1, false) := by kernel_rfl
theorem q_slz_124 : slz tt 124 = none := by kernel_rfl
theorem q_ifc_124 : isIfc tt 124 = some false := by kernel_rfl
theorem q_zcs_124 : zcs tt 124 = some [.val .nilFunc] := by kernel_rfl
theorem q_tsz_125 : tsz tt 125 = some (1, false) := by kernel_rfl
theorem q_slz_125 : slz tt 125 = none := by kernel_rfl
theorem q_ifc_125 : isIfc tt 125 = some false := by kernel_rfl
theorem q_zcs_125 : zcs tt 125 = some [.val .nilFunc] := by kernel_rfl
theorem q_tsz_126 : tsz tt 126 = some (1, false) := by kernel_rfl
theorem q_slz_126 : slz tt 126 = none := by kernel_rfl
theorem q_ifc_126 : isIfc tt 126 = some false := by kernel_rfl
theorem q_zcs_126 : zcs tt 126 = some [.val .nilFunc] := by kernel_rfl
theorem q_tsz_127 : tsz tt 127 = some (1, false) := by kernel_rfl
theorem q_slz_127 : slz tt 127 = none := by kernel_rfl
theorem q_ifc_127 : isIfc tt 127 = some false := by kernel_rfl
theorem q_zcs_127 : zcs tt 127 = some [.val .nilFunc] := by kernel_rfl
theorem q_tsz_128 : tsz tt 128 = some (3, true) := by kernel_rfl
theorem q_slz_128 : slz tt 128 = none := by kernel_rfl
theorem q_ifc_128 : isIfc tt 128 = some false := by kernel_rfl
theorem q_zcs_128 : zcs tt 128 = some [.val (.string ⟨#[]⟩), .val (.int .i64 0), .val (.int .i64 0)] := by kernel_rfl
theorem q_bld_128 : bld tt 128 = some ([(0, 1), (1, 1), (2, 1)], [.val (.string ⟨#[]⟩), .val (.int .i64 0), .val (.int .i64 0)]) := by kernel_rfl
theorem q_fld_128_0 : fieldOf tt 128 0 = some (0, 9) := by kernel_rfl
theorem q_fld_128_1 : fieldOf tt 128 1 = some (1, 3) := by kernel_rfl
theorem q_fld_128_2 : fieldOf tt 128 2 = some (2, 3) := by kernel_rfl
theorem q_tsz_129 : tsz tt 129 = some (3, true) := by kernel_rfl
theorem q_slz_129 : slz tt 129 = none := by kernel_rfl
theorem q_ifc_129 : isIfc tt 129 = some false := by kernel_rfl
theorem q_zcs_129 : zcs tt 129 = some [.val (.string ⟨#[]⟩), .val (.int .i64 0), .val (.int .i64 0)] := by kernel_rfl
theorem q_bld_129 : bld tt 129 = some ([(0, 1), (1, 1), (2, 1)], [.val (.string ⟨#[]⟩), .val (.int .i64 0), .val (.int .i64 0)]) := by kernel_rfl
theorem q_fld_129_0 : fieldOf tt 129 0 = some (0, 9) := by kernel_rfl
theorem q_fld_129_1 : fieldOf tt 129 1 = some (1, 3) := by kernel_rfl
theorem q_fld_129_2 : fieldOf tt 129 2 = some (2, 3) := by kernel_rfl
theorem q_tsz_130 : tsz tt 130 = some (4, true) := by kernel_rfl
theorem q_slz_130 : slz tt 130 = none := by kernel_rfl
theorem q_ifc_130 : isIfc tt 130 = some false := by kernel_rfl
theorem q_zcs_130 : zcs tt 130 = some [.val (.string ⟨#[]⟩), .val (.string ⟨#[]⟩), .val (.int .i64 0), .val (.int .i64 0)] := by kernel_rfl
theorem q_bld_130 : bld tt 130 = some ([(0, 1), (1, 1), (2, 1), (3, 1)], [.val (.string ⟨#[]⟩), .val (.string ⟨#[]⟩), .val (.int .i64 0), .val (.int .i64 0)]) := by kernel_rfl
theorem q_fld_130_0 : fieldOf tt 130 0 = some (0, 9) := by kernel_rfl
theorem q_fld_130_1 : fieldOf tt 130 1 = some (1, 9) := by kernel_rfl
theorem q_fld_130_2 : fieldOf tt 130 2 = some (2, 3) := by kernel_rfl
theorem q_fld_130_3 : fieldOf tt 130 3 = some (3, 3) := by kernel_rfl
theorem q_tsz_131 : tsz tt 131 = some (4, true) := by kernel_rfl
theorem q_slz_131 : slz tt 131 = none := by kernel_rfl
theorem q_ifc_131 : isIfc tt 131 = some false := by kernel_rfl
theorem q_zcs_131 : zcs tt 131 = some [.val (.string ⟨#[]⟩), .val (.string ⟨#[]⟩), .val (.int .i64 0), .val (.int .i64 0)] := by kernel_rfl
theorem q_bld_131 : bld tt 131 = some ([(0, 1), (1, 1), (2, 1), (3, 1)], [.val (.string ⟨#[]⟩), .val (.string ⟨#[]⟩), .val (.int .i64 0), .val (.int .i64 0)]) := by kernel_rfl
theorem q_fld_131_0 : fieldOf tt 131 0 = some (0, 9) := by kernel_rfl
theorem q_fld_131_1 : fieldOf tt 131 1 = some (1, 9) := by kernel_rfl
theorem q_fld_131_2 : fieldOf tt 131 2 = some (2, 3) := by kernel_rfl
theorem q_fld_131_3 : fieldOf tt 131 3 = some (3, 3) := by kernel_rfl
theorem q_tsz_132 : tsz tt 132 = some (2, true) := by kernel_rfl
theorem q_slz_132 : slz tt 132 = none := by kernel_rfl
theorem q_ifc_132 : isIfc tt 132 = some false := by kernel_rfl
theorem q_zcs_132 : zcs tt 132 = some [.val (.int .i64 0), .val (.int .i64 0)] := by kernel_rfl
theorem q_bld_132 : bld tt 132 = some ([(0, 1), (1, 1)], [.val (.int .i64 0), .val (.int .i64 0)]) := by kernel_rfl
theorem q_fld_132_0 : fieldOf tt 132 0 = some (0, 3) := by kernel_rfl
theorem q_fld_132_1 : fieldOf tt 132 1 = some (1, 3) := by kernel_rfl
theorem q_tsz_133 : tsz tt 133 = some (2, true) := by kernel_rfl
theorem q_slz_133 : slz tt 133 = none := by kernel_rfl
theorem q_ifc_133 : isIfc tt 133 = some false := by kernel_rfl
theorem q_zcs_133 : zcs tt 133 = some [.val (.int .i64 0), .val (.int .i64 0)] := by kernel_rfl
theorem q_bld_133 : bld tt 133 = some ([(0, 1), (1, 1)], [.val (.int .i64 0), .val (.int .i64 0)]) := by kernel_rfl
theorem q_fld_133_0 : fieldOf tt 133 0 = some (0, 3) := by kernel_rfl
theorem q_fld_133_1 : fieldOf tt 133 1 = some (1, 3) := by kernel_rfl
theorem q_tsz_134 : tsz tt 134 = some (1, false) := by kernel_rfl
theorem q_slz_134 : slz tt 134 = none := by kernel_rfl
theorem q_ifc_134 : isIfc tt 134 = some false := by kernel_rfl
theorem q_zcs_134 : zcs tt 134 = some [.val .nilFunc] := by kernel_rfl
theorem q_tsz_135 : tsz tt 135 = some (1, false) := by kernel_rfl
theorem q_slz_135 : slz tt 135 = none := by kernel_rfl
theorem q_ifc_135 : isIfc tt 135 = some false := by kernel_rfl
theorem q_zcs_135 : zcs tt 135 = some [.val .nilFunc] := by kernel_rfl
theorem q_tsz_136 : tsz tt 136 = some (1, false) := by kernel_rfl
theorem q_slz_136 : slz tt 136 = none := by kernel_rfl
theorem q_ifc_136 : isIfc tt 136 = some false := by kernel_rfl
theorem q_zcs_136 : zcs tt 136 = some [.val .nilFunc] := by kernel_rfl
theorem q_tsz_137 : tsz tt 137 = some (1, false) := by kernel_rfl
theorem q_slz_137 : slz tt 137 = none := by kernel_rfl
theorem q_ifc_137 : isIfc tt 137 = some false := by kernel_rfl
theorem q_zcs_137 : zcs tt 137 = some [.val .nilFunc] := by kernel_rfl
theorem q_tsz_138 : tsz tt 138 = some (1, false) := by kernel_rfl
theorem q_slz_138 : slz tt 138 = none := by kernel_rfl
theorem q_ifc_138 : isIfc tt 138 = some false := by kernel_rfl
theorem q_zcs_138 : zcs tt 138 = some [.val .nilFunc] := by kernel_rfl
theorem q_tsz_139 : tsz tt 139 = some (1, false) := by kernel_rfl
theorem q_slz_139 : slz tt 139 = none := by kernel_rfl
theorem q_ifc_139 : isIfc tt 139 = some false := by kernel_rfl
theorem q_zcs_139 : zcs tt 139 = some [.val .nilFunc] := by kernel_rfl
theorem q_tsz_140 : tsz tt 140 = some (1, false) := by kernel_rfl
theorem q_slz_140 : slz tt 140 = none := by kernel_rfl
theorem q_ifc_140 : isIfc tt 140 = some false := by kernel_rfl
theorem q_zcs_140 : zcs tt 140 = some [.val .nilFunc] := by kernel_rfl
theorem q_tsz_141 : tsz tt 141 = some (1, false) := by kernel_rfl
theorem q_slz_141 : slz tt 141 = none := by kernel_rfl
theorem q_ifc_141 : isIfc tt 141 = some false := by kernel_rfl
theorem q_zcs_141 : zcs tt 141 = some [.val .nilFunc] := by kernel_rfl
theorem q_tsz_142 : tsz tt 142 = some (2, true) := by kernel_rfl
theorem q_slz_142 : slz tt 142 = none := by kernel_rfl
theorem q_arz_142 : arz tt 142 = some (2, 36, 1) := by kernel_rfl
theorem q_str_142 : isStr tt 142 = false := by kernel_rfl
theorem q_ifc_142 : isIfc tt 142 = some false := by kernel_rfl
theorem q_zcs_142 : zcs tt 142 = some [.list .full 1 [], .list .full 1 []] := by kernel_rfl
theorem q_tsz_143 : tsz tt 143 = some (1, false) := by kernel_rfl
theorem q_slz_143 : slz tt 143 = none := by kernel_rfl
theorem q_ifc_143 : isIfc tt 143 = some false := by kernel_rfl
theorem q_zcs_143 : zcs tt 143 = some [.val .nilFunc] := by kernel_rfl
theorem q_tsz_144 : tsz tt 144 = some (1, false) := by kernel_rfl
theorem q_slz_144 : slz tt 144 = none := by kernel_rfl
theorem q_ifc_144 : isIfc tt 144 = some false := by kernel_rfl
theorem q_zcs_144 : zcs tt 144 = some [.val .nilFunc] := by kernel_rfl
theorem q_tsz_145 : tsz tt 145 = some (1, false) := by kernel_rfl
theorem q_slz_145 : slz tt 145 = none := by kernel_rfl
theorem q_ifc_145 : isIfc tt 145 = some false := by kernel_rfl
theorem q_zcs_145 : zcs tt 145 = some [.val (.pointer none)] := by kernel_rfl
theorem q_tsz_146 : tsz tt 146 = some (9, true) := by kernel_rfl
theorem q_slz_146 : slz tt 146 = none := by kernel_rfl
theorem q_ifc_146 : isIfc tt 146 = some false := by kernel_rfl
theorem q_zcs_146 : zcs tt 146 = some [.val (.pointer none), .list .full 1 [], .list .full 1 [], .list .full 1 [], .list .full 3 [], .val (.string ⟨#[]⟩), .val (.int .i64 0), .val (.int .i64 0), .val (.int .i64 0)] := by kernel_rfl
theorem q_bld_146 : bld tt 146 = some ([(0, 1), (1, 1), (2, 1), (3, 1), (4, 1), (5, 1), (6, 1), (7, 1), (8, 1)], [.val (.pointer none), .list .full 1 [], .list .full 1 [], .list .full 1 [], .list .full 3 [], .val (.string ⟨#[]⟩), .val (.int .i64 0), .val (.int .i64 0), .val (.int .i64 0)]) := by kernel_rfl
theorem q_fld_146_0 : fieldOf tt 146 0 = some (0, 42) := by kernel_rfl
theorem q_fld_146_1 : fieldOf tt 146 1 = some (1, 36) := by kernel_rfl
theorem q_fld_146_2 : fieldOf tt 146 2 = some (2, 36) := by kernel_rfl
theorem q_fld_146_3 : fieldOf tt 146 3 = some (3, 36) := by kernel_rfl
theorem q_fld_146_4 : fieldOf tt 146 4 = some (4, 37) := by kernel_rfl
theorem q_fld_146_5 : fieldOf tt 146 5 = some (5, 9) := by kernel_rfl
theorem q_fld_146_6 : fieldOf tt 146 6 = some (6, 3) := by kernel_rfl
theorem q_fld_146_7 : fieldOf tt 146 7 = some (7, 3) := by kernel_rfl
theorem q_fld_146_8 : fieldOf tt 146 8 = some (8, 3) := by kernel_rfl
theorem q_tsz_147 : tsz tt 147 = some (9, true) := by kernel_rfl
theorem q_slz_147 : slz tt 147 = none := by kernel_rfl
theorem q_ifc_147 : isIfc tt 147 = some false := by kernel_rfl
theorem q_zcs_147 : zcs tt 147 = some [.val (.pointer none), .list .full 1 [], .list .full 1 [], .list .full 1 [], .list .full 3 [], .val (.string ⟨#[]⟩), .val (.int .i64 0), .val (.int .i64 0), .val (.int .i64 0)] := by kernel_rfl
theorem q_bld_147 : bld tt 147 = some ([(0, 1), (1, 1), (2, 1), (3, 1), (4, 1), (5, 1), (6, 1), (7, 1), (8, 1)], [.val (.pointer none), .list .full 1 [], .list .full 1 [], .list .full 1 [], .list .full 3 [], .val (.string ⟨#[]⟩), .val (.int .i64 0), .val (.int .i64 0), .val (.int .i64 0)]) := by kernel_rfl
theorem q_fld_147_0 : fieldOf tt 147 0 = some (0, 42) := by kernel_rfl
theorem q_fld_147_1 : fieldOf tt 147 1 = some (1, 36) := by kernel_rfl
theorem q_fld_147_2 : fieldOf tt 147 2 = some (2, 36) := by kernel_rfl
theorem q_fld_147_3 : fieldOf tt 147 3 = some (3, 36) := by kernel_rfl
theorem q_fld_147_4 : fieldOf tt 147 4 = some (4, 37) := by kernel_rfl
theorem q_fld_147_5 : fieldOf tt 147 5 = some (5, 9) := by kernel_rfl
theorem q_fld_147_6 : fieldOf tt 147 6 = some (6, 3) := by kernel_rfl
theorem q_fld_147_7 : fieldOf tt 147 7 = some (7, 3) := by kernel_rfl
theorem q_fld_147_8 : fieldOf tt 147 8 = some (8, 3) := by kernel_rfl
theorem q_tsz_148 : tsz tt 148 = some (1, false) := by kernel_rfl
theorem q_slz_148 : slz tt 148 = none := by kernel_rfl
theorem q_ifc_148 : isIfc tt 148 = some false := by kernel_rfl
theorem q_zcs_148 : zcs tt 148 = some [.val .nilFunc] := by kernel_rfl
theorem q_tsz_149 : tsz tt 149 = some (1, false) := by kernel_rfl
theorem q_slz_149 : slz tt 149 = none := by kernel_rfl
theorem q_ifc_149 : isIfc tt 149 = some false := by kernel_rfl
theorem q_zcs_149 : zcs tt 149 = some [.val .nilFunc] := by kernel_rfl
theorem q_tsz_150 : tsz tt 150 = some (1, false) := by kernel_rfl
theorem q_slz_150 : slz tt 150 = none := by kernel_rfl
theorem q_ifc_150 : isIfc tt 150 = some false := by kernel_rfl
theorem q_zcs_150 : zcs tt 150 = some [.val .nilFunc] := by kernel_rfl
theorem q_tsz_151 : tsz tt 151 = some (1, false) := by kernel_rfl
theorem q_slz_151 : slz tt 151 = none := by kernel_rfl
theorem q_ifc_151 : isIfc tt 151 = some false := by kernel_rfl
theorem q_zcs_151 : zcs tt 151 = some [.val .nilFunc] := by kernel_rfl
theorem q_tsz_152 : tsz tt 152 = some (1, false) := by kernel_rfl
theorem q_slz_152 : slz tt 152 = none := by kernel_rfl
theorem q_ifc_152 : isIfc tt 152 = some false := by kernel_rfl
theorem q_zcs_152 : zcs tt 152 = some [.val .nilFunc] := by kernel_rfl
theorem q_tsz_153 : tsz tt 153 = some (1, false) := by kernel_rfl
theorem q_slz_153 : slz tt 153 = none := by kernel_rfl
theorem q_ifc_153 : isIfc tt 153 = some false := by kernel_rfl
theorem q_zcs_153 : zcs tt 153 = some [.val .nilFunc] := by kernel_rfl
theorem q_tsz_154 : tsz tt 154 = some (14, true) := by kernel_rfl
theorem q_slz_154 : slz tt 154 = none := by kernel_rfl
theorem q_arz_154 : arz tt 154 = some (14, 9, 1) := by kernel_rfl
theorem q_str_154 : isStr tt 154 = false := by kernel_rfl
theorem q_ifc_154 : isIfc tt 154 = some false := by kernel_rfl
theorem q_zcs_154 : zcs tt 154 = some [.val (.string ⟨#[]⟩), .val (.string ⟨#[]⟩), .val (.string ⟨#[]⟩), .val (.string ⟨#[]⟩), .val (.string ⟨#[]⟩), .val (.string ⟨#[]⟩), .val (.string ⟨#[]⟩), .val (.string ⟨#[]⟩), .val (.string ⟨#[]⟩), .val (.string ⟨#[]⟩), .val (.string ⟨#[]⟩), .val (.string ⟨#[]⟩), .val (.string ⟨#[]⟩), .val (.string ⟨#[]⟩)] := by kernel_rfl
theorem q_tsz_155 : tsz tt 155 = some (15, true) := by kernel_rfl
theorem q_slz_155 : slz tt 155 = none := by kernel_rfl
theorem q_arz_155 : arz tt 155 = some (15, 9, 1) := by kernel_rfl
theorem q_str_155 : isStr tt 155 = false := by kernel_rfl
theorem q_ifc_155 : isIfc tt 155 = some false := by kernel_rfl
theorem q_zcs_155 : zcs tt 155 = some [.val (.string ⟨#[]⟩), .val (.string ⟨#[]⟩), .val (.string ⟨#[]⟩), .val (.string ⟨#[]⟩), .val (.string ⟨#[]⟩), .val (.string ⟨#[]⟩), .val (.string ⟨#[]⟩), .val (.string ⟨#[]⟩), .val (.string ⟨#[]⟩), .val (.string ⟨#[]⟩), .val (.string ⟨#[]⟩), .val (.string ⟨#[]⟩), .val (.string ⟨#[]⟩), .val (.string ⟨#[]⟩), .val (.string ⟨#[]⟩)] := by kernel_rfl
theorem q_tsz_156 : tsz tt 156 = some (1, false) := by kernel_rfl
theorem q_slz_156 : slz tt 156 = none := by kernel_rfl
theorem q_ifc_156 : isIfc tt 156 = some false := by kernel_rfl
theorem q_zcs_156 : zcs tt 156 = some [.val .nilFunc] := by kernel_rfl
theorem q_tsz_157 : tsz tt 157 = some (1, false) := by kernel_rfl
theorem q_slz_157 : slz tt 157 = none := by kernel_rfl
theorem q_ifc_157 : isIfc tt 157 = some false := by kernel_rfl
theorem q_zcs_157 : zcs tt 157 = some [.val .nilFunc] := by kernel_rfl
theorem q_tsz_158 : tsz tt 158 = some (1, false) := by kernel_rfl
theorem q_slz_158 : slz tt 158 = none := by kernel_rfl
theorem q_ifc_158 : isIfc tt 158 = some false := by kernel_rfl
theorem q_zcs_158 : zcs tt 158 = some [.val .nilFunc] := by kernel_rfl
theorem q_tsz_159 : tsz tt 159 = some (1, false) := by kernel_rfl
theorem q_slz_159 : slz tt 159 = none := by kernel_rfl
theorem q_ifc_159 : isIfc tt 159 = some false := by kernel_rfl
theorem q_zcs_159 : zcs tt 159 = some [.val (.pointer none)] := by kernel_rfl
theorem q_tsz_160 : tsz tt 160 = some (2, true) := by kernel_rfl
theorem q_slz_160 : slz tt 160 = none := by kernel_rfl
theorem q_ifc_160 : isIfc tt 160 = some false := by kernel_rfl
theorem q_zcs_160 : zcs tt 160 = some [.val (.string ⟨#[]⟩), .val (.pointer none)] := by kernel_rfl
theorem q_bld_160 : bld tt 160 = some ([(0, 1), (1, 1)], [.val (.string ⟨#[]⟩), .val (.pointer none)]) := by kernel_rfl
theorem q_fld_160_0 : fieldOf tt 160 0 = some (0, 9) := by kernel_rfl
theorem q_fld_160_1 : fieldOf tt 160 1 = some (1, 159) := by kernel_rfl
theorem q_tsz_161 : tsz tt 161 = some (1, false) := by kernel_rfl
theorem q_slz_161 : slz tt 161 = some (2, 24) := by kernel_rfl
theorem q_str_161 : isStr tt 161 = false := by kernel_rfl
theorem q_arz_161 : arz tt 161 = none := by kernel_rfl
theorem q_ifc_161 : isIfc tt 161 = some false := by kernel_rfl
theorem q_zcs_161 : zcs tt 161 = some [.list .full 2 []] := by kernel_rfl
theorem q_bsl_161 : bsl tt 161 = some (2, .agg [.val (.string ⟨#[]⟩), .val (.pointer none)]) := by kernel_rfl
theorem q_tsz_162 : tsz tt 162 = some (1, false) := by kernel_rfl
theorem q_slz_162 : slz tt 162 = none := by kernel_rfl
theorem q_ifc_162 : isIfc tt 162 = some false := by kernel_rfl
theorem q_zcs_162 : zcs tt 162 = some [.val .nilFunc] := by kernel_rfl
theorem q_tsz_163 : tsz tt 163 = some (1, false) := by kernel_rfl
theorem q_slz_163 : slz tt 163 = none := by kernel_rfl
theorem q_ifc_163 : isIfc tt 163 = some false := by kernel_rfl
theorem q_zcs_163 : zcs tt 163 = some [.val .nilFunc] := by kernel_rfl
theorem q_tsz_164 : tsz tt 164 = some (1, false) := by kernel_rfl
theorem q_slz_164 : slz tt 164 = none := by kernel_rfl
theorem q_ifc_164 : isIfc tt 164 = some false := by kernel_rfl
theorem q_zcs_164 : zcs tt 164 = some [.val .nilFunc] := by kernel_rfl
theorem q_tsz_165 : tsz tt 165 = some (1, false) := by kernel_rfl
theorem q_slz_165 : slz tt 165 = none := by kernel_rfl
theorem q_ifc_165 : isIfc tt 165 = some false := by kernel_rfl
theorem q_zcs_165 : zcs tt 165 = some [.val .nilFunc] := by kernel_rfl
theorem q_tsz_166 : tsz tt 166 = some (1, false) := by kernel_rfl
theorem q_slz_166 : slz tt 166 = none := by kernel_rfl
theorem q_ifc_166 : isIfc tt 166 = some false := by kernel_rfl
theorem q_zcs_166 : zcs tt 166 = some [.val .nilFunc] := by kernel_rfl
theorem q_tsz_167 : tsz tt 167 = some (1, false) := by kernel_rfl
theorem q_slz_167 : slz tt 167 = none := by kernel_rfl
theorem q_ifc_167 : isIfc tt 167 = some false := by kernel_rfl
theorem q_zcs_167 : zcs tt 167 = some [.val .nilFunc] := by kernel_rfl
theorem q_tsz_168 : tsz tt 168 = some (24, true) := by kernel_rfl
theorem q_slz_168 : slz tt 168 = none := by kernel_rfl
theorem q_arz_168 : arz tt 168 = some (24, 5, 1) := by kernel_rfl
theorem q_str_168 : isStr tt 168 = false := by kernel_rfl
theorem q_ifc_168 : isIfc tt 168 = some false := by kernel_rfl
theorem q_zcs_168 : zcs tt 168 = some [.val (.int .u8 0), .val (.int .u8 0), .val (.int .u8 0), .val (.int .u8 0), .val (.int .u8 0), .val (.int .u8 0), .val (.int .u8 0), .val (.int .u8 0), .val (.int .u8 0), .val (.int .u8 0), .val (.int .u8 0), .val (.int .u8 0), .val (.int .u8 0), .val (.int .u8 0), .val (.int .u8 0), .val (.int .u8 0), .val (.int .u8 0), .val (.int .u8 0), .val (.int .u8 0), .val (.int .u8 0), .val (.int .u8 0), .val (.int .u8 0), .val (.int .u8 0), .val (.int .u8 0)] := by kernel_rfl
theorem q_tsz_169 : tsz tt 169 = some (1, false) := by kernel_rfl
theorem q_slz_169 : slz tt 169 = none := by kernel_rfl
theorem q_ifc_169 : isIfc tt 169 = some false := by kernel_rfl
theorem q_zcs_169 : zcs tt 169 = some [.val (.int .u64 0)] := by kernel_rfl
theorem q_cvi_169_2 : cvI tt 169 2 = some .i64 := by kernel_rfl
theorem q_cvi_169_3 : cvI tt 169 3 = some .i64 := by kernel_rfl
theorem q_cvi_169_5 : cvI tt 169 5 = some .u8 := by kernel_rfl
theorem q_cvi_169_6 : cvI tt 169 6 = some .u8 := by kernel_rfl
theorem q_cvi_169_12 : cvI tt 169 12 = some .u64 := by kernel_rfl
theorem q_cvi_169_21 : cvI tt 169 21 = some .i32 := by kernel_rfl
theorem q_cvi_169_28 : cvI tt 169 28 = some .i64 := by kernel_rfl
theorem q_cvi_169_117 : cvI tt 169 117 = some .u64 := by kernel_rfl
theorem q_cvi_169_169 : cvI tt 169 169 = some .u64 := by kernel_rfl
theorem q_cvi_169_180 : cvI tt 169 180 = some .u32 := by kernel_rfl
theorem q_cvi_169_193 : cvI tt 169 193 = some .u8 := by kernel_rfl
theorem q_cvi_169_194 : cvI tt 169 194 = some .u8 := by kernel_rfl
theorem q_cvi_169_197 : cvI tt 169 197 = some .i32 := by kernel_rfl
theorem q_cvi_169_198 : cvI tt 169 198 = some .i32 := by kernel_rfl
theorem q_tsz_170 : tsz tt 170 = some (1, false) := by kernel_rfl
theorem q_slz_170 : slz tt 170 = none := by kernel_rfl
theorem q_ifc_170 : isIfc tt 170 = some false := by kernel_rfl
theorem q_zcs_170 : zcs tt 170 = some [.val .nilFunc] := by kernel_rfl
theorem q_tsz_171 : tsz tt 171 = some (1, false) := by kernel_rfl
theorem q_slz_171 : slz tt 171 = none := by kernel_rfl
theorem q_ifc_171 : isIfc tt 171 = some false := by kernel_rfl
theorem q_zcs_171 : zcs tt 171 = some [.val .nilFunc] := by kernel_rfl
theorem q_slz_172 : slz tt 172 = none := by kernel_rfl
theorem q_tsz_173 : tsz tt 173 = some (1, false) := by kernel_rfl
theorem q_slz_173 : slz tt 173 = none := by kernel_rfl
theorem q_ifc_173 : isIfc tt 173 = some false := by kernel_rfl
theorem q_zcs_173 : zcs tt 173 = some [.val .nilFunc] := by kernel_rfl
theorem q_tsz_174 : tsz tt 174 = some (1, false) := by kernel_rfl
theorem q_slz_174 : slz tt 174 = none := by kernel_rfl
theorem q_ifc_174 : isIfc tt 174 = some false := by kernel_rfl
theorem q_zcs_174 : zcs tt 174 = some [.val .nilFunc] := by kernel_rfl
theorem q_tsz_175 : tsz tt 175 = some (1, false) := by kernel_rfl
theorem q_slz_175 : slz tt 175 = none := by kernel_rfl
theorem q_ifc_175 : isIfc tt 175 = some false := by kernel_rfl
theorem q_zcs_175 : zcs tt 175 = some [.val .nilFunc] := by kernel_rfl
theorem q_tsz_176 : tsz tt 176 = some (1, false) := by kernel_rfl
theorem q_slz_176 : slz tt 176 = none := by kernel_rfl
theorem q_ifc_176 : isIfc tt 176 = some false := by kernel_rfl
theorem q_zcs_176 : zcs tt 176 = some [.val .nilFunc] := by kernel_rfl
theorem q_tsz_177 : tsz tt 177 = some (1, false) := by kernel_rfl
theorem q_slz_177 : slz tt 177 = none := by kernel_rfl
theorem q_ifc_177 : isIfc tt 177 = some false := by kernel_rfl
theorem q_zcs_177 : zcs tt 177 = some [.val .nilFunc] := by kernel_rfl
theorem q_tsz_178 : tsz tt 178 = some (1, false) := by kernel_rfl
theorem q_slz_178 : slz tt 178 = none := by kernel_rfl
theorem q_ifc_178 : isIfc tt 178 = some false := by kernel_rfl
theorem q_zcs_178 : zcs tt 178 = some [.val .nilFunc] := by kernel_rfl
theorem q_tsz_179 : tsz tt 179 = some (20, true) := by kernel_rfl
theorem q_slz_179 : slz tt 179 = none := by kernel_rfl
theorem q_arz_179 : arz tt 179 = some (20, 169, 1) := by kernel_rfl
theorem q_str_179 : isStr tt 179 = false := by kernel_rfl
theorem q_ifc_179 : isIfc tt 179 = some false := by kernel_rfl
theorem q_zcs_179 : zcs tt 179 = some [.val (.int .u64 0), .val (.int .u64 0), .val (.int .u64 0), .val (.int .u64 0), .val (.int .u64 0), .val (.int .u64 0), .val (.int .u64 0), .val (.int .u64 0), .val (.int .u64 0), .val (.int .u64 0), .val (.int .u64 0), .val (.int .u64 0), .val (.int .u64 0), .val (.int .u64 0), .val (.int .u64 0), .val (.int .u64 0), .val (.int .u64 0), .val (.int .u64 0), .val (.int .u64 0), .val (.int .u64 0)] := by kernel_rfl
theorem q_tsz_180 : tsz tt 180 = some (1, false) := by kernel_rfl
theorem q_slz_180 : slz tt 180 = none := by kernel_rfl
theorem q_ifc_180 : isIfc tt 180 = some false := by kernel_rfl
theorem q_zcs_180 : zcs tt 180 = some [.val (.int .u32 0)] := by kernel_rfl
theorem q_cvi_180_2 : cvI tt 180 2 = some .i64 := by kernel_rfl
theorem q_cvi_180_3 : cvI tt 180 3 = some .i64 := by kernel_rfl
theorem q_cvi_180_5 : cvI tt 180 5 = some .u8 := by kernel_rfl
theorem q_cvi_180_6 : cvI tt 180 6 = some .u8 := by kernel_rfl
theorem q_cvi_180_12 : cvI tt 180 12 = some .u64 := by kernel_rfl
theorem q_cvi_180_21 : cvI tt 180 21 = some .i32 := by kernel_rfl
theorem q_cvi_180_28 : cvI tt 180 28 = some .i64 := by kernel_rfl
theorem q_cvi_180_117 : cvI tt 180 117 = some .u64 := by kernel_rfl
theorem q_cvi_180_169 : cvI tt 180 169 = some .u64 := by kernel_rfl
theorem q_cvi_180_180 : cvI tt 180 180 = some .u32 := by kernel_rfl
theorem q_cvi_180_193 : cvI tt 180 193 = some .u8 := by kernel_rfl
theorem q_cvi_180_194 : cvI tt 180 194 = some .u8 := by kernel_rfl
theorem q_cvi_180_197 : cvI tt 180 197 = some .i32 := by kernel_rfl
theorem q_cvi_180_198 : cvI tt 180 198 = some .i32 := by kernel_rfl
theorem q_tsz_181 : tsz tt 181 = some (65, true) := by kernel_rfl
theorem q_slz_181 : slz tt 181 = none := by kernel_rfl
theorem q_arz_181 : arz tt 181 = some (65, 5, 1) := by kernel_rfl
theorem q_str_181 : isStr tt 181 = false := by kernel_rfl
theorem q_ifc_181 : isIfc tt 181 = some false := by kernel_rfl
theorem q_zcs_181 : zcs tt 181 = some [.val (.int .u8 0), .val (.int .u8 0), .val (.int .u8 0), .val (.int .u8 0), .val (.int .u8 0), .val (.int .u8 0), .val (.int .u8 0), .val (.int .u8 0), .val (.int .u8 0), .val (.int .u8 0), .val (.int .u8 0), .val (.int .u8 0), .val (.int .u8 0), .val (.int .u8 0), .val (.int .u8 0), .val (.int .u8 0), .val (.int .u8 0), .val (.int .u8 0), .val (.int .u8 0), .val (.int .u8 0), .val (.int .u8 0), .val (.int .u8 0), .val (.int .u8 0), .val (.int .u8 0), .val (.int .u8 0), .val (.int .u8 0), .val (.int .u8 0), .val (.int .u8 0), .val (.int .u8 0), .val (.int .u8 0), .val (.int .u8 0), .val (.int .u8 0), .val (.int .u8 0), .val (.int .u8 0), .val (.int .u8 0), .val (.int .u8 0), .val (.int .u8 0), .val (.int .u8 0), .val (.int .u8 0), .val (.int .u8 0), .val (.int .u8 0), .val (.int .u8 0), .val (.int .u8 0), .val (.int .u8 0), .val (.int .u8 0), .val (.int .u8 0), .val (.int .u8 0), .val (.int .u8 0), .val (.int .u8 0), .val (.int .u8 0), .val (.int .u8 0), .val (.int .u8 0), .val (.int .u8 0), .val (.int .u8 0), .val (.int .u8 0), .val (.int .u8 0), .val (.int .u8 0), .val (.int .u8 0), .val (.int .u8 0), .val (.int .u8 0), .val (.int .u8 0), .val (.int .u8 0), .val (.int .u8 0), .val (.int .u8 0), .val (.int .u8 0)] := by kernel_rfl
theorem q_tsz_182 : tsz tt 182 = some (1, false) := by kernel_rfl
theorem q_slz_182 : slz tt 182 = none := by kernel_rfl
theorem q_ifc_182 : isIfc tt 182 = some false := by kernel_rfl
theorem q_zcs_182 : zcs tt 182 = some [.val .nilFunc] := by kernel_rfl
theorem q_tsz_183 : tsz tt 183 = some (1, false) := by kernel_rfl
theorem q_slz_183 : slz tt 183 = none := by kernel_rfl
theorem q_ifc_183 : isIfc tt 183 = some false := by kernel_rfl
theorem q_zcs_183 : zcs tt 183 = some [.val .nilFunc] := by kernel_rfl
theorem q_tsz_184 : tsz tt 184 = some (1, false) := by kernel_rfl
theorem q_slz_184 : slz tt 184 = none := by kernel_rfl
theorem q_ifc_184 : isIfc tt 184 = some false := by kernel_rfl
theorem q_zcs_184 : zcs tt 184 = some [.val .nilFunc] := by kernel_rfl
theorem q_tsz_185 : tsz tt 185 = some (1, false) := by kernel_rfl
theorem q_slz_185 : slz tt 185 = none := by kernel_rfl
theorem q_ifc_185 : isIfc tt 185 = some false := by kernel_rfl
theorem q_zcs_185 : zcs tt 185 = some [.val .nilFunc] := by kernel_rfl
theorem q_tsz_186 : tsz tt 186 = some (32, true) := by kernel_rfl
theorem q_slz_186 : slz tt 186 = none := by kernel_rfl
theorem q_arz_186 : arz tt 186 = some (32, 5, 1) := by kernel_rfl
theorem q_str_186 : isStr tt 186 = false := by kernel_rfl
theorem q_ifc_186 : isIfc tt 186 = some false := by kernel_rfl
theorem q_zcs_186 : zcs tt 186 = some [.val (.int .u8 0), .val (.int .u8 0), .val (.int .u8 0), .val (.int .u8 0), .val (.int .u8 0), .val (.int .u8 0), .val (.int .u8 0), .val (.int .u8 0), .val (.int .u8 0), .val (.int .u8 0), .val (.int .u8 0), .val (.int .u8 0), .val (.int .u8 0), .val (.int .u8 0), .val (.int .u8 0), .val (.int .u8 0), .val (.int .u8 0), .val (.int .u8 0), .val (.int .u8 0), .val (.int .u8 0), .val (.int .u8 0), .val (.int .u8 0), .val (.int .u8 0), .val (.int .u8 0), .val (.int .u8 0), .val (.int .u8 0), .val (.int .u8 0), .val (.int .u8 0), .val (.int .u8 0), .val (.int .u8 0), .val (.int .u8 0), .val (.int .u8 0)] := by kernel_rfl
theorem q_tsz_187 : tsz tt 187 = some (64, true) := by kernel_rfl
theorem q_slz_187 : slz tt 187 = none := by kernel_rfl
theorem q_arz_187 : arz tt 187 = some (64, 5, 1) := by kernel_rfl
theorem q_str_187 : isStr tt 187 = false := by kernel_rfl
theorem q_ifc_187 : isIfc tt 187 = some false := by kernel_rfl
theorem q_zcs_187 : zcs tt 187 = some [.val (.int .u8 0), .val (.int .u8 0), .val (.int .u8 0), .val (.int .u8 0), .val (.int .u8 0), .val (.int .u8 0), .val (.int .u8 0), .val (.int .u8 0), .val (.int .u8 0), .val (.int .u8 0), .val (.int .u8 0), .val (.int .u8 0), .val (.int .u8 0), .val (.int .u8 0), .val (.int .u8 0), .val (.int .u8 0), .val (.int .u8 0), .val (.int .u8 0), .val (.int .u8 0), .val (.int .u8 0), .val (.int .u8 0), .val (.int .u8 0), .val (.int .u8 0), .val (.int .u8 0), .val (.int .u8 0), .val (.int .u8 0), .val (.int .u8 0), .val (.int .u8 0), .val (.int .u8 0), .val (.int .u8 0), .val (.int .u8 0), .val (.int .u8 0), .val (.int .u8 0), .val (.int .u8 0), .val (.int .u8 0), .val (.int .u8 0), .val (.int .u8 0), .val (.int .u8 0), .val (.int .u8 0), .val (.int .u8 0), .val (.int .u8 0), .val (.int .u8 0), .val (.int .u8 0), .val (.int .u8 0), .val (.int .u8 0), .val (.int .u8 0), .val (.int .u8 0), .val (.int .u8 0), .val (.int .u8 0), .val (.int .u8 0), .val (.int .u8 0), .val (.int .u8 0), .val (.int .u8 0), .val (.int .u8 0), .val (.int .u8 0), .val (.int .u8 0), .val (.int .u8 0), .val (.int .u8 0), .val (.int .u8 0), .val (.int .u8 0), .val (.int .u8 0), .val (.int .u8 0), .val (.int .u8 0), .val (.int .u8 0)] := by kernel_rfl
theorem q_tsz_188 : tsz tt 188 = some (4, true) := by kernel_rfl
theorem q_slz_188 : slz tt 188 = none := by kernel_rfl
theorem q_ifc_188 : isIfc tt 188 = some false := by kernel_rfl
theorem q_zcs_188 : zcs tt 188 = some [.val (.pointer none), .val (.pointer none), .val (.pointer none), .val (.string ⟨#[]⟩)] := by kernel_rfl
theorem q_bld_188 : bld tt 188 = some ([(0, 1), (1, 1), (2, 1), (3, 1)], [.val (.pointer none), .val (.pointer none), .val (.pointer none), .val (.string ⟨#[]⟩)]) := by kernel_rfl
theorem q_fld_188_0 : fieldOf tt 188 0 = some (0, 17) := by kernel_rfl
theorem q_fld_188_1 : fieldOf tt 188 1 = some (1, 17) := by kernel_rfl
theorem q_fld_188_2 : fieldOf tt 188 2 = some (2, 17) := by kernel_rfl
theorem q_fld_188_3 : fieldOf tt 188 3 = some (3, 9) := by kernel_rfl
theorem q_tsz_189 : tsz tt 189 = some (4, true) := by kernel_rfl
theorem q_slz_189 : slz tt 189 = none := by kernel_rfl
theorem q_ifc_189 : isIfc tt 189 = some false := by kernel_rfl
theorem q_zcs_189 : zcs tt 189 = some [.val (.pointer none), .val (.pointer none), .val (.pointer none), .val (.string ⟨#[]⟩)] := by kernel_rfl
theorem q_bld_189 : bld tt 189 = some ([(0, 1), (1, 1), (2, 1), (3, 1)], [.val (.pointer none), .val (.pointer none), .val (.pointer none), .val (.string ⟨#[]⟩)]) := by kernel_rfl
theorem q_fld_189_0 : fieldOf tt 189 0 = some (0, 17) := by kernel_rfl
theorem q_fld_189_1 : fieldOf tt 189 1 = some (1, 17) := by kernel_rfl
theorem q_fld_189_2 : fieldOf tt 189 2 = some (2, 17) := by kernel_rfl
theorem q_fld_189_3 : fieldOf tt 189 3 = some (3, 9) := by kernel_rfl
theorem q_tsz_190 : tsz tt 190 = some (0, true) := by kernel_rfl
theorem q_slz_190 : slz tt 190 = none := by kernel_rfl
theorem q_arz_190 : arz tt 190 = some (0, 16, 1) := by kernel_rfl
theorem q_str_190 : isStr tt 190 = false := by kernel_rfl
theorem q_ifc_190 : isIfc tt 190 = some false := by kernel_rfl
theorem q_zcs_190 : zcs tt 190 = some [] := by kernel_rfl
theorem q_tsz_191 : tsz tt 191 = some (0, true) := by kernel_rfl
theorem q_slz_191 : slz tt 191 = none := by kernel_rfl
theorem q_ifc_191 : isIfc tt 191 = some false := by kernel_rfl
theorem q_zcs_191 : zcs tt 191 = some [] := by kernel_rfl
theorem q_bld_191 : bld tt 191 = some ([(0, 0)], []) := by kernel_rfl
theorem q_tsz_192 : tsz tt 192 = some (0, true) := by kernel_rfl
theorem q_slz_192 : slz tt 192 = none := by kernel_rfl
theorem q_ifc_192 : isIfc tt 192 = some false := by kernel_rfl
theorem q_zcs_192 : zcs tt 192 = some [] := by kernel_rfl
theorem q_bld_192 : bld tt 192 = some ([(0, 0)], []) := by kernel_rfl
theorem q_tsz_193 : tsz tt 193 = some (1, false) := by kernel_rfl
theorem q_slz_193 : slz tt 193 = none := by kernel_rfl
theorem q_ifc_193 : isIfc tt 193 = some false := by kernel_rfl
theorem q_zcs_193 : zcs tt 193 = some [.val (.int .u8 0)] := by kernel_rfl
theorem q_cvi_193_2 : cvI tt 193 2 = some .i64 := by kernel_rfl
theorem q_cvi_193_3 : cvI tt 193 3 = some .i64 := by kernel_rfl
theorem q_cvi_193_5 : cvI tt 193 5 = some .u8 := by kernel_rfl
theorem q_cvi_193_6 : cvI tt 193 6 = some .u8 := by kernel_rfl
theorem q_cvi_193_12 : cvI tt 193 12 = some .u64 := by kernel_rfl
theorem q_cvi_193_21 : cvI tt 193 21 = some .i32 := by kernel_rfl
theorem q_cvi_193_28 : cvI tt 193 28 = some .i64 := by kernel_rfl
theorem q_cvi_193_117 : cvI tt 193 117 = some .u64 := by kernel_rfl
theorem q_cvi_193_169 : cvI tt 193 169 = some .u64 := by kernel_rfl
theorem q_cvi_193_180 : cvI tt 193 180 = some .u32 := by kernel_rfl
theorem q_cvi_193_193 : cvI tt 193 193 = some .u8 := by kernel_rfl
theorem q_cvi_193_194 : cvI tt 193 194 = some .u8 := by kernel_rfl
theorem q_cvi_193_197 : cvI tt 193 197 = some .i32 := by kernel_rfl
theorem q_cvi_193_198 : cvI tt 193 198 = some .i32 := by kernel_rfl
theorem q_tsz_194 : tsz tt 194 = some (1, false) := by kernel_rfl
theorem q_slz_194 : slz tt 194 = none := by kernel_rfl
theorem q_ifc_194 : isIfc tt 194 = some false := by kernel_rfl
theorem q_zcs_194 : zcs tt 194 = some [.val (.int .u8 0)] := by kernel_rfl
theorem q_cvi_194_2 : cvI tt 194 2 = some .i64 := by kernel_rfl
theorem q_cvi_194_3 : cvI tt 194 3 = some .i64 := by kernel_rfl
theorem q_cvi_194_5 : cvI tt 194 5 = some .u8 := by kernel_rfl
theorem q_cvi_194_6 : cvI tt 194 6 = some .u8 := by kernel_rfl
theorem q_cvi_194_12 : cvI tt 194 12 = some .u64 := by kernel_rfl
theorem q_cvi_194_21 : cvI tt 194 21 = some .i32 := by kernel_rfl
theorem q_cvi_194_28 : cvI tt 194 28 = some .i64 := by kernel_rfl
theorem q_cvi_194_117 : cvI tt 194 117 = some .u64 := by kernel_rfl
theorem q_cvi_194_169 : cvI tt 194 169 = some .u64 := by kernel_rfl
theorem q_cvi_194_180 : cvI tt 194 180 = some .u32 := by kernel_rfl
theorem q_cvi_194_193 : cvI tt 194 193 = some .u8 := by kernel_rfl
theorem q_cvi_194_194 : cvI tt 194 194 = some .u8 := by kernel_rfl
theorem q_cvi_194_197 : cvI tt 194 197 = some .i32 := by kernel_rfl
theorem q_cvi_194_198 : cvI tt 194 198 = some .i32 := by kernel_rfl
theorem q_tsz_195 : tsz tt 195 = some (1, false) := by kernel_rfl
theorem q_slz_195 : slz tt 195 = none := by kernel_rfl
theorem q_ifc_195 : isIfc tt 195 = some false := by kernel_rfl
theorem q_zcs_195 : zcs tt 195 = some [.val .nilFunc] := by kernel_rfl
theorem q_tsz_196 : tsz tt 196 = some (1, false) := by kernel_rfl
theorem q_slz_196 : slz tt 196 = none := by kernel_rfl
theorem q_ifc_196 : isIfc tt 196 = some false := by kernel_rfl
theorem q_zcs_196 : zcs tt 196 = some [.val (.pointer none)] := by kernel_rfl
theorem q_tsz_197 : tsz tt 197 = some (1, false) := by kernel_rfl
theorem q_slz_197 : slz tt 197 = none := by kernel_rfl
theorem q_ifc_197 : isIfc tt 197 = some false := by kernel_rfl
theorem q_zcs_197 : zcs tt 197 = some [.val (.int .i32 0)] := by kernel_rfl
theorem q_cvi_197_2 : cvI tt 197 2 = some .i64 := by kernel_rfl
theorem q_cvi_197_3 : cvI tt 197 3 = some .i64 := by kernel_rfl
theorem q_cvi_197_5 : cvI tt 197 5 = some .u8 := by kernel_rfl
theorem q_cvi_197_6 : cvI tt 197 6 = some .u8 := by kernel_rfl
theorem q_cvi_197_12 : cvI tt 197 12 = some .u64 := by kernel_rfl
theorem q_cvi_197_21 : cvI tt 197 21 = some .i32 := by kernel_rfl
theorem q_cvi_197_28 : cvI tt 197 28 = some .i64 := by kernel_rfl
theorem q_cvi_197_117 : cvI tt 197 117 = some .u64 := by kernel_rfl
theorem q_cvi_197_169 : cvI tt 197 169 = some .u64 := by kernel_rfl
theorem q_cvi_197_180 : cvI tt 197 180 = some .u32 := by kernel_rfl
theorem q_cvi_197_193 : cvI tt 197 193 = some .u8 := by kernel_rfl
theorem q_cvi_197_194 : cvI tt 197 194 = some .u8 := by kernel_rfl
theorem q_cvi_197_197 : cvI tt 197 197 = some .i32 := by kernel_rfl
theorem q_cvi_197_198 : cvI tt 197 198 = some .i32 := by kernel_rfl
theorem q_tsz_198 : tsz tt 198 = some (1, false) := by kernel_rfl
theorem q_slz_198 : slz tt 198 = none := by kernel_rfl
theorem q_ifc_198 : isIfc tt 198 = some false := by kernel_rfl
theorem q_zcs_198 : zcs tt 198 = some [.val (.int .i32 0)] := by kernel_rfl
theorem q_cvi_198_2 : cvI tt 198 2 = some .i64 := by kernel_rfl
theorem q_cvi_198_3 : cvI tt 198 3 = some .i64 := by kernel_rfl
theorem q_cvi_198_5 : cvI tt 198 5 = some .u8 := by kernel_rfl
theorem q_cvi_198_6 : cvI tt 198 6 = some .u8 := by kernel_rfl
theorem q_cvi_198_12 : cvI tt 198 12 = some .u64 := by kernel_rfl
theorem q_cvi_198_21 : cvI tt 198 21 = some .i32 := by kernel_rfl
theorem q_cvi_198_28 : cvI tt 198 28 = some .i64 := by kernel_rfl
theorem q_cvi_198_117 : cvI tt 198 117 = some .u64 := by kernel_rfl
theorem q_cvi_198_169 : cvI tt 198 169 = some .u64 := by kernel_rfl
theorem q_cvi_198_180 : cvI tt 198 180 = some .u32 := by kernel_rfl
theorem q_cvi_198_193 : cvI tt 198 193 = some .u8 := by kernel_rfl
theorem q_cvi_198_194 : cvI tt 198 194 = some .u8 := by kernel_rfl
theorem q_cvi_198_197 : cvI tt 198 197 = some .i32 := by kernel_rfl
theorem q_cvi_198_198 : cvI tt 198 198 = some .i32 := by kernel_rfl
theorem q_tsz_199 : tsz tt 199 = some (11, true) := by kernel_rfl
theorem q_slz_199 : slz tt 199 = none := by kernel_rfl
theorem q_ifc_199 : isIfc tt 199 = some false := by kernel_rfl
theorem q_zcs_199 : zcs tt 199 = some [.val (.int .u64 0), .val (.int .u64 0), .val (.int .u32 0), .val (.int .u8 0), .val (.int .u8 0), .val (.int .u8 0), .val (.int .u8 0), .val .nilFunc, .val (.pointer none), .val (.int .i32 0), .val (.int .i32 0)] := by kernel_rfl
theorem q_bld_199 : bld tt 199 = some ([(0, 1), (1, 1), (2, 1), (3, 1), (4, 1), (5, 1), (6, 1), (7, 1), (8, 1), (9, 1), (10, 1)], [.val (.int .u64 0), .val (.int .u64 0), .val (.int .u32 0), .val (.int .u8 0), .val (.int .u8 0), .val (.int .u8 0), .val (.int .u8 0), .val .nilFunc, .val (.pointer none), .val (.int .i32 0), .val (.int .i32 0)]) := by kernel_rfl
theorem q_fld_199_0 : fieldOf tt 199 0 = some (0, 12) := by kernel_rfl
theorem q_fld_199_1 : fieldOf tt 199 1 = some (1, 12) := by kernel_rfl
theorem q_fld_199_2 : fieldOf tt 199 2 = some (2, 180) := by kernel_rfl
theorem q_fld_199_3 : fieldOf tt 199 3 = some (3, 193) := by kernel_rfl
theorem q_fld_199_4 : fieldOf tt 199 4 = some (4, 5) := by kernel_rfl
theorem q_fld_199_5 : fieldOf tt 199 5 = some (5, 5) := by kernel_rfl
theorem q_fld_199_6 : fieldOf tt 199 6 = some (6, 194) := by kernel_rfl
theorem q_fld_199_7 : fieldOf tt 199 7 = some (7, 195) := by kernel_rfl
theorem q_fld_199_8 : fieldOf tt 199 8 = some (8, 196) := by kernel_rfl
theorem q_fld_199_9 : fieldOf tt 199 9 = some (9, 197) := by kernel_rfl
theorem q_fld_199_10 : fieldOf tt 199 10 = some (10, 198) := by kernel_rfl
theorem q_tsz_200 : tsz tt 200 = some (11, true) := by kernel_rfl
theorem q_slz_200 : slz tt 200 = none := by kernel_rfl
theorem q_ifc_200 : isIfc tt 200 = some false := by kernel_rfl
theorem q_zcs_200 : zcs tt 200 = some [.val (.int .u64 0), .val (.int .u64 0), .val (.int .u32 0), .val (.int .u8 0), .val (.int .u8 0), .val (.int .u8 0), .val (.int .u8 0), .val .nilFunc, .val (.pointer none), .val (.int .i32 0), .val (.int .i32 0)] := by kernel_rfl
theorem q_bld_200 : bld tt 200 = some ([(0, 1), (1, 1), (2, 1), (3, 1), (4, 1), (5, 1), (6, 1), (7, 1), (8, 1), (9, 1), (10, 1)], [.val (.int .u64 0), .val (.int .u64 0), .val (.int .u32 0), .val (.int .u8 0), .val (.int .u8 0), .val (.int .u8 0), .val (.int .u8 0), .val .nilFunc, .val (.pointer none), .val (.int .i32 0), .val (.int .i32 0)]) := by kernel_rfl
theorem q_fld_200_0 : fieldOf tt 200 0 = some (0, 12) := by kernel_rfl
theorem q_fld_200_1 : fieldOf tt 200 1 = some (1, 12) := by kernel_rfl
theorem q_fld_200_2 : fieldOf tt 200 2 = some (2, 180) := by kernel_rfl
theorem q_fld_200_3 : fieldOf tt 200 3 = some (3, 193) := by kernel_rfl
theorem q_fld_200_4 : fieldOf tt 200 4 = some (4, 5) := by kernel_rfl
theorem q_fld_200_5 : fieldOf tt 200 5 = some (5, 5) := by kernel_rfl
theorem q_fld_200_6 : fieldOf tt 200 6 = some (6, 194) := by kernel_rfl
theorem q_fld_200_7 : fieldOf tt 200 7 = some (7, 195) := by kernel_rfl
theorem q_fld_200_8 : fieldOf tt 200 8 = some (8, 196) := by kernel_rfl
theorem q_fld_200_9 : fieldOf tt 200 9 = some (9, 197) := by kernel_rfl
theorem q_fld_200_10 : fieldOf tt 200 10 = some (10, 198) := by kernel_rfl
theorem q_slz_201 : slz tt 201 = none := by kernel_rfl
end Go.Pv.D
-- PvSet
namespace Go.Pv
/-- All that a walk rewrites by. -/
def pvAll := (And.intro (And.intro (And.intro (And.intro (And.intro (And.intro (And.intro (And.intro @kthen_norm @kthen_exit) (And.intro @kthen_ret (And.intro @kthen_panic @kblock_norm))) (And.intro (And.intro @kblock_exit @kblock_ret) (And.intro @kblock_panic (And.intro @kround_norm @kround_exit)))) (And.intro (And.intro (And.intro @kround_ret @kround_panic) (And.intro @knorm_q (And.intro @kpan_q @put_none))) (And.intro (And.intro @w_skip @w_reg) (And.intro @w_draw (And.intro @pdraw_q @w_seq))))) (And.intro (And.intro (And.intro (And.intro @w_block @w_exit) (And.intro @w_ret (And.intro @w_ops_nil @w_ops))) (And.intro (And.intro @kops_q @kseq_norm) (And.intro @kseq_exit (And.intro @kseq_ret @kseq_panic)))) (And.intro (And.intro (And.intro @kdops_q @w_dops_nil) (And.intro @kopt_some (And.intro @pcut_q @pcutQ_agg))) (And.intro (And.intro @pcutQ_one @nilQ_q) (And.intro @pia_q (And.intro @piaQ_list @piaQ_val)))))) (And.intro (And.intro (And.intro (And.intro (And.intro @piaQ_arr @pelt_some) (And.intro @pix_q (And.intro @pixQ_str @pixQ_arr))) (And.intro (And.intro @pslS_q @pslL_q) (And.intro @pslS2_q (And.intro @pslL2_q @pbound_none)))) (And.intro (And.intro (And.intro @pbound_some @pbnQ_q) (And.intro @pfill_nil (And.intro @pfill_cons @pfl1_q))) (And.intro (And.intro @pset_q @pbv1_q) (And.intro @pfillE_nil (And.intro @pfillE_cons @pfe1_q))))) (And.intro (And.intro (And.intro (And.intro @pfaQ_q @pfa_l) (And.intro @pfa_e (And.intro @pfa_v @pfd_q))) (And.intro (And.intro @pfdQ_q @paddr_l) (And.intro @paddr_e (And.intro @paddr_v @pobQ_q)))) (And.intro (And.intro (And.intro @pldQ_q @psto_l) (And.intro @psto_v (And.intro @psto1_q @psto2_q))) (And.intro (And.intro @pst_q @pstQ_q) (And.intro @palQ_q (And.intro @pal_q @pbox_q))))))) (And.intro (And.intro (And.intro (And.intro (And.intro (And.intro @pnew_q @pnewQ_t) (And.intro @pnewQ_f (And.intro @noL_nil @noL_cons))) (And.intro (And.intro @noL1_v @noL1_l) (And.intro @noL1_e (And.intro @noL1_a @noL1_t)))) (And.intro (And.intro (And.intro @noL1_i @noL1_u) (And.intro @noL1_w (And.intro @noL1_p @papQ_q))) (And.intro (And.intro @st_move @st_assign) (And.intro @st_pick (And.intro @st_nil @st_bin))))) (And.intro (And.intro (And.intro (And.intro @st_un @st_conv) (And.intro @st_iface (And.intro @st_func @pfn_q))) (And.intro (And.intro @st_slice @st_fa) (And.intro @st_fd (And.intro @st_ia @st_ix)))) (And.intro (And.intro (And.intro @st_ld @st_lk) (And.intro @st_as (And.intro @st_ex @st_bld))) (And.intro (And.intro @st_len @st_max) (And.intro @st_min (And.intro @st_store @st_alloc)))))) (And.intro (And.intro (And.intro (And.intro (And.intro @st_box @st_bs) (And.intro @st_map (And.intro @st_mu @st_ins))) (And.intro (And.intro @st_call @st_app) (And.intro @ppan_q (And.intro @st_panic @st_bpanic)))) (And.intro (And.intro (And.intro @pcall_q @pargs_nil) (And.intro @pargs_cons (And.intro @pparts_nil @pparts_cons))) (And.intro (And.intro @resK_ret @resK_panic) (And.intro @evn_tmp (And.intro @evn_func @evn_int))))) (And.intro (And.intro (And.intro (And.intro @evn_bool @evn_str) (And.intro @evn_ptr (And.intro @evn_nil @evn_map))) (And.intro (And.intro @evn_nfn @evn_agg) (And.intro @evn_g (And.intro @eval_tmp @eval_func)))) (And.intro (And.intro (And.intro @eval_int @eval_bool) (And.intro @eval_str (And.intro @eval_nil @eval_map))) (And.intro (And.intro @eval_agg @eval_g) (And.intro @pgl_q (And.intro @get_cons @getL_cons)))))))) (And.intro (And.intro (And.intro (And.intro (And.intro (And.intro (And.intro @kbool_q @w_cnd) (And.intro @kcond_t (And.intro @kcond_f @krun_q))) (And.intro (And.intro @kskp_q @kdskp_q) (And.intro @kgd_tt (And.intro @kgd_tf @kgd_ft)))) (And.intro (And.intro (And.intro @kgd_ff @kgd_u) (And.intro @kgs_q (And.intro @gsl_q @odst_q))) (And.intro (And.intro @w_opg @w_do) (And.intro @kdo_n (And.intro @kdo_g @nth_0))))) (And.intro (And.intro (And.intro (And.intro @nth_s @ifS_s) (And.intro @ifB_t (And.intro @pln_l @pln_v))) (And.intro (And.intro @pln_s @psl_s) (And.intro @psl_l (And.intro @pel_l @pel_s)))) (And.intro (And.intro (And.intro @pap_q @pif_q) (And.intro @pifQ_q (And.intro @pas_q @pasQ_q))) (And.intro (And.intro @pcv_i @pcvI_q) (And.intro @pcv_s (And.intro @pbd_q @pbdF_q)))))) (And.intro (And.intro (And.intro (And.intro (And.intro @pbv_n @pbvF_q) (And.intro @fillS_nil (And.intro @fillS_cons @fsc_q))) (And.intro (And.intro @pbvM_s @pbvM_n) (And.intro @pb_add (And.intro @pb_sub @pb_mul)))) (And.intro (And.intro (And.intro @pb_quo @pb_rem) (And.intro @pb_eql (And.intro @pb_neq @pb_lss))) (And.intro (And.intro @pb_leq @pb_gtr) (And.intro @pb_geq (And.intro @pb_str @ps_add))))) (And.intro (And.intro (And.intro (And.intro @ps_eql @ps_neq) (And.intro @pb_beq (And.intro @pb_bne @pu_not))) (And.intro (And.intro @pu_neg @pmax_q) (And.intro @pmin_q (And.intro @ppick_t @ppick_f)))) (And.intro (And.intro (And.intro @ppick_b @pnil_l) (And.intro @pnil_e (And.intro @pnil_v @pnil_f))) (And.intro (And.intro @pextract_q @pvals_nil) (And.intro @pvals_cons (And.intro @cellsOf_agg @cellsOf_list))))))) (And.intro (And.intro (And.intro (And.intro (And.intro (And.intro @cellsOf_eptr @cellsOf_iface) (And.intro @cellsOf_int (And.intro @cellsOf_bool @cellsOf_str))) (And.intro (And.intro @cellsOf_ptr @cellsOf_sl) (And.intro @cellsOf_map (And.intro @cellsOf_func @cellsOf_nfn)))) (And.intro (And.intro (And.intro @stor_int @stor_bool) (And.intro @stor_str (And.intro @stor_ptr @stor_sl))) (And.intro (And.intro @stor_map @stor_func) (And.intro @stor_nfn (And.intro @stor_list @stor_eptr))))) (And.intro (And.intro (And.intro (And.intro @stor_iface @forget_val) (And.intro @forget_list (And.intro @forget_eptr @forget_agg))) (And.intro (And.intro @forget_iface @notL_v) (And.intro @notL_l (And.intro @notL_e @notL_a)))) (And.intro (And.intro (And.intro @notL_i @notL_t) (And.intro @presults_nil (And.intro @presults_cons @prs1_q))) (And.intro (And.intro @presult_t @prt_q) (And.intro @kbody_n (And.intro @kbody_r @kbody_p)))))) (And.intro (And.intro (And.intro (And.intro (And.intro @kbodyR_q @pone_1) (And.intro @pone_0 (And.intro @pone_2 @σset_obj))) (And.intro (And.intro @σset_own @σset_gl) (And.intro @penv_nil (And.intro @penv_cons @ordOf_nil)))) (And.intro (And.intro (And.intro @ordOf_cons @omap_some) (And.intro @geq_0 (And.intro @geq_s @rechecks_nil))) (And.intro (And.intro @rechecks_cons @kT_q) (And.intro @kR_q (And.intro @recheck_q @rckQ_n))))) (And.intro (And.intro (And.intro (And.intro @rckQ_g @pread_ld) (And.intro @pread_len (And.intro @pread_lk @norm_q))) (And.intro (And.intro @put_q @putQ_t) (And.intro @presult_c (And.intro @pb_shl @papp_n)))) (And.intro (And.intro (And.intro @papp_s @pappB_t) (And.intro @pappB_f (And.intro @pav_q @pcv_l))) (And.intro (And.intro @bsQ_q (And.intro @u8s_nil @u8s_cons)) (And.intro @psl_e (And.intro @pslA_q @arq_s)))))))))
/-- With some lemmas of the library. -/
def pvB := And.intro pvAll (And.intro (And.intro (And.intro (And.intro (And.intro @true_and @and_true) (And.intro @and_self @List.length_cons.{0})) (And.intro (And.intro @List.length_nil.{0} @List.all_cons.{0}) (And.intro @List.all_nil.{0} (And.intro @Bool.and_true @Bool.true_and)))) (And.intro (And.intro (And.intro @List.take_succ_cons.{0} @List.take_zero.{0}) (And.intro @List.drop_succ_cons.{0} @List.drop_zero.{0})) (And.intro (And.intro @List.cons_append.{0} @List.nil_append.{0}) (And.intro @List.append_nil.{0} (And.intro @List.take_nil.{0} @List.drop_nil.{0}))))) (And.intro (And.intro (And.intro (And.intro @bne_self_eq_false.{0} @List.contains_nil.{0}) (And.intro @List.contains_cons.{0} @Bool.or_false)) (And.intro (And.intro @Bool.false_or @Bool.or_true) (And.intro @Bool.true_or (And.intro @Bool.false_and @Bool.and_false)))) (And.intro (And.intro (And.intro @BEq.rfl.{0} @beq_self_eq_true.{0}) (And.intro @List.map_nil.{0,0} (And.intro @List.map_cons.{0,0} @List.length_map.{0,0}))) (And.intro (And.intro @List.length_append.{0} @List.replicate_succ.{0}) (And.intro @List.replicate_zero.{0} (And.intro @List.set_cons_zero.{0} @List.set_cons_succ.{0}))))))
end Go.Pv
-- Ast
namespace Go.Pv
open Go Go.RowKit
abbrev vi (n : Int) : PV := .val (.int .i64 n)
abbrev vs (z : ByteArray) : PV := .val (.string z)
abbrev vb' (b : Bool) : PV := .val (.bool b)
abbrev vp (b o : Nat) : PV := .val (.pointer (some ⟨b, o, none⟩))
theorem wrap_ok (x : Int) (h1 : -9223372036854775808 ≤ x) (h2 : x ≤ 9223372036854775807) : IntKind.i64.wrap x = x := IntWalk.i64_in x ⟨h1, h2⟩
theorem wrap_u (x : Int) (h1 : 0 ≤ x) (h2 : x ≤ 18446744073709551615) : IntKind.u64.wrap x = x := IntWalk.u64_in x ⟨h1, h2⟩
/-- An expression, a statement. -/
inductive AE where
  | mk (kind num : Int) (name : ByteArray) (op : Int) (args : List AE)
inductive AS where
  | mk (kind : Int) (name : ByteArray) (index value : List AE) (max label : Int) (then_ else_ : List AS)
mutual
def pvE : AE → PV
  | .mk kind num name op args => .agg [vi kind, vi num, vs name, vi op, .list .any 5 (pvEs args)]
def pvEs : List AE → List PV
  | [] => []
  | e :: l => pvE e :: pvEs l
end
mutual
def pvS : AS → PV
  | .mk kind name index value max label t e => .agg [vi kind, vs name, .list .any 5 (pvEs index), .list .any 5 (pvEs value), vi max, vi label, .list .any 8 (pvSs t), .list .any 8 (pvSs e)]
def pvSs : List AS → List PV
  | [] => []
  | e :: l => pvS e :: pvSs l
end
theorem pvEs_map (l : List AE) : pvEs l = l.map pvE := by induction l <;> simp_all [pvEs]
theorem pvSs_map (l : List AS) : pvSs l = l.map pvS := by induction l <;> simp_all [pvSs]
theorem pvEs_length (l : List AE) : (pvEs l).length = l.length := by simp [pvEs_map]
theorem pvSs_length (l : List AS) : (pvSs l).length = l.length := by simp [pvSs_map]
theorem pvEs_get (l : List AE) (i : Nat) : (pvEs l)[i]? = (l[i]?).map pvE := by simp [pvEs_map]
theorem pvSs_get (l : List AS) (i : Nat) : (pvSs l)[i]? = (l[i]?).map pvS := by simp [pvSs_map]
theorem pvE_q (k n : Int) (s : ByteArray) (o : Int) (l : List AE) : pvE (.mk k n s o l) = .agg [vi k, vi n, vs s, vi o, .list .any 5 (pvEs l)] := by simp only [pvE]
mutual
def dE : AE → Nat
  | .mk _ _ _ _ args => 1 + dEs args
def dEs : List AE → Nat
  | [] => 0
  | e :: l => max (dE e) (dEs l)
end
mutual
def wE : AE → Int
  | .mk _ _ _ _ args => 1 + wEs args
def wEs : List AE → Int
  | [] => 0
  | e :: l => wE e + wEs l
end
theorem dEs_mem {l : List AE} {e : AE} (h : e ∈ l) : dE e ≤ dEs l := by
  induction l with
  | nil => cases h
  | cons x l ih =>
    simp only [dEs]
    cases h with
    | head => exact Nat.le_max_left _ _
    | tail _ h => exact Nat.le_trans (ih h) (Nat.le_max_right _ _)
theorem wEs_append (a b : List AE) : wEs (a ++ b) = wEs a + wEs b := by
  induction a with
  | nil => simp [wEs]
  | cons x a ih => simp only [List.cons_append, wEs, ih]; omega
mutual
theorem wE_pos : ∀ e : AE, 0 < wE e
  | .mk _ _ _ _ args => by have := wEs_nonneg args; simp only [wE]; omega
theorem wEs_nonneg : ∀ l : List AE, 0 ≤ wEs l
  | [] => by simp [wEs]
  | e :: l => by have := wE_pos e; have := wEs_nonneg l; simp only [wEs]; omega
end
def ival : PV → Int
  | .val (.int _ i) => i
  | _ => 0
/-- The greatest weight. -/
abbrev MW : Int := 1099511627776
def cap (n : Int) : Int := if MW < n then MW else n
theorem w_loop {P : Program} {tt : TT} {esc : List Nat} {ord : Ords} {K : Kt} (x : Code) (s : Cf) : pwp P tt esc ord (.loop x) s K = ∃ n, ploop (pwp P tt esc ord x) n s K := (rfl)
theorem cap_range {n : Int} (h : 0 ≤ n) : 0 ≤ cap n ∧ cap n ≤ 1099511627776 := by unfold cap MW; split <;> omega
theorem cap_add {a b : Int} (h1 : 0 ≤ a) (h2 : 0 ≤ b) : cap (cap a + cap b) = cap (a + b) := by unfold cap MW; repeat' split <;> omega
theorem cap_add_l {a b : Int} (h1 : 0 ≤ a) (h2 : 0 ≤ b) : cap (cap a + b) = cap (a + b) := by unfold cap MW; repeat' split <;> omega
theorem wEs_len : ∀ l : List AE, (l.length : Int) ≤ wEs l
  | [] => by simp [wEs]
  | e :: l => by have := wE_pos e; have := wEs_len l; simp only [wEs, List.length_cons]; omega
theorem wEs_mem {l : List AE} {e : AE} (h : e ∈ l) : wE e ≤ wEs l := by
  induction l with
  | nil => cases h
  | cons x l ih =>
    simp only [wEs]
    have h1 := wE_pos x
    have h2 := wEs_nonneg l
    cases h with
    | head => omega
    | tail _ h => have := ih h; omega
theorem wEs_take {l : List AE} {i : Nat} (h : i < l.length) : wEs (l.take (i + 1)) = wEs (l.take i) + wE l[i] := by
  rw [List.take_succ_eq_append_getElem h, wEs_append]
  simp [wEs]
/- Statements: how deep they are, how deep their expressions are, how many parts they have, what they weigh. -/
mutual
def dS : AS → Nat
  | .mk _ _ _ _ _ _ t e => 1 + max (dSs t) (dSs e)
def dSs : List AS → Nat
  | [] => 0
  | s :: l => max (dS s) (dSs l)
end
mutual
def xS : AS → Nat
  | .mk _ _ i v _ _ t e => max (max (dEs i) (dEs v)) (max (xSs t) (xSs e))
def xSs : List AS → Nat
  | [] => 0
  | s :: l => max (xS s) (xSs l)
end
mutual
def zS : AS → Int
  | .mk _ _ i v _ _ t e => 1 + wEs i + wEs v + zSs t + zSs e
def zSs : List AS → Int
  | [] => 0
  | s :: l => zS s + zSs l
end
def times (m : Int) : Int := max 0 (min m 33) + 1
mutual
def wS : AS → Int
  | .mk k _ i v m _ t e => if k = 1 ∨ k = 2 then 1 + wEs i + wEs v else if k = 3 then 2 + wEs v + wSs t + wSs e else if k = 4 then 2 + times m * (2 + wEs v + wSs t) else if k = 5 then 2 + wSs t else 0
def wSs : List AS → Int
  | [] => 0
  | s :: l => wS s + wSs l
end
theorem times_range (m : Int) : 1 ≤ times m ∧ times m ≤ 34 := by unfold times; omega
theorem dSs_mem {l : List AS} {e : AS} (h : e ∈ l) : dS e ≤ dSs l := by
  induction l with
  | nil => cases h
  | cons x l ih =>
    simp only [dSs]
    cases h with
    | head => exact Nat.le_max_left _ _
    | tail _ h => exact Nat.le_trans (ih h) (Nat.le_max_right _ _)
theorem xSs_mem {l : List AS} {e : AS} (h : e ∈ l) : xS e ≤ xSs l := by
  induction l with
  | nil => cases h
  | cons x l ih =>
    simp only [xSs]
    cases h with
    | head => exact Nat.le_max_left _ _
    | tail _ h => exact Nat.le_trans (ih h) (Nat.le_max_right _ _)
mutual
theorem zS_pos : ∀ s : AS, 0 < zS s
  | .mk _ _ i v _ _ t e => by have := wEs_nonneg i; have := wEs_nonneg v; have := zSs_nonneg t; have := zSs_nonneg e; simp only [zS]; omega
theorem zSs_nonneg : ∀ l : List AS, 0 ≤ zSs l
  | [] => by simp [zSs]
  | s :: l => by have := zS_pos s; have := zSs_nonneg l; simp only [zSs]; omega
end
mutual
theorem wS_nonneg : ∀ s : AS, 0 ≤ wS s
  | .mk k _ i v m _ t e => by
    have h1 := wEs_nonneg i
    have h2 := wEs_nonneg v
    have h3 := wSs_nonneg t
    have h4 := wSs_nonneg e
    have h5 := times_range m
    have h6 : 0 ≤ times m * (2 + wEs v + wSs t) := Int.mul_nonneg (by omega) (by omega)
    simp only [wS]
    repeat' split <;> omega
theorem wSs_nonneg : ∀ l : List AS, 0 ≤ wSs l
  | [] => by simp [wSs]
  | s :: l => by have := wS_nonneg s; have := wSs_nonneg l; simp only [wSs]; omega
end
theorem zSs_len : ∀ l : List AS, (l.length : Int) ≤ zSs l
  | [] => by simp [zSs]
  | e :: l => by have := zS_pos e; have := zSs_len l; simp only [zSs, List.length_cons]; omega
theorem zSs_mem {l : List AS} {e : AS} (h : e ∈ l) : zS e ≤ zSs l := by
  induction l with
  | nil => cases h
  | cons x l ih =>
    simp only [zSs]
    have h1 := zS_pos x
    have h2 := zSs_nonneg l
    cases h with
    | head => omega
    | tail _ h => have := ih h; omega
theorem wSs_append (a b : List AS) : wSs (a ++ b) = wSs a + wSs b := by
  induction a with
  | nil => simp [wSs]
  | cons x a ih => simp only [List.cons_append, wSs, ih]; omega
theorem wSs_take {l : List AS} {i : Nat} (h : i < l.length) : wSs (l.take (i + 1)) = wSs (l.take i) + wS l[i] := by
  rw [List.take_succ_eq_append_getElem h, wSs_append]
  simp [wSs]
theorem pvS_q (k : Int) (n : ByteArray) (i v : List AE) (m lb : Int) (t e : List AS) : pvS (.mk k n i v m lb t e) = .agg [vi k, vs n, .list .any 5 (pvEs i), .list .any 5 (pvEs v), vi m, vi lb, .list .any 8 (pvSs t), .list .any 8 (pvSs e)] := by simp only [pvS]
theorem cap_small {n : Int} (h : n ≤ 1099511627776) : cap n = n := by unfold cap MW; split <;> omega
theorem cap_add_c {a b : Int} (h1 : 0 ≤ a) (h2 : 0 ≤ b) : cap (a + cap b) = cap (a + b) := by unfold cap MW; repeat' split <;> omega
theorem cap_mul {k x : Int} (hk : 1 ≤ k) (hx : 0 ≤ x) : cap (2 + k * cap x) = cap (2 + k * x) := by
  unfold cap MW
  by_cases h : 1099511627776 < x
  · rw [if_pos h]
    have h1 : 1 * 1099511627776 ≤ k * 1099511627776 := Int.mul_le_mul_of_nonneg_right hk (by omega)
    have h2 : 1 * x ≤ k * x := Int.mul_le_mul_of_nonneg_right hk hx
    rw [if_pos (by omega), if_pos (by omega)]
  · rw [if_neg h]
end Go.Pv
-- PvOwn
namespace Go.Pv
open Go Go.RowKit
theorem St.sub.trans {a b c : St} (h : a.sub b) (k : b.sub c) : a.sub c := ⟨fun x o e => k.obj x o (h.obj x o e), fun x n e => k.own x n (h.own x n e), h.gl.trans k.gl⟩
/-- A list that was made behind a state: what is appended to it does not touch that state. -/
structure Mine (σ σ1 : St) (n sz : Nat) (k : Cap) : Prop where
  sub : σ.sub σ1
  owns : Owns σ1 n sz k
  blk : ∀ b, capBlk k = some b → σ.own b = none
theorem Mine.full (σ : St) (n sz : Nat) : Mine σ σ n sz .full := ⟨.refl _, trivial, fun b h => by cases h⟩
theorem Mine.full' {σ σ1 : St} (h : σ.sub σ1) (n sz : Nat) : Mine σ σ1 n sz .full := ⟨h, trivial, fun b h => by cases h⟩
theorem Mine.app {σ σ1 σ2 : St} {n m sz : Nat} {k k' : Cap} (h : Mine σ σ1 n sz k) (a : Appended σ1 k m sz k' σ2) : Mine σ σ2 m sz k' := by
  have hb : ∀ b, capBlk k' = some b → σ.own b = none := by
    intro b hb
    rcases a.fresh with q | ⟨b', q, q1, q2⟩
    · exact h.blk b (q ▸ hb)
    · have e0 : b' = b := by rw [q] at hb; injection hb
      subst e0
      cases e : σ.own b' with
      | none => rfl
      | some x => rw [h.sub.own b' x e] at q1; cases q1
  refine ⟨⟨fun b o e => by rw [a.obj]; exact h.sub.obj b o e, fun b x e => ?_, by rw [a.gl]; exact h.sub.gl⟩, a.owns, hb⟩
  rw [a.frame b fun q => by rw [hb b q] at e; cases e]
  exact h.sub.own b x e
mutual
def labS (p : Int → Bool) : AS → List Int
  | .mk k _ _ _ _ lb t e => (if p k = true then [lb] else []) ++ (labSs p t ++ labSs p e)
def labSs (p : Int → Bool) : List AS → List Int
  | [] => []
  | s :: l => labS p s ++ labSs p l
end
mutual
theorem labS_len (p : Int → Bool) : ∀ s : AS, ((labS p s).length : Int) ≤ zS s
  | .mk k _ i v _ lb t e => by
    have h1 := labSs_len p t
    have h2 := labSs_len p e
    have h3 := wEs_nonneg i
    have h4 := wEs_nonneg v
    simp only [labS, zS, List.length_append]
    split <;> simp <;> omega
theorem labSs_len (p : Int → Bool) : ∀ l : List AS, ((labSs p l).length : Int) ≤ zSs l
  | [] => by simp [labSs, zSs]
  | s :: l => by
    have h1 := labS_len p s
    have h2 := labSs_len p l
    simp only [labSs, zSs, List.length_append]
    omega
end
theorem labSs_append (p : Int → Bool) (a b : List AS) : labSs p (a ++ b) = labSs p a ++ labSs p b := by
  induction a with
  | nil => simp [labSs]
  | cons x a ih => simp only [List.cons_append, labSs, ih, List.append_assoc]
theorem labSs_take (p : Int → Bool) {l : List AS} {i : Nat} (h : i < l.length) : labSs p (l.take (i + 1)) = labSs p (l.take i) ++ labS p l[i] := by
  rw [List.take_succ_eq_append_getElem h, labSs_append]
  simp [labSs]
theorem zSs_append (a b : List AS) : zSs (a ++ b) = zSs a + zSs b := by
  induction a with
  | nil => simp [zSs]
  | cons x a ih => simp only [List.cons_append, zSs, ih]; omega
theorem zSs_take_le (l : List AS) (i : Nat) : zSs (l.take i) ≤ zSs l := by
  have := zSs_append (l.take i) (l.drop i)
  rw [List.take_append_drop] at this
  have h := zSs_nonneg (l.drop i)
  omega
theorem zSs_take {l : List AS} {i : Nat} (h : i < l.length) : zSs (l.take (i + 1)) = zSs (l.take i) + zS l[i] := by
  rw [List.take_succ_eq_append_getElem h, zSs_append]
  simp [zSs]
/-- The answer, with less known of it. -/
def Res.forget : Res → Res
  | .ret v => .ret (Go.Pv.forget v)
  | .panic v => .panic (Go.Pv.forget v)
theorem PCalls.forgetR {P : Program} {f : FuncId} {args : List PV} {σ : St} {K : Res → St → Prop} (h : PCalls P f args σ fun r σ' => K r.forget σ') : PCalls P f args σ K :=
  ⟨h.1, fun G w us i r => (h.2 G w us i r).mono fun e w' ⟨r, σ', G', k, hr, q⟩ => ⟨r.forget, σ', G', k, by
    cases r with
    | ret v => obtain ⟨u, e, hu⟩ := hr; exact ⟨u, e, Rel.forget _ _ hu⟩
    | panic v => obtain ⟨u, e, hu⟩ := hr; exact ⟨u, e, Rel.forget _ _ hu⟩, q⟩⟩
theorem forgets_vi (l : List Int) : forgets (l.map vi) = l.map vi := by
  induction l with
  | nil => rfl
  | cons x l ih => simp only [List.map_cons, forgets, ih]; rfl
theorem forgets_vs (l : List ByteArray) : forgets (l.map vs) = l.map vs := by
  induction l with
  | nil => rfl
  | cons x l ih => simp only [List.map_cons, forgets, ih]; rfl
mutual
theorem forget_E : ∀ e : AE, forget (pvE e) = pvE e
  | .mk k n s o l => by simp only [pvE, forget, forgets, forgets_Es l]
theorem forgets_Es : ∀ l : List AE, forgets (pvEs l) = pvEs l
  | [] => by simp only [pvEs, forgets]
  | e :: l => by simp only [pvEs, forgets, forget_E e, forgets_Es l]
end
mutual
theorem forget_S : ∀ e : AS, forget (pvS e) = pvS e
  | .mk k n i v m lb t e => by simp only [pvS, forget, forgets, forgets_Es, forgets_Ss t, forgets_Ss e]
theorem forgets_Ss : ∀ l : List AS, forgets (pvSs l) = pvSs l
  | [] => by simp only [pvSs, forgets]
  | e :: l => by simp only [pvSs, forgets, forget_S e, forgets_Ss l]
end
/-- What lies outside some objects is as it was. -/
structure Frame (S : Nat → Prop) (σ σ' : St) : Prop where
  obj : ∀ b o, ¬ S b → σ.obj b = some o → σ'.obj b = some o
  own : ∀ b n, σ.own b = some n → σ'.own b = some n
  gl : σ'.gl = σ.gl
theorem Frame.refl (S : Nat → Prop) (σ : St) : Frame S σ σ := ⟨fun _ _ _ h => h, fun _ _ h => h, rfl⟩
theorem Frame.trans {S : Nat → Prop} {a b c : St} (h : Frame S a b) (k : Frame S b c) : Frame S a c := ⟨fun x o n e => k.obj x o n (h.obj x o n e), fun x n e => k.own x n (h.own x n e), k.gl.trans h.gl⟩
theorem Frame.mono {S T : Nat → Prop} {a b : St} (h : Frame S a b) (k : ∀ x, S x → T x) : Frame T a b := ⟨fun x o n e => h.obj x o (fun q => n (k x q)) e, h.own, h.gl⟩
theorem Frame.set {S : Nat → Prop} (σ : St) {d : Nat} (o : Ob) (h : S d) : Frame S σ (σ.set d o) := ⟨fun x o' n e => by simp only [St.set]; rw [if_neg (fun q => n (by rw [q]; exact h))]; exact e, fun _ _ e => e, rfl⟩
theorem Frame.sub {S : Nat → Prop} {σ σ' : St} (h : σ.sub σ') : Frame S σ σ' := ⟨fun b o _ e => h.obj b o e, h.own, h.gl.symm⟩
/-- What is known behind is what was known, but for what has been changed. -/
theorem Frame.back {S : Nat → Prop} {σ σ' : St} (h : Frame S σ σ') (hS : ∀ b, S b → σ.obj b = none) : σ.sub σ' := ⟨fun b o e => h.obj b o (fun q => by rw [hS b q] at e; cases e) e, h.own, h.gl.symm⟩
theorem notL_E (e : AE) : notL (pvE e) = true := by cases e; simp only [pvE]; rfl
theorem notL_S (e : AS) : notL (pvS e) = true := by cases e; simp only [pvS]; rfl
theorem cast_0 : ((0 : Nat) : Int) = 0 := rfl
/- append to slices of the state -/
def pavO (Kf : PV → Cf → Prop) (N : Nat) (env : List (Nat × PV)) (loc : List (Nat × List PV)) (σ : St) (n m k bb c : Nat) (cs : List PV) : Option Ob → Prop
  | some (.cells ds) => ds.length = c * n ∧
      (m + k ≤ c → Kf (.val (.slice (some ⟨bb, 0, none⟩) (m + k) c)) ⟨N, env, loc, σ.set bb (.cells (pset ds (m * n) cs))⟩) ∧
      (c < m + k → ∀ b' c', σ.obj b' = none → σ.own b' = none → m + k ≤ c' → Kf (.val (.slice (some ⟨b', 0, none⟩) (m + k) c')) ⟨N, env, loc, σ.set b' (.cells (ds.take (m * n) ++ cs ++ List.replicate ((c' - (m + k)) * n) .undef))⟩)
  | _ => False
def pavC (N : Nat) (env : List (Nat × PV)) (loc : List (Nat × List PV)) (σ : St) (x : PV) (Kf : PV → Cf → Prop) (n b k : Nat) : Option (List PV) → Prop
  | some cs => match x with
    | .list .full _ [] => 0 < k ∧ k * b ≤ 140737488355328 ∧ k ≤ 9223372036854775807 ∧
        ∀ bb c, σ.obj bb = none → σ.own bb = none → k ≤ c → Kf (.val (.slice (some ⟨bb, 0, none⟩) k c)) ⟨N, env, loc, σ.set bb (.cells (cs ++ List.replicate ((c - k) * n) .undef))⟩
    | .val (.slice (some ⟨bb, 0, none⟩) m c) => (m + k) * b ≤ 140737488355328 ∧ m + k ≤ 9223372036854775807 ∧ m ≤ c ∧ pavO Kf N env loc σ n m k bb c cs (σ.obj bb)
    | _ => False
  | none => False
theorem pavQ_q (N : Nat) (env : List (Nat × PV)) (loc : List (Nat × List PV)) (σ : St) (x : PV) (Kf : PV → Cf → Prop) (n b sz2 : Nat) (ys : List PV) : pavQ ⟨N, env, loc, σ⟩ x Kf (some (n, b)) (some (sz2, ys)) = (sz2 = n ∧ pavC N env loc σ x Kf n b ys.length (cellsAll ys)) := by
  simp only [pavQ, pavC]
  cases cellsAll ys with
  | none => rfl
  | some cs =>
    simp only []
    congr 1
theorem pavC_f (N : Nat) (env : List (Nat × PV)) (loc : List (Nat × List PV)) (σ : St) (z : Nat) (Kf : PV → Cf → Prop) (n b k : Nat) (cs : List PV) : pavC N env loc σ (.list .full z []) Kf n b k (some cs) = (0 < k ∧ k * b ≤ 140737488355328 ∧ k ≤ 9223372036854775807 ∧
        ∀ bb c, σ.obj bb = none → σ.own bb = none → k ≤ c → Kf (.val (.slice (some ⟨bb, 0, none⟩) k c)) ⟨N, env, loc, σ.set bb (.cells (cs ++ List.replicate ((c - k) * n) .undef))⟩) := (rfl)
theorem pavC_v (N : Nat) (env : List (Nat × PV)) (loc : List (Nat × List PV)) (σ : St) (bb m c : Nat) (Kf : PV → Cf → Prop) (n b k : Nat) (cs : List PV) : pavC N env loc σ (.val (.slice (some ⟨bb, 0, none⟩) m c)) Kf n b k (some cs) = ((m + k) * b ≤ 140737488355328 ∧ m + k ≤ 9223372036854775807 ∧ m ≤ c ∧ pavO Kf N env loc σ n m k bb c cs (σ.obj bb)) := (rfl)
theorem pavO_q (Kf : PV → Cf → Prop) (N : Nat) (env : List (Nat × PV)) (loc : List (Nat × List PV)) (σ : St) (n m k bb c : Nat) (cs ds : List PV) : pavO Kf N env loc σ n m k bb c cs (some (.cells ds)) = (ds.length = c * n ∧
      (m + k ≤ c → Kf (.val (.slice (some ⟨bb, 0, none⟩) (m + k) c)) ⟨N, env, loc, σ.set bb (.cells (pset ds (m * n) cs))⟩) ∧
      (c < m + k → ∀ b' c', σ.obj b' = none → σ.own b' = none → m + k ≤ c' → Kf (.val (.slice (some ⟨b', 0, none⟩) (m + k) c')) ⟨N, env, loc, σ.set b' (.cells (ds.take (m * n) ++ cs ++ List.replicate ((c' - (m + k)) * n) .undef))⟩)) := (rfl)
/- parts of slices of the state -/
def pslV2 (a : Option Addr) (c sz h : Nat) : Option Nat → Option PV
  | some l => some (.val (.slice (if c = l then a else a.map (·.add (l * sz))) (h - l) (c - l)))
  | none => none
def pslV (s : Cf) (a : Option Addr) (c sz : Nat) (lo : Option Operand) : Option Nat → Option PV
  | some h => pslV2 a c sz h (pbound s 0 h lo)
  | none => none
theorem psl_v {tt : TT} {s : Cf} (t : TypeId) (a : Option Addr) (n c : Nat) (lo hi : Option Operand) : pslice tt s t (.val (.slice a n c)) lo hi = ifS (slz tt t) (fun p => if n ≤ c then pslV s a c p.1 lo (pbound s n n hi) else none) (psl0 tt s t (.val (.slice a n c)) lo hi) := by
  cases h : slz tt t with
  | none => rfl
  | some p =>
    obtain ⟨m, b⟩ := p
    obtain ⟨e, ie, h1, h2, rfl, _⟩ := slz_some h
    simp only [pslice, h1, h2, ifS, pslV, pslV2]
    split
    · cases pbound s n n hi with
      | none => rfl
      | some h =>
        simp only []
        cases pbound s 0 h lo <;> rfl
    · rfl
theorem pslV_q {s : Cf} (a : Option Addr) (c sz h : Nat) (lo : Option Operand) : pslV s a c sz lo (some h) = pslV2 a c sz h (pbound s 0 h lo) := (rfl)
theorem pslV2_q (b c h : Nat) : pslV2 (some ⟨b, 0, none⟩) c 1 h (some 0) = some (.val (.slice (some ⟨b, 0, none⟩) h c)) := by
  simp only [pslV2, Nat.zero_mul, Nat.sub_zero, Option.map_some]
  split <;> rfl
abbrev vis (l : List Int) : List PV := l.map vi
end Go.Pv
-- Ast2
namespace Go.Pv
open Go Go.RowKit
/-- A shared array. -/
structure Sh where
  name : ByteArray
  size : Int
  res : ByteArray
def pvSh (s : Sh) : PV := .agg [vs s.name, vi s.size, vs s.res]
/-- An input, an array, a mode, a claim, a task, a program. -/
structure AI where
  name : ByteArray
  lo : Int
  hi : Int
structure AA where
  name : ByteArray
  size : Int
structure AM where
  name : ByteArray
  input : ByteArray
  lo : Int
  hi : Int
structure AC where
  a : Int
  b : Int
structure AT where
  name : ByteArray
  period : Int
  deadline : Int
  priority : Int
  jitter : Int
  inputs : List AI
  vars : List ByteArray
  arrays : List AA
  modes : List AM
  claims : List AC
  body : List AS
structure AP where
  resources : List ByteArray
  shared : List Sh
  tasks : List AT
def pvI (x : AI) : PV := .agg [vs x.name, vi x.lo, vi x.hi]
def pvA (x : AA) : PV := .agg [vs x.name, vi x.size]
def pvM (x : AM) : PV := .agg [vs x.name, vs x.input, vi x.lo, vi x.hi]
def pvC (x : AC) : PV := .agg [vi x.a, vi x.b]
def pvT (t : AT) : PV := .agg [vs t.name, vi t.period, vi t.deadline, vi t.priority, vi t.jitter, .list .any 3 (t.inputs.map pvI), .list .any 1 (t.vars.map vs), .list .any 2 (t.arrays.map pvA), .list .any 4 (t.modes.map pvM), .list .any 2 (t.claims.map pvC), .list .any 8 (pvSs t.body)]
def pvP (p : AP) : PV := .agg [.list .any 1 (p.resources.map vs), .list .any 3 (p.shared.map pvSh), .list .any 11 (p.tasks.map pvT)]
theorem forgets_mapf {α : Type} {f : α → PV} (h : ∀ x, forget (f x) = f x) (l : List α) : forgets (l.map f) = l.map f := by
  induction l with
  | nil => rfl
  | cons x l ih => simp only [List.map_cons, forgets, ih, h]
theorem forget_Sh (x : Sh) : forget (pvSh x) = pvSh x := rfl
theorem forget_I (x : AI) : forget (pvI x) = pvI x := rfl
theorem forget_A (x : AA) : forget (pvA x) = pvA x := rfl
theorem forget_M (x : AM) : forget (pvM x) = pvM x := rfl
theorem forget_C (x : AC) : forget (pvC x) = pvC x := rfl
theorem forgets_Shs (l : List Sh) : forgets (l.map pvSh) = l.map pvSh := forgets_mapf forget_Sh l
theorem forgets_Is (l : List AI) : forgets (l.map pvI) = l.map pvI := forgets_mapf forget_I l
theorem forgets_As (l : List AA) : forgets (l.map pvA) = l.map pvA := forgets_mapf forget_A l
theorem forgets_Ms (l : List AM) : forgets (l.map pvM) = l.map pvM := forgets_mapf forget_M l
theorem forgets_Cs (l : List AC) : forgets (l.map pvC) = l.map pvC := forgets_mapf forget_C l
theorem forget_T (t : AT) : forget (pvT t) = pvT t := by
  simp only [pvT, forget, forgets, forgets_Is, forgets_As, forgets_Ms, forgets_Cs, forgets_Ss, forgets_vs, vi, vs]
theorem forgets_Ts (l : List AT) : forgets (l.map pvT) = l.map pvT := forgets_mapf forget_T l
theorem forget_P (p : AP) : forget (pvP p) = pvP p := by
  simp only [pvP, forget, forgets, forgets_Ts, forgets_Shs, forgets_vs]
end Go.Pv
-- PvK
namespace Go.Pv
open Go Go.RowKit
theorem vi_q (n : Int) : vi n = .val (.int .i64 n) := (rfl)
theorem vs_q (z : ByteArray) : vs z = .val (.string z) := (rfl)
theorem vb_q (b : Bool) : vb' b = .val (.bool b) := (rfl)
theorem vp_q (b o : Nat) : vp b o = .val (.pointer (some ⟨b, o, none⟩)) := (rfl)
theorem cast_1 : ((1 : Nat) : Int) = 1 := rfl
theorem cast_2 : ((2 : Nat) : Int) = 2 := rfl
theorem set_set (σ : St) (b : Nat) (o o' : Ob) : (σ.set b o).set b o' = σ.set b o' := by
  unfold St.set
  congr 1
  funext x
  dsimp only
  split <;> rfl
theorem obj_set (σ : St) (b : Nat) (o : Ob) : (σ.set b o).obj b = some o := by simp [St.set]
theorem kcond_e {P : Program} {tt : TT} {esc : List Nat} {ord : Ords} {x y : Code} {s : Cf} {K : Kt} {b : Bool} (h1 : b = true → pwp P tt esc ord x s K) (h2 : b = false → pwp P tt esc ord y s K) : kcond P tt esc ord x y s K b := ⟨h1, h2⟩
theorem kgd_i {want b : Bool} {run skip : Unit → Prop} (h1 : b = want → run ()) (h2 : b = !want → skip ()) : kgd want run skip (.val (.bool b)) := by
  cases b <;> cases want <;> simp_all [kgd]
/-- What contracts rewrite by, too. -/
def pvK := And.intro (And.intro (And.intro (And.intro @pvE_q @pvS_q) (And.intro @vi_q @vs_q)) (And.intro (And.intro @vb_q @vp_q) (And.intro @wrap_ok @cast_0))) (And.intro (And.intro (And.intro @notL_E @notL_S) (And.intro @pvSs_length @pvEs_length)) (And.intro (And.intro @w_loop @Int.toNat_natCast) (And.intro @set_set @obj_set)))
end Go.Pv
-- PvJoin
namespace Go.Pv
open Go Go.RowKit
variable {P : Program} {tt : TT}
/-! ### a walk in pieces -/
/-- What code comes to: of a configuration, K holds behind. -/
def swp (P : Program) (c : Code) (s : Cf) (K : Kt) : Prop :=
  ∀ (B : Nat) (G : Sett) (fl : Nat → Nat) (a : Act) (w : World) (Q : Exit → Act → World → Prop), Rep G fl B s a w → KtOk B G s w K Q → c.wp P Q a w
theorem swp_of (hT : TOk P tt) (hmix : P.follows .mixedOrders = true) (esc : List Nat) (ord : Ords) {c : Code} {s : Cf} {K : Kt} (hok : codeOk esc ord c = true) (h : pwp P tt esc ord c s K) : swp P c s K :=
  fun B G fl a w Q r hk => pwp_sound hT hmix c hok r h hk
/-- Behind a piece: what is known is I, or less. -/
def kjoin (I : Cf → Prop) (K : Kt) : Kt
  | .normal, s => ∃ s0 : Cf, s0.less s ∧ I s0
  | e, s => K e s
theorem kjoin_norm (I : Cf → Prop) (K : Kt) (s : Cf) : kjoin I K .normal s = ∃ s0 : Cf, s0.less s ∧ I s0 := (rfl)
theorem kjoin_exit (I : Cf → Prop) (K : Kt) (i : Nat) (s : Cf) : kjoin I K (.exit i) s = K (.exit i) s := (rfl)
theorem kjoin_ret (I : Cf → Prop) (K : Kt) (s : Cf) : kjoin I K .ret s = K .ret s := (rfl)
theorem kjoin_panic (I : Cf → Prop) (K : Kt) (v : PV) (s : Cf) : kjoin I K (.panic v) s = K (.panic v) s := (rfl)
theorem swp_less {c : Code} {s0 s : Cf} {K : Kt} (hl : s0.less s) (h : swp P c s0 K) : swp P c s K :=
  fun B G fl a w Q r hk => h B G fl a w Q (r.less hl) (hk.less hl)
theorem swp_seq {x y : Code} {s : Cf} {K : Kt} (I : Cf → Prop) (hx : swp P x s (kjoin I K)) (hy : ∀ s0, I s0 → swp P y s0 K) : swp P (.seq x y) s K := by
  intro B G fl a w Q r hk
  refine wp_seq (hx B G fl a w _ r ⟨?_, fun id => hk.exit id, hk.ret, hk.panic⟩)
  intro G' fl' s' a' w' hp hr hs hn
  obtain ⟨s0, hl, hI⟩ := hp
  exact hy s0 hI B G' fl' a' w' Q (hr.less hl) ((hk.step hs hn).less hl)
/-- The first pieces of a sequence, and those behind. -/
def cutL : Nat → Code → Code
  | n + 1, .seq x y => .seq x (cutL n y)
  | 0, _ => .skip
  | _ + 1, _ => .goto 0
def cutR : Nat → Code → Code
  | n + 1, .seq _ y => cutR n y
  | 0, c => c
  | _ + 1, _ => .skip
theorem cutL_s (n : Nat) (x y : Code) : cutL (n + 1) (.seq x y) = .seq x (cutL n y) := (rfl)
theorem cutL_0 (c : Code) : cutL 0 c = .skip := (rfl)
theorem cutR_s (n : Nat) (x y : Code) : cutR (n + 1) (.seq x y) = cutR n y := (rfl)
theorem cutR_0 (c : Code) : cutR 0 c = c := (rfl)
theorem swp_cut (hT : TOk P tt) (hmix : P.follows .mixedOrders = true) (esc : List Nat) (ord : Ords) : ∀ (n : Nat) {c : Code} {s : Cf} {K : Kt} (I : Cf → Prop), codeOk esc ord (cutL n c) = true → pwp P tt esc ord (cutL n c) s (kjoin I K) → (∀ s0, I s0 → swp P (cutR n c) s0 K) → swp P c s K
  | 0, c, s, K, I, _, h, hr => by
    obtain ⟨s0, hl, hI⟩ := h
    exact swp_less hl (hr s0 hI)
  | n + 1, .seq x y, s, K, I, hok, h, hr => by
    intro B G fl a w Q r hk
    simp only [cutL, codeOk, Bool.and_eq_true] at hok
    refine wp_seq (pwp_sound hT hmix x hok.1 (K := kthen (pwp P tt esc ord (cutL n y)) (kjoin I K)) r h ⟨?_, fun id => hk.exit id, hk.ret, hk.panic⟩)
    intro G' fl' s' a' w' hp hr' hs hn
    exact swp_cut hT hmix esc ord n I hok.2 hp hr B G' fl' a' w' Q hr' (hk.step hs hn)
  | _ + 1, .skip, _, _, _, _, h, _ => h.elim
  | _ + 1, .region _ _ _, _, _, _, _, h, _ => h.elim
  | _ + 1, .cond _ _ _, _, _, _, _, h, _ => h.elim
  | _ + 1, .block _ _, _, _, _, _, h, _ => h.elim
  | _ + 1, .loop _, _, _, _, _, h, _ => h.elim
  | _ + 1, .exit _, _, _, _, _, h, _ => h.elim
  | _ + 1, .ret, _, _, _, _, h, _ => h.elim
  | _ + 1, .rangeFunc _ _ _ _, _, _, _, _, h, _ => h.elim
  | _ + 1, .scope _, _, _, _, _, h, _ => h.elim
  | _ + 1, .label _, _, _, _, _, h, _ => h.elim
  | _ + 1, .goto _, _, _, _, _, h, _ => h.elim
  | _ + 1, .refuse _, _, _, _, _, h, _ => h.elim
/-- The rule of a body, in pieces. -/
theorem PCalls.of_pieces (hT : TOk P tt) {f : FuncId} {fn : Func} {c : Code} {args : List PV} {σ : St} {K : Res → St → Prop} (hf : P.funcs[f]? = some fn) (hb : fn.body = some c)
    (hname : (fn.name == "runtime.NumGoroutine") = false) {n : Nat} (hn : fn.ntmps = n) (hnt : Nat.ble args.length n = true) {rs : List ResultVar} (hrs : fn.results.toList = rs)
    (h : swp P c { n := n, env := penv 0 args, loc := [], σ := σ } (kbody tt rs K)) : PCalls P f args σ K := by
  subst hn hrs
  have hnt := Nat.le_of_ble_eq_true hnt
  refine ⟨⟨fn, hf, hname, by rw [hb]; rfl⟩, fun G w us hi hr => ?_⟩
  have hlen := RelL.length _ _ hr
  refine calls_of_wp hf hb ?_
  have hrep : Rep G (fun x => x) w.heap.size { n := fn.ntmps, env := penv 0 args, loc := [], σ := σ } { tmps := us.toArray ++ Array.replicate (fn.ntmps - us.toArray.size) Go.undef, defers := [] } w := by
    refine ⟨hi, ?_, fun t => ?_, ⟨fun d cs e => (by cases e), fun d d' e => absurd rfl e⟩, rfl, Nat.le_refl _⟩
    · simp; omega
    · have := get_penv G (fun x => x) args us 0 t hr
      simp only [Nat.not_lt_zero, if_false, Nat.sub_zero] at this
      have e : (us.toArray ++ Array.replicate (fn.ntmps - us.toArray.size) Go.undef).getD t Go.undef = us.getD t Go.undef := by
        rw [Array.getD_eq_getD_getElem?, Array.getElem?_append, List.getD_eq_getElem?_getD]
        split
        · simp
        · rename_i q
          simp at q
          rw [List.getElem?_eq_none q]
          by_cases z : t - us.toArray.size < fn.ntmps - us.toArray.size
          · rw [Array.getElem?_replicate, if_pos z]; rfl
          · rw [Array.getElem?_replicate, if_neg z]
      rw [e]
      exact this
  refine h _ _ _ _ _ _ hrep ⟨?_, fun id => ?_, ?_, ?_⟩
  · intro G' fl' s' a' w' hk hr' hs hn
    simp only [kbody] at hk
    split at hk
    · rename_i vs hvs
      obtain ⟨τ, ht, hk⟩ := hk
      obtain ⟨us', hus, hrel⟩ := presults_sound hT hr' _ _ hvs
      refine ⟨hr'.defers, _, ?_, _, τ, G', hk, ⟨_, rfl, pone_rel _ _ hrel⟩, hr'.inv.sub ht, hs.sub ht⟩
      simp only [results, Sem.run_bind]
      rw [Array.mapM_eq_mapM_toList]
      simp only [Sem.run_map, Sem.run_pure]
      erw [hus]
      rfl
    · cases hk
  · intro G' fl' s' a' w' hk
    exact hk.elim
  · intro G' fl' s' a' w' hk hr' hs hn
    simp only [kbody] at hk
    split at hk
    · rename_i vs hvs
      obtain ⟨τ, ht, hk⟩ := hk
      obtain ⟨us', hus, hrel⟩ := presults_sound hT hr' _ _ hvs
      refine ⟨hr'.defers, _, ?_, _, τ, G', hk, ⟨_, rfl, pone_rel _ _ hrel⟩, hr'.inv.sub ht, hs.sub ht⟩
      simp only [results, Sem.run_bind]
      rw [Array.mapM_eq_mapM_toList]
      simp only [Sem.run_map, Sem.run_pure]
      erw [hus]
      rfl
    · cases hk
  · intro G' s' a' w' v u hk hr' hi' hs hd
    obtain ⟨τ, ht, hk⟩ := hk
    exact ⟨hd, _, τ, G', hk, ⟨u, rfl, hr'⟩, hi'.sub ht, hs.sub ht⟩
end Go.Pv
-- PvGr
namespace Go.Pv
open Go Go.RowKit
/-- A list that grows in a block of its own. -/
structure Gr (σ σ1 : St) (n sz : Nat) (k : Cap) : Prop where
  own : ∀ b x, σ.own b = some x → σ1.own b = some x
  obj : σ1.obj = σ.obj
  gl : σ1.gl = σ.gl
  owns : Owns σ1 n sz k
  blk : ∀ b, capBlk k = some b → σ.own b = none
theorem Gr.refl (σ : St) (sz : Nat) : Gr σ σ 0 sz .full := ⟨fun _ _ h => h, rfl, rfl, trivial, fun b q => by cases q⟩
theorem Gr.app {σ σ1 σ2 : St} {n m sz : Nat} {k k' : Cap} (h : Gr σ σ1 n sz k) (a : Appended σ1 k m sz k' σ2) : Gr σ σ2 m sz k' := by
  have hb : ∀ b, capBlk k' = some b → σ.own b = none := by
    intro b hb
    rcases a.fresh with q | ⟨b', q, q1, q2⟩
    · exact h.blk b (q ▸ hb)
    · have e0 : b' = b := by rw [q] at hb; injection hb
      subst e0
      cases e : σ.own b' with
      | none => rfl
      | some x => rw [h.own b' x e] at q1; cases q1
  refine ⟨fun b x e => ?_, a.obj.trans h.obj, a.gl.trans h.gl, a.owns, hb⟩
  rw [a.frame b fun q => by rw [hb b q] at e; cases e]
  exact h.own b x e
end Go.Pv
-- Px
namespace Go.Pv
open Go Go.RowKit
/-- A token. -/
structure Tk where
  kind : Int
  num : Int
  line : Int
  text : ByteArray
def pvTk (t : Tk) : PV := .agg [vi t.kind, vi t.num, vi t.line, vs t.text]
theorem forget_Tk (x : Tk) : forget (pvTk x) = pvTk x := rfl
theorem forgets_Tks (l : List Tk) : forgets (l.map pvTk) = l.map pvTk := forgets_mapf forget_Tk l
def eqB (a b : ByteArray) : Bool := a.toList == b.toList
/-- The keywords. -/
def kws : List ByteArray := [⟨#[114, 101, 115, 111, 117, 114, 99, 101]⟩, ⟨#[115, 104, 97, 114, 101, 100]⟩, ⟨#[116, 97, 115, 107]⟩, ⟨#[112, 101, 114, 105, 111, 100]⟩, ⟨#[100, 101, 97, 100, 108, 105, 110, 101]⟩, ⟨#[112, 114, 105, 111, 114, 105, 116, 121]⟩, ⟨#[106, 105, 116, 116, 101, 114]⟩, ⟨#[105, 110, 112, 117, 116]⟩, ⟨#[118, 97, 114]⟩, ⟨#[97, 114, 114, 97, 121]⟩, ⟨#[109, 111, 100, 101]⟩, ⟨#[110, 101, 118, 101, 114]⟩, ⟨#[98, 111, 100, 121]⟩, ⟨#[101, 110, 100]⟩, ⟨#[105, 102]⟩, ⟨#[108, 97, 98, 101, 108]⟩, ⟨#[101, 108, 115, 101]⟩, ⟨#[119, 104, 105, 108, 101]⟩, ⟨#[109, 97, 120]⟩, ⟨#[108, 111, 99, 107]⟩]
def kw (s : ByteArray) : Bool := kws.any fun w => eqB w s
def tNum : Option Tk → Bool
  | some t => t.kind == 2
  | none => false
def tW (o : Option Tk) (w : ByteArray) : Bool := match o with
  | some t => !(t.kind == 2) && eqB t.text w
  | none => false
def tNm : Option Tk → Bool
  | some t => (t.kind == 1) && !(kw t.text)
  | none => false
def sPlus : ByteArray := ⟨#[43]⟩
def sMinus : ByteArray := ⟨#[45]⟩
def sOpen : ByteArray := ⟨#[40]⟩
def sClose : ByteArray := ⟨#[41]⟩
def sLeft : ByteArray := ⟨#[91]⟩
def sRight : ByteArray := ⟨#[93]⟩
/-- The operators of a line of the grammar: comparisons, sums, terms. -/
def opsOf : Nat → List (ByteArray × Int)
  | 0 => [(⟨#[60]⟩, 11), (⟨#[60, 61]⟩, 12), (⟨#[61, 61]⟩, 13), (⟨#[33, 61]⟩, 14)]
  | 1 => [(⟨#[43]⟩, 1), (⟨#[45]⟩, 2), (⟨#[124]⟩, 7), (⟨#[94]⟩, 8)]
  | 2 => [(⟨#[42]⟩, 3), (⟨#[47]⟩, 4), (⟨#[37]⟩, 5), (⟨#[38]⟩, 6), (⟨#[60, 60]⟩, 9), (⟨#[62, 62]⟩, 10)]
  | _ => []
def opIn (s : ByteArray) : List (ByteArray × Int) → Int
  | [] => 0
  | (w, o) :: r => if eqB w s then o else opIn s r
def opAt (k : Nat) : Option Tk → Int
  | some t => if t.kind == 3 then opIn t.text (opsOf k) else 0
  | none => 0
theorem opIn_ne {s : ByteArray} : ∀ {l : List (ByteArray × Int)}, opIn s l ≠ 0 → ∃ p ∈ l, s.toList = p.1.toList
  | [], h => absurd rfl h
  | (w, o) :: r, h => by
    unfold opIn at h
    split at h
    · rename_i q
      exact ⟨(w, o), by simp, by simpa [eqB] using (Eq.symm (by simpa [eqB] using q : w.toList = s.toList))⟩
    · obtain ⟨p, hp, e⟩ := opIn_ne h
      exact ⟨p, by simp [hp], e⟩
theorem opIn_none {s : ByteArray} : ∀ {l : List (ByteArray × Int)}, (∀ p ∈ l, p.1.toList ≠ s.toList) → opIn s l = 0
  | [], _ => rfl
  | (w, o) :: r, h => by
    unfold opIn
    have : eqB w s = false := by
      have := h (w, o) (by simp)
      simpa [eqB] using this
    rw [this]
    exact opIn_none fun p hp => h p (by simp [hp])
def apartB (k j : Nat) : Bool := (opsOf k).all fun p => (opsOf j).all fun q => !(q.1.toList == p.1.toList)
theorem apart_of {k j : Nat} (h : apartB k j = true) {p q : ByteArray × Int} (hp : p ∈ opsOf k) (hq : q ∈ opsOf j) : q.1.toList ≠ p.1.toList := by
  have := List.all_eq_true.1 (List.all_eq_true.1 h p hp) q hq
  simpa using this
theorem apart_all {k j : Nat} (h : k ≠ j) : apartB k j = true := by
  match k, j, h with
  | 0, 0, z => exact absurd rfl z
  | 1, 1, z => exact absurd rfl z
  | 2, 2, z => exact absurd rfl z
  | 0, 1, _ => decide +kernel
  | 0, 2, _ => decide +kernel
  | 1, 0, _ => decide +kernel
  | 1, 2, _ => decide +kernel
  | 2, 0, _ => decide +kernel
  | 2, 1, _ => decide +kernel
  | n + 3, _, _ => rfl
  | 0, n + 3, _ => simp [apartB, opsOf]
  | 1, n + 3, _ => simp [apartB, opsOf]
  | 2, n + 3, _ => simp [apartB, opsOf]
/-- Where an operator of a line stands, no operator of another one and no bracket stands. -/
theorem op_apart {k j : Nat} {o : Option Tk} (h : opAt k o ≠ 0) (hkj : k ≠ j) : opAt j o = 0 := by
  cases o with
  | none => rfl
  | some t =>
    simp only [opAt] at h ⊢
    split at h
    · rename_i q
      rw [if_pos q]
      obtain ⟨p, hp, e⟩ := opIn_ne h
      exact opIn_none fun p' hp' e' => apart_of (apart_all hkj) hp hp' (e'.trans e)
    · exact absurd rfl h
def leftB (k : Nat) : Bool := (opsOf k).all fun p => !(p.1.toList == sLeft.toList)
theorem left_all (k : Nat) : leftB k = true := by
  match k with
  | 0 => decide +kernel
  | 1 => decide +kernel
  | 2 => decide +kernel
  | n + 3 => rfl
theorem op_left {k : Nat} {o : Option Tk} (h : opAt k o ≠ 0) : tW o sLeft = false := by
  cases o with
  | none => rfl
  | some t =>
    simp only [opAt] at h
    split at h
    · obtain ⟨p, hp, e⟩ := opIn_ne h
      have := List.all_eq_true.1 (left_all k) p hp
      have e2 : eqB t.text sLeft = false := by simp only [eqB, e]; simpa using this
      simp [tW, e2]
    · exact absurd rfl h
theorem op_some {k : Nat} {o : Option Tk} (h : opAt k o ≠ 0) : o ≠ none := by
  rintro rfl
  exact h rfl
/-! ### what is read -/
def numE (n : Int) : AE := .mk 1 n ⟨#[]⟩ 0 []
def nameE (s : ByteArray) : AE := .mk 2 0 s 0 []
def indexE (s : ByteArray) (x : AE) : AE := .mk 3 0 s 0 [x]
def binE (op : Int) (x y : AE) : AE := .mk 4 0 ⟨#[]⟩ op [x, y]
def neg64 (n : Int) : Int := IntKind.i64.wrap (0 - n)
abbrev PErr := Nat × Int
/-- What is too deep is an error at the token ahead, unless depths do not matter. -/
def mDeep (free : Bool) (e : AE) (p : Nat) : Except PErr (AE × Nat) := if free = false ∧ 8 < dE e then .error (p - 1, 4) else .ok (e, p)
def txt : Option Tk → ByteArray
  | some t => t.text
  | none => ⟨#[]⟩
def tnum : Option Tk → Int
  | some t => t.num
  | none => 0
mutual
/-- The reading of a line of the grammar (3: a factor). -/
def mL (g : Nat → Option Tk) (free : Bool) : Nat → Nat → Nat → Except PErr (AE × Nat)
  | 0, _, at_ => .error (at_, 1)
  | f + 1, k, at_ => if 3 ≤ k then mF g free f at_ else
    match mL g free f (k + 1) at_ with
    | .error e => .error e
    | .ok (x, p) => mR g free f k x p
def mR (g : Nat → Option Tk) (free : Bool) : Nat → Nat → AE → Nat → Except PErr (AE × Nat)
  | 0, _, x, p => .error (p, 1)
  | f + 1, k, x, p => if opAt k (g p) = 0 then .ok (x, p) else
    match mL g free f (k + 1) (p + 1) with
    | .error e => .error e
    | .ok (y, q) => match mDeep free (binE (opAt k (g p)) x y) q with
      | .error e => .error e
      | .ok (z, q) => if k = 0 then .ok (z, q) else mR g free f k z q
def mF (g : Nat → Option Tk) (free : Bool) : Nat → Nat → Except PErr (AE × Nat)
  | 0, at_ => .error (at_, 1)
  | f + 1, at_ =>
    if tNum (g at_) = true then .ok (numE (tnum (g at_)), at_ + 1)
    else if tW (g at_) sMinus = true then
      if tNum (g (at_ + 1)) = true then .ok (numE (neg64 (tnum (g (at_ + 1)))), at_ + 2)
      else match mF g free f (at_ + 1) with
        | .error e => .error e
        | .ok (x, p) => mDeep free (binE 2 (numE 0) x) p
    else if tNm (g at_) = true then
      if tW (g (at_ + 1)) sLeft = true then match mL g free f 0 (at_ + 2) with
        | .error e => .error e
        | .ok (x, p) => if tW (g p) sRight = true then mDeep free (indexE (txt (g at_)) x) (p + 1) else .error (p, 1)
      else .ok (nameE (txt (g at_)), at_ + 1)
    else if tW (g at_) sOpen = true then match mL g free f 0 (at_ + 1) with
      | .error e => .error e
      | .ok (x, p) => if tW (g p) sClose = true then .ok (x, p + 1) else .error (p, 1)
    else .error (at_, 1)
end
mutual
/-- The longest beginning of a line of the grammar (3: a factor). -/
def sL (g : Nat → Option Tk) : Nat → Nat → Nat → Option (AE × Nat)
  | 0, _, _ => none
  | f + 1, k, at_ => if 3 ≤ k then sF g f at_ else
    match sL g f (k + 1) at_ with
    | none => none
    | some (x, p) => some (sR g f k x p)
def sR (g : Nat → Option Tk) : Nat → Nat → AE → Nat → AE × Nat
  | 0, _, x, p => (x, p)
  | f + 1, k, x, p => if opAt k (g p) = 0 then (x, p) else
    match sL g f (k + 1) (p + 1) with
    | none => (x, p)
    | some (y, q) => if k = 0 then (binE (opAt k (g p)) x y, q) else sR g f k (binE (opAt k (g p)) x y) q
def sF (g : Nat → Option Tk) : Nat → Nat → Option (AE × Nat)
  | 0, _ => none
  | f + 1, at_ =>
    if tNum (g at_) = true then some (numE (tnum (g at_)), at_ + 1)
    else if tW (g at_) sMinus = true then
      if tNum (g (at_ + 1)) = true then some (numE (neg64 (tnum (g (at_ + 1)))), at_ + 2)
      else match sF g f (at_ + 1) with
        | none => none
        | some (x, p) => some (binE 2 (numE 0) x, p)
    else if tNm (g at_) = true then
      if tW (g (at_ + 1)) sLeft = true then match sL g f 0 (at_ + 2) with
        | none => some (nameE (txt (g at_)), at_ + 1)
        | some (x, p) => if tW (g p) sRight = true then some (indexE (txt (g at_)) x, p + 1) else some (nameE (txt (g at_)), at_ + 1)
      else some (nameE (txt (g at_)), at_ + 1)
    else if tW (g at_) sOpen = true then match sL g f 0 (at_ + 1) with
      | none => none
      | some (x, p) => if tW (g p) sClose = true then some (x, p + 1) else none
    else none
end
theorem mDeep_free (e : AE) (p : Nat) : mDeep true e p = .ok (e, p) := by simp [mDeep]
theorem mL_s (g : Nat → Option Tk) (fr : Bool) (f k a : Nat) : mL g fr (f + 1) k a = if 3 ≤ k then mF g fr f a else match mL g fr f (k + 1) a with
    | .error e => .error e
    | .ok (x, p) => mR g fr f k x p := by rw [mL]
theorem mR_s (g : Nat → Option Tk) (fr : Bool) (f k : Nat) (x : AE) (p : Nat) : mR g fr (f + 1) k x p = if opAt k (g p) = 0 then .ok (x, p) else
    match mL g fr f (k + 1) (p + 1) with
    | .error e => .error e
    | .ok (y, q) => match mDeep fr (binE (opAt k (g p)) x y) q with
      | .error e => .error e
      | .ok (z, q) => if k = 0 then .ok (z, q) else mR g fr f k z q := by rw [mR]
/-- What stands behind an expression of a line ends it. -/
structure Stop (o : Option Tk) (k : Nat) : Prop where
  left : tW o sLeft = false
  op : ∀ j, k ≤ j → opAt j o = 0
theorem Stop.none (k : Nat) : Stop none k := ⟨rfl, fun _ _ => rfl⟩
theorem Stop.of_op {k : Nat} {o : Option Tk} (h : opAt k o ≠ 0) : Stop o (k + 1) := ⟨op_left h, fun j hj => op_apart h (by omega)⟩
theorem Stop.up {k : Nat} {o : Option Tk} (h : Stop o k) : Stop o (k + 1) := ⟨h.left, fun j hj => h.op j (by omega)⟩
def closeB (w : ByteArray) : Bool := !(w.toList == sLeft.toList) && ((opsOf 0).all fun p => !(p.1.toList == w.toList)) && ((opsOf 1).all fun p => !(p.1.toList == w.toList)) && ((opsOf 2).all fun p => !(p.1.toList == w.toList))
theorem Stop.of_close {w : ByteArray} (hw : closeB w = true) {o : Option Tk} (h : tW o w = true) : Stop o 0 := by
  cases o with
  | none => cases h
  | some t =>
    simp only [tW, Bool.and_eq_true, eqB, beq_iff_eq] at h
    simp only [closeB, Bool.and_eq_true, List.all_eq_true, Bool.not_eq_true', beq_eq_false_iff_ne] at hw
    refine ⟨?_, fun j _ => ?_⟩
    · have : eqB t.text sLeft = false := by simp only [eqB, h.2]; simpa using hw.1.1.1
      simp [tW, this]
    · simp only [opAt]
      split
      · refine opIn_none fun p hp e => ?_
        rw [h.2] at e
        match j, hp with
        | 0, hp => exact hw.1.1.2 p hp e
        | 1, hp => exact hw.1.2 p hp e
        | 2, hp => exact hw.2 p hp e
        | n + 3, hp => simp [opsOf] at hp
      · rfl
theorem close_1 : closeB sClose = true := by decide +kernel
theorem close_2 : closeB sRight = true := by decide +kernel
def lim (g : Nat → Option Tk) (n : Nat) : Nat → Option Tk := fun i => if i < n then g i else none
theorem lim_lt {g : Nat → Option Tk} {n i : Nat} (h : i < n) : lim g n i = g i := by simp [lim, h]
theorem lim_ge {g : Nat → Option Tk} {n i : Nat} (h : n ≤ i) : lim g n i = none := by simp [lim]; omega
/-- A reading goes on, over tokens that are there. -/
theorem m_go (g : Nat → Option Tk) (fr : Bool) : ∀ f,
    (∀ k a e p, mL g fr f k a = .ok (e, p) → a < p ∧ ∀ i, a ≤ i → i < p → g i ≠ none) ∧
    (∀ k x a e p, mR g fr f k x a = .ok (e, p) → a ≤ p ∧ ∀ i, a ≤ i → i < p → g i ≠ none) ∧
    (∀ a e p, mF g fr f a = .ok (e, p) → a < p ∧ ∀ i, a ≤ i → i < p → g i ≠ none) := by
  intro f
  induction f with
  | zero => refine ⟨?_, ?_, ?_⟩ <;> intros <;> simp_all [mL, mR, mF]
  | succ f ih =>
    obtain ⟨i1, i2, i3⟩ := ih
    refine ⟨?_, ?_, ?_⟩
    · intro k a e p h
      rw [mL_s] at h
      split at h
      · exact i3 a e p h
      · split at h
        · cases h
        · rename_i x q hq
          obtain ⟨a1, a2⟩ := i1 _ _ _ _ hq
          obtain ⟨b1, b2⟩ := i2 _ _ _ _ _ h
          refine ⟨by omega, fun i h1 h2 => ?_⟩
          by_cases z : i < q
          · exact a2 i h1 z
          · exact b2 i (by omega) h2
    · intro k x a e p h
      rw [mR_s] at h
      split at h
      · cases h; exact ⟨Nat.le_refl _, fun i h1 h2 => by omega⟩
      · rename_i hop
        split at h
        · cases h
        · rename_i y q hq
          obtain ⟨a1, a2⟩ := i1 _ _ _ _ hq
          have h0 := op_some hop
          split at h
          · cases h
          · rename_i z q' hd
            have : q' = q := by
              unfold mDeep at hd
              split at hd <;> cases hd
              rfl
            subst this
            split at h
            · cases h
              refine ⟨by omega, fun i h1 h2 => ?_⟩
              by_cases z : i = a
              · subst z; exact h0
              · exact a2 i (by omega) h2
            · obtain ⟨b1, b2⟩ := i2 _ _ _ _ _ h
              refine ⟨by omega, fun i h1 h2 => ?_⟩
              by_cases z : i = a
              · subst z; exact h0
              · by_cases z2 : i < q'
                · exact a2 i (by omega) z2
                · exact b2 i (by omega) h2
    · intro a e p h
      have nn : ∀ {i : Nat}, tNum (g i) = true → g i ≠ none := fun h q => by rw [q] at h; cases h
      have nw : ∀ {i : Nat} {w : ByteArray}, tW (g i) w = true → g i ≠ none := fun h q => by rw [q] at h; cases h
      have nm : ∀ {i : Nat}, tNm (g i) = true → g i ≠ none := fun h q => by rw [q] at h; cases h
      have dp : ∀ {x e : AE} {q p : Nat}, mDeep fr x q = .ok (e, p) → p = q := fun hd => by
        unfold mDeep at hd
        split at hd <;> cases hd
        rfl
      rw [mF] at h
      split at h
      · rename_i h1
        cases h
        exact ⟨by omega, fun i q1 q2 => by rw [show i = a by omega]; exact nn h1⟩
      · split at h
        · rename_i h2
          split at h
          · rename_i h3
            cases h
            refine ⟨by omega, fun i q1 q2 => ?_⟩
            by_cases z : i = a
            · subst z; exact nw h2
            · rw [show i = a + 1 by omega]; exact nn h3
          · split at h
            · cases h
            · rename_i x q hq
              have := dp h
              subst this
              obtain ⟨a1, a2⟩ := i3 _ _ _ hq
              refine ⟨by omega, fun i q1 q2 => ?_⟩
              by_cases z : i = a
              · subst z; exact nw h2
              · exact a2 i (by omega) q2
        · split at h
          · rename_i h2
            split at h
            · rename_i h3
              split at h
              · cases h
              · rename_i x q hq
                obtain ⟨a1, a2⟩ := i1 _ _ _ _ hq
                split at h
                · rename_i h4
                  have := dp h
                  subst this
                  refine ⟨by omega, fun i q1 q2 => ?_⟩
                  by_cases z : i = a
                  · subst z; exact nm h2
                  · by_cases z2 : i = a + 1
                    · subst z2; exact nw h3
                    · by_cases z3 : i < q
                      · exact a2 i (by omega) z3
                      · rw [show i = q by omega]; exact nw h4
                · cases h
            · cases h
              exact ⟨by omega, fun i q1 q2 => by rw [show i = a by omega]; exact nm h2⟩
          · split at h
            · rename_i h3
              split at h
              · cases h
              · rename_i x q hq
                obtain ⟨a1, a2⟩ := i1 _ _ _ _ hq
                split at h
                · rename_i h4
                  cases h
                  refine ⟨by omega, fun i q1 q2 => ?_⟩
                  by_cases z : i = a
                  · subst z; exact nw h3
                  · by_cases z3 : i < q
                    · exact a2 i (by omega) z3
                    · rw [show i = q by omega]; exact nw h4
                · cases h
            · cases h
/-- What is read does not hang on what stands further on. -/
theorem m_agree (g h : Nat → Option Tk) (fr : Bool) : ∀ f,
    (∀ k a e p, mL g fr f k a = .ok (e, p) → (∀ i, a ≤ i → i < p → h i = g i) → Stop (h p) k → mL h fr f k a = .ok (e, p)) ∧
    (∀ k x a e p, mR g fr f k x a = .ok (e, p) → (∀ i, a ≤ i → i < p → h i = g i) → Stop (h p) k → mR h fr f k x a = .ok (e, p)) ∧
    (∀ a e p, mF g fr f a = .ok (e, p) → (∀ i, a ≤ i → i < p → h i = g i) → tW (h p) sLeft = false → mF h fr f a = .ok (e, p)) := by
  intro f
  induction f with
  | zero => refine ⟨?_, ?_, ?_⟩ <;> intros <;> simp_all [mL, mR, mF]
  | succ f ih =>
    obtain ⟨i1, i2, i3⟩ := ih
    refine ⟨?_, ?_, ?_⟩
    · intro k a e p hm ha hs
      rw [mL_s] at hm ⊢
      split at hm
      · rename_i hk; rw [if_pos hk]; exact i3 a e p hm ha hs.left
      · rename_i hk
        rw [if_neg hk]
        split at hm
        · cases hm
        · rename_i x q hq
          have gx := (m_go g fr f).1 _ _ _ _ hq
          have gr := (m_go g fr f).2.1 _ _ _ _ _ hm
          have e1 : mL h fr f (k + 1) a = .ok (x, q) := by
            refine i1 _ _ _ _ hq (fun i q1 q2 => ha i q1 (by omega)) ?_
            by_cases z : q < p
            · rw [ha q (by omega) z]
              cases f with
              | zero => simp [mR] at hm
              | succ f =>
                rw [mR_s] at hm
                split at hm
                · cases hm; omega
                · rename_i hop; exact Stop.of_op hop
            · rw [show q = p by omega]; exact hs.up
          rw [e1]
          exact i2 _ _ _ _ _ hm (fun i q1 q2 => ha i (by omega) q2) hs
    · intro k x a e p hm ha hs
      rw [mR_s] at hm ⊢
      split at hm
      · rename_i hop
        cases hm
        rw [if_pos (hs.op k (Nat.le_refl _))]
      · rename_i hop
        split at hm
        · cases hm
        · rename_i y q hq
          have gx := (m_go g fr f).1 _ _ _ _ hq
          split at hm
          · cases hm
          · rename_i z q' hd
            have : q' = q := by
              unfold mDeep at hd
              split at hd <;> cases hd
              rfl
            subst this
            have hqp : q' ≤ p := by
              split at hm
              · cases hm; exact Nat.le_refl _
              · exact ((m_go g fr f).2.1 _ _ _ _ _ hm).1
            have ea : h a = g a := ha a (Nat.le_refl _) (by omega)
            rw [ea, if_neg hop]
            have e1 : mL h fr f (k + 1) (a + 1) = .ok (y, q') := by
              refine i1 _ _ _ _ hq (fun i q1 q2 => ha i (by omega) (by omega)) ?_
              by_cases z : q' < p
              · rw [ha q' (by omega) z]
                split at hm
                · cases hm; omega
                · cases f with
                  | zero => simp [mR] at hm
                  | succ f =>
                    rw [mR_s] at hm
                    split at hm
                    · cases hm; omega
                    · rename_i hop; exact Stop.of_op hop
              · rw [show q' = p by omega]; exact hs.up
            rw [e1]
            simp only [hd]
            split at hm
            · rename_i hk; rw [if_pos hk]; exact hm
            · rename_i hk; rw [if_neg hk]; exact i2 _ _ _ _ _ hm (fun i q1 q2 => ha i (by omega) q2) hs
    · intro a e p hm ha hs
      have gm := (m_go g fr (f + 1)).2.2 _ _ _ hm
      have dp : ∀ {x e : AE} {q p : Nat}, mDeep fr x q = .ok (e, p) → p = q := fun hd => by
        unfold mDeep at hd
        split at hd <;> cases hd
        rfl
      have e0 : h a = g a := ha a (Nat.le_refl _) gm.1
      rw [mF] at hm ⊢
      rw [e0]
      split at hm
      · rename_i h1; rw [if_pos h1]; exact hm
      · rename_i h1
        rw [if_neg h1]
        split at hm
        · rename_i h2
          rw [if_pos h2]
          split at hm
          · rename_i h3
            cases hm
            have e1 : h (a + 1) = g (a + 1) := ha _ (by omega) (by omega)
            rw [e1, if_pos h3]
          · rename_i h3
            split at hm
            · cases hm
            · rename_i x q hq
              have := dp hm
              subst this
              have gq := (m_go g fr f).2.2 _ _ _ hq
              have e1 : h (a + 1) = g (a + 1) := ha _ (by omega) (by omega)
              rw [e1, if_neg h3, i3 _ _ _ hq (fun i q1 q2 => ha i (by omega) q2) hs]
              exact hm
        · rename_i h2
          rw [if_neg h2]
          split at hm
          · rename_i h3
            rw [if_pos h3]
            split at hm
            · rename_i h4
              split at hm
              · cases hm
              · rename_i x q hq
                have gq := (m_go g fr f).1 _ _ _ _ hq
                split at hm
                · rename_i h5
                  have := dp hm
                  subst this
                  have e1 : h (a + 1) = g (a + 1) := ha _ (by omega) (by omega)
                  have e2 : h q = g q := ha _ (by omega) (by omega)
                  rw [e1, if_pos h4, i1 _ _ _ _ hq (fun i q1 q2 => ha i (by omega) (by omega)) (by rw [e2]; exact Stop.of_close close_2 h5)]
                  simp only [e2, h5, if_true]
                  exact hm
                · cases hm
            · rename_i h4
              cases hm
              rw [if_neg (by rw [hs]; simp)]
          · rename_i h3
            rw [if_neg h3]
            split at hm
            · rename_i h4
              rw [if_pos h4]
              split at hm
              · cases hm
              · rename_i x q hq
                have gq := (m_go g fr f).1 _ _ _ _ hq
                split at hm
                · rename_i h5
                  cases hm
                  have e2 : h q = g q := ha _ (by omega) (by omega)
                  rw [i1 _ _ _ _ hq (fun i q1 q2 => ha i (by omega) (by omega)) (by rw [e2]; exact Stop.of_close close_1 h5)]
                  simp only [e2, h5, if_true]
                · cases hm
            · cases hm
end Go.Pv
-- Sc
namespace Go.Pv
open Go Go.RowKit
/-! ### bytes as numbers -/
def bytesOf (s : ByteArray) : List Int := s.data.toList.map fun b => (b.toNat : Int)
def ofBytes (l : List Int) : ByteArray := ⟨(l.map fun n => UInt8.ofNat n.toNat).toArray⟩
theorem bytesOf_length (s : ByteArray) : (bytesOf s).length = s.size := by simp [bytesOf]
theorem bytes_lt (s : ByteArray) : ∀ c ∈ bytesOf s, 0 ≤ c ∧ c ≤ 255 := by
  intro c hc
  simp only [bytesOf, List.mem_map] at hc
  obtain ⟨b, _, rfl⟩ := hc
  have := b.toNat_lt
  omega
theorem bytesOf_inj {a b : ByteArray} (h : bytesOf a = bytesOf b) : a = b := by
  have h2 : a.data.toList = b.data.toList := by
    unfold bytesOf at h
    refine List.map_inj_right ?_ |>.1 h
    intro x y hxy
    have : x.toNat = y.toNat := by omega
    exact UInt8.toNat_inj.1 this
  cases a; cases b
  simp at h2
  simp [h2]
theorem bytes_ofBytes (l : List Int) (h : ∀ c ∈ l, 0 ≤ c ∧ c ≤ 255) : bytesOf (ofBytes l) = l := by
  unfold bytesOf ofBytes
  simp only [List.map_map]
  conv => rhs; rw [← List.map_id l]
  refine List.map_congr_left fun c hc => ?_
  have := h c hc
  simp [Function.comp]
  omega
theorem ofBytes_bytes (s : ByteArray) : ofBytes (bytesOf s) = s := bytesOf_inj (bytes_ofBytes _ (bytes_lt s))
theorem extract_data (s : ByteArray) (a b : Nat) : (s.extract a b).data.toList = (s.data.toList.drop a).take (b - a) := by
  rw [ByteArray.data_extract, Array.toList_extract]
theorem bytes_ext (s : ByteArray) (a b : Nat) : bytesOf (s.extract a b) = ((bytesOf s).drop a).take (b - a) := by
  unfold bytesOf
  rw [extract_data]
  simp [List.map_take, List.map_drop]
theorem toList_bytes (a b : ByteArray) : (a.toList == b.toList) = decide (bytesOf a = bytesOf b) := by
  rw [Bool.eq_iff_iff]
  simp only [beq_iff_eq, decide_eq_true_eq]
  constructor
  · intro h
    have : a = b := by
      rw [ByteArray.toList_eq, ByteArray.toList_eq] at h
      cases a; cases b
      simp at h; simp [h]
    rw [this]
  · intro h; rw [bytesOf_inj h]
theorem eqB_iff (a b : ByteArray) : eqB a b = true ↔ a = b := by
  unfold eqB
  rw [toList_bytes, decide_eq_true_eq]
  exact ⟨bytesOf_inj, fun h => by rw [h]⟩
/-! ### the model -/
def isL (c : Int) : Bool := decide (97 ≤ c) && decide (c ≤ 122)
def isD (c : Int) : Bool := decide (48 ≤ c) && decide (c ≤ 57)
def isA (c : Int) : Bool := isL c || isD c
def numv (l : List Int) (n : Int) : Int := l.foldl (fun n c => if 10 * n + (c - 48) ≤ 2147483648 then 10 * n + (c - 48) else 2147483648) n
/-- The signs. -/
def signC : List (List Int) := [[43], [45], [42], [47], [37], [38], [124], [94], [60, 60], [62, 62], [60], [60, 61], [61, 61], [33, 61], [61], [40], [41], [91], [93], [123], [125]]
def signM (l : List Int) : Nat := if 2 ≤ l.length ∧ l.take 2 ∈ signC then 2 else if 1 ≤ l.length ∧ l.take 1 ∈ signC then 1 else 0
/-- The token that a text begins with: kind, number, text, and how many bytes it has. -/
def nextM (l : List Int) : Option (Int × Int × List Int × Nat) :=
  match l with
  | [] => none
  | c :: r =>
    if isL c then (if 12 < ((c :: r).takeWhile isA).length then none else some (1, 0, (c :: r).takeWhile isA, ((c :: r).takeWhile isA).length))
    else if isD c then (if 2147483647 < numv ((c :: r).takeWhile isD) 0 then none else some (2, numv ((c :: r).takeWhile isD) 0, [], ((c :: r).takeWhile isD).length))
    else if signM (c :: r) = 0 then none else some (3, 0, (c :: r).take (signM (c :: r)), signM (c :: r))
def scanM : Nat → List Int → List Tk → Int → List Tk × Int × Int
  | 0, _, out, _ => (out, 0, 0)
  | _ + 1, [], out, _ => (out, 0, 0)
  | f + 1, c :: r, out, line =>
    if c = 10 then scanM f r out (line + 1) else if c = 32 ∨ c = 9 then scanM f r out line else
      match nextM (c :: r) with
      | none => ([], line, 1)
      | some (k, v, t, n) => scanM f ((c :: r).drop n) (out ++ [⟨k, v, line, ofBytes t⟩]) line
def scanA (s : ByteArray) : List Tk × Int × Int := if 8192 < s.size then ([], 0, 4) else scanM s.size (bytesOf s) [] 1
end Go.Pv
-- Sc2
namespace Go.Pv
open Go Go.RowKit
theorem byt_get (s : ByteArray) (i : Nat) (h : i < s.size) : (bytesOf s)[i]? = some (byt s i) := by
  have h2 : i < s.data.toList.length := by simpa using h
  have e : byt s (i : Int) = ((s.data.toList[i]'h2).toNat : Int) := by
    unfold byt
    rw [dif_pos (by simpa using h)]
    rfl
  rw [e]
  unfold bytesOf
  rw [List.getElem?_map, List.getElem?_eq_getElem h2]
  rfl
theorem bytes_drop (s : ByteArray) (i : Nat) (h : i < s.size) : (bytesOf s).drop i = byt s i :: (bytesOf s).drop (i + 1) := by
  have h2 : i < (bytesOf s).length := by rw [bytesOf_length]; exact h
  rw [List.drop_eq_getElem_cons h2]
  congr 1
  have := byt_get s i h
  rw [List.getElem?_eq_getElem h2] at this
  exact Option.some.inj this
theorem byt_lt (s : ByteArray) (i : Nat) (h : i < s.size) : 0 ≤ byt s i ∧ byt s i ≤ 255 := by
  have := byt_get s i h
  exact bytes_lt s _ (List.mem_of_getElem? this)
theorem numv_max : ∀ (l : List Int), (∀ c ∈ l, isD c = true) → numv l 2147483648 = 2147483648
  | [], _ => rfl
  | c :: l, h => by
    have hc := h c (by simp)
    simp only [isD, Bool.and_eq_true, decide_eq_true_eq] at hc
    have : ¬ 10 * 2147483648 + (c - 48) ≤ 2147483648 := by omega
    show numv l (if 10 * 2147483648 + (c - 48) ≤ 2147483648 then 10 * 2147483648 + (c - 48) else 2147483648) = _
    rw [if_neg this]
    exact numv_max l fun x hx => h x (by simp [hx])
theorem numv_cons (c : Int) (l : List Int) (n : Int) : numv (c :: l) n = numv l (if 10 * n + (c - 48) ≤ 2147483648 then 10 * n + (c - 48) else 2147483648) := rfl
theorem numv_nonneg : ∀ (l : List Int) (n : Int), 0 ≤ n → (∀ c ∈ l, isD c = true) → 0 ≤ numv l n
  | [], n, h, _ => h
  | c :: l, n, h, hd => by
    have hc := hd c (by simp)
    simp only [isD, Bool.and_eq_true, decide_eq_true_eq] at hc
    rw [numv_cons]
    refine numv_nonneg l _ ?_ fun x hx => hd x (by simp [hx])
    split <;> omega
/-- The first of a list of words with which a text begins. -/
def hasP (s w : ByteArray) : Bool := decide (w.size ≤ s.size) && eqB (s.extract 0 w.size) w
def findP (s : ByteArray) (l : List ByteArray) : ByteArray := (l.find? (hasP s)).getD ⟨#[]⟩
theorem hasP_iff (s w : ByteArray) : hasP s w = true ↔ w.size ≤ s.size ∧ (bytesOf s).take w.size = bytesOf w := by
  unfold hasP
  rw [Bool.and_eq_true, decide_eq_true_eq, eqB_iff]
  refine and_congr_right fun h => ?_
  constructor
  · intro e
    have := congrArg bytesOf e
    rw [bytes_ext] at this
    simpa using this
  · intro e
    refine bytesOf_inj ?_
    rw [bytes_ext]
    simpa using e
theorem find_n (s : ByteArray) (n : Nat) : ∀ (l : List ByteArray), (∀ w ∈ l, w.size = n) →
    l.find? (hasP s) = if n ≤ s.size ∧ (bytesOf s).take n ∈ l.map bytesOf then some (ofBytes ((bytesOf s).take n)) else none
  | [], _ => by simp
  | w :: l, h => by
    have hw := h w (by simp)
    have ih := find_n s n l fun x hx => h x (by simp [hx])
    rw [List.find?_cons]
    cases q : hasP s w with
    | true =>
      have := (hasP_iff s w).1 q
      rw [hw] at this
      rw [if_pos ⟨this.1, by rw [this.2]; simp⟩, this.2, ofBytes_bytes]
    | false =>
      rw [ih]
      have q' : ¬ (n ≤ s.size ∧ (bytesOf s).take n = bytesOf w) := by
        rw [← hw, ← hasP_iff, q]; simp
      simp only [List.map_cons, List.mem_cons]
      by_cases z : n ≤ s.size
      · have : ¬ (bytesOf s).take n = bytesOf w := fun e => q' ⟨z, e⟩
        simp [this]
      · simp [z]
def signW : List ByteArray := [⟨#[60, 60]⟩, ⟨#[62, 62]⟩, ⟨#[60, 61]⟩, ⟨#[61, 61]⟩, ⟨#[33, 61]⟩, ⟨#[43]⟩, ⟨#[45]⟩, ⟨#[42]⟩, ⟨#[47]⟩, ⟨#[37]⟩, ⟨#[38]⟩, ⟨#[124]⟩, ⟨#[94]⟩, ⟨#[60]⟩, ⟨#[61]⟩, ⟨#[40]⟩, ⟨#[41]⟩, ⟨#[91]⟩, ⟨#[93]⟩, ⟨#[123]⟩, ⟨#[125]⟩]
def sign2 : List ByteArray := [⟨#[60, 60]⟩, ⟨#[62, 62]⟩, ⟨#[60, 61]⟩, ⟨#[61, 61]⟩, ⟨#[33, 61]⟩]
def sign1 : List ByteArray := [⟨#[43]⟩, ⟨#[45]⟩, ⟨#[42]⟩, ⟨#[47]⟩, ⟨#[37]⟩, ⟨#[38]⟩, ⟨#[124]⟩, ⟨#[94]⟩, ⟨#[60]⟩, ⟨#[61]⟩, ⟨#[40]⟩, ⟨#[41]⟩, ⟨#[91]⟩, ⟨#[93]⟩, ⟨#[123]⟩, ⟨#[125]⟩]
theorem bytes_nil : bytesOf ⟨#[]⟩ = [] := by decide
theorem sign_mem2 (l : List Int) (h : l.length = 2) : l ∈ signC ↔ l ∈ sign2.map bytesOf := by
  have e : sign2.map bytesOf = [[60, 60], [62, 62], [60, 61], [61, 61], [33, 61]] := by decide
  rw [e]
  match l, h with
  | [a, b], _ => simp [signC]
theorem sign_mem1 (l : List Int) (h : l.length = 1) : l ∈ signC ↔ l ∈ sign1.map bytesOf := by
  have e : sign1.map bytesOf = [[43], [45], [42], [47], [37], [38], [124], [94], [60], [61], [40], [41], [91], [93], [123], [125]] := by decide
  rw [e]
  match l, h with
  | [a], _ => simp [signC]
theorem findP_sign (s : ByteArray) : findP s signW = ofBytes ((bytesOf s).take (signM (bytesOf s))) := by
  have e : signW = sign2 ++ sign1 := rfl
  unfold findP
  rw [e, List.find?_append, find_n s 2 sign2 (by decide), find_n s 1 sign1 (by decide)]
  unfold signM
  have n0 : ofBytes [] = ⟨#[]⟩ := by decide
  by_cases h2 : 2 ≤ s.size
  · have l2 : ((bytesOf s).take 2).length = 2 := by rw [List.length_take, bytesOf_length]; omega
    have l1 : ((bytesOf s).take 1).length = 1 := by rw [List.length_take, bytesOf_length]; omega
    have h1 : 1 ≤ s.size := by omega
    simp only [bytesOf_length, h2, h1, true_and, sign_mem2 _ l2, sign_mem1 _ l1]
    by_cases m2 : (bytesOf s).take 2 ∈ sign2.map bytesOf
    · simp only [m2, if_true]; rfl
    · simp only [m2, if_false]
      by_cases m1 : (bytesOf s).take 1 ∈ sign1.map bytesOf
      · simp only [m1, if_true]; rfl
      · simp only [m1, if_false, List.take_zero, n0]; rfl
  · simp only [bytesOf_length, h2, false_and, if_false]
    by_cases h1 : 1 ≤ s.size
    · have l1 : ((bytesOf s).take 1).length = 1 := by rw [List.length_take, bytesOf_length]; omega
      simp only [h1, true_and, sign_mem1 _ l1]
      by_cases m1 : (bytesOf s).take 1 ∈ sign1.map bytesOf
      · simp only [m1, if_true]; rfl
      · simp only [m1, if_false, List.take_zero, n0]; rfl
    · simp only [h1, false_and, if_false, List.take_zero, n0]; rfl
end Go.Pv
-- Sk1D
namespace Go.Pv.D
open Go Go.RowKit Go.Proofs Go.Pv
def sSk1D_48 := (And.intro (And.intro @q_tsz_4 (And.intro @q_slz_4 @q_ifc_4)) (And.intro (And.intro @q_isb_4 @q_tsz_5) (And.intro @q_slz_5 @q_ifc_5)))
def sSk1D_49 := (And.intro (And.intro @q_tsz_4 (And.intro @q_slz_4 @q_ifc_4)) (And.intro (And.intro @q_isb_4 @q_tsz_5) (And.intro @q_slz_5 @q_ifc_5)))
def sSk1D_50 := (And.intro (And.intro (And.intro (And.intro @q_tsz_3 @q_slz_3) (And.intro @q_ifc_3 @q_tsz_4)) (And.intro (And.intro @q_slz_4 @q_ifc_4) (And.intro @q_isb_4 @q_tsz_5))) (And.intro (And.intro (And.intro @q_slz_5 @q_ifc_5) (And.intro @q_tsz_9 @q_slz_9)) (And.intro (And.intro @q_str_9 @q_arz_9) (And.intro @q_ifc_9 @q_cvi_5_3))))
def sSk1D_51 := (And.intro (And.intro (And.intro (And.intro @q_slz_0 @q_tsz_3) (And.intro @q_slz_3 @q_ifc_3)) (And.intro (And.intro @q_tsz_4 @q_slz_4) (And.intro @q_ifc_4 (And.intro @q_isb_4 @q_tsz_9)))) (And.intro (And.intro (And.intro @q_slz_9 @q_str_9) (And.intro @q_arz_9 @q_ifc_9)) (And.intro (And.intro @q_tsz_36 @q_slz_36) (And.intro @q_str_36 (And.intro @q_arz_36 @q_ifc_36)))))
def sSk1D_74 := (And.intro (And.intro @q_tsz_36 (And.intro @q_slz_36 @q_str_36)) (And.intro @q_arz_36 (And.intro @q_ifc_36 @q_bsl_36)))
def pvu (n : Int) : PV := .val (.int .u8 n)
theorem wrap_d {c : Int} (h : 48 ≤ c) (h2 : c ≤ 57) : IntKind.u8.wrap (c - 48) = c - 48 := by
  exact IntWalk.u8_in _ ⟨by omega, by omega⟩
theorem letter_c (c : Int) (σ : St) (K : Res → St → Prop) (hK : K (.ret (vb' (isL c))) σ) : PCalls Tryd.prog 48 [pvu c] σ K := by
  refine PCalls.of_body (tOk Tryd.prog) (by kernel_rfl) Tryd.func48 rfl (by kernel_rfl) [] [] (by kernel_rfl) (n := 9) (by kernel_rfl) (by kernel_rfl) (rs := [.tmp 2]) (by kernel_rfl) ?_
  unfold pvu
  simp (config := { maxSteps := 4000000 }) (disch := omega) only [pvK, pvB, sSk1D_48, reduceIte, Nat.reduceEqDiff, Nat.reduceAdd, Nat.reduceSub, Nat.reduceMul, Nat.reduceLT, Nat.reduceLeDiff, Nat.reduceBEq, reduceCtorEq, Int.reduceAdd, Int.reduceSub, Int.reduceMul, Int.reduceLT, Int.reduceLE, Int.reduceEq, Int.reduceToNat, Int.reduceNeg, Nat.reduceBNe, Int.reduceBEq, Int.reduceBNe, Int.reduceGT, Int.reduceGE, Int.reduceTMod, Bool.false_eq_true, Bool.not_true, Bool.not_false, forall_const, eq_self, decide_true, decide_false]
  by_cases h1 : 97 ≤ c
  · have h2 : c ≥ 97 := h1
    have e : isL c = decide (c ≤ 122) := by simp [isL, h1]
    rw [e] at hK
    simp (config := { maxSteps := 4000000 }) (disch := omega) only [pvK, pvB, sSk1D_48, reduceIte, Nat.reduceEqDiff, Nat.reduceAdd, Nat.reduceSub, Nat.reduceMul, Nat.reduceLT, Nat.reduceLeDiff, Nat.reduceBEq, reduceCtorEq, Int.reduceAdd, Int.reduceSub, Int.reduceMul, Int.reduceLT, Int.reduceLE, Int.reduceEq, Int.reduceToNat, Int.reduceNeg, Nat.reduceBNe, Int.reduceBEq, Int.reduceBNe, Int.reduceGT, Int.reduceGE, Int.reduceTMod, Bool.false_eq_true, Bool.not_true, Bool.not_false, forall_const, eq_self, decide_true, decide_false, h2, decide_true]
    exact ⟨σ, .refl _, hK⟩
  · have h2 : ¬ c ≥ 97 := h1
    have e : isL c = false := by simp [isL, h1]
    rw [e] at hK
    simp (config := { maxSteps := 4000000 }) (disch := omega) only [pvK, pvB, sSk1D_48, reduceIte, Nat.reduceEqDiff, Nat.reduceAdd, Nat.reduceSub, Nat.reduceMul, Nat.reduceLT, Nat.reduceLeDiff, Nat.reduceBEq, reduceCtorEq, Int.reduceAdd, Int.reduceSub, Int.reduceMul, Int.reduceLT, Int.reduceLE, Int.reduceEq, Int.reduceToNat, Int.reduceNeg, Nat.reduceBNe, Int.reduceBEq, Int.reduceBNe, Int.reduceGT, Int.reduceGE, Int.reduceTMod, Bool.false_eq_true, Bool.not_true, Bool.not_false, forall_const, eq_self, decide_true, decide_false, h2, decide_false]
    exact ⟨σ, .refl _, hK⟩
theorem digit_c (c : Int) (σ : St) (K : Res → St → Prop) (hK : K (.ret (vb' (isD c))) σ) : PCalls Tryd.prog 49 [pvu c] σ K := by
  refine PCalls.of_body (tOk Tryd.prog) (by kernel_rfl) Tryd.func49 rfl (by kernel_rfl) [] [] (by kernel_rfl) (n := 9) (by kernel_rfl) (by kernel_rfl) (rs := [.tmp 2]) (by kernel_rfl) ?_
  unfold pvu
  simp (config := { maxSteps := 4000000 }) (disch := omega) only [pvK, pvB, sSk1D_49, reduceIte, Nat.reduceEqDiff, Nat.reduceAdd, Nat.reduceSub, Nat.reduceMul, Nat.reduceLT, Nat.reduceLeDiff, Nat.reduceBEq, reduceCtorEq, Int.reduceAdd, Int.reduceSub, Int.reduceMul, Int.reduceLT, Int.reduceLE, Int.reduceEq, Int.reduceToNat, Int.reduceNeg, Nat.reduceBNe, Int.reduceBEq, Int.reduceBNe, Int.reduceGT, Int.reduceGE, Int.reduceTMod, Bool.false_eq_true, Bool.not_true, Bool.not_false, forall_const, eq_self, decide_true, decide_false]
  by_cases h1 : 48 ≤ c
  · have h2 : c ≥ 48 := h1
    have e : isD c = decide (c ≤ 57) := by simp [isD, h1]
    rw [e] at hK
    simp (config := { maxSteps := 4000000 }) (disch := omega) only [pvK, pvB, sSk1D_49, reduceIte, Nat.reduceEqDiff, Nat.reduceAdd, Nat.reduceSub, Nat.reduceMul, Nat.reduceLT, Nat.reduceLeDiff, Nat.reduceBEq, reduceCtorEq, Int.reduceAdd, Int.reduceSub, Int.reduceMul, Int.reduceLT, Int.reduceLE, Int.reduceEq, Int.reduceToNat, Int.reduceNeg, Nat.reduceBNe, Int.reduceBEq, Int.reduceBNe, Int.reduceGT, Int.reduceGE, Int.reduceTMod, Bool.false_eq_true, Bool.not_true, Bool.not_false, forall_const, eq_self, decide_true, decide_false, h2, decide_true]
    exact ⟨σ, .refl _, hK⟩
  · have h2 : ¬ c ≥ 48 := h1
    have e : isD c = false := by simp [isD, h1]
    rw [e] at hK
    simp (config := { maxSteps := 4000000 }) (disch := omega) only [pvK, pvB, sSk1D_49, reduceIte, Nat.reduceEqDiff, Nat.reduceAdd, Nat.reduceSub, Nat.reduceMul, Nat.reduceLT, Nat.reduceLeDiff, Nat.reduceBEq, reduceCtorEq, Int.reduceAdd, Int.reduceSub, Int.reduceMul, Int.reduceLT, Int.reduceLE, Int.reduceEq, Int.reduceToNat, Int.reduceNeg, Nat.reduceBNe, Int.reduceBEq, Int.reduceBNe, Int.reduceGT, Int.reduceGE, Int.reduceTMod, Bool.false_eq_true, Bool.not_true, Bool.not_false, forall_const, eq_self, decide_true, decide_false, h2, decide_false]
    exact ⟨σ, .refl _, hK⟩
theorem Signs_c (σ : St) (K : Res → St → Prop) (hK : K (.ret (.list .full 1 (signW.map vs))) σ) : PCalls Tryd.prog 74 [] σ K := by
  refine PCalls.of_body (tOk Tryd.prog) (by kernel_rfl) Tryd.func74 rfl (by kernel_rfl) [] [] (by kernel_rfl) (n := 2) (by kernel_rfl) (by kernel_rfl) (rs := [.tmp 0]) (by kernel_rfl) ?_
  simp (config := { maxSteps := 4000000 }) (disch := omega) only [pvK, pvB, sSk1D_74, reduceIte, Nat.reduceEqDiff, Nat.reduceAdd, Nat.reduceSub, Nat.reduceMul, Nat.reduceLT, Nat.reduceLeDiff, Nat.reduceBEq, reduceCtorEq, Int.reduceAdd, Int.reduceSub, Int.reduceMul, Int.reduceLT, Int.reduceLE, Int.reduceEq, Int.reduceToNat, Int.reduceNeg, Nat.reduceBNe, Int.reduceBEq, Int.reduceBNe, Int.reduceGT, Int.reduceGE, Int.reduceTMod, Bool.false_eq_true, Bool.not_true, Bool.not_false, forall_const, eq_self, decide_true, decide_false]
  exact ⟨σ, .refl _, hK⟩
set_option maxHeartbeats 4000000 in
set_option maxRecDepth 100000 in
theorem value_c (s : ByteArray) (hd : ∀ c ∈ bytesOf s, isD c = true) (hs : s.size < 1000000) (σ : St) (K : Res → St → Prop) (hK : K (.ret (vi (if 2147483647 < numv (bytesOf s) 0 then -1 else numv (bytesOf s) 0))) σ) : PCalls Tryd.prog 50 [vs s] σ K := by
  refine PCalls.of_body (tOk Tryd.prog) (by kernel_rfl) Tryd.func50 rfl (by kernel_rfl) [] [] (by kernel_rfl) (n := 22) (by kernel_rfl) (by kernel_rfl) (rs := [.tmp 2]) (by kernel_rfl) ?_
  simp (config := { maxSteps := 4000000 }) (disch := omega) only [pvK, pvB, sSk1D_50, reduceIte, Nat.reduceEqDiff, Nat.reduceAdd, Nat.reduceSub, Nat.reduceMul, Nat.reduceLT, Nat.reduceLeDiff, Nat.reduceBEq, reduceCtorEq, Int.reduceAdd, Int.reduceSub, Int.reduceMul, Int.reduceLT, Int.reduceLE, Int.reduceEq, Int.reduceToNat, Int.reduceNeg, Nat.reduceBNe, Int.reduceBEq, Int.reduceBNe, Int.reduceGT, Int.reduceGE, Int.reduceTMod, Bool.false_eq_true, Bool.not_true, Bool.not_false, forall_const, eq_self, decide_true, decide_false]
  refine loop_rule (fun s' => ∃ (i : Nat) (n : Int), i ≤ s.size ∧ 0 ≤ n ∧ n ≤ 2147483647 ∧ numv (bytesOf s) 0 = numv ((bytesOf s).drop i) n ∧ s' = ⟨22, [(0, vs s), (3, vi n), (4, vi i)], [], σ⟩) (fun t => (s.size - ival (get t.env 4)).toNat) ?_ ?_
  · exact ⟨_, less_env rfl (less_env rfl (less_env rfl (less_nil (.refl _)))), 0, 0, Nat.zero_le _, by omega, by omega, rfl, rfl⟩
  · rintro s' ⟨i, n, hi, h0, h1, hn, rfl⟩ R hR
    by_cases hlt : i < s.size
    · have hb := bytes_drop s i hlt
      have hc := hd (byt s i) (List.mem_of_getElem? (byt_get s i hlt))
      simp only [isD, Bool.and_eq_true, decide_eq_true_eq] at hc
      rw [hb, numv_cons] at hn
      have a1 : ((i : Int) < (s.size : Int)) = True := eq_true (by omega)
      have a2 : (0 ≤ (i : Int)) = True := eq_true (by omega)
      generalize hq : byt s i = c at *
      simp (config := { maxSteps := 4000000 }) (disch := omega) only [pvK, pvB, sSk1D_50, reduceIte, Nat.reduceEqDiff, Nat.reduceAdd, Nat.reduceSub, Nat.reduceMul, Nat.reduceLT, Nat.reduceLeDiff, Nat.reduceBEq, reduceCtorEq, Int.reduceAdd, Int.reduceSub, Int.reduceMul, Int.reduceLT, Int.reduceLE, Int.reduceEq, Int.reduceToNat, Int.reduceNeg, Nat.reduceBNe, Int.reduceBEq, Int.reduceBNe, Int.reduceGT, Int.reduceGE, Int.reduceTMod, Bool.false_eq_true, Bool.not_true, Bool.not_false, forall_const, eq_self, decide_true, decide_false, a1, a2, hq, wrap_d hc.1 hc.2]
      refine kcond_e (fun h => ?_) (fun h => ?_)
      · have hg : n * 10 + (c - 48) ≥ 2147483648 := of_decide_eq_true h
        simp (config := { maxSteps := 4000000 }) (disch := omega) only [pvK, pvB, sSk1D_50, reduceIte, Nat.reduceEqDiff, Nat.reduceAdd, Nat.reduceSub, Nat.reduceMul, Nat.reduceLT, Nat.reduceLeDiff, Nat.reduceBEq, reduceCtorEq, Int.reduceAdd, Int.reduceSub, Int.reduceMul, Int.reduceLT, Int.reduceLE, Int.reduceEq, Int.reduceToNat, Int.reduceNeg, Nat.reduceBNe, Int.reduceBEq, Int.reduceBNe, Int.reduceGT, Int.reduceGE, Int.reduceTMod, Bool.false_eq_true, Bool.not_true, Bool.not_false, forall_const, eq_self, decide_true, decide_false]
        refine ⟨σ, .refl _, ?_⟩
        have e : numv (bytesOf s) 0 = 2147483648 := by
          rw [hn]
          have hx : ∀ x ∈ (bytesOf s).drop (i + 1), isD x = true := fun x hx => hd x (List.mem_of_mem_drop hx)
          split
          · have : 10 * n + (c - 48) = 2147483648 := by omega
            rw [this]; exact numv_max _ hx
          · exact numv_max _ hx
        rw [e] at hK
        exact hK
      · have hg : ¬ n * 10 + (c - 48) ≥ 2147483648 := of_decide_eq_false h
        simp (config := { maxSteps := 4000000 }) (disch := omega) only [pvK, pvB, sSk1D_50, reduceIte, Nat.reduceEqDiff, Nat.reduceAdd, Nat.reduceSub, Nat.reduceMul, Nat.reduceLT, Nat.reduceLeDiff, Nat.reduceBEq, reduceCtorEq, Int.reduceAdd, Int.reduceSub, Int.reduceMul, Int.reduceLT, Int.reduceLE, Int.reduceEq, Int.reduceToNat, Int.reduceNeg, Nat.reduceBNe, Int.reduceBEq, Int.reduceBNe, Int.reduceGT, Int.reduceGE, Int.reduceTMod, Bool.false_eq_true, Bool.not_true, Bool.not_false, forall_const, eq_self, decide_true, decide_false]
        refine hR _ _ (less_env rfl (less_env rfl (less_env rfl (less_nil (.refl _))))) ⟨i + 1, n * 10 + (c - 48), by omega, by omega, by omega, ?_, rfl⟩ ?_
        · rw [hn, if_pos (by omega)]
          congr 1
          omega
        · show ((s.size : Int) - ((i + 1 : Nat) : Int)).toNat < ((s.size : Int) - (i : Int)).toNat
          omega
    · have a1 : ((i : Int) < (s.size : Int)) = False := eq_false (by omega)
      simp (config := { maxSteps := 4000000 }) (disch := omega) only [pvK, pvB, sSk1D_50, reduceIte, Nat.reduceEqDiff, Nat.reduceAdd, Nat.reduceSub, Nat.reduceMul, Nat.reduceLT, Nat.reduceLeDiff, Nat.reduceBEq, reduceCtorEq, Int.reduceAdd, Int.reduceSub, Int.reduceMul, Int.reduceLT, Int.reduceLE, Int.reduceEq, Int.reduceToNat, Int.reduceNeg, Nat.reduceBNe, Int.reduceBEq, Int.reduceBNe, Int.reduceGT, Int.reduceGE, Int.reduceTMod, Bool.false_eq_true, Bool.not_true, Bool.not_false, forall_const, eq_self, decide_true, decide_false, a1]
      refine ⟨σ, .refl _, ?_⟩
      have e : (bytesOf s).drop i = [] := List.drop_eq_nil_of_le (by rw [bytesOf_length]; omega)
      rw [e] at hn
      have hn2 : numv (bytesOf s) 0 = n := hn
      rw [hn2, if_neg (by omega)] at hK
      exact hK
set_option maxHeartbeats 4000000 in
set_option maxRecDepth 100000 in
theorem sign_c (s : ByteArray) (hs : s.size < 1000000) (σ : St) (K : Res → St → Prop) (hK : K (.ret (vs (ofBytes ((bytesOf s).take (signM (bytesOf s)))))) σ) : PCalls Tryd.prog 51 [vs s] σ K := by
  rw [← findP_sign] at hK
  refine PCalls.of_body (tOk Tryd.prog) (by kernel_rfl) Tryd.func51 rfl (by kernel_rfl) [] [(5, 33, [(0, []), (2, []), (3, []), (1, []), (4, []), (5, []), (6, []), (7, []), (8, []), (9, []), (10, []), (11, []), (16, []), (17, []), (12, []), (18, []), (13, []), (19, []), (14, []), (15, []), (20, []), (21, [])])] (by kernel_rfl) (n := 38) (by kernel_rfl) (by kernel_rfl) (rs := [.tmp 2]) (by kernel_rfl) ?_
  simp (config := { maxSteps := 4000000 }) (disch := omega) only [pvK, pvB, sSk1D_51, reduceIte, Nat.reduceEqDiff, Nat.reduceAdd, Nat.reduceSub, Nat.reduceMul, Nat.reduceLT, Nat.reduceLeDiff, Nat.reduceBEq, reduceCtorEq, Int.reduceAdd, Int.reduceSub, Int.reduceMul, Int.reduceLT, Int.reduceLE, Int.reduceEq, Int.reduceToNat, Int.reduceNeg, Nat.reduceBNe, Int.reduceBEq, Int.reduceBNe, Int.reduceGT, Int.reduceGE, Int.reduceTMod, Bool.false_eq_true, Bool.not_true, Bool.not_false, forall_const, eq_self, decide_true, decide_false]
  refine Signs_c _ _ ?_
  simp (config := { maxSteps := 4000000 }) (disch := omega) only [pvK, pvB, sSk1D_51, reduceIte, Nat.reduceEqDiff, Nat.reduceAdd, Nat.reduceSub, Nat.reduceMul, Nat.reduceLT, Nat.reduceLeDiff, Nat.reduceBEq, reduceCtorEq, Int.reduceAdd, Int.reduceSub, Int.reduceMul, Int.reduceLT, Int.reduceLE, Int.reduceEq, Int.reduceToNat, Int.reduceNeg, Nat.reduceBNe, Int.reduceBEq, Int.reduceBNe, Int.reduceGT, Int.reduceGE, Int.reduceTMod, Bool.false_eq_true, Bool.not_true, Bool.not_false, forall_const, eq_self, decide_true, decide_false]
  have hl : signW.length = 21 := rfl
  have small : ∀ w ∈ signW, w.size ≤ 2 := by decide
  refine loop_rule (fun s' => ∃ i : Nat, i ≤ signW.length ∧ findP s signW = findP s (signW.drop i) ∧ s' = ⟨38, [(0, vs s), (3, .list .full 1 (signW.map vs)), (4, vi i)], [], σ⟩) (fun t => (signW.length - ival (get t.env 4)).toNat) ?_ ?_
  · exact ⟨_, less_env rfl (less_env rfl (less_env rfl (less_nil (.refl _)))), 0, Nat.zero_le _, rfl, rfl⟩
  · rintro s' ⟨i, hi, ha, rfl⟩ R hR
    by_cases hlt : i < signW.length
    · have a1 : ((i : Int) < (signW.length : Int)) = True := eq_true (by omega)
      have a2 : (0 ≤ (i : Int)) = True := eq_true (by omega)
      have g1 : (signW.map vs)[i]? = some (vs signW[i]) := by simp [hlt]
      simp only [vs] at g1
      have hw := small signW[i] (List.getElem_mem hlt)
      rw [List.drop_eq_getElem_cons hlt] at ha
      unfold findP at ha
      rw [List.find?_cons] at ha
      generalize signW[i] = w at *
      by_cases hsz : w.size ≤ s.size
      · have b1 : ((s.size : Int) ≥ (w.size : Int)) = True := eq_true (by omega)
        have b2 : ((w.size : Int) ≤ (s.size : Int)) = True := eq_true (by omega)
        have b3 : (0 ≤ (w.size : Int)) = True := eq_true (by omega)
        simp (config := { maxSteps := 4000000 }) (disch := omega) only [pvK, pvB, sSk1D_51, reduceIte, Nat.reduceEqDiff, Nat.reduceAdd, Nat.reduceSub, Nat.reduceMul, Nat.reduceLT, Nat.reduceLeDiff, Nat.reduceBEq, reduceCtorEq, Int.reduceAdd, Int.reduceSub, Int.reduceMul, Int.reduceLT, Int.reduceLE, Int.reduceEq, Int.reduceToNat, Int.reduceNeg, Nat.reduceBNe, Int.reduceBEq, Int.reduceBNe, Int.reduceGT, Int.reduceGE, Int.reduceTMod, Bool.false_eq_true, Bool.not_true, Bool.not_false, forall_const, eq_self, decide_true, decide_false, a1, a2, g1, b1, b2, b3, pelt_some]
        refine kcond_e (fun h => ?_) (fun h => ?_)
        · simp (config := { maxSteps := 4000000 }) (disch := omega) only [pvK, pvB, sSk1D_51, reduceIte, Nat.reduceEqDiff, Nat.reduceAdd, Nat.reduceSub, Nat.reduceMul, Nat.reduceLT, Nat.reduceLeDiff, Nat.reduceBEq, reduceCtorEq, Int.reduceAdd, Int.reduceSub, Int.reduceMul, Int.reduceLT, Int.reduceLE, Int.reduceEq, Int.reduceToNat, Int.reduceNeg, Nat.reduceBNe, Int.reduceBEq, Int.reduceBNe, Int.reduceGT, Int.reduceGE, Int.reduceTMod, Bool.false_eq_true, Bool.not_true, Bool.not_false, forall_const, eq_self, decide_true, decide_false, a1, a2, g1, pelt_some]
          refine ⟨σ, .refl _, ?_⟩
          have : hasP s w = true := by unfold hasP eqB; rw [Bool.and_eq_true]; exact ⟨decide_eq_true hsz, h⟩
          rw [this] at ha
          unfold findP at hK
          rw [ha] at hK
          exact hK
        · simp (config := { maxSteps := 4000000 }) (disch := omega) only [pvK, pvB, sSk1D_51, reduceIte, Nat.reduceEqDiff, Nat.reduceAdd, Nat.reduceSub, Nat.reduceMul, Nat.reduceLT, Nat.reduceLeDiff, Nat.reduceBEq, reduceCtorEq, Int.reduceAdd, Int.reduceSub, Int.reduceMul, Int.reduceLT, Int.reduceLE, Int.reduceEq, Int.reduceToNat, Int.reduceNeg, Nat.reduceBNe, Int.reduceBEq, Int.reduceBNe, Int.reduceGT, Int.reduceGE, Int.reduceTMod, Bool.false_eq_true, Bool.not_true, Bool.not_false, forall_const, eq_self, decide_true, decide_false, a1, a2, g1, pelt_some]
          have : hasP s w = false := by unfold hasP eqB; rw [h, Bool.and_false]
          rw [this] at ha
          refine hR _ _ (less_env rfl (less_env rfl (less_env rfl (less_nil (.refl _))))) ⟨i + 1, by omega, ha, rfl⟩ ?_
          show ((signW.length : Int) - ((i + 1 : Nat) : Int)).toNat < ((signW.length : Int) - (i : Int)).toNat
          omega
      · have b1 : ((s.size : Int) ≥ (w.size : Int)) = False := eq_false (by omega)
        simp (config := { maxSteps := 4000000 }) (disch := omega) only [pvK, pvB, sSk1D_51, reduceIte, Nat.reduceEqDiff, Nat.reduceAdd, Nat.reduceSub, Nat.reduceMul, Nat.reduceLT, Nat.reduceLeDiff, Nat.reduceBEq, reduceCtorEq, Int.reduceAdd, Int.reduceSub, Int.reduceMul, Int.reduceLT, Int.reduceLE, Int.reduceEq, Int.reduceToNat, Int.reduceNeg, Nat.reduceBNe, Int.reduceBEq, Int.reduceBNe, Int.reduceGT, Int.reduceGE, Int.reduceTMod, Bool.false_eq_true, Bool.not_true, Bool.not_false, forall_const, eq_self, decide_true, decide_false, a1, a2, g1, b1, pelt_some]
        have : hasP s w = false := by unfold hasP; rw [decide_eq_false hsz, Bool.false_and]
        rw [this] at ha
        refine hR _ _ (less_env rfl (less_env rfl (less_env rfl (less_nil (.refl _))))) ⟨i + 1, by omega, ha, rfl⟩ ?_
        show ((signW.length : Int) - ((i + 1 : Nat) : Int)).toNat < ((signW.length : Int) - (i : Int)).toNat
        omega
    · have a1 : ((i : Int) < (signW.length : Int)) = False := eq_false (by omega)
      simp (config := { maxSteps := 4000000 }) (disch := omega) only [pvK, pvB, sSk1D_51, reduceIte, Nat.reduceEqDiff, Nat.reduceAdd, Nat.reduceSub, Nat.reduceMul, Nat.reduceLT, Nat.reduceLeDiff, Nat.reduceBEq, reduceCtorEq, Int.reduceAdd, Int.reduceSub, Int.reduceMul, Int.reduceLT, Int.reduceLE, Int.reduceEq, Int.reduceToNat, Int.reduceNeg, Nat.reduceBNe, Int.reduceBEq, Int.reduceBNe, Int.reduceGT, Int.reduceGE, Int.reduceTMod, Bool.false_eq_true, Bool.not_true, Bool.not_false, forall_const, eq_self, decide_true, decide_false, a1]
      refine ⟨σ, .refl _, ?_⟩
      have e : signW.drop i = [] := List.drop_eq_nil_of_le (by omega)
      rw [ha, e] at hK
      exact hK
end Go.Pv.D
-- Sc3
namespace Go.Pv
open Go Go.RowKit
theorem take_more (B : List Int) (a e : Nat) (b : Int) (r : List Int) (h : a ≤ e) (hb : B.drop e = b :: r) : (B.drop a).take (e + 1 - a) = (B.drop a).take (e - a) ++ [b] := by
  have e1 : e + 1 - a = (e - a) + 1 := by omega
  rw [e1, List.take_add_one]
  congr 1
  rw [List.getElem?_drop]
  have e2 : a + (e - a) = e := by omega
  rw [e2]
  have : (B.drop e)[0]? = some b := by rw [hb]; rfl
  rw [List.getElem?_drop] at this
  simp at this
  rw [this]; rfl
/-- The run of bytes from a place on, as far as it was looked at. -/
def Tw (p : Int → Bool) (B : List Int) (a e : Nat) : Prop := (B.drop a).takeWhile p = (B.drop a).take (e - a) ++ (B.drop e).takeWhile p
theorem Tw.init (p : Int → Bool) (B : List Int) (a : Nat) : Tw p B a a := by simp [Tw]
theorem Tw.step {p : Int → Bool} {B : List Int} {a e : Nat} {b : Int} {r : List Int} (h : Tw p B a e) (ha : a ≤ e) (hb : B.drop e = b :: r) (hp : p b = true) : Tw p B a (e + 1) := by
  unfold Tw at h ⊢
  rw [h, take_more B a e b r ha hb, hb, List.takeWhile_cons, if_pos hp, List.append_assoc]
  have : B.drop (e + 1) = r := by
    have := congrArg (List.drop 1) hb
    rw [List.drop_drop] at this
    simpa using this
  rw [this]; rfl
theorem Tw.stop {p : Int → Bool} {B : List Int} {a e : Nat} {b : Int} {r : List Int} (h : Tw p B a e) (hb : B.drop e = b :: r) (hp : p b = false) : (B.drop a).takeWhile p = (B.drop a).take (e - a) := by
  unfold Tw at h
  rw [h, hb, List.takeWhile_cons, hp]
  simp
theorem Tw.stop_nil {p : Int → Bool} {B : List Int} {a e : Nat} (h : Tw p B a e) (hb : B.drop e = []) : (B.drop a).takeWhile p = (B.drop a).take (e - a) := by
  unfold Tw at h
  rw [h, hb]
  simp
theorem take_len (T : ByteArray) (a e : Nat) (he : e ≤ T.size) : (((bytesOf T).drop a).take (e - a)).length = e - a := by
  rw [List.length_take, List.length_drop, bytesOf_length]; omega
theorem mem_takeWhile {p : Int → Bool} : ∀ {l : List Int} {c : Int}, c ∈ l.takeWhile p → p c = true
  | [], _, h => by simp at h
  | x :: l, c, h => by
    rw [List.takeWhile_cons] at h
    split at h
    · rcases List.mem_cons.1 h with rfl | h
      · assumption
      · exact mem_takeWhile h
    · simp at h
theorem signM_le (l : List Int) : signM l ≤ l.length ∧ signM l ≤ 2 := by
  unfold signM
  split
  · omega
  · split <;> omega
theorem scan_0 (l : List Int) (out : List Tk) (line : Int) (f : Nat) (h : l = []) : scanM f l out line = (out, 0, 0) := by
  subst h
  cases f <;> rfl
theorem scan_10 (f : Nat) (r : List Int) (out : List Tk) (line : Int) : scanM (f + 1) (10 :: r) out line = scanM f r out (line + 1) := by simp [scanM]
theorem scan_sp (f : Nat) (c : Int) (r : List Int) (out : List Tk) (line : Int) (h0 : c ≠ 10) (h : c = 32 ∨ c = 9) : scanM (f + 1) (c :: r) out line = scanM f r out line := by simp [scanM, h0, h]
theorem scan_n (f : Nat) (c : Int) (r : List Int) (out : List Tk) (line : Int) (h0 : c ≠ 10) (h : ¬ (c = 32 ∨ c = 9)) (hn : nextM (c :: r) = none) : scanM (f + 1) (c :: r) out line = ([], line, 1) := by
  simp only [scanM, h0, h, if_false, hn]
theorem scan_s (f : Nat) (c : Int) (r : List Int) (out : List Tk) (line : Int) (h0 : c ≠ 10) (h : ¬ (c = 32 ∨ c = 9)) {k v : Int} {t : List Int} {n : Nat} (hn : nextM (c :: r) = some (k, v, t, n)) : scanM (f + 1) (c :: r) out line = scanM f ((c :: r).drop n) (out ++ [⟨k, v, line, ofBytes t⟩]) line := by
  simp only [scanM, h0, h, if_false, hn]
theorem next_L (c : Int) (r : List Int) (h : isL c = true) : nextM (c :: r) = if 12 < ((c :: r).takeWhile isA).length then none else some (1, 0, (c :: r).takeWhile isA, ((c :: r).takeWhile isA).length) := by
  simp only [nextM, h, if_true]
theorem next_D (c : Int) (r : List Int) (hl : isL c = false) (h : isD c = true) : nextM (c :: r) = if 2147483647 < numv ((c :: r).takeWhile isD) 0 then none else some (2, numv ((c :: r).takeWhile isD) 0, [], ((c :: r).takeWhile isD).length) := by
  simp only [nextM, h, hl, if_true, Bool.false_eq_true, if_false]
theorem next_S (c : Int) (r : List Int) (hl : isL c = false) (h : isD c = false) : nextM (c :: r) = if signM (c :: r) = 0 then none else some (3, 0, (c :: r).take (signM (c :: r)), signM (c :: r)) := by
  simp only [nextM, h, hl, Bool.false_eq_true, if_false]
end Go.Pv
namespace Go.Pv
open Go
theorem ext_bytes (T : ByteArray) (a e : Nat) : ofBytes (((bytesOf T).drop a).take (e - a)) = T.extract a e := by rw [← bytes_ext, ofBytes_bytes]
theorem ext_all (T : ByteArray) (a : Nat) : bytesOf (T.extract a T.size) = (bytesOf T).drop a := by
  rw [bytes_ext, List.take_of_length_le (by rw [List.length_drop, bytesOf_length]; exact Nat.le_refl _)]
theorem ofBytes_size (l : List Int) : (ofBytes l).size = l.length := by simp [ofBytes, ByteArray.size]
end Go.Pv
-- Sk2D
namespace Go.Pv.D
open Go Go.RowKit Go.Proofs Go.Pv
def sSk2D_23 := (And.intro (And.intro (And.intro (And.intro (And.intro @q_tsz_1 @q_slz_1) (And.intro @q_ifc_1 @q_tsz_2)) (And.intro (And.intro @q_slz_2 @q_ifc_2) (And.intro @q_tsz_3 @q_slz_3))) (And.intro (And.intro (And.intro @q_ifc_3 @q_tsz_4) (And.intro @q_slz_4 @q_ifc_4)) (And.intro (And.intro @q_isb_4 @q_tsz_5) (And.intro @q_slz_5 (And.intro @q_ifc_5 @q_tsz_9))))) (And.intro (And.intro (And.intro (And.intro @q_slz_9 @q_str_9) (And.intro @q_arz_9 @q_ifc_9)) (And.intro (And.intro @q_tsz_23 @q_slz_23) (And.intro @q_str_23 @q_arz_23))) (And.intro (And.intro (And.intro @q_ifc_23 @q_tsz_28) (And.intro @q_slz_28 @q_ifc_28)) (And.intro (And.intro @q_tsz_59 @q_slz_59) (And.intro @q_ifc_59 (And.intro @q_bsl_23 @q_bld_59))))))
theorem sub_gr' {σ σ1 : St} {n sz : Nat} {k : Cap} (g : Gr σ σ1 n sz k) : σ.sub σ1 := ⟨fun b o h => by rw [g.obj]; exact h, g.own, g.gl.symm⟩
def pvScan (r : List Tk × Int × Int) : PV := .tuple [.list .any 4 (r.1.map pvTk), vi r.2.1, vi r.2.2]
set_option maxHeartbeats 16000000 in
set_option maxRecDepth 100000 in
theorem rScan_c (T : ByteArray) (σ : St) (K : Res → St → Prop) (hK : K (.ret (pvScan (scanA T))) σ) : PCalls Tryd.prog 23 [vs T] σ K := by
  refine PCalls.forgetR ?_
  refine PCalls.of_body (tOk Tryd.prog) (by kernel_rfl) Tryd.func23 rfl (by kernel_rfl) [] [] (by kernel_rfl) (n := 122) (by kernel_rfl) (by kernel_rfl) (rs := [.tmp 2, .tmp 3, .tmp 4]) (by kernel_rfl) ?_
  simp (config := { maxSteps := 4000000 }) (disch := omega) only [pvK, pvB, sSk2D_23, reduceIte, Nat.reduceEqDiff, Nat.reduceAdd, Nat.reduceSub, Nat.reduceMul, Nat.reduceLT, Nat.reduceLeDiff, Nat.reduceBEq, reduceCtorEq, Int.reduceAdd, Int.reduceSub, Int.reduceMul, Int.reduceLT, Int.reduceLE, Int.reduceEq, Int.reduceToNat, Int.reduceNeg, Nat.reduceBNe, Int.reduceBEq, Int.reduceBNe, Int.reduceGT, Int.reduceGE, Int.reduceTMod, Bool.false_eq_true, Bool.not_true, Bool.not_false, forall_const, eq_self, decide_true, decide_false]
  by_cases h8 : 8192 < T.size
  · have a1 : ((T.size : Int) > 8192) = True := eq_true (by omega)
    simp (config := { maxSteps := 4000000 }) (disch := omega) only [pvK, pvB, sSk2D_23, reduceIte, Nat.reduceEqDiff, Nat.reduceAdd, Nat.reduceSub, Nat.reduceMul, Nat.reduceLT, Nat.reduceLeDiff, Nat.reduceBEq, reduceCtorEq, Int.reduceAdd, Int.reduceSub, Int.reduceMul, Int.reduceLT, Int.reduceLE, Int.reduceEq, Int.reduceToNat, Int.reduceNeg, Nat.reduceBNe, Int.reduceBEq, Int.reduceBNe, Int.reduceGT, Int.reduceGE, Int.reduceTMod, Bool.false_eq_true, Bool.not_true, Bool.not_false, forall_const, eq_self, decide_true, decide_false, a1]
    refine ⟨σ, .refl _, ?_⟩
    unfold scanA at hK
    rw [if_pos h8] at hK
    exact hK
  · have a1 : ((T.size : Int) > 8192) = False := eq_false (by omega)
    unfold scanA at hK
    rw [if_neg h8] at hK
    simp (config := { maxSteps := 4000000 }) (disch := omega) only [pvK, pvB, sSk2D_23, reduceIte, Nat.reduceEqDiff, Nat.reduceAdd, Nat.reduceSub, Nat.reduceMul, Nat.reduceLT, Nat.reduceLeDiff, Nat.reduceBEq, reduceCtorEq, Int.reduceAdd, Int.reduceSub, Int.reduceMul, Int.reduceLT, Int.reduceLE, Int.reduceEq, Int.reduceToNat, Int.reduceNeg, Nat.reduceBNe, Int.reduceBEq, Int.reduceBNe, Int.reduceGT, Int.reduceGE, Int.reduceTMod, Bool.false_eq_true, Bool.not_true, Bool.not_false, forall_const, eq_self, decide_true, decide_false, a1]
    refine loop_rule (fun s => ∃ (a f : Nat) (line : Int) (out : List Tk) (k : Cap) (σ1 : St), a ≤ T.size ∧ T.size - a ≤ f ∧ 1 ≤ line ∧ line ≤ a + 1 ∧ out.length ≤ a ∧ Gr σ σ1 out.length 4 k ∧ scanM T.size (bytesOf T) [] 1 = scanM f ((bytesOf T).drop a) out line ∧ s = ⟨122, [(0, vs T), (5, .list k 4 (out.map pvTk)), (6, vi line), (7, vi a)], [], σ1⟩) (fun s => (T.size - ival (get s.env 7)).toNat) ?_ ?_
    · exact ⟨_, less_env rfl (less_env rfl (less_env rfl (less_env rfl (less_nil (.refl _))))), 0, T.size, 1, [], .full, σ, Nat.zero_le _, by omega, by omega, by omega, Nat.le_refl _, Gr.refl _ _, rfl, rfl⟩
    · rintro s ⟨a, f, line, out, k, σ1, ha, hf, l1, l2, ho, g, hm, rfl⟩ R hR
      by_cases hlt : a < T.size
      · have b1 : ((a : Int) < (T.size : Int)) = True := eq_true (by omega)
        have b2 : (0 ≤ (a : Int)) = True := eq_true (by omega)
        have hd := bytes_drop T a hlt
        obtain ⟨f, rfl⟩ : ∃ g, f = g + 1 := ⟨f - 1, by omega⟩
        generalize hq : byt T a = c at *
        by_cases c10 : c = 10
        · subst c10
          rw [hd, scan_10] at hm
          simp (config := { maxSteps := 4000000 }) (disch := omega) only [pvK, pvB, sSk2D_23, reduceIte, Nat.reduceEqDiff, Nat.reduceAdd, Nat.reduceSub, Nat.reduceMul, Nat.reduceLT, Nat.reduceLeDiff, Nat.reduceBEq, reduceCtorEq, Int.reduceAdd, Int.reduceSub, Int.reduceMul, Int.reduceLT, Int.reduceLE, Int.reduceEq, Int.reduceToNat, Int.reduceNeg, Nat.reduceBNe, Int.reduceBEq, Int.reduceBNe, Int.reduceGT, Int.reduceGE, Int.reduceTMod, Bool.false_eq_true, Bool.not_true, Bool.not_false, forall_const, eq_self, decide_true, decide_false, b1, b2, hq]
          refine hR _ _ (less_env rfl (less_env rfl (less_env rfl (less_env rfl (less_nil (.refl _)))))) ⟨a + 1, f, line + 1, out, k, σ1, by omega, by omega, by omega, by omega, by omega, g, hm, rfl⟩ ?_
          show ((T.size : Int) - ((a + 1 : Nat) : Int)).toNat < ((T.size : Int) - (a : Int)).toNat
          omega
        · have n10 : (c == 10) = false := by simp [c10]
          by_cases csp : c = 32 ∨ c = 9
          · rw [hd, scan_sp _ _ _ _ _ c10 csp] at hm
            rcases csp with rfl | rfl
            all_goals
              simp (config := { maxSteps := 4000000 }) (disch := omega) only [pvK, pvB, sSk2D_23, reduceIte, Nat.reduceEqDiff, Nat.reduceAdd, Nat.reduceSub, Nat.reduceMul, Nat.reduceLT, Nat.reduceLeDiff, Nat.reduceBEq, reduceCtorEq, Int.reduceAdd, Int.reduceSub, Int.reduceMul, Int.reduceLT, Int.reduceLE, Int.reduceEq, Int.reduceToNat, Int.reduceNeg, Nat.reduceBNe, Int.reduceBEq, Int.reduceBNe, Int.reduceGT, Int.reduceGE, Int.reduceTMod, Bool.false_eq_true, Bool.not_true, Bool.not_false, forall_const, eq_self, decide_true, decide_false, b1, b2, hq]
              refine hR _ _ (less_env rfl (less_env rfl (less_env rfl (less_env rfl (less_nil (.refl _)))))) ⟨a + 1, f, line, out, k, σ1, by omega, by omega, by omega, by omega, by omega, g, hm, rfl⟩ ?_
              show ((T.size : Int) - ((a + 1 : Nat) : Int)).toNat < ((T.size : Int) - (a : Int)).toNat
              omega
          · have n32 : (c == 32) = false := by simp; omega
            have n9 : (c == 9) = false := by simp; omega
            simp (config := { maxSteps := 4000000 }) (disch := omega) only [pvK, pvB, sSk2D_23, reduceIte, Nat.reduceEqDiff, Nat.reduceAdd, Nat.reduceSub, Nat.reduceMul, Nat.reduceLT, Nat.reduceLeDiff, Nat.reduceBEq, reduceCtorEq, Int.reduceAdd, Int.reduceSub, Int.reduceMul, Int.reduceLT, Int.reduceLE, Int.reduceEq, Int.reduceToNat, Int.reduceNeg, Nat.reduceBNe, Int.reduceBEq, Int.reduceBNe, Int.reduceGT, Int.reduceGE, Int.reduceTMod, Bool.false_eq_true, Bool.not_true, Bool.not_false, forall_const, eq_self, decide_true, decide_false, b1, b2, hq, n10, n32, n9]
            refine letter_c c σ1 _ ?_
            cases hL : isL c with
            | true =>
              have hn := next_L c ((bytesOf T).drop (a + 1)) hL
              rw [← hd] at hn
              simp (config := { maxSteps := 4000000 }) (disch := omega) only [pvK, pvB, sSk2D_23, reduceIte, Nat.reduceEqDiff, Nat.reduceAdd, Nat.reduceSub, Nat.reduceMul, Nat.reduceLT, Nat.reduceLeDiff, Nat.reduceBEq, reduceCtorEq, Int.reduceAdd, Int.reduceSub, Int.reduceMul, Int.reduceLT, Int.reduceLE, Int.reduceEq, Int.reduceToNat, Int.reduceNeg, Nat.reduceBNe, Int.reduceBEq, Int.reduceBNe, Int.reduceGT, Int.reduceGE, Int.reduceTMod, Bool.false_eq_true, Bool.not_true, Bool.not_false, forall_const, eq_self, decide_true, decide_false, b1, b2, hq]
              refine loop_rule (fun s => ∃ e : Nat, a ≤ e ∧ e ≤ T.size ∧ Tw isA (bytesOf T) a e ∧ s = ⟨122, [(0, vs T), (5, .list k 4 (out.map pvTk)), (6, vi line), (7, vi a), (9, vi e)], [], σ1⟩) (fun s => (T.size - ival (get s.env 9)).toNat) ?_ ?_
              · exact ⟨_, less_env rfl (less_env rfl (less_env rfl (less_env rfl (less_env rfl (less_nil (.refl _)))))), a, Nat.le_refl _, by omega, Tw.init _ _ _, rfl⟩
              · rintro s ⟨e, he1, he2, tw, rfl⟩ R2 hR2
                by_cases hle : e < T.size
                · have d1 : ((e : Int) < (T.size : Int)) = True := eq_true (by omega)
                  have d2 : (0 ≤ (e : Int)) = True := eq_true (by omega)
                  have hde := bytes_drop T e hle
                  generalize hqe : byt T e = b at *
                  simp (config := { maxSteps := 4000000 }) (disch := omega) only [pvK, pvB, sSk2D_23, reduceIte, Nat.reduceEqDiff, Nat.reduceAdd, Nat.reduceSub, Nat.reduceMul, Nat.reduceLT, Nat.reduceLeDiff, Nat.reduceBEq, reduceCtorEq, Int.reduceAdd, Int.reduceSub, Int.reduceMul, Int.reduceLT, Int.reduceLE, Int.reduceEq, Int.reduceToNat, Int.reduceNeg, Nat.reduceBNe, Int.reduceBEq, Int.reduceBNe, Int.reduceGT, Int.reduceGE, Int.reduceTMod, Bool.false_eq_true, Bool.not_true, Bool.not_false, forall_const, eq_self, decide_true, decide_false, d1, d2, hqe]
                  refine letter_c b σ1 _ ?_
                  cases hLb : isL b with
                  | true =>
                    simp (config := { maxSteps := 4000000 }) (disch := omega) only [pvK, pvB, sSk2D_23, reduceIte, Nat.reduceEqDiff, Nat.reduceAdd, Nat.reduceSub, Nat.reduceMul, Nat.reduceLT, Nat.reduceLeDiff, Nat.reduceBEq, reduceCtorEq, Int.reduceAdd, Int.reduceSub, Int.reduceMul, Int.reduceLT, Int.reduceLE, Int.reduceEq, Int.reduceToNat, Int.reduceNeg, Nat.reduceBNe, Int.reduceBEq, Int.reduceBNe, Int.reduceGT, Int.reduceGE, Int.reduceTMod, Bool.false_eq_true, Bool.not_true, Bool.not_false, forall_const, eq_self, decide_true, decide_false, d1, d2, hqe]
                    refine hR2 _ _ (less_env rfl (less_env rfl (less_env rfl (less_env rfl (less_env rfl (less_nil (.refl _))))))) ⟨e + 1, by omega, by omega, tw.step he1 hde (by simp [isA, hLb]), rfl⟩ ?_
                    show ((T.size : Int) - ((e + 1 : Nat) : Int)).toNat < ((T.size : Int) - (e : Int)).toNat
                    omega
                  | false =>
                    simp (config := { maxSteps := 4000000 }) (disch := omega) only [pvK, pvB, sSk2D_23, reduceIte, Nat.reduceEqDiff, Nat.reduceAdd, Nat.reduceSub, Nat.reduceMul, Nat.reduceLT, Nat.reduceLeDiff, Nat.reduceBEq, reduceCtorEq, Int.reduceAdd, Int.reduceSub, Int.reduceMul, Int.reduceLT, Int.reduceLE, Int.reduceEq, Int.reduceToNat, Int.reduceNeg, Nat.reduceBNe, Int.reduceBEq, Int.reduceBNe, Int.reduceGT, Int.reduceGE, Int.reduceTMod, Bool.false_eq_true, Bool.not_true, Bool.not_false, forall_const, eq_self, decide_true, decide_false, d1, d2, hqe]
                    refine digit_c b σ1 _ ?_
                    cases hDb : isD b with
                    | true =>
                      simp (config := { maxSteps := 4000000 }) (disch := omega) only [pvK, pvB, sSk2D_23, reduceIte, Nat.reduceEqDiff, Nat.reduceAdd, Nat.reduceSub, Nat.reduceMul, Nat.reduceLT, Nat.reduceLeDiff, Nat.reduceBEq, reduceCtorEq, Int.reduceAdd, Int.reduceSub, Int.reduceMul, Int.reduceLT, Int.reduceLE, Int.reduceEq, Int.reduceToNat, Int.reduceNeg, Nat.reduceBNe, Int.reduceBEq, Int.reduceBNe, Int.reduceGT, Int.reduceGE, Int.reduceTMod, Bool.false_eq_true, Bool.not_true, Bool.not_false, forall_const, eq_self, decide_true, decide_false, d1, d2, hqe]
                      refine hR2 _ _ (less_env rfl (less_env rfl (less_env rfl (less_env rfl (less_env rfl (less_nil (.refl _))))))) ⟨e + 1, by omega, by omega, tw.step he1 hde (by simp [isA, hDb]), rfl⟩ ?_
                      show ((T.size : Int) - ((e + 1 : Nat) : Int)).toNat < ((T.size : Int) - (e : Int)).toNat
                      omega
                    | false =>
                      simp (config := { maxSteps := 4000000 }) (disch := omega) only [pvK, pvB, sSk2D_23, reduceIte, Nat.reduceEqDiff, Nat.reduceAdd, Nat.reduceSub, Nat.reduceMul, Nat.reduceLT, Nat.reduceLeDiff, Nat.reduceBEq, reduceCtorEq, Int.reduceAdd, Int.reduceSub, Int.reduceMul, Int.reduceLT, Int.reduceLE, Int.reduceEq, Int.reduceToNat, Int.reduceNeg, Nat.reduceBNe, Int.reduceBEq, Int.reduceBNe, Int.reduceGT, Int.reduceGE, Int.reduceTMod, Bool.false_eq_true, Bool.not_true, Bool.not_false, forall_const, eq_self, decide_true, decide_false, d1, d2, hqe]
                      have hst := tw.stop hde (by simp [isA, hLb, hDb])
                      have hae : a < e := by
                        rcases Nat.lt_or_ge a e with q | q
                        · exact q
                        · have : e = a := by omega
                          subst this
                          rw [hq] at hqe; subst hqe; rw [hL] at hLb; cases hLb
                      rw [hst, take_len T a e he2] at hn
                      have f1 : ((e : Int) ≤ (T.size : Int)) = True := eq_true (by omega)
                      have f2 : ((a : Int) ≤ (e : Int)) = True := eq_true (by omega)
                      have f3 : (0 ≤ (e : Int)) = True := eq_true (by omega)
                      refine kcond_e (fun h => ?_) (fun h => ?_)
                      · have hg : (e : Int) - (a : Int) > 12 := of_decide_eq_true h
                        simp (config := { maxSteps := 4000000 }) (disch := omega) only [pvK, pvB, sSk2D_23, reduceIte, Nat.reduceEqDiff, Nat.reduceAdd, Nat.reduceSub, Nat.reduceMul, Nat.reduceLT, Nat.reduceLeDiff, Nat.reduceBEq, reduceCtorEq, Int.reduceAdd, Int.reduceSub, Int.reduceMul, Int.reduceLT, Int.reduceLE, Int.reduceEq, Int.reduceToNat, Int.reduceNeg, Nat.reduceBNe, Int.reduceBEq, Int.reduceBNe, Int.reduceGT, Int.reduceGE, Int.reduceTMod, Bool.false_eq_true, Bool.not_true, Bool.not_false, forall_const, eq_self, decide_true, decide_false]
                        refine ⟨σ, sub_gr' g, ?_⟩
                        rw [hd, scan_n f c _ out line c10 csp (by rw [← hd, hn, if_pos (by omega)])] at hm
                        rw [hm] at hK
                        exact hK
                      · have hg : ¬ (e : Int) - (a : Int) > 12 := of_decide_eq_false h
                        rw [hd, scan_s f c _ out line c10 csp (by rw [← hd, hn, if_neg (by omega)]), ← hd, List.drop_drop, ext_bytes, show a + (e - a) = e by omega] at hm
                        simp (config := { maxSteps := 4000000 }) (disch := omega) only [pvK, pvB, sSk2D_23, reduceIte, Nat.reduceEqDiff, Nat.reduceAdd, Nat.reduceSub, Nat.reduceMul, Nat.reduceLT, Nat.reduceLeDiff, Nat.reduceBEq, reduceCtorEq, Int.reduceAdd, Int.reduceSub, Int.reduceMul, Int.reduceLT, Int.reduceLE, Int.reduceEq, Int.reduceToNat, Int.reduceNeg, Nat.reduceBNe, Int.reduceBEq, Int.reduceBNe, Int.reduceGT, Int.reduceGE, Int.reduceTMod, Bool.false_eq_true, Bool.not_true, Bool.not_false, forall_const, eq_self, decide_true, decide_false, b2, f1, f2, f3]
                        refine ⟨by omega, by omega, by simpa using g.owns, fun k1 σ2 ap => ?_⟩
                        have m2 := g.app (m := (out ++ [(⟨1, 0, line, T.extract a e⟩ : Tk)]).length) (by simpa using ap)
                        refine hR _ _ ?_ ⟨e, f, line, out ++ [⟨1, 0, line, T.extract a e⟩], k1, σ2, by omega, by omega, by omega, by omega, by simp only [List.length_append, List.length_cons, List.length_nil]; omega, m2, hm, rfl⟩ ?_
                        · exact less_env rfl (less_env (by show PV.list _ _ _ = PV.list _ _ _; simp only [List.map_append, List.map_cons, List.map_nil, pvTk, vi, vs]; rfl) (less_env rfl (less_env rfl (less_nil (.refl _)))))
                        · show ((T.size : Int) - ((e : Nat) : Int)).toNat < ((T.size : Int) - (a : Int)).toNat
                          omega
                · have d1 : ((e : Int) < (T.size : Int)) = False := eq_false (by omega)
                  simp (config := { maxSteps := 4000000 }) (disch := omega) only [pvK, pvB, sSk2D_23, reduceIte, Nat.reduceEqDiff, Nat.reduceAdd, Nat.reduceSub, Nat.reduceMul, Nat.reduceLT, Nat.reduceLeDiff, Nat.reduceBEq, reduceCtorEq, Int.reduceAdd, Int.reduceSub, Int.reduceMul, Int.reduceLT, Int.reduceLE, Int.reduceEq, Int.reduceToNat, Int.reduceNeg, Nat.reduceBNe, Int.reduceBEq, Int.reduceBNe, Int.reduceGT, Int.reduceGE, Int.reduceTMod, Bool.false_eq_true, Bool.not_true, Bool.not_false, forall_const, eq_self, decide_true, decide_false, d1]
                  have hst := tw.stop_nil (List.drop_eq_nil_of_le (by rw [bytesOf_length]; omega))
                  have hae : a < e := by
                    rcases Nat.lt_or_ge a e with q | q
                    · exact q
                    · have : e = a := by omega
                      subst this
                      omega
                  rw [hst, take_len T a e he2] at hn
                  have f1 : ((e : Int) ≤ (T.size : Int)) = True := eq_true (by omega)
                  have f2 : ((a : Int) ≤ (e : Int)) = True := eq_true (by omega)
                  have f3 : (0 ≤ (e : Int)) = True := eq_true (by omega)
                  refine kcond_e (fun h => ?_) (fun h => ?_)
                  · have hg : (e : Int) - (a : Int) > 12 := of_decide_eq_true h
                    simp (config := { maxSteps := 4000000 }) (disch := omega) only [pvK, pvB, sSk2D_23, reduceIte, Nat.reduceEqDiff, Nat.reduceAdd, Nat.reduceSub, Nat.reduceMul, Nat.reduceLT, Nat.reduceLeDiff, Nat.reduceBEq, reduceCtorEq, Int.reduceAdd, Int.reduceSub, Int.reduceMul, Int.reduceLT, Int.reduceLE, Int.reduceEq, Int.reduceToNat, Int.reduceNeg, Nat.reduceBNe, Int.reduceBEq, Int.reduceBNe, Int.reduceGT, Int.reduceGE, Int.reduceTMod, Bool.false_eq_true, Bool.not_true, Bool.not_false, forall_const, eq_self, decide_true, decide_false]
                    refine ⟨σ, sub_gr' g, ?_⟩
                    rw [hd, scan_n f c _ out line c10 csp (by rw [← hd, hn, if_pos (by omega)])] at hm
                    rw [hm] at hK
                    exact hK
                  · have hg : ¬ (e : Int) - (a : Int) > 12 := of_decide_eq_false h
                    rw [hd, scan_s f c _ out line c10 csp (by rw [← hd, hn, if_neg (by omega)]), ← hd, List.drop_drop, ext_bytes, show a + (e - a) = e by omega] at hm
                    simp (config := { maxSteps := 4000000 }) (disch := omega) only [pvK, pvB, sSk2D_23, reduceIte, Nat.reduceEqDiff, Nat.reduceAdd, Nat.reduceSub, Nat.reduceMul, Nat.reduceLT, Nat.reduceLeDiff, Nat.reduceBEq, reduceCtorEq, Int.reduceAdd, Int.reduceSub, Int.reduceMul, Int.reduceLT, Int.reduceLE, Int.reduceEq, Int.reduceToNat, Int.reduceNeg, Nat.reduceBNe, Int.reduceBEq, Int.reduceBNe, Int.reduceGT, Int.reduceGE, Int.reduceTMod, Bool.false_eq_true, Bool.not_true, Bool.not_false, forall_const, eq_self, decide_true, decide_false, b2, f1, f2, f3]
                    refine ⟨by omega, by omega, by simpa using g.owns, fun k1 σ2 ap => ?_⟩
                    have m2 := g.app (m := (out ++ [(⟨1, 0, line, T.extract a e⟩ : Tk)]).length) (by simpa using ap)
                    refine hR _ _ ?_ ⟨e, f, line, out ++ [⟨1, 0, line, T.extract a e⟩], k1, σ2, by omega, by omega, by omega, by omega, by simp only [List.length_append, List.length_cons, List.length_nil]; omega, m2, hm, rfl⟩ ?_
                    · exact less_env rfl (less_env (by show PV.list _ _ _ = PV.list _ _ _; simp only [List.map_append, List.map_cons, List.map_nil, pvTk, vi, vs]; rfl) (less_env rfl (less_env rfl (less_nil (.refl _)))))
                    · show ((T.size : Int) - ((e : Nat) : Int)).toNat < ((T.size : Int) - (a : Int)).toNat
                      omega
            | false =>
              simp (config := { maxSteps := 4000000 }) (disch := omega) only [pvK, pvB, sSk2D_23, reduceIte, Nat.reduceEqDiff, Nat.reduceAdd, Nat.reduceSub, Nat.reduceMul, Nat.reduceLT, Nat.reduceLeDiff, Nat.reduceBEq, reduceCtorEq, Int.reduceAdd, Int.reduceSub, Int.reduceMul, Int.reduceLT, Int.reduceLE, Int.reduceEq, Int.reduceToNat, Int.reduceNeg, Nat.reduceBNe, Int.reduceBEq, Int.reduceBNe, Int.reduceGT, Int.reduceGE, Int.reduceTMod, Bool.false_eq_true, Bool.not_true, Bool.not_false, forall_const, eq_self, decide_true, decide_false, b1, b2, hq]
              refine digit_c c σ1 _ ?_
              cases hD : isD c with
              | true =>
                have hn := next_D c ((bytesOf T).drop (a + 1)) hL hD
                rw [← hd] at hn
                simp (config := { maxSteps := 4000000 }) (disch := omega) only [pvK, pvB, sSk2D_23, reduceIte, Nat.reduceEqDiff, Nat.reduceAdd, Nat.reduceSub, Nat.reduceMul, Nat.reduceLT, Nat.reduceLeDiff, Nat.reduceBEq, reduceCtorEq, Int.reduceAdd, Int.reduceSub, Int.reduceMul, Int.reduceLT, Int.reduceLE, Int.reduceEq, Int.reduceToNat, Int.reduceNeg, Nat.reduceBNe, Int.reduceBEq, Int.reduceBNe, Int.reduceGT, Int.reduceGE, Int.reduceTMod, Bool.false_eq_true, Bool.not_true, Bool.not_false, forall_const, eq_self, decide_true, decide_false, b1, b2, hq]
                refine loop_rule (fun s => ∃ e : Nat, a ≤ e ∧ e ≤ T.size ∧ Tw isD (bytesOf T) a e ∧ s = ⟨122, [(0, vs T), (5, .list k 4 (out.map pvTk)), (6, vi line), (7, vi a), (9, vi e)], [], σ1⟩) (fun s => (T.size - ival (get s.env 9)).toNat) ?_ ?_
                · exact ⟨_, less_env rfl (less_env rfl (less_env rfl (less_env rfl (less_env rfl (less_nil (.refl _)))))), a, Nat.le_refl _, by omega, Tw.init _ _ _, rfl⟩
                · rintro s ⟨e, he1, he2, tw, rfl⟩ R2 hR2
                  by_cases hle : e < T.size
                  · have d1 : ((e : Int) < (T.size : Int)) = True := eq_true (by omega)
                    have d2 : (0 ≤ (e : Int)) = True := eq_true (by omega)
                    have hde := bytes_drop T e hle
                    generalize hqe : byt T e = b at *
                    simp (config := { maxSteps := 4000000 }) (disch := omega) only [pvK, pvB, sSk2D_23, reduceIte, Nat.reduceEqDiff, Nat.reduceAdd, Nat.reduceSub, Nat.reduceMul, Nat.reduceLT, Nat.reduceLeDiff, Nat.reduceBEq, reduceCtorEq, Int.reduceAdd, Int.reduceSub, Int.reduceMul, Int.reduceLT, Int.reduceLE, Int.reduceEq, Int.reduceToNat, Int.reduceNeg, Nat.reduceBNe, Int.reduceBEq, Int.reduceBNe, Int.reduceGT, Int.reduceGE, Int.reduceTMod, Bool.false_eq_true, Bool.not_true, Bool.not_false, forall_const, eq_self, decide_true, decide_false, d1, d2, hqe]
                    refine digit_c b σ1 _ ?_
                    cases hDb : isD b with
                    | true =>
                      simp (config := { maxSteps := 4000000 }) (disch := omega) only [pvK, pvB, sSk2D_23, reduceIte, Nat.reduceEqDiff, Nat.reduceAdd, Nat.reduceSub, Nat.reduceMul, Nat.reduceLT, Nat.reduceLeDiff, Nat.reduceBEq, reduceCtorEq, Int.reduceAdd, Int.reduceSub, Int.reduceMul, Int.reduceLT, Int.reduceLE, Int.reduceEq, Int.reduceToNat, Int.reduceNeg, Nat.reduceBNe, Int.reduceBEq, Int.reduceBNe, Int.reduceGT, Int.reduceGE, Int.reduceTMod, Bool.false_eq_true, Bool.not_true, Bool.not_false, forall_const, eq_self, decide_true, decide_false, d1, d2, hqe]
                      refine hR2 _ _ (less_env rfl (less_env rfl (less_env rfl (less_env rfl (less_env rfl (less_nil (.refl _))))))) ⟨e + 1, by omega, by omega, tw.step he1 hde hDb, rfl⟩ ?_
                      show ((T.size : Int) - ((e + 1 : Nat) : Int)).toNat < ((T.size : Int) - (e : Int)).toNat
                      omega
                    | false =>
                      simp (config := { maxSteps := 4000000 }) (disch := omega) only [pvK, pvB, sSk2D_23, reduceIte, Nat.reduceEqDiff, Nat.reduceAdd, Nat.reduceSub, Nat.reduceMul, Nat.reduceLT, Nat.reduceLeDiff, Nat.reduceBEq, reduceCtorEq, Int.reduceAdd, Int.reduceSub, Int.reduceMul, Int.reduceLT, Int.reduceLE, Int.reduceEq, Int.reduceToNat, Int.reduceNeg, Nat.reduceBNe, Int.reduceBEq, Int.reduceBNe, Int.reduceGT, Int.reduceGE, Int.reduceTMod, Bool.false_eq_true, Bool.not_true, Bool.not_false, forall_const, eq_self, decide_true, decide_false, d1, d2, hqe]
                      have hst := tw.stop hde hDb
                      have hae : a < e := by
                        rcases Nat.lt_or_ge a e with q | q
                        · exact q
                        · have : e = a := by omega
                          subst this
                          rw [hq] at hqe; subst hqe; rw [hD] at hDb; cases hDb
                      rw [hst, take_len T a e he2] at hn
                      have f1 : ((e : Int) ≤ (T.size : Int)) = True := eq_true (by omega)
                      have f2 : ((a : Int) ≤ (e : Int)) = True := eq_true (by omega)
                      have f3 : (0 ≤ (e : Int)) = True := eq_true (by omega)
                      simp (config := { maxSteps := 4000000 }) (disch := omega) only [pvK, pvB, sSk2D_23, reduceIte, Nat.reduceEqDiff, Nat.reduceAdd, Nat.reduceSub, Nat.reduceMul, Nat.reduceLT, Nat.reduceLeDiff, Nat.reduceBEq, reduceCtorEq, Int.reduceAdd, Int.reduceSub, Int.reduceMul, Int.reduceLT, Int.reduceLE, Int.reduceEq, Int.reduceToNat, Int.reduceNeg, Nat.reduceBNe, Int.reduceBEq, Int.reduceBNe, Int.reduceGT, Int.reduceGE, Int.reduceTMod, Bool.false_eq_true, Bool.not_true, Bool.not_false, forall_const, eq_self, decide_true, decide_false, b2, f1, f2, f3]
                      refine value_c (T.extract a e) (fun x hx => ?_) (by simp only [ByteArray.size_extract]; omega) σ1 _ ?_
                      · rw [bytes_ext, ← hst] at hx
                        exact mem_takeWhile hx
                      · rw [bytes_ext]
                        have nn := numv_nonneg (((bytesOf T).drop a).take (e - a)) 0 (by omega) (fun x hx => by rw [← hst] at hx; exact mem_takeWhile hx)
                        generalize numv (((bytesOf T).drop a).take (e - a)) 0 = v at *
                        by_cases hv : 2147483647 < v
                        · rw [if_pos hv]
                          simp (config := { maxSteps := 4000000 }) (disch := omega) only [pvK, pvB, sSk2D_23, reduceIte, Nat.reduceEqDiff, Nat.reduceAdd, Nat.reduceSub, Nat.reduceMul, Nat.reduceLT, Nat.reduceLeDiff, Nat.reduceBEq, reduceCtorEq, Int.reduceAdd, Int.reduceSub, Int.reduceMul, Int.reduceLT, Int.reduceLE, Int.reduceEq, Int.reduceToNat, Int.reduceNeg, Nat.reduceBNe, Int.reduceBEq, Int.reduceBNe, Int.reduceGT, Int.reduceGE, Int.reduceTMod, Bool.false_eq_true, Bool.not_true, Bool.not_false, forall_const, eq_self, decide_true, decide_false]
                          refine ⟨σ, sub_gr' g, ?_⟩
                          rw [hd, scan_n f c _ out line c10 csp (by rw [← hd, hn, if_pos hv])] at hm
                          rw [hm] at hK
                          exact hK
                        · rw [if_neg hv]
                          have v0 : (v < 0) = False := eq_false (by omega)
                          rw [hd, scan_s f c _ out line c10 csp (by rw [← hd, hn, if_neg hv]), ← hd, List.drop_drop, show a + (e - a) = e by omega] at hm
                          simp (config := { maxSteps := 4000000 }) (disch := omega) only [pvK, pvB, sSk2D_23, reduceIte, Nat.reduceEqDiff, Nat.reduceAdd, Nat.reduceSub, Nat.reduceMul, Nat.reduceLT, Nat.reduceLeDiff, Nat.reduceBEq, reduceCtorEq, Int.reduceAdd, Int.reduceSub, Int.reduceMul, Int.reduceLT, Int.reduceLE, Int.reduceEq, Int.reduceToNat, Int.reduceNeg, Nat.reduceBNe, Int.reduceBEq, Int.reduceBNe, Int.reduceGT, Int.reduceGE, Int.reduceTMod, Bool.false_eq_true, Bool.not_true, Bool.not_false, forall_const, eq_self, decide_true, decide_false, v0]
                          refine ⟨by omega, by omega, by simpa using g.owns, fun k1 σ2 ap => ?_⟩
                          have m2 := g.app (m := (out ++ [(⟨2, v, line, ofBytes []⟩ : Tk)]).length) (by simpa using ap)
                          refine hR _ _ ?_ ⟨e, f, line, out ++ [⟨2, v, line, ofBytes []⟩], k1, σ2, by omega, by omega, by omega, by omega, by simp only [List.length_append, List.length_cons, List.length_nil]; omega, m2, hm, rfl⟩ ?_
                          · exact less_env rfl (less_env (by show PV.list _ _ _ = PV.list _ _ _; simp only [List.map_append, List.map_cons, List.map_nil, pvTk, vi, vs]; rfl) (less_env rfl (less_env rfl (less_nil (.refl _)))))
                          · show ((T.size : Int) - ((e : Nat) : Int)).toNat < ((T.size : Int) - (a : Int)).toNat
                            omega
                  · have d1 : ((e : Int) < (T.size : Int)) = False := eq_false (by omega)
                    simp (config := { maxSteps := 4000000 }) (disch := omega) only [pvK, pvB, sSk2D_23, reduceIte, Nat.reduceEqDiff, Nat.reduceAdd, Nat.reduceSub, Nat.reduceMul, Nat.reduceLT, Nat.reduceLeDiff, Nat.reduceBEq, reduceCtorEq, Int.reduceAdd, Int.reduceSub, Int.reduceMul, Int.reduceLT, Int.reduceLE, Int.reduceEq, Int.reduceToNat, Int.reduceNeg, Nat.reduceBNe, Int.reduceBEq, Int.reduceBNe, Int.reduceGT, Int.reduceGE, Int.reduceTMod, Bool.false_eq_true, Bool.not_true, Bool.not_false, forall_const, eq_self, decide_true, decide_false, d1]
                    have hst := tw.stop_nil (List.drop_eq_nil_of_le (by rw [bytesOf_length]; omega))
                    have hae : a < e := by
                      rcases Nat.lt_or_ge a e with q | q
                      · exact q
                      · have : e = a := by omega
                        subst this
                        omega
                    rw [hst, take_len T a e he2] at hn
                    have f1 : ((e : Int) ≤ (T.size : Int)) = True := eq_true (by omega)
                    have f2 : ((a : Int) ≤ (e : Int)) = True := eq_true (by omega)
                    have f3 : (0 ≤ (e : Int)) = True := eq_true (by omega)
                    simp (config := { maxSteps := 4000000 }) (disch := omega) only [pvK, pvB, sSk2D_23, reduceIte, Nat.reduceEqDiff, Nat.reduceAdd, Nat.reduceSub, Nat.reduceMul, Nat.reduceLT, Nat.reduceLeDiff, Nat.reduceBEq, reduceCtorEq, Int.reduceAdd, Int.reduceSub, Int.reduceMul, Int.reduceLT, Int.reduceLE, Int.reduceEq, Int.reduceToNat, Int.reduceNeg, Nat.reduceBNe, Int.reduceBEq, Int.reduceBNe, Int.reduceGT, Int.reduceGE, Int.reduceTMod, Bool.false_eq_true, Bool.not_true, Bool.not_false, forall_const, eq_self, decide_true, decide_false, b2, f1, f2, f3]
                    refine value_c (T.extract a e) (fun x hx => ?_) (by simp only [ByteArray.size_extract]; omega) σ1 _ ?_
                    · rw [bytes_ext, ← hst] at hx
                      exact mem_takeWhile hx
                    · rw [bytes_ext]
                      have nn := numv_nonneg (((bytesOf T).drop a).take (e - a)) 0 (by omega) (fun x hx => by rw [← hst] at hx; exact mem_takeWhile hx)
                      generalize numv (((bytesOf T).drop a).take (e - a)) 0 = v at *
                      by_cases hv : 2147483647 < v
                      · rw [if_pos hv]
                        simp (config := { maxSteps := 4000000 }) (disch := omega) only [pvK, pvB, sSk2D_23, reduceIte, Nat.reduceEqDiff, Nat.reduceAdd, Nat.reduceSub, Nat.reduceMul, Nat.reduceLT, Nat.reduceLeDiff, Nat.reduceBEq, reduceCtorEq, Int.reduceAdd, Int.reduceSub, Int.reduceMul, Int.reduceLT, Int.reduceLE, Int.reduceEq, Int.reduceToNat, Int.reduceNeg, Nat.reduceBNe, Int.reduceBEq, Int.reduceBNe, Int.reduceGT, Int.reduceGE, Int.reduceTMod, Bool.false_eq_true, Bool.not_true, Bool.not_false, forall_const, eq_self, decide_true, decide_false]
                        refine ⟨σ, sub_gr' g, ?_⟩
                        rw [hd, scan_n f c _ out line c10 csp (by rw [← hd, hn, if_pos hv])] at hm
                        rw [hm] at hK
                        exact hK
                      · rw [if_neg hv]
                        have v0 : (v < 0) = False := eq_false (by omega)
                        rw [hd, scan_s f c _ out line c10 csp (by rw [← hd, hn, if_neg hv]), ← hd, List.drop_drop, show a + (e - a) = e by omega] at hm
                        simp (config := { maxSteps := 4000000 }) (disch := omega) only [pvK, pvB, sSk2D_23, reduceIte, Nat.reduceEqDiff, Nat.reduceAdd, Nat.reduceSub, Nat.reduceMul, Nat.reduceLT, Nat.reduceLeDiff, Nat.reduceBEq, reduceCtorEq, Int.reduceAdd, Int.reduceSub, Int.reduceMul, Int.reduceLT, Int.reduceLE, Int.reduceEq, Int.reduceToNat, Int.reduceNeg, Nat.reduceBNe, Int.reduceBEq, Int.reduceBNe, Int.reduceGT, Int.reduceGE, Int.reduceTMod, Bool.false_eq_true, Bool.not_true, Bool.not_false, forall_const, eq_self, decide_true, decide_false, v0]
                        refine ⟨by omega, by omega, by simpa using g.owns, fun k1 σ2 ap => ?_⟩
                        have m2 := g.app (m := (out ++ [(⟨2, v, line, ofBytes []⟩ : Tk)]).length) (by simpa using ap)
                        refine hR _ _ ?_ ⟨e, f, line, out ++ [⟨2, v, line, ofBytes []⟩], k1, σ2, by omega, by omega, by omega, by omega, by simp only [List.length_append, List.length_cons, List.length_nil]; omega, m2, hm, rfl⟩ ?_
                        · exact less_env rfl (less_env (by show PV.list _ _ _ = PV.list _ _ _; simp only [List.map_append, List.map_cons, List.map_nil, pvTk, vi, vs]; rfl) (less_env rfl (less_env rfl (less_nil (.refl _)))))
                        · show ((T.size : Int) - ((e : Nat) : Int)).toNat < ((T.size : Int) - (a : Int)).toNat
                          omega
              | false =>
                have hn := next_S c ((bytesOf T).drop (a + 1)) hL hD
                rw [← hd] at hn
                have hsm := signM_le ((bytesOf T).drop a)
                have hx := ext_all T a
                have f1 : ((a : Int) ≤ (T.size : Int)) = True := eq_true (by omega)
                simp (config := { maxSteps := 4000000 }) (disch := omega) only [pvK, pvB, sSk2D_23, reduceIte, Nat.reduceEqDiff, Nat.reduceAdd, Nat.reduceSub, Nat.reduceMul, Nat.reduceLT, Nat.reduceLeDiff, Nat.reduceBEq, reduceCtorEq, Int.reduceAdd, Int.reduceSub, Int.reduceMul, Int.reduceLT, Int.reduceLE, Int.reduceEq, Int.reduceToNat, Int.reduceNeg, Nat.reduceBNe, Int.reduceBEq, Int.reduceBNe, Int.reduceGT, Int.reduceGE, Int.reduceTMod, Bool.false_eq_true, Bool.not_true, Bool.not_false, forall_const, eq_self, decide_true, decide_false, b1, b2, hq, f1]
                refine sign_c (T.extract a T.size) (by simp only [ByteArray.size_extract]; omega) σ1 _ ?_
                rw [hx]
                have hsz : (ofBytes (((bytesOf T).drop a).take (signM ((bytesOf T).drop a)))).size = signM ((bytesOf T).drop a) := by rw [ofBytes_size, List.length_take]; omega
                have hlen : signM ((bytesOf T).drop a) ≤ T.size - a := by have := hsm.1; rw [List.length_drop, bytesOf_length] at this; exact this
                generalize hwv : ofBytes (((bytesOf T).drop a).take (signM ((bytesOf T).drop a))) = w at *
                generalize signM ((bytesOf T).drop a) = m at *
                by_cases hw0 : m = 0
                · have e0 : (ByteArray.toList w == ByteArray.toList ⟨#[]⟩) = true := by
                    have : w = ⟨#[]⟩ := by rw [← hwv, hw0, List.take_zero]; decide
                    rw [this]; exact beq_self_eq_true _
                  simp (config := { maxSteps := 4000000 }) (disch := omega) only [pvK, pvB, sSk2D_23, reduceIte, Nat.reduceEqDiff, Nat.reduceAdd, Nat.reduceSub, Nat.reduceMul, Nat.reduceLT, Nat.reduceLeDiff, Nat.reduceBEq, reduceCtorEq, Int.reduceAdd, Int.reduceSub, Int.reduceMul, Int.reduceLT, Int.reduceLE, Int.reduceEq, Int.reduceToNat, Int.reduceNeg, Nat.reduceBNe, Int.reduceBEq, Int.reduceBNe, Int.reduceGT, Int.reduceGE, Int.reduceTMod, Bool.false_eq_true, Bool.not_true, Bool.not_false, forall_const, eq_self, decide_true, decide_false, e0]
                  refine ⟨σ, sub_gr' g, ?_⟩
                  rw [hd, scan_n f c _ out line c10 csp (by rw [← hd, hn, if_pos hw0])] at hm
                  rw [hm] at hK
                  exact hK
                · have e0 : (ByteArray.toList w == ByteArray.toList ⟨#[]⟩) = false := by
                    cases q : (ByteArray.toList w == ByteArray.toList ⟨#[]⟩) with
                    | false => rfl
                    | true =>
                      have := (eqB_iff w ⟨#[]⟩).1 q
                      rw [this] at hsz
                      exact absurd hsz.symm hw0
                  rw [hd, scan_s f c _ out line c10 csp (by rw [← hd, hn, if_neg hw0]), ← hd, List.drop_drop, hwv] at hm
                  have hsz2 : (w.size : Int) = (m : Int) := by rw [hsz]
                  simp (config := { maxSteps := 4000000 }) (disch := omega) only [pvK, pvB, sSk2D_23, reduceIte, Nat.reduceEqDiff, Nat.reduceAdd, Nat.reduceSub, Nat.reduceMul, Nat.reduceLT, Nat.reduceLeDiff, Nat.reduceBEq, reduceCtorEq, Int.reduceAdd, Int.reduceSub, Int.reduceMul, Int.reduceLT, Int.reduceLE, Int.reduceEq, Int.reduceToNat, Int.reduceNeg, Nat.reduceBNe, Int.reduceBEq, Int.reduceBNe, Int.reduceGT, Int.reduceGE, Int.reduceTMod, Bool.false_eq_true, Bool.not_true, Bool.not_false, forall_const, eq_self, decide_true, decide_false, e0, hsz2]
                  refine ⟨by omega, by omega, by simpa using g.owns, fun k1 σ2 ap => ?_⟩
                  have m2 := g.app (m := (out ++ [(⟨3, 0, line, w⟩ : Tk)]).length) (by simpa using ap)
                  refine hR _ _ ?_ ⟨a + m, f, line, out ++ [⟨3, 0, line, w⟩], k1, σ2, by omega, by omega, by omega, by omega, by simp only [List.length_append, List.length_cons, List.length_nil]; omega, m2, hm, rfl⟩ ?_
                  · exact less_env rfl (less_env (by show PV.list _ _ _ = PV.list _ _ _; simp only [List.map_append, List.map_cons, List.map_nil, pvTk, vi, vs]; rfl) (less_env rfl (less_env rfl (less_nil (.refl _)))))
                  · show ((T.size : Int) - ((a + m : Nat) : Int)).toNat < ((T.size : Int) - (a : Int)).toNat
                    omega
      · have b1 : ((a : Int) < (T.size : Int)) = False := eq_false (by omega)
        simp (config := { maxSteps := 4000000 }) (disch := omega) only [pvK, pvB, sSk2D_23, reduceIte, Nat.reduceEqDiff, Nat.reduceAdd, Nat.reduceSub, Nat.reduceMul, Nat.reduceLT, Nat.reduceLeDiff, Nat.reduceBEq, reduceCtorEq, Int.reduceAdd, Int.reduceSub, Int.reduceMul, Int.reduceLT, Int.reduceLE, Int.reduceEq, Int.reduceToNat, Int.reduceNeg, Nat.reduceBNe, Int.reduceBEq, Int.reduceBNe, Int.reduceGT, Int.reduceGE, Int.reduceTMod, Bool.false_eq_true, Bool.not_true, Bool.not_false, forall_const, eq_self, decide_true, decide_false, b1]
        refine ⟨σ, sub_gr' g, ?_⟩
        rw [scan_0 _ _ _ _ (List.drop_eq_nil_of_le (by rw [bytesOf_length]; omega))] at hm
        rw [hm] at hK
        simp only [pvScan] at hK
        simp only [Res.forget, forget, forgets, forgets_Tks, vi] at hK ⊢
        exact hK
end Go.Pv.D
-- Px2
namespace Go.Pv
open Go Go.RowKit
theorem sL_s (g : Nat → Option Tk) (f k a : Nat) : sL g (f + 1) k a = if 3 ≤ k then sF g f a else match sL g f (k + 1) a with
    | none => none
    | some (x, p) => some (sR g f k x p) := by rw [sL] <;> rfl
theorem sR_s (g : Nat → Option Tk) (f k : Nat) (x : AE) (p : Nat) : sR g (f + 1) k x p = if opAt k (g p) = 0 then (x, p) else
    match sL g f (k + 1) (p + 1) with
    | none => (x, p)
    | some (y, q) => if k = 0 then (binE (opAt k (g p)) x y, q) else sR g f k (binE (opAt k (g p)) x y) q := by rw [sR] <;> rfl
theorem pair_eta {α β : Type} (p : α × β) : (p.1, p.2) = p := rfl
/-- The longest beginning is an expression. -/
theorem s_sound (g : Nat → Option Tk) : ∀ f,
    (∀ k a e m, sL g f k a = some (e, m) → mL (lim g m) true f k a = .ok (e, m)) ∧
    (∀ k x a, 0 < f → a ≤ (sR g f k x a).2 ∧ mR (lim g (sR g f k x a).2) true f k x a = .ok (sR g f k x a)) ∧
    (∀ a e m, sF g f a = some (e, m) → mF (lim g m) true f a = .ok (e, m)) := by
  intro f
  induction f with
  | zero => refine ⟨?_, ?_, ?_⟩ <;> intros <;> simp_all [sL, sR, sF]
  | succ f ih =>
    obtain ⟨i1, i2, i3⟩ := ih
    have up : ∀ {k a x p n}, sL g f k a = some (x, p) → p ≤ n → Stop (lim g n p) k → mL (lim g n) true f k a = .ok (x, p) := by
      intro k a x p n hx hpn hs
      refine (m_agree (lim g p) (lim g n) true f).1 _ _ _ _ (i1 _ _ _ _ hx) (fun i _ q2 => ?_) hs
      rw [lim_lt q2, lim_lt (by omega)]
    refine ⟨?_, ?_, ?_⟩
    · intro k a e m h
      rw [sL_s] at h
      rw [mL_s]
      split at h
      · rename_i hk; rw [if_pos hk]; exact i3 _ _ _ h
      · rename_i hk
        rw [if_neg hk]
        split at h
        · cases h
        · rename_i x p hx
          have hf : 0 < f := by cases f with | zero => simp [sL] at hx | succ f => omega
          obtain ⟨r1, r2⟩ := i2 k x p hf
          simp only [Option.some.injEq] at h
          rw [h] at r1 r2
          have r1 : p ≤ m := r1
          have r2 : mR (lim g m) true f k x p = .ok (e, m) := r2
          rw [up hx r1, ]
          · exact r2
          · by_cases z : p < m
            · cases f with
              | zero => omega
              | succ f =>
                rw [mR_s] at r2
                split at r2
                · cases r2; omega
                · rename_i hop; exact Stop.of_op hop
            · rw [lim_ge (by omega)]; exact Stop.none _
    · intro k x a _
      have base : ∀ {r : AE × Nat}, r = (x, a) → (opAt k (lim g r.2 a) = 0 → a ≤ r.2 ∧ mR (lim g r.2) true (f + 1) k x a = .ok r) := by
        rintro r rfl h
        exact ⟨Nat.le_refl _, by rw [mR_s, if_pos h]⟩
      by_cases hop : opAt k (g a) = 0
      · have e : sR g (f + 1) k x a = (x, a) := by rw [sR_s, if_pos hop]
        exact base e (by rw [e, lim_ge (Nat.le_refl _)]; rfl)
      · cases hy : sL g f (k + 1) (a + 1) with
        | none =>
          have e : sR g (f + 1) k x a = (x, a) := by rw [sR_s, if_neg hop, hy]
          exact base e (by rw [e, lim_ge (Nat.le_refl _)]; rfl)
        | some yq =>
          obtain ⟨y, q⟩ := yq
          have hf : 0 < f := by cases f with | zero => simp [sL] at hy | succ f => omega
          have gy := (m_go _ _ f).1 _ _ _ _ (i1 _ _ _ _ hy)
          by_cases hk : k = 0
          · have e : sR g (f + 1) k x a = (binE (opAt k (g a)) x y, q) := by rw [sR_s, if_neg hop, hy]; simp only [if_pos hk]
            rw [e]
            refine ⟨by show a ≤ q; omega, ?_⟩
            show mR (lim g q) true (f + 1) k x a = _
            rw [mR_s, lim_lt (show a < q by omega), if_neg hop, up hy (Nat.le_refl _) (by rw [lim_ge (Nat.le_refl _)]; exact Stop.none _)]
            simp only [mDeep_free, if_pos hk]
          · have e : sR g (f + 1) k x a = sR g f k (binE (opAt k (g a)) x y) q := by rw [sR_s, if_neg hop, hy]; simp only [if_neg hk]
            rw [e]
            obtain ⟨r1, r2⟩ := i2 k (binE (opAt k (g a)) x y) q hf
            generalize hr : sR g f k (binE (opAt k (g a)) x y) q = r at r1 r2 ⊢
            obtain ⟨e', m⟩ := r
            have r1 : q ≤ m := r1
            have r2 : mR (lim g m) true f k (binE (opAt k (g a)) x y) q = .ok (e', m) := r2
            refine ⟨by show a ≤ m; omega, ?_⟩
            show mR (lim g m) true (f + 1) k x a = _
            rw [mR_s, lim_lt (show a < m by omega), if_neg hop, up hy r1]
            · simp only [mDeep_free, if_neg hk]
              exact r2
            · by_cases z : q < m
              · cases f with
                | zero => omega
                | succ f =>
                  rw [mR_s] at r2
                  split at r2
                  · cases r2; omega
                  · rename_i hop; exact Stop.of_op hop
              · rw [lim_ge (by omega)]; exact Stop.none _
    · intro a e m h
      rw [sF] at h
      rw [mF]
      split at h
      · rename_i h1
        cases h
        rw [lim_lt (by omega), if_pos h1]
      · rename_i h1
        split at h
        · rename_i h2
          split at h
          · rename_i h3
            cases h
            rw [lim_lt (by omega), lim_lt (by omega), if_neg h1, if_pos h2, if_pos h3]
          · rename_i h3
            split at h
            · cases h
            · rename_i x p hx
              cases h
              have hm := i3 _ _ _ hx
              have gm := (m_go _ _ f).2.2 _ _ _ hm
              rw [lim_lt (by omega), lim_lt (by omega), if_neg h1, if_pos h2, if_neg h3, hm]
              simp only [mDeep_free]
        · rename_i h2
          split at h
          · rename_i h3
            have nm : ∀ {e' : AE} {m' : Nat}, some (nameE (txt (g a)), a + 1) = some (e', m') → (if tNum (lim g m' a) = true then Except.ok (numE (tnum (lim g m' a)), a + 1)
    else if tW (lim g m' a) sMinus = true then
      if tNum (lim g m' (a + 1)) = true then .ok (numE (neg64 (tnum (lim g m' (a + 1)))), a + 2)
      else match mF (lim g m') true f (a + 1) with
        | .error e => .error e
        | .ok (x, p) => mDeep true (binE 2 (numE 0) x) p
    else if tNm (lim g m' a) = true then
      if tW (lim g m' (a + 1)) sLeft = true then match mL (lim g m') true f 0 (a + 2) with
        | .error e => .error e
        | .ok (x, p) => if tW (lim g m' p) sRight = true then mDeep true (indexE (txt (lim g m' a)) x) (p + 1) else .error (p, 1)
      else .ok (nameE (txt (lim g m' a)), a + 1)
    else if tW (lim g m' a) sOpen = true then match mL (lim g m') true f 0 (a + 1) with
      | .error e => .error e
      | .ok (x, p) => if tW (lim g m' p) sClose = true then .ok (x, p + 1) else .error (p, 1)
    else .error (a, 1)) = (.ok (e', m') : Except PErr (AE × Nat)) := by
              intro e' m' q
              cases q
              rw [lim_lt (show a < a + 1 by omega), lim_ge (show a + 1 ≤ a + 1 by omega), if_neg h1, if_neg h2, if_pos h3, if_neg (by simp [tW])]
            split at h
            · rename_i h4
              split at h
              · exact nm h
              · rename_i x p hx
                split at h
                · rename_i h5
                  cases h
                  have hm := i1 _ _ _ _ hx
                  have gm := (m_go _ _ f).1 _ _ _ _ hm
                  rw [lim_lt (by omega), lim_lt (by omega), if_neg h1, if_neg h2, if_pos h3, if_pos h4, up hx (by omega) (by rw [lim_lt (by omega)]; exact Stop.of_close close_2 h5)]
                  simp only [lim_lt (show p < p + 1 by omega), h5, if_true, mDeep_free]
                · exact nm h
            · exact nm h
          · rename_i h3
            split at h
            · rename_i h4
              split at h
              · cases h
              · rename_i x p hx
                split at h
                · rename_i h5
                  cases h
                  have hm := i1 _ _ _ _ hx
                  have gm := (m_go _ _ f).1 _ _ _ _ hm
                  rw [lim_lt (by omega), if_neg h1, if_neg h2, if_neg h3, if_pos h4, up hx (by omega) (by rw [lim_lt (by omega)]; exact Stop.of_close close_1 h5)]
                  simp only [lim_lt (show p < p + 1 by omega), h5, if_true]
                · cases h
            · cases h
/-- No expression is longer. -/
theorem s_max (g : Nat → Option Tk) : ∀ f,
    (∀ k a e n, mL (lim g n) true f k a = .ok (e, n) → ∃ e' m, sL g f k a = some (e', m) ∧ n ≤ m) ∧
    (∀ k x a e n, mR (lim g n) true f k x a = .ok (e, n) → n ≤ (sR g f k x a).2) ∧
    (∀ a e n, mF (lim g n) true f a = .ok (e, n) → ∃ e' m, sF g f a = some (e', m) ∧ n ≤ m) := by
  intro f
  induction f with
  | zero => refine ⟨?_, ?_, ?_⟩ <;> intros <;> simp_all [mL, mR, mF]
  | succ f ih =>
    obtain ⟨i1, i2, i3⟩ := ih
    obtain ⟨s1, s2, s3⟩ := s_sound g f
    -- what is read, and behind it stands a token that ends it
    have exact' : ∀ {k a x p n}, mL (lim g n) true f k a = .ok (x, p) → p < n → Stop (g p) k → sL g f k a = some (x, p) := by
      intro k a x p n hx hpn hs
      have gx := (m_go _ _ f).1 _ _ _ _ hx
      have h1 : mL (lim g p) true f k a = .ok (x, p) := (m_agree (lim g n) (lim g p) true f).1 _ _ _ _ hx (fun i _ q2 => by rw [lim_lt q2, lim_lt (by omega)]) (by rw [lim_ge (Nat.le_refl _)]; exact Stop.none _)
      obtain ⟨e', m, hm, hpm⟩ := i1 _ _ _ _ h1
      have h2 := s1 _ _ _ _ hm
      by_cases z : p < m
      · have h3 : mL (lim g m) true f k a = .ok (x, p) := (m_agree (lim g p) (lim g m) true f).1 _ _ _ _ h1 (fun i _ q2 => by rw [lim_lt q2, lim_lt (by omega)]) (by rw [lim_lt z]; exact hs)
        rw [h3] at h2
        cases h2
        omega
      · have : m = p := by omega
        subst this
        rw [h1] at h2
        cases h2
        exact hm
    refine ⟨?_, ?_, ?_⟩
    · intro k a e n h
      rw [mL_s] at h
      rw [sL_s]
      split at h
      · rename_i hk; rw [if_pos hk]; exact i3 _ _ _ h
      · rename_i hk
        rw [if_neg hk]
        split at h
        · cases h
        · rename_i x p hx
          have gr := (m_go _ _ f).2.1 _ _ _ _ _ h
          by_cases z : p < n
          · have hop : opAt k (g p) ≠ 0 := by
              cases f with
              | zero => simp [mR] at h
              | succ f =>
                rw [mR_s] at h
                split at h
                · cases h; omega
                · rename_i hop; rwa [lim_lt z] at hop
            rw [exact' hx z (Stop.of_op hop)]
            exact ⟨_, _, rfl, i2 _ _ _ _ _ h⟩
          · have : p = n := by omega
            subst this
            obtain ⟨e', m, hm, hpm⟩ := i1 _ _ _ _ hx
            rw [hm]
            have hf : 0 < f := by cases f with | zero => simp [sL] at hm | succ f => omega
            exact ⟨_, _, rfl, Nat.le_trans hpm (s2 k e' m hf).1⟩
    · intro k x a e n h
      rw [mR_s] at h
      rw [sR_s]
      split at h
      · cases h
        split
        · exact Nat.le_refl _
        · split
          · exact Nat.le_refl _
          · rename_i y q hy
            have gy := (m_go _ _ f).1 _ _ _ _ (s1 _ _ _ _ hy)
            split
            · show a ≤ q; omega
            · have hf : 0 < f := by cases f with | zero => simp [sL] at hy | succ f => omega
              exact Nat.le_trans (by omega) (s2 k _ q hf).1
      · rename_i hop
        have han : a < n := by
          by_cases z : a < n
          · exact z
          · rw [lim_ge (by omega)] at hop; exact absurd rfl hop
        rw [lim_lt han] at hop h
        rw [if_neg hop]
        split at h
        · cases h
        · rename_i y q hy
          simp only [mDeep_free] at h
          by_cases hk : k = 0
          · simp only [if_pos hk] at h
            cases h
            obtain ⟨e', m, hm, hpm⟩ := i1 _ _ _ _ hy
            rw [hm]
            simp only [if_pos hk]
            exact hpm
          · simp only [if_neg hk] at h
            have gr := (m_go _ _ f).2.1 _ _ _ _ _ h
            by_cases z : q < n
            · have hop2 : opAt k (g q) ≠ 0 := by
                cases f with
                | zero => simp [mR] at h
                | succ f =>
                  rw [mR_s] at h
                  split at h
                  · cases h; omega
                  · rename_i hop; rwa [lim_lt z] at hop
              rw [exact' hy z (Stop.of_op hop2)]
              simp only [if_neg hk]
              exact i2 _ _ _ _ _ h
            · have : q = n := by omega
              subst this
              obtain ⟨e', m, hm, hpm⟩ := i1 _ _ _ _ hy
              rw [hm]
              simp only [if_neg hk]
              have hf : 0 < f := by cases f with | zero => simp [sL] at hm | succ f => omega
              exact Nat.le_trans hpm (s2 k _ m hf).1
    · intro a e n h
      have gm := (m_go _ _ (f + 1)).2.2 _ _ _ h
      have an : ∀ i, i < n → lim g n i = g i := fun i hi => lim_lt hi
      have hn : ∀ i, a ≤ i → i < n → g i ≠ none := fun i q1 q2 => by have := gm.2 i q1 q2; rwa [lim_lt q2] at this
      rw [mF, an a gm.1] at h
      rw [sF]
      split at h
      · rename_i h1; rw [if_pos h1]; cases h; exact ⟨_, _, rfl, Nat.le_refl _⟩
      · rename_i h1
        rw [if_neg h1]
        split at h
        · rename_i h2
          rw [if_pos h2]
          split at h
          · rename_i h3
            cases h
            rw [an (a + 1) (by omega)] at h3
            rw [if_pos h3]
            exact ⟨_, _, rfl, Nat.le_refl _⟩
          · rename_i h3
            split at h
            · cases h
            · rename_i x p hx
              simp only [mDeep_free] at h
              cases h
              have gx := (m_go _ _ f).2.2 _ _ _ hx
              rw [an (a + 1) (by omega)] at h3
              rw [if_neg h3]
              obtain ⟨e', m, hm, hpm⟩ := i3 _ _ _ hx
              rw [hm]
              exact ⟨_, _, rfl, hpm⟩
        · rename_i h2
          rw [if_neg h2]
          split at h
          · rename_i h3
            rw [if_pos h3]
            have nm : ∀ o : Option (AE × Nat), n = a + 1 → ((∃ e', ∃ m, o = some (e', m) ∧ a + 1 ≤ m)) → ∃ e' m, o = some (e', m) ∧ n ≤ m := fun o q hq => by subst q; exact hq
            split at h
            · rename_i h4
              split at h
              · cases h
              · rename_i x p hx
                split at h
                · rename_i h5
                  simp only [mDeep_free] at h
                  cases h
                  have gx := (m_go _ _ f).1 _ _ _ _ hx
                  rw [an (a + 1) (by omega)] at h4
                  rw [an p (by omega)] at h5
                  rw [if_pos h4, exact' hx (by omega) (Stop.of_close close_2 h5)]
                  simp only [h5, if_true]
                  exact ⟨_, _, rfl, Nat.le_refl _⟩
                · cases h
            · cases h
              refine nm _ rfl ?_
              split
              · split
                · exact ⟨_, _, rfl, Nat.le_refl _⟩
                · rename_i x p hx
                  have gx := (m_go _ _ f).1 _ _ _ _ (s1 _ _ _ _ hx)
                  split
                  · exact ⟨_, _, rfl, by omega⟩
                  · exact ⟨_, _, rfl, Nat.le_refl _⟩
              · exact ⟨_, _, rfl, Nat.le_refl _⟩
          · rename_i h3
            rw [if_neg h3]
            split at h
            · rename_i h4
              rw [if_pos h4]
              split at h
              · cases h
              · rename_i x p hx
                split at h
                · rename_i h5
                  cases h
                  have gx := (m_go _ _ f).1 _ _ _ _ hx
                  rw [an p (by omega)] at h5
                  rw [exact' hx (by omega) (Stop.of_close close_1 h5)]
                  simp only [h5, if_true]
                  exact ⟨_, _, rfl, Nat.le_refl _⟩
                · cases h
            · cases h
/-- The longest beginning, tried one after the other. -/
def rX (g : Nat → Option Tk) (F : Nat) : Nat → Option (AE × Nat)
  | 0 => none
  | n + 1 => match mL (lim g (n + 1)) true F 0 0 with
    | .ok (x, p) => if p = n + 1 then some (x, p) else rX g F n
    | .error _ => rX g F n
theorem rX_none {g : Nat → Option Tk} {F : Nat} (h : sL g F 0 0 = none) : ∀ n, rX g F n = none
  | 0 => rfl
  | n + 1 => by
    rw [rX]
    split
    · rename_i x p hx
      split
      · rename_i hp
        subst hp
        obtain ⟨e', m, hm, _⟩ := (s_max g F).1 _ _ _ _ hx
        rw [h] at hm; cases hm
      · exact rX_none h n
    · exact rX_none h n
theorem rX_some {g : Nat → Option Tk} {F : Nat} {e : AE} {m : Nat} (h : sL g F 0 0 = some (e, m)) : ∀ n, m ≤ n → rX g F n = some (e, m)
  | 0, hn => by
    have := ((m_go _ _ F).1 _ _ _ _ ((s_sound g F).1 _ _ _ _ h)).1
    omega
  | n + 1, hn => by
    rw [rX]
    by_cases z : m = n + 1
    · subst z
      rw [(s_sound g F).1 _ _ _ _ h]
      simp
    · have ih := rX_some h n (by omega)
      split
      · rename_i x p hx
        split
        · rename_i hp
          subst hp
          obtain ⟨e', m', hm, hle⟩ := (s_max g F).1 _ _ _ _ hx
          rw [h] at hm
          cases hm
          omega
        · exact ih
      · exact ih
end Go.Pv
