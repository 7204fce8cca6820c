/- What the program's types are, printed by wip/tool/walk2.py. -/
import Derived.Test.YthamgiecgilmdaaKn
import Derived.Test.YthamgiecgilmdaaProg
import Derived.KernelRfl
namespace Go.Proofs.Ythamgiecgilmdaa
open Go Go.RowKit

theorem ag22 : tAgg Try.prog 22 = some false := by kernel_rfl
theorem ag23 : tAgg Try.prog 23 = some false := by kernel_rfl
theorem ag24 : tAgg Try.prog 24 = some false := by kernel_rfl
theorem ag26 : tAgg Try.prog 26 = some true := by kernel_rfl
theorem ag3 : tAgg Try.prog 3 = some false := by kernel_rfl
theorem ag30 : tAgg Try.prog 30 = some false := by kernel_rfl
theorem ag32 : tAgg Try.prog 32 = some true := by kernel_rfl
theorem ag33 : tAgg Try.prog 33 = some false := by kernel_rfl
theorem ag34 : tAgg Try.prog 34 = some false := by kernel_rfl
theorem ag35 : tAgg Try.prog 35 = some false := by kernel_rfl
theorem ag37 : tAgg Try.prog 37 = some true := by kernel_rfl
theorem ag38 : tAgg Try.prog 38 = some false := by kernel_rfl
theorem ag4 : tAgg Try.prog 4 = some false := by kernel_rfl
theorem ag5 : tAgg Try.prog 5 = some false := by kernel_rfl
theorem ag50 : tAgg Try.prog 50 = some false := by kernel_rfl
theorem ag51 : tAgg Try.prog 51 = some false := by kernel_rfl
theorem ag53 : tAgg Try.prog 53 = some true := by kernel_rfl
theorem ag57 : tAgg Try.prog 57 = some true := by kernel_rfl
theorem bt3 : tBytes Try.prog 3 = some 8 := by kernel_rfl
theorem bt30 : tBytes Try.prog 30 = some 24 := by kernel_rfl
theorem bt37 : tBytes Try.prog 37 = some 144 := by kernel_rfl
theorem bt38 : tBytes Try.prog 38 = some 24 := by kernel_rfl
theorem bt4 : tBytes Try.prog 4 = some 1 := by kernel_rfl
theorem bt5 : tBytes Try.prog 5 = some 1 := by kernel_rfl
theorem bt50 : tBytes Try.prog 50 = some 24 := by kernel_rfl
theorem bt51 : tBytes Try.prog 51 = some 24 := by kernel_rfl
theorem bt53 : tBytes Try.prog 53 = some 48 := by kernel_rfl
theorem bt57 : tBytes Try.prog 57 = some 16 := by kernel_rfl
theorem el22 : tElem Try.prog 22 = some 37 := by kernel_rfl
theorem el23 : tElem Try.prog 23 = some 38 := by kernel_rfl
theorem el24 : tElem Try.prog 24 = some 5 := by kernel_rfl
theorem el30 : tElem Try.prog 30 = some 3 := by kernel_rfl
theorem el33 : tElem Try.prog 33 = some 50 := by kernel_rfl
theorem el34 : tElem Try.prog 34 = some 30 := by kernel_rfl
theorem el35 : tElem Try.prog 35 = some 51 := by kernel_rfl
theorem el38 : tElem Try.prog 38 = some 4 := by kernel_rfl
theorem el50 : tElem Try.prog 50 = some 57 := by kernel_rfl
theorem el51 : tElem Try.prog 51 = some 53 := by kernel_rfl
theorem en10 : ∀ args w, (callFunc 10 args).run Try.prog w = .ok (.enter 10 args) w := enters_of Try.func10 (by kernel_rfl) rfl
theorem en11 : ∀ args w, (callFunc 11 args).run Try.prog w = .ok (.enter 11 args) w := enters_of Try.func11 (by kernel_rfl) rfl
theorem en12 : ∀ args w, (callFunc 12 args).run Try.prog w = .ok (.enter 12 args) w := enters_of Try.func12 (by kernel_rfl) rfl
theorem en13 : ∀ args w, (callFunc 13 args).run Try.prog w = .ok (.enter 13 args) w := enters_of Try.func13 (by kernel_rfl) rfl
theorem en14 : ∀ args w, (callFunc 14 args).run Try.prog w = .ok (.enter 14 args) w := enters_of Try.func14 (by kernel_rfl) rfl
theorem en15 : ∀ args w, (callFunc 15 args).run Try.prog w = .ok (.enter 15 args) w := enters_of Try.func15 (by kernel_rfl) rfl
theorem en16 : ∀ args w, (callFunc 16 args).run Try.prog w = .ok (.enter 16 args) w := enters_of Try.func16 (by kernel_rfl) rfl
theorem en17 : ∀ args w, (callFunc 17 args).run Try.prog w = .ok (.enter 17 args) w := enters_of Try.func17 (by kernel_rfl) rfl
theorem en18 : ∀ args w, (callFunc 18 args).run Try.prog w = .ok (.enter 18 args) w := enters_of Try.func18 (by kernel_rfl) rfl
theorem en19 : ∀ args w, (callFunc 19 args).run Try.prog w = .ok (.enter 19 args) w := enters_of Try.func19 (by kernel_rfl) rfl
theorem en20 : ∀ args w, (callFunc 20 args).run Try.prog w = .ok (.enter 20 args) w := enters_of Try.func20 (by kernel_rfl) rfl
theorem en21 : ∀ args w, (callFunc 21 args).run Try.prog w = .ok (.enter 21 args) w := enters_of Try.func21 (by kernel_rfl) rfl
theorem en22 : ∀ args w, (callFunc 22 args).run Try.prog w = .ok (.enter 22 args) w := enters_of Try.func22 (by kernel_rfl) rfl
theorem en23 : ∀ args w, (callFunc 23 args).run Try.prog w = .ok (.enter 23 args) w := enters_of Try.func23 (by kernel_rfl) rfl
theorem en24 : ∀ args w, (callFunc 24 args).run Try.prog w = .ok (.enter 24 args) w := enters_of Try.func24 (by kernel_rfl) rfl
theorem en25 : ∀ args w, (callFunc 25 args).run Try.prog w = .ok (.enter 25 args) w := enters_of Try.func25 (by kernel_rfl) rfl
theorem en26 : ∀ args w, (callFunc 26 args).run Try.prog w = .ok (.enter 26 args) w := enters_of Try.func26 (by kernel_rfl) rfl
theorem en27 : ∀ args w, (callFunc 27 args).run Try.prog w = .ok (.enter 27 args) w := enters_of Try.func27 (by kernel_rfl) rfl
theorem en28 : ∀ args w, (callFunc 28 args).run Try.prog w = .ok (.enter 28 args) w := enters_of Try.func28 (by kernel_rfl) rfl
theorem en29 : ∀ args w, (callFunc 29 args).run Try.prog w = .ok (.enter 29 args) w := enters_of Try.func29 (by kernel_rfl) rfl
theorem en30 : ∀ args w, (callFunc 30 args).run Try.prog w = .ok (.enter 30 args) w := enters_of Try.func30 (by kernel_rfl) rfl
theorem en31 : ∀ args w, (callFunc 31 args).run Try.prog w = .ok (.enter 31 args) w := enters_of Try.func31 (by kernel_rfl) rfl
theorem en32 : ∀ args w, (callFunc 32 args).run Try.prog w = .ok (.enter 32 args) w := enters_of Try.func32 (by kernel_rfl) rfl
theorem en33 : ∀ args w, (callFunc 33 args).run Try.prog w = .ok (.enter 33 args) w := enters_of Try.func33 (by kernel_rfl) rfl
theorem en34 : ∀ args w, (callFunc 34 args).run Try.prog w = .ok (.enter 34 args) w := enters_of Try.func34 (by kernel_rfl) rfl
theorem en35 : ∀ args w, (callFunc 35 args).run Try.prog w = .ok (.enter 35 args) w := enters_of Try.func35 (by kernel_rfl) rfl
theorem en36 : ∀ args w, (callFunc 36 args).run Try.prog w = .ok (.enter 36 args) w := enters_of Try.func36 (by kernel_rfl) rfl
theorem en37 : ∀ args w, (callFunc 37 args).run Try.prog w = .ok (.enter 37 args) w := enters_of Try.func37 (by kernel_rfl) rfl
theorem en38 : ∀ args w, (callFunc 38 args).run Try.prog w = .ok (.enter 38 args) w := enters_of Try.func38 (by kernel_rfl) rfl
theorem en39 : ∀ args w, (callFunc 39 args).run Try.prog w = .ok (.enter 39 args) w := enters_of Try.func39 (by kernel_rfl) rfl
theorem en4 : ∀ args w, (callFunc 4 args).run Try.prog w = .ok (.enter 4 args) w := enters_of Try.func4 (by kernel_rfl) rfl
theorem en40 : ∀ args w, (callFunc 40 args).run Try.prog w = .ok (.enter 40 args) w := enters_of Try.func40 (by kernel_rfl) rfl
theorem en41 : ∀ args w, (callFunc 41 args).run Try.prog w = .ok (.enter 41 args) w := enters_of Try.func41 (by kernel_rfl) rfl
theorem en42 : ∀ args w, (callFunc 42 args).run Try.prog w = .ok (.enter 42 args) w := enters_of Try.func42 (by kernel_rfl) rfl
theorem en43 : ∀ args w, (callFunc 43 args).run Try.prog w = .ok (.enter 43 args) w := enters_of Try.func43 (by kernel_rfl) rfl
theorem en44 : ∀ args w, (callFunc 44 args).run Try.prog w = .ok (.enter 44 args) w := enters_of Try.func44 (by kernel_rfl) rfl
theorem en45 : ∀ args w, (callFunc 45 args).run Try.prog w = .ok (.enter 45 args) w := enters_of Try.func45 (by kernel_rfl) rfl
theorem en46 : ∀ args w, (callFunc 46 args).run Try.prog w = .ok (.enter 46 args) w := enters_of Try.func46 (by kernel_rfl) rfl
theorem en5 : ∀ args w, (callFunc 5 args).run Try.prog w = .ok (.enter 5 args) w := enters_of Try.func5 (by kernel_rfl) rfl
theorem en6 : ∀ args w, (callFunc 6 args).run Try.prog w = .ok (.enter 6 args) w := enters_of Try.func6 (by kernel_rfl) rfl
theorem en7 : ∀ args w, (callFunc 7 args).run Try.prog w = .ok (.enter 7 args) w := enters_of Try.func7 (by kernel_rfl) rfl
theorem en8 : ∀ args w, (callFunc 8 args).run Try.prog w = .ok (.enter 8 args) w := enters_of Try.func8 (by kernel_rfl) rfl
theorem en9 : ∀ args w, (callFunc 9 args).run Try.prog w = .ok (.enter 9 args) w := enters_of Try.func9 (by kernel_rfl) rfl
theorem fl_26_0 : tFld Try.prog 26 0 = some (0, 22, 1) := by kernel_rfl
theorem fl_26_1 : tFld Try.prog 26 1 = some (1, 4, 1) := by kernel_rfl
theorem fl_26_2 : tFld Try.prog 26 2 = some (2, 3, 1) := by kernel_rfl
theorem fl_26_3 : tFld Try.prog 26 3 = some (3, 23, 1) := by kernel_rfl
theorem fl_26_4 : tFld Try.prog 26 4 = some (4, 24, 1) := by kernel_rfl
theorem fl_32_0 : tFld Try.prog 32 0 = some (0, 5, 1) := by kernel_rfl
theorem fl_32_1 : tFld Try.prog 32 1 = some (1, 5, 1) := by kernel_rfl
theorem fl_32_2 : tFld Try.prog 32 2 = some (2, 3, 1) := by kernel_rfl
theorem fl_32_3 : tFld Try.prog 32 3 = some (3, 30, 1) := by kernel_rfl
theorem fl_37_0 : tFld Try.prog 37 0 = some (0, 3, 1) := by kernel_rfl
theorem fl_37_1 : tFld Try.prog 37 1 = some (1, 32, 4) := by kernel_rfl
theorem fl_37_2 : tFld Try.prog 37 2 = some (5, 33, 1) := by kernel_rfl
theorem fl_37_3 : tFld Try.prog 37 3 = some (6, 34, 1) := by kernel_rfl
theorem fl_37_4 : tFld Try.prog 37 4 = some (7, 35, 1) := by kernel_rfl
theorem fl_37_5 : tFld Try.prog 37 5 = some (8, 30, 1) := by kernel_rfl
theorem fl_53_0 : tFld Try.prog 53 0 = some (0, 3, 1) := by kernel_rfl
theorem fl_53_1 : tFld Try.prog 53 1 = some (1, 3, 1) := by kernel_rfl
theorem fl_53_2 : tFld Try.prog 53 2 = some (2, 4, 1) := by kernel_rfl
theorem fl_53_3 : tFld Try.prog 53 3 = some (3, 4, 1) := by kernel_rfl
theorem fl_53_4 : tFld Try.prog 53 4 = some (4, 30, 1) := by kernel_rfl
theorem fl_57_0 : tFld Try.prog 57 0 = some (0, 3, 1) := by kernel_rfl
theorem fl_57_1 : tFld Try.prog 57 1 = some (1, 3, 1) := by kernel_rfl
theorem pl26 : tPlaces Try.prog 26 = some [(0, 1), (1, 1), (2, 1), (3, 1), (4, 1)] := by kernel_rfl
theorem pl37 : tPlaces Try.prog 37 = some [(0, 1), (1, 4), (5, 1), (6, 1), (7, 1), (8, 1)] := by kernel_rfl
theorem sz22 : tSz Try.prog 22 = some 1 := by kernel_rfl
theorem sz23 : tSz Try.prog 23 = some 1 := by kernel_rfl
theorem sz24 : tSz Try.prog 24 = some 1 := by kernel_rfl
theorem sz26 : tSz Try.prog 26 = some 5 := by kernel_rfl
theorem sz3 : tSz Try.prog 3 = some 1 := by kernel_rfl
theorem sz30 : tSz Try.prog 30 = some 1 := by kernel_rfl
theorem sz32 : tSz Try.prog 32 = some 4 := by kernel_rfl
theorem sz33 : tSz Try.prog 33 = some 1 := by kernel_rfl
theorem sz34 : tSz Try.prog 34 = some 1 := by kernel_rfl
theorem sz35 : tSz Try.prog 35 = some 1 := by kernel_rfl
theorem sz37 : tSz Try.prog 37 = some 9 := by kernel_rfl
theorem sz38 : tSz Try.prog 38 = some 1 := by kernel_rfl
theorem sz4 : tSz Try.prog 4 = some 1 := by kernel_rfl
theorem sz5 : tSz Try.prog 5 = some 1 := by kernel_rfl
theorem sz50 : tSz Try.prog 50 = some 1 := by kernel_rfl
theorem sz51 : tSz Try.prog 51 = some 1 := by kernel_rfl
theorem sz53 : tSz Try.prog 53 = some 5 := by kernel_rfl
theorem sz57 : tSz Try.prog 57 = some 2 := by kernel_rfl
theorem tw57 : tTwo Try.prog 57 = some (.i64, .i64) := by kernel_rfl
theorem un3 : Try.prog.underlying 3 = some (.int .i64) := by kernel_rfl
theorem un4 : Try.prog.underlying 4 = some (.bool) := by kernel_rfl
theorem un5 : Try.prog.underlying 5 = some (.int .u8) := by kernel_rfl
theorem un9 : Try.prog.underlying 9 = some (.string) := by kernel_rfl
theorem zr26 : tZero Try.prog 26 = some (.agg #[.slice none 0 0, .bool false, .int .i64 0, .slice none 0 0, .slice none 0 0]) := by kernel_rfl
theorem zr3 : tZero Try.prog 3 = some (.int .i64 0) := by kernel_rfl
theorem zr30 : tZero Try.prog 30 = some (.slice none 0 0) := by kernel_rfl
theorem zr32 : tZero Try.prog 32 = some (.agg #[.int .u8 0, .int .u8 0, .int .i64 0, .slice none 0 0]) := by kernel_rfl
theorem zr37 : tZero Try.prog 37 = some (.agg #[.int .i64 0, .int .u8 0, .int .u8 0, .int .i64 0, .slice none 0 0, .slice none 0 0, .slice none 0 0, .slice none 0 0, .slice none 0 0]) := by kernel_rfl
theorem zr38 : tZero Try.prog 38 = some (.slice none 0 0) := by kernel_rfl
theorem zr4 : tZero Try.prog 4 = some (.bool false) := by kernel_rfl
theorem zr5 : tZero Try.prog 5 = some (.int .u8 0) := by kernel_rfl
theorem zr50 : tZero Try.prog 50 = some (.slice none 0 0) := by kernel_rfl
theorem zr51 : tZero Try.prog 51 = some (.slice none 0 0) := by kernel_rfl
theorem zr53 : tZero Try.prog 53 = some (.agg #[.int .i64 0, .int .i64 0, .bool false, .bool false, .slice none 0 0]) := by kernel_rfl
theorem zr57 : tZero Try.prog 57 = some (.agg #[.int .i64 0, .int .i64 0]) := by kernel_rfl

end Go.Proofs.Ythamgiecgilmdaa
