/- The resolved code of the program's functions (by program). -/
import Derived.Test.YtbijnfhclfimeaaDoorGl
namespace Go.Apx
open Go.Proofs
set_option maxRecDepth 100000
set_option linter.unusedVariables false
def c64_285870213051353865 : BitVec 64 := 285870213051353865#64
def lp0_modal_variables : ACode :=
 .seq (.reg [⟨(some 15), .bin .lss (.t 14) (.t 13), none, []⟩]) (
    .seq (.cond (.t 15) (.skip) (
     .exit 0)) (
    .seq (.block 1 (.seq (.reg [⟨(some 16), .iaddr 2 (.t 12) (.t 14), none, []⟩,
         ⟨(some 17), .load (.agg 2) (.t 16), none, [0]⟩,
         ⟨(some 9), .pnew 2, none, []⟩,
         ⟨none, .pstore 2 9 (.t 17), none, [2, 1, 0, 1, 2]⟩]) (
      .reg [⟨(some 18), .load .one (.t 7), none, []⟩,
        ⟨(some 19), .load (.agg 2) (.t 9), none, []⟩,
        ⟨(some 20), .call (.t 18) [(.t 19)], none, [0, 1]⟩]))) (
    .reg [⟨(some 21), .bin .add (.t 14) (.c (.sc (.int .i64 1))), none, []⟩,
      ⟨(some 14), .mv (.t 21), none, [0]⟩])))
/-- apodixis/modal.variables -/
def ann_modal_variables : List Nat := [2, 6, 9]
def code_modal_variables : ACode :=
 .seq (.reg [⟨(some 2), .box (.t 0), none, []⟩,
    ⟨(some 4), .mv (.c (.sl 0 [] .nil)), none, []⟩]) (
 .seq (.reg [⟨(some 5), .new [(.sl 0 [] .nil)], none, []⟩]) (
 .seq (.reg [⟨(some 10), .mkMap, none, []⟩,
    ⟨(some 6), .pnew 1, none, []⟩,
    ⟨none, .pstore 1 6 (.t 10), none, [1, 0, 0, 1]⟩]) (
 .seq (.reg [⟨(some 7), .new [(.sc .nilFunc)], none, []⟩]) (
 .seq (.reg [⟨(some 11), .mkFunc (.func 65) [] [(.t 2), (.t 6), (.t 5), (.t 7)], none, []⟩,
    ⟨none, .store 1 (.t 7) (.t 11), none, [0, 0]⟩]) (
 .seq (.seq (.reg [⟨(some 12), .mv (.t 1), none, []⟩,
     ⟨(some 13), .len .sl (.t 12), none, [0]⟩,
     ⟨(some 14), .mv (.c (.sc (.int .i64 0))), none, []⟩]) (
  .block 0 (.loop lp0_modal_variables))) (
 .seq (.reg [⟨(some 22), .load .one (.t 5), none, []⟩,
    ⟨(some 4), .mv (.t 22), none, [0, 0]⟩]) (
 .ret)))))))
def res_modal_variables : List ResA := [.t 4]
theorem comp_modal_variables : Tryd.f43.body.bind (compCode PP ann_modal_variables 23) = some code_modal_variables := by kernel_rfl
theorem resc_modal_variables : mapM' (compRes PP) Tryd.f43.results.toList = some res_modal_variables := by kernel_rfl
theorem body_modal_variables : hasBody PP 43 = true := by kernel_rfl
theorem enter_modal_variables {args : List AV} {h : AHeap} {R : AEnd → AHeap → Prop} (hargs : args.length ≤ 23) (hw : codeWp ⟨PP, Gl, 23, ann_modal_variables, h.length, none⟩ code_modal_variables (retPost PP Gl h res_modal_variables R) (initEnv args) h) : ACalls PP Gl 43 args h R :=
  acalls_of_code Tryd.func43 body_modal_variables comp_modal_variables resc_modal_variables hargs (Nat.le_trans hargs (by decide)) (codeWp_sound mixed hw)

def lp0_modal_place_holds : ACode :=
 .seq (.reg [⟨(some 25), .bin .lss (.t 24) (.t 23), none, []⟩]) (
    .seq (.cond (.t 25) (.skip) (
     .exit 0)) (
    .seq (.block 1 (.seq (.reg [⟨(some 26), .iaddr 2 (.t 22) (.t 24), none, []⟩,
         ⟨(some 27), .load (.agg 2) (.t 26), none, [0]⟩,
         ⟨(some 8), .pnew 2, none, []⟩,
         ⟨none, .pstore 2 8 (.t 27), none, [2, 1, 0, 1, 2]⟩]) (
      .reg [⟨(some 28), .mv (.t 6), none, []⟩,
        ⟨(some 29), .load (.agg 3) (.t 2), none, []⟩,
        ⟨(some 30), .load (.agg 2) (.t 8), none, []⟩,
        ⟨(some 31), .call (.c (.fn (.func 44) [] [])) [(.t 29), (.t 30)], none, [1, 2]⟩,
        ⟨(some 32), .bslice 1 1 (.sc (v64 0#64)) [(0, (.t 31))], none, [3]⟩,
        ⟨(some 33), .append 1 8 (.t 28) (.t 32), none, [0, 4, 3]⟩,
        ⟨(some 6), .mv (.t 33), none, [5, 5, 0, 1, 2, 3, 4, 5]⟩]))) (
    .reg [⟨(some 34), .bin .add (.t 24) (.c (.sc (.int .i64 1))), none, []⟩,
      ⟨(some 24), .mv (.t 34), none, [0]⟩])))
/-- (apodixis/modal.place).holds -/
def ann_modal_place_holds : List Nat := [2, 3, 8]
def code_modal_place_holds : ACode :=
 .seq (.reg [⟨(some 2), .box (.t 0), none, []⟩,
    ⟨(some 3), .box (.t 1), none, []⟩,
    ⟨(some 4), .mv (.c (.sc (v64 0#64))), none, []⟩]) (
 .seq (.reg [⟨(some 9), .faddr 1 .one (.t 2), none, []⟩,
    ⟨(some 10), .load .one (.t 9), none, [0]⟩,
    ⟨(some 11), .faddr 0 .one (.t 3), none, []⟩,
    ⟨(some 12), .load .one (.t 11), none, [2]⟩,
    ⟨(some 13), .lookup true (.sc (.int .i64 0)) false (.t 10) (.t 12), none, [1, 3]⟩,
    ⟨(some 5), .mv (.t 13), none, [4, 0, 1, 2, 3, 4]⟩]) (
 .seq (.seq (.reg [⟨(some 14), .mv (.t 5), none, []⟩,
     ⟨(some 15), .bin .eql (.t 14) (.c (.sc (.int .i64 0))), none, [0]⟩]) (
  .cond (.t 15) (.seq (.reg [⟨(some 16), .faddr 2 .one (.t 2), none, []⟩,
      ⟨(some 17), .load .one (.t 16), none, [0]⟩,
      ⟨(some 18), .faddr 0 .one (.t 3), none, []⟩,
      ⟨(some 19), .load .one (.t 18), none, [2]⟩,
      ⟨(some 20), .lookup true (.sc (v64 0#64)) false (.t 17) (.t 19), none, [1, 3]⟩,
      ⟨(some 4), .mv (.t 20), none, [4, 0, 1, 2, 3, 4]⟩]) (
   .ret)) (
  .skip))) (
 .seq (.reg [⟨(some 6), .mv (.c (.sl 0 [] .nil)), none, []⟩]) (
 .seq (.seq (.reg [⟨(some 21), .faddr 1 .one (.t 3), none, []⟩,
     ⟨(some 22), .load .one (.t 21), none, [0]⟩,
     ⟨(some 23), .len .sl (.t 22), none, [1]⟩,
     ⟨(some 24), .mv (.c (.sc (.int .i64 0))), none, []⟩]) (
  .block 0 (.loop lp0_modal_place_holds))) (
 .seq (.dreg [(true, ⟨(some 35), .mv (.t 5), none, []⟩),
    (true, ⟨(some 37), .load (.agg 3) (.t 2), none, []⟩),
    (true, ⟨(some 38), .mv (.t 6), none, []⟩),
    (false, ⟨(some 36), .call (.c (.fn (.func 66) [] [])) [(.t 35)], none, [0]⟩),
    (false, ⟨(some 39), .call (.t 36) [(.t 37), (.t 38)], none, [1, 2, 3, 1]⟩),
    (false, ⟨(some 4), .mv (.t 39), none, [4, 4, 0, 1, 2, 3, 4]⟩)]) (
 .ret))))))
def res_modal_place_holds : List ResA := [.t 4]
theorem comp_modal_place_holds : Tryd.f44.body.bind (compCode PP ann_modal_place_holds 40) = some code_modal_place_holds := by kernel_rfl
theorem resc_modal_place_holds : mapM' (compRes PP) Tryd.f44.results.toList = some res_modal_place_holds := by kernel_rfl
theorem body_modal_place_holds : hasBody PP 44 = true := by kernel_rfl
theorem enter_modal_place_holds {args : List AV} {h : AHeap} {R : AEnd → AHeap → Prop} (hargs : args.length ≤ 40) (hw : codeWp ⟨PP, Gl, 40, ann_modal_place_holds, h.length, none⟩ code_modal_place_holds (retPost PP Gl h res_modal_place_holds R) (initEnv args) h) : ACalls PP Gl 44 args h R :=
  acalls_of_code Tryd.func44 body_modal_place_holds comp_modal_place_holds resc_modal_place_holds hargs (Nat.le_trans hargs (by decide)) (codeWp_sound mixed hw)

/-- (apodixis/modal.Frame).right -/
def ann_modal_Frame_right : List Nat := [1]
def code_modal_Frame_right : ACode :=
 .seq (.reg [⟨(some 1), .box (.t 0), none, []⟩,
    ⟨(some 2), .mv (.c (.sc (.bool false))), none, []⟩]) (
 .seq (.reg [⟨(some 3), .faddr 0 .one (.t 1), none, []⟩,
    ⟨(some 4), .load .one (.t 3), none, [0]⟩,
    ⟨(some 5), .len .sl (.t 4), none, [1]⟩,
    ⟨(some 6), .bin .geq (.t 5) (.c (.sc (.int .i64 1))), none, [2]⟩,
    ⟨(some 7), .mv (.t 6), none, [3]⟩,
    ⟨(some 8), .faddr 0 .one (.t 1), (some (7, true)), [4]⟩,
    ⟨(some 9), .load .one (.t 8), (some (7, true)), [5, 4]⟩,
    ⟨(some 10), .len .sl (.t 9), (some (7, true)), [6, 4]⟩,
    ⟨(some 11), .bin .leq (.t 10) (.c (.sc (.int .i64 6))), (some (7, true)), [7, 4]⟩,
    ⟨(some 12), .pick (.t 7) (.t 11) (.c (.sc (.bool false))), none, [4, 8]⟩,
    ⟨(some 13), .mv (.t 12), none, [9, 4]⟩,
    ⟨(some 14), .faddr 0 .one (.t 1), (some (13, true)), [10]⟩,
    ⟨(some 15), .load .one (.t 14), (some (13, true)), [11, 10]⟩,
    ⟨(some 16), .mkFunc (.func 68) [] [(.t 1)], (some (13, true)), [10]⟩,
    ⟨(some 17), .call (.c (.fn (.func 67) [] [])) [(.t 15), (.t 16)], (some (13, true)), [12, 13, 10, 10]⟩,
    ⟨(some 18), .un .not (.t 17), (some (13, true)), [14, 10]⟩,
    ⟨(some 19), .pick (.t 13) (.t 18) (.c (.sc (.bool false))), none, [10, 15]⟩,
    ⟨(some 2), .mv (.t 19), none, [16, 14, 0, 1, 2, 3, 4, 5, 6, 7, 8, 9, 10, 11, 12, 13, 14, 15, 16]⟩]) (
 .ret))
def res_modal_Frame_right : List ResA := [.t 2]
theorem comp_modal_Frame_right : Tryd.f45.body.bind (compCode PP ann_modal_Frame_right 20) = some code_modal_Frame_right := by kernel_rfl
theorem resc_modal_Frame_right : mapM' (compRes PP) Tryd.f45.results.toList = some res_modal_Frame_right := by kernel_rfl
theorem body_modal_Frame_right : hasBody PP 45 = true := by kernel_rfl
theorem enter_modal_Frame_right {args : List AV} {h : AHeap} {R : AEnd → AHeap → Prop} (hargs : args.length ≤ 20) (hw : codeWp ⟨PP, Gl, 20, ann_modal_Frame_right, h.length, none⟩ code_modal_Frame_right (retPost PP Gl h res_modal_Frame_right R) (initEnv args) h) : ACalls PP Gl 45 args h R :=
  acalls_of_code Tryd.func45 body_modal_Frame_right comp_modal_Frame_right resc_modal_Frame_right hargs (Nat.le_trans hargs (by decide)) (codeWp_sound mixed hw)

/-- (apodixis/modal.Frame).row -/
def ann_modal_Frame_row : List Nat := [1]
def code_modal_Frame_row : ACode :=
 .seq (.reg [⟨(some 1), .box (.t 0), none, []⟩,
    ⟨(some 2), .new [(.sc (v64 0#64)), (.sc (v64 0#64)), (.sc (v64 0#64)), (.sc (v64 0#64)), (.sc (v64 0#64)), (.sc (v64 0#64))], none, []⟩]) (
 .seq (.dreg [(true, ⟨(some 3), .slice (.arr 6 1) (.t 2) none none none, none, []⟩),
    (false, ⟨(some 4), .faddr 0 .one (.t 1), none, []⟩),
    (false, ⟨(some 5), .load .one (.t 4), none, [1]⟩),
    (false, ⟨(some 6), .copy 1 (.t 3) (.t 5), none, [0, 2]⟩)]) (
 .seq (.reg [⟨(some 7), .load (.agg 6) (.t 2), none, []⟩,
    ⟨none, .store 6 (.t 2) (.t 7), none, [0, 0]⟩]) (
 .ret)))
def res_modal_Frame_row : List ResA := [.cell 2 (.agg 6)]
theorem comp_modal_Frame_row : Tryd.f46.body.bind (compCode PP ann_modal_Frame_row 8) = some code_modal_Frame_row := by kernel_rfl
theorem resc_modal_Frame_row : mapM' (compRes PP) Tryd.f46.results.toList = some res_modal_Frame_row := by kernel_rfl
theorem body_modal_Frame_row : hasBody PP 46 = true := by kernel_rfl
theorem enter_modal_Frame_row {args : List AV} {h : AHeap} {R : AEnd → AHeap → Prop} (hargs : args.length ≤ 8) (hw : codeWp ⟨PP, Gl, 8, ann_modal_Frame_row, h.length, none⟩ code_modal_Frame_row (retPost PP Gl h res_modal_Frame_row R) (initEnv args) h) : ACalls PP Gl 46 args h R :=
  acalls_of_code Tryd.func46 body_modal_Frame_row comp_modal_Frame_row resc_modal_Frame_row hargs (Nat.le_trans hargs (by decide)) (codeWp_sound mixed hw)

/-- apodixis/modal.Is$1 -/
def ann_modal_Is_1 : List Nat := []
def code_modal_Is_1 : ACode :=
 .seq (.reg [⟨(some 5), .mv (.c (.sc (.bool false))), none, []⟩]) (
 .seq (.reg [⟨(some 6), .mv (.t 0), none, []⟩,
    ⟨(some 7), .iaddrA 6 .one (.t 2) (.t 6), none, [0]⟩,
    ⟨(some 8), .load .one (.t 7), none, [1]⟩,
    ⟨(some 9), .mv (.t 1), none, []⟩,
    ⟨(some 10), .bin .shr (.t 8) (.t 9), none, [2, 3]⟩,
    ⟨(some 11), .bin .and (.t 10) (.c (.sc (v64 1#64))), none, [4]⟩,
    ⟨(some 12), .bin .eql (.t 11) (.c (.sc (v64 1#64))), none, [5]⟩,
    ⟨(some 5), .mv (.t 12), none, [6, 0, 1, 2, 3, 4, 5, 6]⟩]) (
 .ret))
def res_modal_Is_1 : List ResA := [.t 5]
theorem comp_modal_Is_1 : Tryd.f47.body.bind (compCode PP ann_modal_Is_1 13) = some code_modal_Is_1 := by kernel_rfl
theorem resc_modal_Is_1 : mapM' (compRes PP) Tryd.f47.results.toList = some res_modal_Is_1 := by kernel_rfl
theorem body_modal_Is_1 : hasBody PP 47 = true := by kernel_rfl
theorem enter_modal_Is_1 {args : List AV} {h : AHeap} {R : AEnd → AHeap → Prop} (hargs : args.length ≤ 13) (hw : codeWp ⟨PP, Gl, 13, ann_modal_Is_1, h.length, none⟩ code_modal_Is_1 (retPost PP Gl h res_modal_Is_1 R) (initEnv args) h) : ACalls PP Gl 47 args h R :=
  acalls_of_code Tryd.func47 body_modal_Is_1 comp_modal_Is_1 resc_modal_Is_1 hargs (Nat.le_trans hargs (by decide)) (codeWp_sound mixed hw)

def lp1_modal_Frame_reach : ACode :=
 .seq (.reg [⟨(some 14), .bin .lss (.t 13) (.t 12), none, []⟩]) (
       .seq (.cond (.t 14) (.skip) (
        .exit 2)) (
       .seq (.block 3 (.seq (.reg [⟨(some 15), .mv (.t 13), none, []⟩,
            ⟨(some 16), .iaddr 1 (.t 11) (.t 13), none, []⟩,
            ⟨(some 17), .load .one (.t 16), none, [1]⟩,
            ⟨(some 7), .mv (.t 15), none, [0, 0, 1, 2]⟩,
            ⟨(some 8), .mv (.t 17), none, [2, 3, 0, 1, 2, 3]⟩]) (
         .seq (.reg [⟨(some 18), .mv (.t 1), none, []⟩,
            ⟨(some 19), .mv (.t 5), none, []⟩,
            ⟨(some 20), .bin .or (.t 18) (.t 19), none, [0, 1]⟩,
            ⟨(some 21), .mv (.t 7), none, []⟩,
            ⟨(some 22), .bin .shr (.t 20) (.t 21), none, [2, 3]⟩,
            ⟨(some 23), .bin .and (.t 22) (.c (.sc (v64 1#64))), none, [4]⟩,
            ⟨(some 24), .bin .eql (.t 23) (.c (.sc (v64 1#64))), none, [5]⟩]) (
         .cond (.t 24) (.reg [⟨(some 25), .mv (.t 6), none, []⟩,
            ⟨(some 26), .mv (.t 8), none, []⟩,
            ⟨(some 27), .bin .or (.t 25) (.t 26), none, [0, 1]⟩,
            ⟨(some 6), .mv (.t 27), none, [2, 0, 1, 2]⟩]) (
         .skip))))) (
       .reg [⟨(some 28), .bin .add (.t 13) (.c (.sc (.int .i64 1))), none, []⟩,
         ⟨(some 13), .mv (.t 28), none, [0]⟩])))
def lp0_modal_Frame_reach : ACode :=
 .block 1 (.seq (.reg [⟨(some 9), .mv (.t 5), none, []⟩,
       ⟨(some 6), .mv (.t 9), none, [0, 0]⟩]) (
    .seq (.seq (.reg [⟨(some 10), .faddr 0 .one (.t 2), none, []⟩,
        ⟨(some 11), .load .one (.t 10), none, [0]⟩,
        ⟨(some 12), .len .sl (.t 11), none, [1]⟩,
        ⟨(some 13), .mv (.c (.sc (.int .i64 0))), none, []⟩]) (
     .block 2 (.loop lp1_modal_Frame_reach))) (
    .seq (.seq (.reg [⟨(some 29), .mv (.t 6), none, []⟩,
        ⟨(some 30), .mv (.t 5), none, []⟩,
        ⟨(some 31), .bin .eql (.t 29) (.t 30), none, [0, 1]⟩]) (
     .cond (.t 31) (.seq (.reg [⟨(some 32), .mv (.t 5), none, []⟩,
         ⟨(some 4), .mv (.t 32), none, [0, 0]⟩]) (
      .ret)) (
     .skip))) (
    .reg [⟨(some 33), .mv (.t 6), none, []⟩,
      ⟨(some 5), .mv (.t 33), none, [0, 0]⟩]))))
/-- (apodixis/modal.Frame).reach -/
def ann_modal_Frame_reach : List Nat := [2]
def code_modal_Frame_reach : ACode :=
 .seq (.reg [⟨(some 2), .box (.t 0), none, []⟩,
    ⟨(some 4), .mv (.c (.sc (v64 0#64))), none, []⟩]) (
 .seq (.reg [⟨(some 5), .mv (.c (.sc (v64 0#64))), none, []⟩]) (
 .block 0 (.loop lp0_modal_Frame_reach)))
def res_modal_Frame_reach : List ResA := [.t 4]
theorem comp_modal_Frame_reach : Tryd.f48.body.bind (compCode PP ann_modal_Frame_reach 34) = some code_modal_Frame_reach := by kernel_rfl
theorem resc_modal_Frame_reach : mapM' (compRes PP) Tryd.f48.results.toList = some res_modal_Frame_reach := by kernel_rfl
theorem body_modal_Frame_reach : hasBody PP 48 = true := by kernel_rfl
theorem enter_modal_Frame_reach {args : List AV} {h : AHeap} {R : AEnd → AHeap → Prop} (hargs : args.length ≤ 34) (hw : codeWp ⟨PP, Gl, 34, ann_modal_Frame_reach, h.length, none⟩ code_modal_Frame_reach (retPost PP Gl h res_modal_Frame_reach R) (initEnv args) h) : ACalls PP Gl 48 args h R :=
  acalls_of_code Tryd.func48 body_modal_Frame_reach comp_modal_Frame_reach resc_modal_Frame_reach hargs (Nat.le_trans hargs (by decide)) (codeWp_sound mixed hw)

def lp0_ref35_frameOK : ACode :=
 .seq (.seq (.reg [⟨(some 14), .mv (.t 3), none, []⟩,
        ⟨(some 15), .faddr 0 .one (.t 1), none, []⟩,
        ⟨(some 16), .load .one (.t 15), none, [1]⟩,
        ⟨(some 17), .len .sl (.t 16), none, [2]⟩,
        ⟨(some 18), .bin .lss (.t 14) (.t 17), none, [0, 3]⟩]) (
     .cond (.t 18) (.skip) (
     .exit 0))) (
    .seq (.block 1 (.seq (.dreg [(true, ⟨(some 21), .faddr 0 .one (.t 1), none, []⟩),
         (true, ⟨(some 22), .load .one (.t 21), none, [0]⟩),
         (true, ⟨(some 23), .mv (.t 3), none, []⟩),
         (true, ⟨(some 24), .iaddr 1 (.t 22) (.t 23), none, [1, 2]⟩),
         (true, ⟨(some 25), .load .one (.t 24), none, [3]⟩),
         (false, ⟨(some 26), .load (.agg 1) (.t 1), none, []⟩),
         (false, ⟨(some 27), .call (.c (.fn (.func 39) [] [])) [(.t 26)], none, [5]⟩),
         (false, ⟨(some 28), .bin .andNot (.t 25) (.t 27), none, [4, 6]⟩),
         (false, ⟨(some 29), .bin .neq (.t 28) (.c (.sc (v64 0#64))), none, [7]⟩)]) (
      .cond (.t 29) (.seq (.reg [⟨(some 2), .mv (.c (.sc (.bool false))), none, []⟩]) (
       .ret)) (
      .skip)))) (
    .reg [⟨(some 19), .mv (.t 3), none, []⟩,
      ⟨(some 20), .bin .add (.t 19) (.c (.sc (.int .i64 1))), none, [0]⟩,
      ⟨(some 3), .mv (.t 20), none, [1, 0, 1]⟩]))
/-- apodixis/apodixisref35.frameOK -/
def ann_ref35_frameOK : List Nat := [1]
def code_ref35_frameOK : ACode :=
 .seq (.reg [⟨(some 1), .box (.t 0), none, []⟩,
    ⟨(some 2), .mv (.c (.sc (.bool false))), none, []⟩]) (
 .seq (.seq (.reg [⟨(some 4), .faddr 0 .one (.t 1), none, []⟩,
     ⟨(some 5), .load .one (.t 4), none, [0]⟩,
     ⟨(some 6), .len .sl (.t 5), none, [1]⟩,
     ⟨(some 7), .bin .lss (.t 6) (.c (.sc (.int .i64 1))), none, [2]⟩,
     ⟨(some 8), .mv (.t 7), none, [3]⟩,
     ⟨(some 9), .faddr 0 .one (.t 1), (some (8, false)), [4]⟩,
     ⟨(some 10), .load .one (.t 9), (some (8, false)), [5, 4]⟩,
     ⟨(some 11), .len .sl (.t 10), (some (8, false)), [6, 4]⟩,
     ⟨(some 12), .bin .gtr (.t 11) (.c (.sc (.int .i64 6))), (some (8, false)), [7, 4]⟩,
     ⟨(some 13), .pick (.t 8) (.c (.sc (.bool true))) (.t 12), none, [4, 8]⟩]) (
  .cond (.t 13) (.seq (.reg [⟨(some 2), .mv (.c (.sc (.bool false))), none, []⟩]) (
   .ret)) (
  .skip))) (
 .seq (.seq (.reg [⟨(some 3), .mv (.c (.sc (.int .i64 0))), none, []⟩]) (
  .block 0 (.loop lp0_ref35_frameOK))) (
 .seq (.reg [⟨(some 2), .mv (.c (.sc (.bool true))), none, []⟩]) (
 .ret))))
def res_ref35_frameOK : List ResA := [.t 2]
theorem comp_ref35_frameOK : Tryd.f49.body.bind (compCode PP ann_ref35_frameOK 30) = some code_ref35_frameOK := by kernel_rfl
theorem resc_ref35_frameOK : mapM' (compRes PP) Tryd.f49.results.toList = some res_ref35_frameOK := by kernel_rfl
theorem body_ref35_frameOK : hasBody PP 49 = true := by kernel_rfl
theorem enter_ref35_frameOK {args : List AV} {h : AHeap} {R : AEnd → AHeap → Prop} (hargs : args.length ≤ 30) (hw : codeWp ⟨PP, Gl, 30, ann_ref35_frameOK, h.length, none⟩ code_ref35_frameOK (retPost PP Gl h res_ref35_frameOK R) (initEnv args) h) : ACalls PP Gl 49 args h R :=
  acalls_of_code Tryd.func49 body_ref35_frameOK comp_ref35_frameOK resc_ref35_frameOK hargs (Nat.le_trans hargs (by decide)) (codeWp_sound mixed hw)

/-- apodixis/apodixisref35.sees -/
def ann_ref35_sees : List Nat := [3]
def code_ref35_sees : ACode :=
 .seq (.reg [⟨(some 3), .box (.t 0), none, []⟩,
    ⟨(some 6), .mv (.c (.sc (.bool false))), none, []⟩]) (
 .seq (.reg [⟨(some 7), .faddr 0 .one (.t 3), none, []⟩,
    ⟨(some 8), .load .one (.t 7), none, [0]⟩,
    ⟨(some 9), .mv (.t 1), none, []⟩,
    ⟨(some 10), .iaddr 1 (.t 8) (.t 9), none, [1, 2]⟩,
    ⟨(some 11), .load .one (.t 10), none, [3]⟩,
    ⟨(some 12), .mv (.t 2), none, []⟩,
    ⟨(some 13), .conv .u64 (.t 12), none, [5]⟩,
    ⟨(some 14), .bin .shr (.t 11) (.t 13), none, [4, 6]⟩,
    ⟨(some 15), .bin .and (.t 14) (.c (.sc (v64 1#64))), none, [7]⟩,
    ⟨(some 16), .bin .eql (.t 15) (.c (.sc (v64 1#64))), none, [8]⟩,
    ⟨(some 6), .mv (.t 16), none, [9, 0, 1, 2, 3, 4, 5, 6, 7, 8, 9]⟩]) (
 .ret))
def res_ref35_sees : List ResA := [.t 6]
theorem comp_ref35_sees : Tryd.f50.body.bind (compCode PP ann_ref35_sees 17) = some code_ref35_sees := by kernel_rfl
theorem resc_ref35_sees : mapM' (compRes PP) Tryd.f50.results.toList = some res_ref35_sees := by kernel_rfl
theorem body_ref35_sees : hasBody PP 50 = true := by kernel_rfl
theorem enter_ref35_sees {args : List AV} {h : AHeap} {R : AEnd → AHeap → Prop} (hargs : args.length ≤ 17) (hw : codeWp ⟨PP, Gl, 17, ann_ref35_sees, h.length, none⟩ code_ref35_sees (retPost PP Gl h res_ref35_sees R) (initEnv args) h) : ACalls PP Gl 50 args h R :=
  acalls_of_code Tryd.func50 body_ref35_sees comp_ref35_sees resc_ref35_sees hargs (Nat.le_trans hargs (by decide)) (codeWp_sound mixed hw)

def lp1_ref35_reach : ACode :=
 .seq (.seq (.reg [⟨(some 20), .mv (.t 7), none, []⟩,
            ⟨(some 21), .faddr 0 .one (.t 2), none, []⟩,
            ⟨(some 22), .load .one (.t 21), none, [1]⟩,
            ⟨(some 23), .len .sl (.t 22), none, [2]⟩,
            ⟨(some 24), .bin .lss (.t 20) (.t 23), none, [0, 3]⟩]) (
         .cond (.t 24) (.skip) (
         .exit 2))) (
        .seq (.block 3 (.seq (.reg [⟨(some 27), .mv (.t 5), none, []⟩,
             ⟨(some 28), .mv (.t 7), none, []⟩,
             ⟨(some 29), .conv .u64 (.t 28), none, [1]⟩,
             ⟨(some 30), .bin .shr (.t 27) (.t 29), none, [0, 2]⟩,
             ⟨(some 31), .bin .and (.t 30) (.c (.sc (v64 1#64))), none, [3]⟩,
             ⟨(some 32), .bin .eql (.t 31) (.c (.sc (v64 1#64))), none, [4]⟩]) (
          .cond (.t 32) (.reg [⟨(some 33), .mv (.t 5), none, []⟩,
             ⟨(some 34), .faddr 0 .one (.t 2), none, []⟩,
             ⟨(some 35), .load .one (.t 34), none, [1]⟩,
             ⟨(some 36), .mv (.t 7), none, []⟩,
             ⟨(some 37), .iaddr 1 (.t 35) (.t 36), none, [2, 3]⟩,
             ⟨(some 38), .load .one (.t 37), none, [4]⟩,
             ⟨(some 39), .bin .or (.t 33) (.t 38), none, [0, 5]⟩,
             ⟨(some 5), .mv (.t 39), none, [6, 0, 1, 2, 3, 4, 5, 6]⟩]) (
          .skip)))) (
        .reg [⟨(some 25), .mv (.t 7), none, []⟩,
          ⟨(some 26), .bin .add (.t 25) (.c (.sc (.int .i64 1))), none, [0]⟩,
          ⟨(some 7), .mv (.t 26), none, [1, 0, 1]⟩]))
def lp0_ref35_reach : ACode :=
 .seq (.seq (.reg [⟨(some 13), .mv (.t 6), none, []⟩,
        ⟨(some 14), .faddr 0 .one (.t 2), none, []⟩,
        ⟨(some 15), .load .one (.t 14), none, [1]⟩,
        ⟨(some 16), .len .sl (.t 15), none, [2]⟩,
        ⟨(some 17), .bin .lss (.t 13) (.t 16), none, [0, 3]⟩]) (
     .cond (.t 17) (.skip) (
     .exit 0))) (
    .seq (.block 1 (.seq (.reg [⟨(some 7), .mv (.c (.sc (.int .i64 0))), none, []⟩]) (
      .block 2 (.loop lp1_ref35_reach)))) (
    .reg [⟨(some 18), .mv (.t 6), none, []⟩,
      ⟨(some 19), .bin .add (.t 18) (.c (.sc (.int .i64 1))), none, [0]⟩,
      ⟨(some 6), .mv (.t 19), none, [1, 0, 1]⟩]))
/-- apodixis/apodixisref35.reach -/
def ann_ref35_reach : List Nat := [2]
def code_ref35_reach : ACode :=
 .seq (.reg [⟨(some 2), .box (.t 0), none, []⟩,
    ⟨(some 4), .mv (.c (.sc (v64 0#64))), none, []⟩]) (
 .seq (.reg [⟨(some 8), .faddr 0 .one (.t 2), none, []⟩,
    ⟨(some 9), .load .one (.t 8), none, [0]⟩,
    ⟨(some 10), .mv (.t 1), none, []⟩,
    ⟨(some 11), .iaddr 1 (.t 9) (.t 10), none, [1, 2]⟩,
    ⟨(some 12), .load .one (.t 11), none, [3]⟩,
    ⟨(some 5), .mv (.t 12), none, [4, 0, 1, 2, 3, 4]⟩]) (
 .seq (.seq (.reg [⟨(some 6), .mv (.c (.sc (.int .i64 0))), none, []⟩]) (
  .block 0 (.loop lp0_ref35_reach))) (
 .seq (.reg [⟨(some 40), .mv (.t 5), none, []⟩,
    ⟨(some 4), .mv (.t 40), none, [0, 0]⟩]) (
 .ret))))
def res_ref35_reach : List ResA := [.t 4]
theorem comp_ref35_reach : Tryd.f51.body.bind (compCode PP ann_ref35_reach 41) = some code_ref35_reach := by kernel_rfl
theorem resc_ref35_reach : mapM' (compRes PP) Tryd.f51.results.toList = some res_ref35_reach := by kernel_rfl
theorem body_ref35_reach : hasBody PP 51 = true := by kernel_rfl
theorem enter_ref35_reach {args : List AV} {h : AHeap} {R : AEnd → AHeap → Prop} (hargs : args.length ≤ 41) (hw : codeWp ⟨PP, Gl, 41, ann_ref35_reach, h.length, none⟩ code_ref35_reach (retPost PP Gl h res_ref35_reach R) (initEnv args) h) : ACalls PP Gl 51 args h R :=
  acalls_of_code Tryd.func51 body_ref35_reach comp_ref35_reach resc_ref35_reach hargs (Nat.le_trans hargs (by decide)) (codeWp_sound mixed hw)

def lp0_modal_meanings : ACode :=
 .seq (.reg [⟨(some 11), .bin .lss (.t 10) (.t 9), none, []⟩]) (
    .seq (.cond (.t 11) (.skip) (
     .exit 0)) (
    .seq (.block 1 (.seq (.reg [⟨(some 12), .iaddr 2 (.t 8) (.t 10), none, []⟩,
         ⟨(some 13), .load (.agg 2) (.t 12), none, [0]⟩,
         ⟨(some 6), .pnew 2, none, []⟩,
         ⟨none, .pstore 2 6 (.t 13), none, [2, 1, 0, 1, 2]⟩]) (
      .seq (.seq (.reg [⟨(some 14), .faddr 0 .one (.t 6), none, []⟩,
          ⟨(some 15), .load .one (.t 14), none, [0]⟩,
          ⟨(some 16), .bin .eql (.t 15) (.c (.sc (.string ⟨#[]⟩))), none, [1]⟩,
          ⟨(some 17), .mv (.t 16), none, [2]⟩,
          ⟨(some 18), .mv (.t 4), (some (17, false)), [3]⟩,
          ⟨(some 19), .faddr 0 .one (.t 6), (some (17, false)), [3]⟩,
          ⟨(some 20), .load .one (.t 19), (some (17, false)), [5, 3]⟩,
          ⟨(some 21), .lookup true (.sc (.int .i64 0)) false (.t 18) (.t 20), (some (17, false)), [4, 6, 3]⟩,
          ⟨(some 22), .bin .neq (.t 21) (.c (.sc (.int .i64 0))), (some (17, false)), [7, 3]⟩,
          ⟨(some 23), .pick (.t 17) (.c (.sc (.bool true))) (.t 22), none, [3, 8]⟩,
          ⟨(some 24), .mv (.t 23), none, [9, 3]⟩,
          ⟨(some 25), .faddr 1 .one (.t 6), (some (24, false)), [10]⟩,
          ⟨(some 26), .load .one (.t 25), (some (24, false)), [11, 10]⟩,
          ⟨(some 27), .bin .lss (.t 26) (.c (.sc (.int .i64 1))), (some (24, false)), [12, 10]⟩,
          ⟨(some 28), .pick (.t 24) (.c (.sc (.bool true))) (.t 27), none, [10, 13]⟩,
          ⟨(some 29), .mv (.t 28), none, [14, 10]⟩,
          ⟨(some 30), .faddr 1 .one (.t 6), (some (29, false)), [15]⟩,
          ⟨(some 31), .load .one (.t 30), (some (29, false)), [16, 15]⟩,
          ⟨(some 32), .bin .gtr (.t 31) (.c (.sc (.int .i64 9))), (some (29, false)), [17, 15]⟩,
          ⟨(some 33), .pick (.t 29) (.c (.sc (.bool true))) (.t 32), none, [15, 18]⟩]) (
       .cond (.t 33) (.seq (.reg [⟨(some 2), .mv (.c (.sc (.map none))), none, []⟩,
           ⟨(some 3), .mv (.c (.sc (.bool false))), none, [0, 0]⟩]) (
        .ret)) (
       .skip))) (
      .reg [⟨(some 34), .mv (.t 4), none, []⟩,
        ⟨(some 35), .faddr 0 .one (.t 6), none, []⟩,
        ⟨(some 36), .load .one (.t 35), none, [1]⟩,
        ⟨(some 37), .faddr 1 .one (.t 6), none, []⟩,
        ⟨(some 38), .load .one (.t 37), none, [3]⟩,
        ⟨none, .mapUpd true (.t 34) (.t 36) (.t 38), none, [0, 2, 4, 0, 1, 2, 3, 4]⟩])))) (
    .reg [⟨(some 39), .bin .add (.t 10) (.c (.sc (.int .i64 1))), none, []⟩,
      ⟨(some 10), .mv (.t 39), none, [0]⟩])))
/-- apodixis/modal.meanings -/
def ann_modal_meanings : List Nat := [6]
def code_modal_meanings : ACode :=
 .seq (.reg [⟨(some 2), .mv (.c (.sc (.map none))), none, []⟩,
    ⟨(some 3), .mv (.c (.sc (.bool false))), none, [0]⟩]) (
 .seq (.reg [⟨(some 7), .mkMap, none, []⟩,
    ⟨(some 4), .mv (.t 7), none, [0, 0]⟩]) (
 .seq (.seq (.reg [⟨(some 8), .mv (.t 0), none, []⟩,
     ⟨(some 9), .len .sl (.t 8), none, [0]⟩,
     ⟨(some 10), .mv (.c (.sc (.int .i64 0))), none, []⟩]) (
  .block 0 (.loop lp0_modal_meanings))) (
 .seq (.reg [⟨(some 40), .mv (.t 4), none, []⟩,
    ⟨(some 2), .mv (.t 40), none, [0, 0]⟩,
    ⟨(some 3), .mv (.c (.sc (.bool true))), none, [1, 0, 1]⟩]) (
 .ret))))
def res_modal_meanings : List ResA := [.t 2, .t 3]
theorem comp_modal_meanings : Tryd.f52.body.bind (compCode PP ann_modal_meanings 41) = some code_modal_meanings := by kernel_rfl
theorem resc_modal_meanings : mapM' (compRes PP) Tryd.f52.results.toList = some res_modal_meanings := by kernel_rfl
theorem body_modal_meanings : hasBody PP 52 = true := by kernel_rfl
theorem enter_modal_meanings {args : List AV} {h : AHeap} {R : AEnd → AHeap → Prop} (hargs : args.length ≤ 41) (hw : codeWp ⟨PP, Gl, 41, ann_modal_meanings, h.length, none⟩ code_modal_meanings (retPost PP Gl h res_modal_meanings R) (initEnv args) h) : ACalls PP Gl 52 args h R :=
  acalls_of_code Tryd.func52 body_modal_meanings comp_modal_meanings resc_modal_meanings hargs (Nat.le_trans hargs (by decide)) (codeWp_sound mixed hw)

def lp0_syntax_Size : ACode :=
 .seq (.reg [⟨(some 12), .bin .lss (.t 11) (.t 10), none, []⟩]) (
    .seq (.cond (.t 12) (.skip) (
     .exit 0)) (
    .seq (.block 1 (.seq (.reg [⟨(some 13), .iaddr 2 (.t 9) (.t 11), none, []⟩,
         ⟨(some 14), .load (.agg 2) (.t 13), none, [0]⟩,
         ⟨(some 5), .pnew 2, none, []⟩,
         ⟨none, .pstore 2 5 (.t 14), none, [2, 1, 0, 1, 2]⟩]) (
      .seq (.reg [⟨(some 16), .load (.agg 2) (.t 5), none, []⟩,
         ⟨(some 17), .call (.c (.fn (.func 53) [] [])) [(.t 16)], none, [0]⟩,
         ⟨(some 15), .mv (.t 17), none, [1]⟩,
         ⟨(some 18), .extract (.t 15) 0, none, [2]⟩,
         ⟨(some 19), .extract (.t 15) 1, none, [2]⟩,
         ⟨(some 6), .mv (.t 18), none, [3, 1, 0, 1, 2, 3]⟩,
         ⟨(some 7), .mv (.t 19), none, [4, 5, 0, 1, 2, 3, 4, 5]⟩]) (
      .reg [⟨(some 20), .mv (.t 2), none, []⟩,
        ⟨(some 21), .mv (.t 6), none, []⟩,
        ⟨(some 22), .bin .add (.t 20) (.t 21), none, [0, 1]⟩,
        ⟨(some 23), .mv (.t 3), none, []⟩,
        ⟨(some 24), .mv (.t 7), none, []⟩,
        ⟨(some 25), .mx true (.t 23) (.t 24), none, [3, 4]⟩,
        ⟨(some 2), .mv (.t 22), none, [2, 0, 1, 2]⟩,
        ⟨(some 3), .mv (.t 25), none, [5, 6, 0, 1, 2, 3, 4, 5, 6]⟩])))) (
    .reg [⟨(some 26), .bin .add (.t 11) (.c (.sc (.int .i64 1))), none, []⟩,
      ⟨(some 11), .mv (.t 26), none, [0]⟩])))
/-- apodixis/syntax.Size -/
def ann_syntax_Size : List Nat := [1, 5]
def code_syntax_Size : ACode :=
 .seq (.reg [⟨(some 1), .box (.t 0), none, []⟩,
    ⟨(some 2), .mv (.c (.sc (.int .i64 0))), none, []⟩,
    ⟨(some 3), .mv (.c (.sc (.int .i64 0))), none, [1]⟩]) (
 .seq (.seq (.reg [⟨(some 8), .load (.agg 2) (.t 1), none, []⟩,
     ⟨(some 9), .call (.c (.fn (.func 69) [] [])) [(.t 8)], none, [0]⟩,
     ⟨(some 10), .len .sl (.t 9), none, [1]⟩,
     ⟨(some 11), .mv (.c (.sc (.int .i64 0))), none, []⟩]) (
  .block 0 (.loop lp0_syntax_Size))) (
 .seq (.reg [⟨(some 27), .mv (.t 2), none, []⟩,
    ⟨(some 28), .bin .add (.t 27) (.c (.sc (.int .i64 1))), none, [0]⟩,
    ⟨(some 29), .mv (.t 3), none, []⟩,
    ⟨(some 30), .bin .add (.t 29) (.c (.sc (.int .i64 1))), none, [2]⟩,
    ⟨(some 2), .mv (.t 28), none, [1, 0, 1]⟩,
    ⟨(some 3), .mv (.t 30), none, [3, 4, 0, 1, 2, 3, 4]⟩]) (
 .ret)))
def res_syntax_Size : List ResA := [.t 2, .t 3]
theorem comp_syntax_Size : Tryd.f53.body.bind (compCode PP ann_syntax_Size 31) = some code_syntax_Size := by kernel_rfl
theorem resc_syntax_Size : mapM' (compRes PP) Tryd.f53.results.toList = some res_syntax_Size := by kernel_rfl
theorem body_syntax_Size : hasBody PP 53 = true := by kernel_rfl
theorem enter_syntax_Size {args : List AV} {h : AHeap} {R : AEnd → AHeap → Prop} (hargs : args.length ≤ 31) (hw : codeWp ⟨PP, Gl, 31, ann_syntax_Size, h.length, none⟩ code_syntax_Size (retPost PP Gl h res_syntax_Size R) (initEnv args) h) : ACalls PP Gl 53 args h R :=
  acalls_of_code Tryd.func53 body_syntax_Size comp_syntax_Size resc_syntax_Size hargs (Nat.le_trans hargs (by decide)) (codeWp_sound mixed hw)

/-- apodixis/modal.check$1 -/
def ann_modal_check_1 : List Nat := [2]
def code_modal_check_1 : ACode :=
 .seq (.reg [⟨(some 4), .recover, none, []⟩,
    ⟨(some 1), .mv (.t 4), none, [0, 0, 0]⟩]) (
 .seq (.reg [⟨(some 5), .mv (.t 1), none, []⟩,
    ⟨(some 6), .eqnil .ifc true (.t 5) (.c (.sc .nilIface)), none, [0]⟩]) (
 .cond (.t 6) (.seq (.seq (.reg [⟨(some 8), .mv (.t 1), none, []⟩,
      ⟨(some 9), .tassert 109 (.agg []) true (.t 8), none, [0]⟩,
      ⟨(some 7), .mv (.t 9), none, [1]⟩,
      ⟨(some 10), .extract (.t 7) 0, none, [2]⟩,
      ⟨(some 11), .extract (.t 7) 1, none, [2]⟩,
      ⟨(some 2), .pnew 0, none, []⟩,
      ⟨none, .pstore 0 2 (.t 10), none, [5, 3, 0, 1, 2, 3, 5]⟩,
      ⟨(some 3), .mv (.t 11), none, [4, 6, 0, 1, 2, 3, 4, 5, 6]⟩]) (
   .seq (.reg [⟨(some 12), .mv (.t 3), none, []⟩,
      ⟨(some 13), .un .not (.t 12), none, [0]⟩]) (
   .cond (.t 13) (.reg [⟨(some 14), .mv (.t 1), none, []⟩,
      ⟨none, .panic (.t 14), none, [0]⟩]) (
   .skip)))) (
  .reg [⟨none, .store 1 (.t 0) (.c (.sc (.int .i64 370))), none, []⟩])) (
 .skip)))
def res_modal_check_1 : List ResA := []
theorem comp_modal_check_1 : Tryd.f54.body.bind (compCode PP ann_modal_check_1 15) = some code_modal_check_1 := by kernel_rfl
theorem resc_modal_check_1 : mapM' (compRes PP) Tryd.f54.results.toList = some res_modal_check_1 := by kernel_rfl
theorem body_modal_check_1 : hasBody PP 54 = true := by kernel_rfl
theorem enter_modal_check_1 {args : List AV} {h : AHeap} {R : AEnd → AHeap → Prop} (hargs : args.length ≤ 15) (hw : codeWp ⟨PP, Gl, 15, ann_modal_check_1, h.length, none⟩ code_modal_check_1 (retPost PP Gl h res_modal_check_1 R) (initEnv args) h) : ACalls PP Gl 54 args h R :=
  acalls_of_code Tryd.func54 body_modal_check_1 comp_modal_check_1 resc_modal_check_1 hargs (Nat.le_trans hargs (by decide)) (codeWp_sound mixed hw)

def lp0_modal_check_2 : ACode :=
 .seq (.reg [⟨(some 21), .bin .lss (.t 20) (.t 19), none, []⟩]) (
   .seq (.cond (.t 21) (.skip) (
    .exit 0)) (
   .seq (.block 1 (.seq (.reg [⟨(some 22), .iaddr 2 (.t 18) (.t 20), none, []⟩,
        ⟨(some 23), .load (.agg 2) (.t 22), none, [0]⟩,
        ⟨(some 5), .pnew 2, none, []⟩,
        ⟨none, .pstore 2 5 (.t 23), none, [2, 1, 0, 1, 2]⟩]) (
     .reg [⟨(some 24), .load .one (.t 2), none, []⟩,
       ⟨(some 25), .load (.agg 2) (.t 5), none, []⟩,
       ⟨(some 26), .call (.t 24) [(.t 25)], none, [0, 1]⟩]))) (
   .reg [⟨(some 27), .bin .add (.t 20) (.c (.sc (.int .i64 1))), none, []⟩,
     ⟨(some 20), .mv (.t 27), none, [0]⟩])))
/-- apodixis/modal.check$2 -/
def ann_modal_check_2 : List Nat := [3, 5]
def code_modal_check_2 : ACode :=
 .seq (.reg [⟨(some 3), .box (.t 0), none, []⟩]) (
 .seq (.seq (.dreg [(true, ⟨(some 6), .faddr 1 .one (.t 3), none, []⟩),
     (true, ⟨(some 7), .load .one (.t 6), none, [0]⟩),
     (true, ⟨(some 8), .len .sl (.t 7), none, [1]⟩),
     (true, ⟨(some 9), .load .one (.t 1), none, []⟩),
     (false, ⟨(some 10), .faddr 0 .one (.t 3), none, []⟩),
     (false, ⟨(some 11), .load .one (.t 10), none, [4]⟩),
     (false, ⟨(some 12), .lookup true (.sc (.int .i64 0)) false (.t 9) (.t 11), none, [3, 5]⟩),
     (false, ⟨(some 13), .call (.c (.fn (.func 56) [] [])) [(.t 12)], none, [6]⟩),
     (false, ⟨(some 14), .bin .neq (.t 8) (.t 13), none, [2, 7]⟩)]) (
  .cond (.t 14) (.reg [⟨(some 15), .build [] [], none, []⟩,
     ⟨(some 16), .mkIface 109 (.t 15), none, [0]⟩,
     ⟨none, .panic (.t 16), none, [1]⟩]) (
  .skip))) (
 .seq (.reg [⟨(some 17), .faddr 1 .one (.t 3), none, []⟩,
    ⟨(some 18), .load .one (.t 17), none, [0]⟩,
    ⟨(some 19), .len .sl (.t 18), none, [1]⟩,
    ⟨(some 20), .mv (.c (.sc (.int .i64 0))), none, []⟩]) (
 .block 0 (.loop lp0_modal_check_2))))
def res_modal_check_2 : List ResA := []
theorem comp_modal_check_2 : Tryd.f55.body.bind (compCode PP ann_modal_check_2 28) = some code_modal_check_2 := by kernel_rfl
theorem resc_modal_check_2 : mapM' (compRes PP) Tryd.f55.results.toList = some res_modal_check_2 := by kernel_rfl
theorem body_modal_check_2 : hasBody PP 55 = true := by kernel_rfl
theorem enter_modal_check_2 {args : List AV} {h : AHeap} {R : AEnd → AHeap → Prop} (hargs : args.length ≤ 28) (hw : codeWp ⟨PP, Gl, 28, ann_modal_check_2, h.length, none⟩ code_modal_check_2 (retPost PP Gl h res_modal_check_2 R) (initEnv args) h) : ACalls PP Gl 55 args h R :=
  acalls_of_code Tryd.func55 body_modal_check_2 comp_modal_check_2 resc_modal_check_2 hargs (Nat.le_trans hargs (by decide)) (codeWp_sound mixed hw)

/-- apodixis/modal.kids -/
def ann_modal_kids : List Nat := []
def code_modal_kids : ACode :=
 .seq (.reg [⟨(some 2), .mv (.c (.sc (.int .i64 0))), none, []⟩]) (
 .seq (.seq (.reg [⟨(some 3), .mv (.t 0), none, []⟩]) (
  .block 0 (.seq (.seq (.reg [⟨(some 5), .bin .eql (.t 3) (.c (.sc (.int .i64 1))), none, []⟩,
       ⟨(some 4), .mv (.t 5), none, [0]⟩]) (
    .cond (.t 4) (.skip) (
    .seq (.reg [⟨(some 6), .bin .eql (.t 3) (.c (.sc (.int .i64 8))), none, []⟩,
        ⟨(some 4), .mv (.t 6), none, [0]⟩]) (
     .cond (.t 4) (.skip) (
     .reg [⟨(some 7), .bin .eql (.t 3) (.c (.sc (.int .i64 9))), none, []⟩,
        ⟨(some 4), .mv (.t 7), none, [0]⟩]))))) (
   .cond (.t 4) (.seq (.reg [⟨(some 2), .mv (.c (.sc (.int .i64 1))), none, []⟩]) (
    .ret)) (
   .seq (.seq (.reg [⟨(some 9), .bin .eql (.t 3) (.c (.sc (.int .i64 3))), none, []⟩,
        ⟨(some 8), .mv (.t 9), none, [0]⟩]) (
     .cond (.t 8) (.skip) (
     .seq (.reg [⟨(some 10), .bin .eql (.t 3) (.c (.sc (.int .i64 4))), none, []⟩,
         ⟨(some 8), .mv (.t 10), none, [0]⟩]) (
      .cond (.t 8) (.skip) (
      .seq (.reg [⟨(some 11), .bin .eql (.t 3) (.c (.sc (.int .i64 2))), none, []⟩,
          ⟨(some 8), .mv (.t 11), none, [0]⟩]) (
       .cond (.t 8) (.skip) (
       .reg [⟨(some 12), .bin .eql (.t 3) (.c (.sc (.int .i64 5))), none, []⟩,
          ⟨(some 8), .mv (.t 12), none, [0]⟩]))))))) (
    .cond (.t 8) (.seq (.reg [⟨(some 2), .mv (.c (.sc (.int .i64 2))), none, []⟩]) (
     .ret)) (
    .skip))))))) (
 .seq (.reg [⟨(some 2), .mv (.c (.sc (.int .i64 0))), none, []⟩]) (
 .ret)))
def res_modal_kids : List ResA := [.t 2]
theorem comp_modal_kids : Tryd.f56.body.bind (compCode PP ann_modal_kids 13) = some code_modal_kids := by kernel_rfl
theorem resc_modal_kids : mapM' (compRes PP) Tryd.f56.results.toList = some res_modal_kids := by kernel_rfl
theorem body_modal_kids : hasBody PP 56 = true := by kernel_rfl
theorem enter_modal_kids {args : List AV} {h : AHeap} {R : AEnd → AHeap → Prop} (hargs : args.length ≤ 13) (hw : codeWp ⟨PP, Gl, 13, ann_modal_kids, h.length, none⟩ code_modal_kids (retPost PP Gl h res_modal_kids R) (initEnv args) h) : ACalls PP Gl 56 args h R :=
  acalls_of_code Tryd.func56 body_modal_kids comp_modal_kids resc_modal_kids hargs (Nat.le_trans hargs (by decide)) (codeWp_sound mixed hw)

/-- apodixis/modal.follows$1 -/
def ann_modal_follows_1 : List Nat := [3]
def code_modal_follows_1 : ACode :=
 .seq (.reg [⟨(some 3), .box (.t 0), none, []⟩,
    ⟨(some 4), .mv (.c (.sc (.bool false))), none, []⟩]) (
 .seq (.dreg [(true, ⟨(some 5), .load (.agg 3) (.t 1), none, []⟩),
    (true, ⟨(some 6), .load (.agg 2) (.t 3), none, []⟩),
    (true, ⟨(some 8), .load (.agg 1) (.t 2), none, []⟩),
    (false, ⟨(some 7), .call (.c (.fn (.func 44) [] [])) [(.t 5), (.t 6)], none, [0, 1]⟩),
    (false, ⟨(some 9), .call (.c (.fn (.func 42) [] [])) [(.t 8)], none, [3, 2]⟩),
    (false, ⟨(some 10), .bin .neq (.t 7) (.t 9), none, [2, 4]⟩),
    (false, ⟨(some 4), .mv (.t 10), none, [5, 4, 0, 1, 2, 3, 4, 5]⟩)]) (
 .ret))
def res_modal_follows_1 : List ResA := [.t 4]
theorem comp_modal_follows_1 : Tryd.f57.body.bind (compCode PP ann_modal_follows_1 11) = some code_modal_follows_1 := by kernel_rfl
theorem resc_modal_follows_1 : mapM' (compRes PP) Tryd.f57.results.toList = some res_modal_follows_1 := by kernel_rfl
theorem body_modal_follows_1 : hasBody PP 57 = true := by kernel_rfl
theorem enter_modal_follows_1 {args : List AV} {h : AHeap} {R : AEnd → AHeap → Prop} (hargs : args.length ≤ 11) (hw : codeWp ⟨PP, Gl, 11, ann_modal_follows_1, h.length, none⟩ code_modal_follows_1 (retPost PP Gl h res_modal_follows_1 R) (initEnv args) h) : ACalls PP Gl 57 args h R :=
  acalls_of_code Tryd.func57 body_modal_follows_1 comp_modal_follows_1 resc_modal_follows_1 hargs (Nat.le_trans hargs (by decide)) (codeWp_sound mixed hw)

/-- apodixis/modal.models -/
def ann_modal_models : List Nat := [2, 3]
def code_modal_models : ACode :=
 .seq (.reg [⟨(some 2), .box (.t 0), none, []⟩,
    ⟨(some 3), .box (.t 1), none, []⟩,
    ⟨(some 4), .mv (.c (.sc .nilFunc)), none, []⟩]) (
 .seq (.reg [⟨(some 5), .mkFunc (.func 70) [] [(.t 2), (.t 3)], none, []⟩,
    ⟨(some 4), .mv (.t 5), none, [0, 0]⟩]) (
 .ret))
def res_modal_models : List ResA := [.t 4]
theorem comp_modal_models : Tryd.f58.body.bind (compCode PP ann_modal_models 6) = some code_modal_models := by kernel_rfl
theorem resc_modal_models : mapM' (compRes PP) Tryd.f58.results.toList = some res_modal_models := by kernel_rfl
theorem body_modal_models : hasBody PP 58 = true := by kernel_rfl
theorem enter_modal_models {args : List AV} {h : AHeap} {R : AEnd → AHeap → Prop} (hargs : args.length ≤ 6) (hw : codeWp ⟨PP, Gl, 6, ann_modal_models, h.length, none⟩ code_modal_models (retPost PP Gl h res_modal_models R) (initEnv args) h) : ACalls PP Gl 58 args h R :=
  acalls_of_code Tryd.func58 body_modal_models comp_modal_models resc_modal_models hargs (Nat.le_trans hargs (by decide)) (codeWp_sound mixed hw)

/-- slices.ContainsFunc[[]apodixis/api.Tree,apodixis/api.Tree] -/
def ann_slices_ContainsFunc_api_Tree_api_Tree : List Nat := []
def code_slices_ContainsFunc_api_Tree_api_Tree : ACode :=
 .seq (.reg [⟨(some 4), .mv (.c (.sc (.bool false))), none, []⟩]) (
 .seq (.reg [⟨(some 5), .mv (.t 0), none, []⟩,
    ⟨(some 6), .mv (.t 1), none, []⟩,
    ⟨(some 7), .call (.c (.fn (.func 71) [] [])) [(.t 5), (.t 6)], none, [0, 1]⟩,
    ⟨(some 8), .bin .geq (.t 7) (.c (.sc (.int .i64 0))), none, [2]⟩,
    ⟨(some 4), .mv (.t 8), none, [3, 2, 0, 1, 2, 3]⟩]) (
 .ret))
def res_slices_ContainsFunc_api_Tree_api_Tree : List ResA := [.t 4]
theorem comp_slices_ContainsFunc_api_Tree_api_Tree : Tryd.f59.body.bind (compCode PP ann_slices_ContainsFunc_api_Tree_api_Tree 9) = some code_slices_ContainsFunc_api_Tree_api_Tree := by kernel_rfl
theorem resc_slices_ContainsFunc_api_Tree_api_Tree : mapM' (compRes PP) Tryd.f59.results.toList = some res_slices_ContainsFunc_api_Tree_api_Tree := by kernel_rfl
theorem body_slices_ContainsFunc_api_Tree_api_Tree : hasBody PP 59 = true := by kernel_rfl
theorem enter_slices_ContainsFunc_api_Tree_api_Tree {args : List AV} {h : AHeap} {R : AEnd → AHeap → Prop} (hargs : args.length ≤ 9) (hw : codeWp ⟨PP, Gl, 9, ann_slices_ContainsFunc_api_Tree_api_Tree, h.length, none⟩ code_slices_ContainsFunc_api_Tree_api_Tree (retPost PP Gl h res_slices_ContainsFunc_api_Tree_api_Tree R) (initEnv args) h) : ACalls PP Gl 59 args h R :=
  acalls_of_code Tryd.func59 body_slices_ContainsFunc_api_Tree_api_Tree comp_slices_ContainsFunc_api_Tree_api_Tree resc_slices_ContainsFunc_api_Tree_api_Tree hargs (Nat.le_trans hargs (by decide)) (codeWp_sound mixed hw)

/-- math/bits.TrailingZeros -/
def ann_math_bits_TrailingZeros : List Nat := []
def code_math_bits_TrailingZeros : ACode :=
 .seq (.reg [⟨(some 2), .mv (.c (.sc (.int .i64 0))), none, []⟩]) (
 .seq (.cond (.c (.sc (.bool false))) (.seq (.reg [⟨(some 3), .mv (.t 0), none, []⟩,
      ⟨(some 4), .conv .u32 (.t 3), none, [0]⟩,
      ⟨(some 5), .call (.c (.fn (.func 72) [] [])) [(.t 4)], none, [1]⟩,
      ⟨(some 2), .mv (.t 5), none, [2, 2, 0, 1, 2]⟩]) (
   .ret)) (
  .skip)) (
 .seq (.reg [⟨(some 6), .mv (.t 0), none, []⟩,
    ⟨(some 7), .call (.c (.fn (.func 73) [] [])) [(.t 6)], none, [0]⟩,
    ⟨(some 2), .mv (.t 7), none, [1, 1, 0, 1]⟩]) (
 .ret)))
def res_math_bits_TrailingZeros : List ResA := [.t 2]
theorem comp_math_bits_TrailingZeros : Tryd.f60.body.bind (compCode PP ann_math_bits_TrailingZeros 8) = some code_math_bits_TrailingZeros := by kernel_rfl
theorem resc_math_bits_TrailingZeros : mapM' (compRes PP) Tryd.f60.results.toList = some res_math_bits_TrailingZeros := by kernel_rfl
theorem body_math_bits_TrailingZeros : hasBody PP 60 = true := by kernel_rfl
theorem enter_math_bits_TrailingZeros {args : List AV} {h : AHeap} {R : AEnd → AHeap → Prop} (hargs : args.length ≤ 8) (hw : codeWp ⟨PP, Gl, 8, ann_math_bits_TrailingZeros, h.length, none⟩ code_math_bits_TrailingZeros (retPost PP Gl h res_math_bits_TrailingZeros R) (initEnv args) h) : ACalls PP Gl 60 args h R :=
  acalls_of_code Tryd.func60 body_math_bits_TrailingZeros comp_math_bits_TrailingZeros resc_math_bits_TrailingZeros hargs (Nat.le_trans hargs (by decide)) (codeWp_sound mixed hw)

def lp1_ref35_rolesOK : ACode :=
 .seq (.seq (.reg [⟨(some 33), .mv (.t 4), none, []⟩,
            ⟨(some 34), .mv (.t 3), none, []⟩,
            ⟨(some 35), .bin .lss (.t 33) (.t 34), none, [0, 1]⟩]) (
         .cond (.t 35) (.skip) (
         .exit 2))) (
        .seq (.block 3 (.seq (.dreg [(true, ⟨(some 38), .mv (.t 0), none, []⟩),
             (true, ⟨(some 39), .mv (.t 4), none, []⟩),
             (true, ⟨(some 40), .iaddr 2 (.t 38) (.t 39), none, [0, 1]⟩),
             (true, ⟨(some 41), .faddr 0 .one (.t 40), none, [2]⟩),
             (true, ⟨(some 42), .load .one (.t 41), none, [3]⟩),
             (true, ⟨(some 43), .mv (.t 0), none, []⟩),
             (false, ⟨(some 44), .mv (.t 3), none, []⟩),
             (false, ⟨(some 45), .iaddr 2 (.t 43) (.t 44), none, [5, 6]⟩),
             (false, ⟨(some 46), .faddr 0 .one (.t 45), none, [7]⟩),
             (false, ⟨(some 47), .load .one (.t 46), none, [8]⟩),
             (false, ⟨(some 48), .bin .eql (.t 42) (.t 47), none, [4, 9]⟩)]) (
          .cond (.t 48) (.seq (.reg [⟨(some 2), .mv (.c (.sc (.bool false))), none, []⟩]) (
           .ret)) (
          .skip)))) (
        .reg [⟨(some 36), .mv (.t 4), none, []⟩,
          ⟨(some 37), .bin .add (.t 36) (.c (.sc (.int .i64 1))), none, [0]⟩,
          ⟨(some 4), .mv (.t 37), none, [1, 0, 1]⟩]))
def lp0_ref35_rolesOK : ACode :=
 .seq (.seq (.reg [⟨(some 5), .mv (.t 3), none, []⟩,
        ⟨(some 6), .mv (.t 0), none, []⟩,
        ⟨(some 7), .len .sl (.t 6), none, [1]⟩,
        ⟨(some 8), .bin .lss (.t 5) (.t 7), none, [0, 2]⟩]) (
     .cond (.t 8) (.skip) (
     .exit 0))) (
    .seq (.block 1 (.seq (.seq (.reg [⟨(some 11), .mv (.t 0), none, []⟩,
          ⟨(some 12), .mv (.t 3), none, []⟩,
          ⟨(some 13), .iaddr 2 (.t 11) (.t 12), none, [0, 1]⟩,
          ⟨(some 14), .faddr 0 .one (.t 13), none, [2]⟩,
          ⟨(some 15), .load .one (.t 14), none, [3]⟩,
          ⟨(some 16), .bin .eql (.t 15) (.c (.sc (.string ⟨#[]⟩))), none, [4]⟩,
          ⟨(some 17), .mv (.t 16), none, [5]⟩,
          ⟨(some 18), .mv (.t 0), (some (17, false)), [6]⟩,
          ⟨(some 19), .mv (.t 3), (some (17, false)), [6]⟩,
          ⟨(some 20), .iaddr 2 (.t 18) (.t 19), (some (17, false)), [7, 8, 6]⟩,
          ⟨(some 21), .faddr 1 .one (.t 20), (some (17, false)), [9, 6]⟩,
          ⟨(some 22), .load .one (.t 21), (some (17, false)), [10, 6]⟩,
          ⟨(some 23), .bin .lss (.t 22) (.c (.sc (.int .i64 1))), (some (17, false)), [11, 6]⟩,
          ⟨(some 24), .pick (.t 17) (.c (.sc (.bool true))) (.t 23), none, [6, 12]⟩,
          ⟨(some 25), .mv (.t 24), none, [13, 6]⟩,
          ⟨(some 26), .mv (.t 0), (some (25, false)), [14]⟩,
          ⟨(some 27), .mv (.t 3), (some (25, false)), [14]⟩,
          ⟨(some 28), .iaddr 2 (.t 26) (.t 27), (some (25, false)), [15, 16, 14]⟩,
          ⟨(some 29), .faddr 1 .one (.t 28), (some (25, false)), [17, 14]⟩,
          ⟨(some 30), .load .one (.t 29), (some (25, false)), [18, 14]⟩,
          ⟨(some 31), .bin .gtr (.t 30) (.c (.sc (.int .i64 9))), (some (25, false)), [19, 14]⟩,
          ⟨(some 32), .pick (.t 25) (.c (.sc (.bool true))) (.t 31), none, [14, 20]⟩]) (
       .cond (.t 32) (.seq (.reg [⟨(some 2), .mv (.c (.sc (.bool false))), none, []⟩]) (
        .ret)) (
       .skip))) (
      .seq (.reg [⟨(some 4), .mv (.c (.sc (.int .i64 0))), none, []⟩]) (
      .block 2 (.loop lp1_ref35_rolesOK))))) (
    .reg [⟨(some 9), .mv (.t 3), none, []⟩,
      ⟨(some 10), .bin .add (.t 9) (.c (.sc (.int .i64 1))), none, [0]⟩,
      ⟨(some 3), .mv (.t 10), none, [1, 0, 1]⟩]))
/-- apodixis/apodixisref35.rolesOK -/
def ann_ref35_rolesOK : List Nat := []
def code_ref35_rolesOK : ACode :=
 .seq (.reg [⟨(some 2), .mv (.c (.sc (.bool false))), none, []⟩]) (
 .seq (.seq (.reg [⟨(some 3), .mv (.c (.sc (.int .i64 0))), none, []⟩]) (
  .block 0 (.loop lp0_ref35_rolesOK))) (
 .seq (.reg [⟨(some 2), .mv (.c (.sc (.bool true))), none, []⟩]) (
 .ret)))
def res_ref35_rolesOK : List ResA := [.t 2]
theorem comp_ref35_rolesOK : Tryd.f61.body.bind (compCode PP ann_ref35_rolesOK 49) = some code_ref35_rolesOK := by kernel_rfl
theorem resc_ref35_rolesOK : mapM' (compRes PP) Tryd.f61.results.toList = some res_ref35_rolesOK := by kernel_rfl
theorem body_ref35_rolesOK : hasBody PP 61 = true := by kernel_rfl
theorem enter_ref35_rolesOK {args : List AV} {h : AHeap} {R : AEnd → AHeap → Prop} (hargs : args.length ≤ 49) (hw : codeWp ⟨PP, Gl, 49, ann_ref35_rolesOK, h.length, none⟩ code_ref35_rolesOK (retPost PP Gl h res_ref35_rolesOK R) (initEnv args) h) : ACalls PP Gl 61 args h R :=
  acalls_of_code Tryd.func61 body_ref35_rolesOK comp_ref35_rolesOK resc_ref35_rolesOK hargs (Nat.le_trans hargs (by decide)) (codeWp_sound mixed hw)

def lp0_ref35_size : ACode :=
 .seq (.seq (.reg [⟨(some 12), .mv (.t 8), none, []⟩,
        ⟨(some 13), .faddr 1 .one (.t 2), none, []⟩,
        ⟨(some 14), .load .one (.t 13), none, [1]⟩,
        ⟨(some 15), .len .sl (.t 14), none, [2]⟩,
        ⟨(some 16), .bin .lss (.t 12) (.t 15), none, [0, 3]⟩,
        ⟨(some 17), .mv (.t 16), none, [4]⟩,
        ⟨(some 18), .mv (.t 6), (some (17, true)), [5]⟩,
        ⟨(some 19), .bin .leq (.t 18) (.c (.sc (.int .i64 4000))), (some (17, true)), [6, 5]⟩,
        ⟨(some 20), .pick (.t 17) (.t 19) (.c (.sc (.bool false))), none, [5, 7]⟩]) (
     .cond (.t 20) (.skip) (
     .exit 0))) (
    .seq (.block 1 (.seq (.reg [⟨(some 24), .faddr 1 .one (.t 2), none, []⟩,
         ⟨(some 25), .load .one (.t 24), none, [0]⟩,
         ⟨(some 26), .mv (.t 8), none, []⟩,
         ⟨(some 27), .iaddr 2 (.t 25) (.t 26), none, [1, 2]⟩,
         ⟨(some 28), .load (.agg 2) (.t 27), none, [3]⟩,
         ⟨(some 29), .mv (.t 1), none, []⟩,
         ⟨(some 30), .bin .add (.t 29) (.c (.sc (.int .i64 1))), none, [5]⟩,
         ⟨(some 31), .call (.c (.fn (.func 62) [] [])) [(.t 28), (.t 30)], none, [4, 6]⟩,
         ⟨(some 23), .mv (.t 31), none, [7]⟩,
         ⟨(some 32), .extract (.t 23) 0, none, [8]⟩,
         ⟨(some 33), .extract (.t 23) 1, none, [8]⟩,
         ⟨(some 9), .mv (.t 32), none, [9, 7, 0, 1, 2, 3, 4, 5, 6, 7, 8, 9]⟩,
         ⟨(some 10), .mv (.t 33), none, [10, 11, 0, 1, 2, 3, 4, 5, 6, 7, 8, 9, 10, 11]⟩]) (
      .reg [⟨(some 34), .mv (.t 6), none, []⟩,
        ⟨(some 35), .mv (.t 9), none, []⟩,
        ⟨(some 36), .bin .add (.t 34) (.t 35), none, [0, 1]⟩,
        ⟨(some 37), .mv (.t 7), none, []⟩,
        ⟨(some 38), .mv (.t 10), none, []⟩,
        ⟨(some 39), .mx true (.t 37) (.t 38), none, [3, 4]⟩,
        ⟨(some 6), .mv (.t 36), none, [2, 0, 1, 2]⟩,
        ⟨(some 7), .mv (.t 39), none, [5, 6, 0, 1, 2, 3, 4, 5, 6]⟩]))) (
    .reg [⟨(some 21), .mv (.t 8), none, []⟩,
      ⟨(some 22), .bin .add (.t 21) (.c (.sc (.int .i64 1))), none, [0]⟩,
      ⟨(some 8), .mv (.t 22), none, [1, 0, 1]⟩]))
/-- apodixis/apodixisref35.size -/
def ann_ref35_size : List Nat := [2]
def code_ref35_size : ACode :=
 .seq (.reg [⟨(some 2), .box (.t 0), none, []⟩,
    ⟨(some 4), .mv (.c (.sc (.int .i64 0))), none, []⟩,
    ⟨(some 5), .mv (.c (.sc (.int .i64 0))), none, [1]⟩]) (
 .seq (.reg [⟨(some 11), .mv (.t 1), none, []⟩,
    ⟨(some 6), .mv (.c (.sc (.int .i64 1))), none, []⟩,
    ⟨(some 7), .mv (.t 11), none, [0, 1, 0, 1]⟩]) (
 .seq (.seq (.reg [⟨(some 8), .mv (.c (.sc (.int .i64 0))), none, []⟩]) (
  .block 0 (.loop lp0_ref35_size))) (
 .seq (.reg [⟨(some 40), .mv (.t 6), none, []⟩,
    ⟨(some 41), .mv (.t 7), none, []⟩,
    ⟨(some 4), .mv (.t 40), none, [0, 0]⟩,
    ⟨(some 5), .mv (.t 41), none, [1, 2, 0, 1, 2]⟩]) (
 .ret))))
def res_ref35_size : List ResA := [.t 4, .t 5]
theorem comp_ref35_size : Tryd.f62.body.bind (compCode PP ann_ref35_size 42) = some code_ref35_size := by kernel_rfl
theorem resc_ref35_size : mapM' (compRes PP) Tryd.f62.results.toList = some res_ref35_size := by kernel_rfl
theorem body_ref35_size : hasBody PP 62 = true := by kernel_rfl
theorem enter_ref35_size {args : List AV} {h : AHeap} {R : AEnd → AHeap → Prop} (hargs : args.length ≤ 42) (hw : codeWp ⟨PP, Gl, 42, ann_ref35_size, h.length, none⟩ code_ref35_size (retPost PP Gl h res_ref35_size R) (initEnv args) h) : ACalls PP Gl 62 args h R :=
  acalls_of_code Tryd.func62 body_ref35_size comp_ref35_size resc_ref35_size hargs (Nat.le_trans hargs (by decide)) (codeWp_sound mixed hw)

def lp0_ref35_formed : ACode :=
 .seq (.seq (.reg [⟨(some 15), .mv (.t 5), none, []⟩,
        ⟨(some 16), .faddr 1 .one (.t 3), none, []⟩,
        ⟨(some 17), .load .one (.t 16), none, [1]⟩,
        ⟨(some 18), .len .sl (.t 17), none, [2]⟩,
        ⟨(some 19), .bin .lss (.t 15) (.t 18), none, [0, 3]⟩]) (
     .cond (.t 19) (.skip) (
     .exit 0))) (
    .seq (.block 1 (.seq (.reg [⟨(some 22), .mv (.t 0), none, []⟩,
         ⟨(some 23), .faddr 1 .one (.t 3), none, []⟩,
         ⟨(some 24), .load .one (.t 23), none, [1]⟩,
         ⟨(some 25), .mv (.t 5), none, []⟩,
         ⟨(some 26), .iaddr 2 (.t 24) (.t 25), none, [2, 3]⟩,
         ⟨(some 27), .load (.agg 2) (.t 26), none, [4]⟩,
         ⟨(some 28), .call (.c (.fn (.func 63) [] [])) [(.t 22), (.t 27)], none, [0, 5]⟩,
         ⟨(some 29), .un .not (.t 28), none, [6]⟩]) (
      .cond (.t 29) (.seq (.reg [⟨(some 4), .mv (.c (.sc (.bool false))), none, []⟩]) (
       .ret)) (
      .skip)))) (
    .reg [⟨(some 20), .mv (.t 5), none, []⟩,
      ⟨(some 21), .bin .add (.t 20) (.c (.sc (.int .i64 1))), none, [0]⟩,
      ⟨(some 5), .mv (.t 21), none, [1, 0, 1]⟩]))
/-- apodixis/apodixisref35.formed -/
def ann_ref35_formed : List Nat := [3]
def code_ref35_formed : ACode :=
 .seq (.reg [⟨(some 3), .box (.t 1), none, []⟩,
    ⟨(some 4), .mv (.c (.sc (.bool false))), none, []⟩]) (
 .seq (.seq (.dreg [(true, ⟨(some 6), .faddr 1 .one (.t 3), none, []⟩),
     (true, ⟨(some 7), .load .one (.t 6), none, [0]⟩),
     (true, ⟨(some 8), .len .sl (.t 7), none, [1]⟩),
     (true, ⟨(some 9), .mv (.t 0), none, []⟩),
     (false, ⟨(some 10), .faddr 0 .one (.t 3), none, []⟩),
     (false, ⟨(some 11), .load .one (.t 10), none, [4]⟩),
     (false, ⟨(some 12), .call (.c (.fn (.func 64) [] [])) [(.t 9), (.t 11)], none, [3, 5]⟩),
     (false, ⟨(some 13), .call (.c (.fn (.func 74) [] [])) [(.t 12)], none, [6, 6]⟩),
     (false, ⟨(some 14), .bin .neq (.t 8) (.t 13), none, [2, 7]⟩)]) (
  .cond (.t 14) (.seq (.reg [⟨(some 4), .mv (.c (.sc (.bool false))), none, []⟩]) (
   .ret)) (
  .skip))) (
 .seq (.seq (.reg [⟨(some 5), .mv (.c (.sc (.int .i64 0))), none, []⟩]) (
  .block 0 (.loop lp0_ref35_formed))) (
 .seq (.reg [⟨(some 4), .mv (.c (.sc (.bool true))), none, []⟩]) (
 .ret))))
def res_ref35_formed : List ResA := [.t 4]
theorem comp_ref35_formed : Tryd.f63.body.bind (compCode PP ann_ref35_formed 30) = some code_ref35_formed := by kernel_rfl
theorem resc_ref35_formed : mapM' (compRes PP) Tryd.f63.results.toList = some res_ref35_formed := by kernel_rfl
theorem body_ref35_formed : hasBody PP 63 = true := by kernel_rfl
theorem enter_ref35_formed {args : List AV} {h : AHeap} {R : AEnd → AHeap → Prop} (hargs : args.length ≤ 30) (hw : codeWp ⟨PP, Gl, 30, ann_ref35_formed, h.length, none⟩ code_ref35_formed (retPost PP Gl h res_ref35_formed R) (initEnv args) h) : ACalls PP Gl 63 args h R :=
  acalls_of_code Tryd.func63 body_ref35_formed comp_ref35_formed resc_ref35_formed hargs (Nat.le_trans hargs (by decide)) (codeWp_sound mixed hw)

def lp0_ref35_meaning : ACode :=
 .seq (.seq (.reg [⟨(some 6), .mv (.t 5), none, []⟩,
        ⟨(some 7), .mv (.t 0), none, []⟩,
        ⟨(some 8), .len .sl (.t 7), none, [1]⟩,
        ⟨(some 9), .bin .lss (.t 6) (.t 8), none, [0, 2]⟩]) (
     .cond (.t 9) (.skip) (
     .exit 0))) (
    .seq (.block 1 (.seq (.reg [⟨(some 12), .mv (.t 0), none, []⟩,
         ⟨(some 13), .mv (.t 5), none, []⟩,
         ⟨(some 14), .iaddr 2 (.t 12) (.t 13), none, [0, 1]⟩,
         ⟨(some 15), .faddr 0 .one (.t 14), none, [2]⟩,
         ⟨(some 16), .load .one (.t 15), none, [3]⟩,
         ⟨(some 17), .mv (.t 1), none, []⟩,
         ⟨(some 18), .bin .eql (.t 16) (.t 17), none, [4, 5]⟩]) (
      .cond (.t 18) (.seq (.reg [⟨(some 19), .mv (.t 0), none, []⟩,
          ⟨(some 20), .mv (.t 5), none, []⟩,
          ⟨(some 21), .iaddr 2 (.t 19) (.t 20), none, [0, 1]⟩,
          ⟨(some 22), .faddr 1 .one (.t 21), none, [2]⟩,
          ⟨(some 23), .load .one (.t 22), none, [3]⟩,
          ⟨(some 4), .mv (.t 23), none, [4, 0, 1, 2, 3, 4]⟩]) (
       .ret)) (
      .skip)))) (
    .reg [⟨(some 10), .mv (.t 5), none, []⟩,
      ⟨(some 11), .bin .add (.t 10) (.c (.sc (.int .i64 1))), none, [0]⟩,
      ⟨(some 5), .mv (.t 11), none, [1, 0, 1]⟩]))
/-- apodixis/apodixisref35.meaning -/
def ann_ref35_meaning : List Nat := []
def code_ref35_meaning : ACode :=
 .seq (.reg [⟨(some 4), .mv (.c (.sc (.int .i64 0))), none, []⟩]) (
 .seq (.seq (.reg [⟨(some 5), .mv (.c (.sc (.int .i64 0))), none, []⟩]) (
  .block 0 (.loop lp0_ref35_meaning))) (
 .seq (.reg [⟨(some 4), .mv (.c (.sc (.int .i64 0))), none, []⟩]) (
 .ret)))
def res_ref35_meaning : List ResA := [.t 4]
theorem comp_ref35_meaning : Tryd.f64.body.bind (compCode PP ann_ref35_meaning 24) = some code_ref35_meaning := by kernel_rfl
theorem resc_ref35_meaning : mapM' (compRes PP) Tryd.f64.results.toList = some res_ref35_meaning := by kernel_rfl
theorem body_ref35_meaning : hasBody PP 64 = true := by kernel_rfl
theorem enter_ref35_meaning {args : List AV} {h : AHeap} {R : AEnd → AHeap → Prop} (hargs : args.length ≤ 24) (hw : codeWp ⟨PP, Gl, 24, ann_ref35_meaning, h.length, none⟩ code_ref35_meaning (retPost PP Gl h res_ref35_meaning R) (initEnv args) h) : ACalls PP Gl 64 args h R :=
  acalls_of_code Tryd.func64 body_ref35_meaning comp_ref35_meaning resc_ref35_meaning hargs (Nat.le_trans hargs (by decide)) (codeWp_sound mixed hw)

def lp0_modal_variables_1 : ACode :=
 .seq (.reg [⟨(some 32), .bin .lss (.t 31) (.t 30), none, []⟩]) (
   .seq (.cond (.t 32) (.skip) (
    .exit 0)) (
   .seq (.block 1 (.seq (.reg [⟨(some 33), .iaddr 2 (.t 29) (.t 31), none, []⟩,
        ⟨(some 34), .load (.agg 2) (.t 33), none, [0]⟩,
        ⟨(some 7), .pnew 2, none, []⟩,
        ⟨none, .pstore 2 7 (.t 34), none, [2, 1, 0, 1, 2]⟩]) (
     .reg [⟨(some 35), .load .one (.t 4), none, []⟩,
       ⟨(some 36), .load (.agg 2) (.t 7), none, []⟩,
       ⟨(some 37), .call (.t 35) [(.t 36)], none, [0, 1]⟩]))) (
   .reg [⟨(some 38), .bin .add (.t 31) (.c (.sc (.int .i64 1))), none, []⟩,
     ⟨(some 31), .mv (.t 38), none, [0]⟩])))
/-- apodixis/modal.variables$1 -/
def ann_modal_variables_1 : List Nat := [5, 7]
def code_modal_variables_1 : ACode :=
 .seq (.reg [⟨(some 5), .box (.t 0), none, []⟩]) (
 .seq (.seq (.reg [⟨(some 8), .load .one (.t 1), none, []⟩,
     ⟨(some 9), .faddr 0 .one (.t 5), none, []⟩,
     ⟨(some 10), .load .one (.t 9), none, [1]⟩,
     ⟨(some 11), .lookup true (.sc (.int .i64 0)) false (.t 8) (.t 10), none, [0, 2]⟩,
     ⟨(some 12), .bin .eql (.t 11) (.c (.sc (.int .i64 0))), none, [3]⟩,
     ⟨(some 13), .mv (.t 12), none, [4]⟩,
     ⟨(some 14), .load .one (.t 2), (some (13, true)), [5]⟩,
     ⟨(some 15), .faddr 0 .one (.t 5), (some (13, true)), [5]⟩,
     ⟨(some 16), .load .one (.t 15), (some (13, true)), [7, 5]⟩,
     ⟨(some 17), .lookup true (.sc (.bool false)) false (.t 14) (.t 16), (some (13, true)), [6, 8, 5]⟩,
     ⟨(some 18), .un .not (.t 17), (some (13, true)), [9, 5]⟩,
     ⟨(some 19), .pick (.t 13) (.t 18) (.c (.sc (.bool false))), none, [5, 10]⟩]) (
  .cond (.t 19) (.seq (.reg [⟨(some 20), .load .one (.t 2), none, []⟩,
      ⟨(some 21), .faddr 0 .one (.t 5), none, []⟩,
      ⟨(some 22), .load .one (.t 21), none, [1]⟩,
      ⟨none, .mapUpd true (.t 20) (.t 22) (.c (.sc (.bool true))), none, [0, 2, 0, 1, 2]⟩]) (
   .reg [⟨(some 23), .load .one (.t 3), none, []⟩,
     ⟨(some 24), .faddr 0 .one (.t 5), none, []⟩,
     ⟨(some 25), .load .one (.t 24), none, [1]⟩,
     ⟨(some 26), .bslice 1 1 (.sc (.string ⟨#[]⟩)) [(0, (.t 25))], none, [2]⟩,
     ⟨(some 27), .append 1 16 (.t 23) (.t 26), none, [0, 3]⟩,
     ⟨none, .store 1 (.t 3) (.t 27), none, [4, 4, 0, 1, 2, 3, 4]⟩])) (
  .skip))) (
 .seq (.reg [⟨(some 28), .faddr 1 .one (.t 5), none, []⟩,
    ⟨(some 29), .load .one (.t 28), none, [0]⟩,
    ⟨(some 30), .len .sl (.t 29), none, [1]⟩,
    ⟨(some 31), .mv (.c (.sc (.int .i64 0))), none, []⟩]) (
 .block 0 (.loop lp0_modal_variables_1))))
def res_modal_variables_1 : List ResA := []
theorem comp_modal_variables_1 : Tryd.f65.body.bind (compCode PP ann_modal_variables_1 39) = some code_modal_variables_1 := by kernel_rfl
theorem resc_modal_variables_1 : mapM' (compRes PP) Tryd.f65.results.toList = some res_modal_variables_1 := by kernel_rfl
theorem body_modal_variables_1 : hasBody PP 65 = true := by kernel_rfl
theorem enter_modal_variables_1 {args : List AV} {h : AHeap} {R : AEnd → AHeap → Prop} (hargs : args.length ≤ 39) (hw : codeWp ⟨PP, Gl, 39, ann_modal_variables_1, h.length, none⟩ code_modal_variables_1 (retPost PP Gl h res_modal_variables_1 R) (initEnv args) h) : ACalls PP Gl 65 args h R :=
  acalls_of_code Tryd.func65 body_modal_variables_1 comp_modal_variables_1 resc_modal_variables_1 hargs (Nat.le_trans hargs (by decide)) (codeWp_sound mixed hw)

/-- apodixis/modal.meaning -/
def ann_modal_meaning : List Nat := []
def code_modal_meaning : ACode :=
 .seq (.reg [⟨(some 2), .mv (.c (.sc .nilFunc)), none, []⟩]) (
 .seq (.seq (.reg [⟨(some 3), .mv (.t 0), none, []⟩]) (
  .block 0 (.seq (.reg [⟨(some 5), .bin .eql (.t 3) (.c (.sc (.int .i64 1))), none, []⟩,
      ⟨(some 4), .mv (.t 5), none, [0]⟩]) (
   .cond (.t 4) (.seq (.reg [⟨(some 2), .mv (.c (.fn (.func 75) [] [])), none, []⟩]) (
    .ret)) (
   .seq (.reg [⟨(some 7), .bin .eql (.t 3) (.c (.sc (.int .i64 2))), none, []⟩,
       ⟨(some 6), .mv (.t 7), none, [0]⟩]) (
    .cond (.t 6) (.seq (.reg [⟨(some 2), .mv (.c (.fn (.func 76) [] [])), none, []⟩]) (
     .ret)) (
    .seq (.reg [⟨(some 9), .bin .eql (.t 3) (.c (.sc (.int .i64 3))), none, []⟩,
        ⟨(some 8), .mv (.t 9), none, [0]⟩]) (
     .cond (.t 8) (.seq (.reg [⟨(some 2), .mv (.c (.fn (.func 77) [] [])), none, []⟩]) (
      .ret)) (
     .seq (.reg [⟨(some 11), .bin .eql (.t 3) (.c (.sc (.int .i64 4))), none, []⟩,
         ⟨(some 10), .mv (.t 11), none, [0]⟩]) (
      .cond (.t 10) (.seq (.reg [⟨(some 2), .mv (.c (.fn (.func 78) [] [])), none, []⟩]) (
       .ret)) (
      .seq (.reg [⟨(some 13), .bin .eql (.t 3) (.c (.sc (.int .i64 5))), none, []⟩,
          ⟨(some 12), .mv (.t 13), none, [0]⟩]) (
       .cond (.t 12) (.seq (.reg [⟨(some 2), .mv (.c (.fn (.func 79) [] [])), none, []⟩]) (
        .ret)) (
       .seq (.reg [⟨(some 15), .bin .eql (.t 3) (.c (.sc (.int .i64 6))), none, []⟩,
           ⟨(some 14), .mv (.t 15), none, [0]⟩]) (
        .cond (.t 14) (.seq (.reg [⟨(some 2), .mv (.c (.fn (.func 80) [] [])), none, []⟩]) (
         .ret)) (
        .seq (.reg [⟨(some 17), .bin .eql (.t 3) (.c (.sc (.int .i64 7))), none, []⟩,
            ⟨(some 16), .mv (.t 17), none, [0]⟩]) (
         .cond (.t 16) (.seq (.reg [⟨(some 2), .mv (.c (.fn (.func 81) [] [])), none, []⟩]) (
          .ret)) (
         .seq (.reg [⟨(some 19), .bin .eql (.t 3) (.c (.sc (.int .i64 8))), none, []⟩,
             ⟨(some 18), .mv (.t 19), none, [0]⟩]) (
          .cond (.t 18) (.seq (.reg [⟨(some 2), .mv (.c (.fn (.func 82) [] [])), none, []⟩]) (
           .ret)) (
          .skip))))))))))))))))))) (
 .seq (.reg [⟨(some 2), .mv (.c (.fn (.func 83) [] [])), none, []⟩]) (
 .ret)))
def res_modal_meaning : List ResA := [.t 2]
theorem comp_modal_meaning : Tryd.f66.body.bind (compCode PP ann_modal_meaning 20) = some code_modal_meaning := by kernel_rfl
theorem resc_modal_meaning : mapM' (compRes PP) Tryd.f66.results.toList = some res_modal_meaning := by kernel_rfl
theorem body_modal_meaning : hasBody PP 66 = true := by kernel_rfl
theorem enter_modal_meaning {args : List AV} {h : AHeap} {R : AEnd → AHeap → Prop} (hargs : args.length ≤ 20) (hw : codeWp ⟨PP, Gl, 20, ann_modal_meaning, h.length, none⟩ code_modal_meaning (retPost PP Gl h res_modal_meaning R) (initEnv args) h) : ACalls PP Gl 66 args h R :=
  acalls_of_code Tryd.func66 body_modal_meaning comp_modal_meaning resc_modal_meaning hargs (Nat.le_trans hargs (by decide)) (codeWp_sound mixed hw)

/-- slices.ContainsFunc[[]uint,uint] -/
def ann_slices_ContainsFunc_uint_uint : List Nat := []
def code_slices_ContainsFunc_uint_uint : ACode :=
 .seq (.reg [⟨(some 4), .mv (.c (.sc (.bool false))), none, []⟩]) (
 .seq (.reg [⟨(some 5), .mv (.t 0), none, []⟩,
    ⟨(some 6), .mv (.t 1), none, []⟩,
    ⟨(some 7), .call (.c (.fn (.func 84) [] [])) [(.t 5), (.t 6)], none, [0, 1]⟩,
    ⟨(some 8), .bin .geq (.t 7) (.c (.sc (.int .i64 0))), none, [2]⟩,
    ⟨(some 4), .mv (.t 8), none, [3, 2, 0, 1, 2, 3]⟩]) (
 .ret))
def res_slices_ContainsFunc_uint_uint : List ResA := [.t 4]
theorem comp_slices_ContainsFunc_uint_uint : Tryd.f67.body.bind (compCode PP ann_slices_ContainsFunc_uint_uint 9) = some code_slices_ContainsFunc_uint_uint := by kernel_rfl
theorem resc_slices_ContainsFunc_uint_uint : mapM' (compRes PP) Tryd.f67.results.toList = some res_slices_ContainsFunc_uint_uint := by kernel_rfl
theorem body_slices_ContainsFunc_uint_uint : hasBody PP 67 = true := by kernel_rfl
theorem enter_slices_ContainsFunc_uint_uint {args : List AV} {h : AHeap} {R : AEnd → AHeap → Prop} (hargs : args.length ≤ 9) (hw : codeWp ⟨PP, Gl, 9, ann_slices_ContainsFunc_uint_uint, h.length, none⟩ code_slices_ContainsFunc_uint_uint (retPost PP Gl h res_slices_ContainsFunc_uint_uint R) (initEnv args) h) : ACalls PP Gl 67 args h R :=
  acalls_of_code Tryd.func67 body_slices_ContainsFunc_uint_uint comp_slices_ContainsFunc_uint_uint resc_slices_ContainsFunc_uint_uint hargs (Nat.le_trans hargs (by decide)) (codeWp_sound mixed hw)

/-- (apodixis/modal.Frame).right$1 -/
def ann_modal_Frame_right_1 : List Nat := []
def code_modal_Frame_right_1 : ACode :=
 .seq (.reg [⟨(some 3), .mv (.c (.sc (.bool false))), none, []⟩]) (
 .seq (.reg [⟨(some 4), .mv (.t 0), none, []⟩,
    ⟨(some 5), .load (.agg 1) (.t 1), none, []⟩,
    ⟨(some 6), .call (.c (.fn (.func 42) [] [])) [(.t 5)], none, [1]⟩,
    ⟨(some 7), .bin .andNot (.t 4) (.t 6), none, [0, 2]⟩,
    ⟨(some 8), .bin .neq (.t 7) (.c (.sc (v64 0#64))), none, [3]⟩,
    ⟨(some 3), .mv (.t 8), none, [4, 2, 0, 1, 2, 3, 4]⟩]) (
 .ret))
def res_modal_Frame_right_1 : List ResA := [.t 3]
theorem comp_modal_Frame_right_1 : Tryd.f68.body.bind (compCode PP ann_modal_Frame_right_1 9) = some code_modal_Frame_right_1 := by kernel_rfl
theorem resc_modal_Frame_right_1 : mapM' (compRes PP) Tryd.f68.results.toList = some res_modal_Frame_right_1 := by kernel_rfl
theorem body_modal_Frame_right_1 : hasBody PP 68 = true := by kernel_rfl
theorem enter_modal_Frame_right_1 {args : List AV} {h : AHeap} {R : AEnd → AHeap → Prop} (hargs : args.length ≤ 9) (hw : codeWp ⟨PP, Gl, 9, ann_modal_Frame_right_1, h.length, none⟩ code_modal_Frame_right_1 (retPost PP Gl h res_modal_Frame_right_1 R) (initEnv args) h) : ACalls PP Gl 68 args h R :=
  acalls_of_code Tryd.func68 body_modal_Frame_right_1 comp_modal_Frame_right_1 resc_modal_Frame_right_1 hargs (Nat.le_trans hargs (by decide)) (codeWp_sound mixed hw)

/-- apodixis/syntax.kids -/
def ann_syntax_kids : List Nat := [1, 3]
def code_syntax_kids : ACode :=
 .seq (.reg [⟨(some 1), .box (.t 0), none, []⟩,
    ⟨(some 2), .mv (.c (.sl 0 [] .nil)), none, []⟩]) (
 .seq (.seq (.reg [⟨(some 5), .load (.agg 2) (.t 1), none, []⟩,
     ⟨(some 6), .call (.c (.fn (.func 85) [] [])) [(.t 5)], none, [0]⟩]) (
  .block 0 (.seq (.reg [⟨(some 7), .tassert 142 (.agg [(.sc (.string ⟨#[]⟩)), (.sl 0 [] .nil)]) true (.t 6), none, []⟩,
      ⟨(some 8), .extract (.t 7) 1, none, [0]⟩,
      ⟨(some 9), .extract (.t 7) 0, none, [0]⟩]) (
   .cond (.t 8) (.seq (.reg [⟨(some 3), .pnew 2, none, []⟩,
       ⟨none, .pstore 2 3 (.t 9), none, [0, 0]⟩]) (
    .seq (.reg [⟨(some 10), .faddr 1 .one (.t 3), none, []⟩,
       ⟨(some 11), .load .one (.t 10), none, [0]⟩,
       ⟨(some 2), .mv (.t 11), none, [1, 0, 1]⟩]) (
    .ret))) (
   .seq (.reg [⟨(some 12), .tassert 140 (.sc (.string ⟨#[]⟩)) true (.t 6), none, []⟩,
       ⟨(some 13), .extract (.t 12) 1, none, [0]⟩,
       ⟨(some 14), .extract (.t 12) 0, none, [0]⟩]) (
    .cond (.t 13) (.reg [⟨(some 4), .mv (.t 14), none, []⟩]) (
    .skip))))))) (
 .seq (.reg [⟨(some 2), .mv (.c (.sl 0 [] .nil)), none, []⟩]) (
 .ret)))
def res_syntax_kids : List ResA := [.t 2]
theorem comp_syntax_kids : Tryd.f69.body.bind (compCode PP ann_syntax_kids 15) = some code_syntax_kids := by kernel_rfl
theorem resc_syntax_kids : mapM' (compRes PP) Tryd.f69.results.toList = some res_syntax_kids := by kernel_rfl
theorem body_syntax_kids : hasBody PP 69 = true := by kernel_rfl
theorem enter_syntax_kids {args : List AV} {h : AHeap} {R : AEnd → AHeap → Prop} (hargs : args.length ≤ 15) (hw : codeWp ⟨PP, Gl, 15, ann_syntax_kids, h.length, none⟩ code_syntax_kids (retPost PP Gl h res_syntax_kids R) (initEnv args) h) : ACalls PP Gl 69 args h R :=
  acalls_of_code Tryd.func69 body_syntax_kids comp_syntax_kids resc_syntax_kids hargs (Nat.le_trans hargs (by decide)) (codeWp_sound mixed hw)

def lp1_modal_models_1 : ACode :=
 .seq (.reg [⟨(some 23), .bin .lss (.t 22) (.t 21), none, []⟩]) (
        .seq (.cond (.t 23) (.skip) (
         .exit 2)) (
        .seq (.block 3 (.seq (.reg [⟨(some 24), .mv (.t 22), none, []⟩,
             ⟨(some 25), .iaddr 1 (.t 20) (.t 22), none, []⟩,
             ⟨(some 26), .load .one (.t 25), none, [1]⟩,
             ⟨(some 7), .mv (.t 24), none, [0, 0, 1, 2]⟩,
             ⟨(some 8), .mv (.t 26), none, [2, 3, 0, 1, 2, 3]⟩]) (
          .dreg [(true, ⟨(some 27), .mv (.t 6), none, []⟩),
            (true, ⟨(some 28), .mv (.t 8), none, []⟩),
            (true, ⟨(some 29), .mv (.t 5), none, []⟩),
            (true, ⟨(some 30), .conv .u64 (.t 29), none, [2]⟩),
            (true, ⟨(some 31), .mv (.t 4), none, []⟩),
            (true, ⟨(some 32), .mv (.t 7), none, []⟩),
            (true, ⟨(some 33), .bin .mul (.t 31) (.t 32), none, [4, 5]⟩),
            (true, ⟨(some 34), .bin .shr (.t 30) (.t 33), none, [3, 6]⟩),
            (false, ⟨(some 35), .load (.agg 1) (.t 1), none, []⟩),
            (false, ⟨(some 36), .call (.c (.fn (.func 42) [] [])) [(.t 35)], none, [8]⟩),
            (false, ⟨(some 37), .bin .and (.t 34) (.t 36), none, [7, 9]⟩),
            (false, ⟨(some 38), .build [(.sc (.string ⟨#[]⟩)), (.sc (v64 0#64))] [(0, 1, (.t 28)), (1, 1, (.t 37))], none, [1, 10]⟩),
            (false, ⟨(some 39), .bslice 2 1 (.agg [(.sc (.string ⟨#[]⟩)), (.sc (v64 0#64))]) [(0, (.t 38))], none, [11]⟩),
            (false, ⟨(some 40), .append 2 24 (.t 27) (.t 39), none, [0, 12, 9]⟩),
            (false, ⟨(some 6), .mv (.t 40), none, [13, 13, 0, 1, 2, 3, 4, 5, 6, 7, 8, 9, 10, 11, 12, 13]⟩)]))) (
        .reg [⟨(some 41), .bin .add (.t 22) (.c (.sc (.int .i64 1))), none, []⟩,
          ⟨(some 22), .mv (.t 41), none, [0]⟩])))
def lp0_modal_models_1 : ACode :=
 .seq (.reg [⟨(some 18), .bin .lss (.t 17) (.t 16), none, []⟩]) (
   .seq (.cond (.t 18) (.skip) (
    .exit 0)) (
   .seq (.block 1 (.seq (.reg [⟨(some 19), .mv (.t 17), none, []⟩,
        ⟨(some 5), .mv (.t 19), none, [0, 0]⟩]) (
     .seq (.reg [⟨(some 6), .mv (.c (.sl 0 [] .nil)), none, []⟩]) (
     .seq (.seq (.reg [⟨(some 20), .load .one (.t 2), none, []⟩,
         ⟨(some 21), .len .sl (.t 20), none, [0]⟩,
         ⟨(some 22), .mv (.c (.sc (.int .i64 0))), none, []⟩]) (
      .block 2 (.loop lp1_modal_models_1))) (
     .seq (.reg [⟨(some 42), .mv (.t 0), none, []⟩,
        ⟨(some 43), .mv (.t 6), none, []⟩,
        ⟨(some 44), .call (.t 42) [(.t 43)], none, [0, 1]⟩,
        ⟨(some 45), .un .not (.t 44), none, [2]⟩]) (
     .cond (.t 45) (.ret) (
     .skip))))))) (
   .reg [⟨(some 46), .bin .add (.t 17) (.c (.sc (.int .i64 1))), none, []⟩,
     ⟨(some 17), .mv (.t 46), none, [0]⟩])))
/-- apodixis/modal.models$1 -/
def ann_modal_models_1 : List Nat := []
def code_modal_models_1 : ACode :=
 .seq (.reg [⟨(some 9), .faddr 0 .one (.t 1), none, []⟩,
    ⟨(some 10), .load .one (.t 9), none, [0]⟩,
    ⟨(some 11), .len .sl (.t 10), none, [1]⟩,
    ⟨(some 4), .mv (.t 11), none, [2, 0, 1, 2]⟩]) (
 .seq (.reg [⟨(some 12), .mv (.t 4), none, []⟩,
    ⟨(some 13), .load .one (.t 2), none, []⟩,
    ⟨(some 14), .len .sl (.t 13), none, [1]⟩,
    ⟨(some 15), .bin .mul (.t 12) (.t 14), none, [0, 2]⟩,
    ⟨(some 16), .bin .shl (.c (.sc (.int .i64 1))) (.t 15), none, [3]⟩,
    ⟨(some 17), .mv (.c (.sc (.int .i64 0))), none, []⟩]) (
 .block 0 (.loop lp0_modal_models_1)))
def res_modal_models_1 : List ResA := []
theorem comp_modal_models_1 : Tryd.f70.body.bind (compCode PP ann_modal_models_1 47) = some code_modal_models_1 := by kernel_rfl
theorem resc_modal_models_1 : mapM' (compRes PP) Tryd.f70.results.toList = some res_modal_models_1 := by kernel_rfl
theorem body_modal_models_1 : hasBody PP 70 = true := by kernel_rfl
theorem enter_modal_models_1 {args : List AV} {h : AHeap} {R : AEnd → AHeap → Prop} (hargs : args.length ≤ 47) (hw : codeWp ⟨PP, Gl, 47, ann_modal_models_1, h.length, none⟩ code_modal_models_1 (retPost PP Gl h res_modal_models_1 R) (initEnv args) h) : ACalls PP Gl 70 args h R :=
  acalls_of_code Tryd.func70 body_modal_models_1 comp_modal_models_1 resc_modal_models_1 hargs (Nat.le_trans hargs (by decide)) (codeWp_sound mixed hw)

def lp0_slices_IndexFunc_api_Tree_api_Tree : ACode :=
 .seq (.reg [⟨(some 9), .bin .lss (.t 8) (.t 7), none, []⟩]) (
    .seq (.cond (.t 9) (.skip) (
     .exit 0)) (
    .seq (.block 1 (.seq (.reg [⟨(some 10), .mv (.t 8), none, []⟩,
         ⟨(some 5), .mv (.t 10), none, [0, 0]⟩]) (
      .seq (.reg [⟨(some 11), .mv (.t 1), none, []⟩,
         ⟨(some 12), .mv (.t 0), none, []⟩,
         ⟨(some 13), .mv (.t 5), none, []⟩,
         ⟨(some 14), .iaddr 2 (.t 12) (.t 13), none, [1, 2]⟩,
         ⟨(some 15), .load (.agg 2) (.t 14), none, [3]⟩,
         ⟨(some 16), .call (.t 11) [(.t 15)], none, [0, 4]⟩]) (
      .cond (.t 16) (.seq (.reg [⟨(some 17), .mv (.t 5), none, []⟩,
          ⟨(some 4), .mv (.t 17), none, [0, 0]⟩]) (
       .ret)) (
      .skip))))) (
    .reg [⟨(some 18), .bin .add (.t 8) (.c (.sc (.int .i64 1))), none, []⟩,
      ⟨(some 8), .mv (.t 18), none, [0]⟩])))
/-- slices.IndexFunc[[]apodixis/api.Tree,apodixis/api.Tree] -/
def ann_slices_IndexFunc_api_Tree_api_Tree : List Nat := []
def code_slices_IndexFunc_api_Tree_api_Tree : ACode :=
 .seq (.reg [⟨(some 4), .mv (.c (.sc (.int .i64 0))), none, []⟩]) (
 .seq (.seq (.reg [⟨(some 6), .mv (.t 0), none, []⟩,
     ⟨(some 7), .len .sl (.t 6), none, [0]⟩,
     ⟨(some 8), .mv (.c (.sc (.int .i64 0))), none, []⟩]) (
  .block 0 (.loop lp0_slices_IndexFunc_api_Tree_api_Tree))) (
 .seq (.reg [⟨(some 4), .mv (.c (.sc (.int .i64 (-1)))), none, []⟩]) (
 .ret)))
def res_slices_IndexFunc_api_Tree_api_Tree : List ResA := [.t 4]
theorem comp_slices_IndexFunc_api_Tree_api_Tree : Tryd.f71.body.bind (compCode PP ann_slices_IndexFunc_api_Tree_api_Tree 19) = some code_slices_IndexFunc_api_Tree_api_Tree := by kernel_rfl
theorem resc_slices_IndexFunc_api_Tree_api_Tree : mapM' (compRes PP) Tryd.f71.results.toList = some res_slices_IndexFunc_api_Tree_api_Tree := by kernel_rfl
theorem body_slices_IndexFunc_api_Tree_api_Tree : hasBody PP 71 = true := by kernel_rfl
theorem enter_slices_IndexFunc_api_Tree_api_Tree {args : List AV} {h : AHeap} {R : AEnd → AHeap → Prop} (hargs : args.length ≤ 19) (hw : codeWp ⟨PP, Gl, 19, ann_slices_IndexFunc_api_Tree_api_Tree, h.length, none⟩ code_slices_IndexFunc_api_Tree_api_Tree (retPost PP Gl h res_slices_IndexFunc_api_Tree_api_Tree R) (initEnv args) h) : ACalls PP Gl 71 args h R :=
  acalls_of_code Tryd.func71 body_slices_IndexFunc_api_Tree_api_Tree comp_slices_IndexFunc_api_Tree_api_Tree resc_slices_IndexFunc_api_Tree_api_Tree hargs (Nat.le_trans hargs (by decide)) (codeWp_sound mixed hw)

/-- math/bits.TrailingZeros32 -/
def ann_math_bits_TrailingZeros32 : List Nat := []
def code_math_bits_TrailingZeros32 : ACode :=
 .seq (.reg [⟨(some 2), .mv (.c (.sc (.int .i64 0))), none, []⟩]) (
 .seq (.seq (.reg [⟨(some 3), .mv (.t 0), none, []⟩,
     ⟨(some 4), .bin .eql (.t 3) (.c (.sc (.int .u32 0))), none, [0]⟩]) (
  .cond (.t 4) (.seq (.reg [⟨(some 2), .mv (.c (.sc (.int .i64 32))), none, []⟩]) (
   .ret)) (
  .skip))) (
 .seq (.reg [⟨(some 5), .mv (.t 0), none, []⟩,
    ⟨(some 6), .mv (.t 0), none, []⟩,
    ⟨(some 7), .un .neg (.t 6), none, [1]⟩,
    ⟨(some 8), .bin .and (.t 5) (.t 7), none, [0, 2]⟩,
    ⟨(some 9), .bin .mul (.t 8) (.c (.sc (.int .u32 125613361))), none, [3]⟩,
    ⟨(some 10), .bin .shr (.t 9) (.c (.sc (v64 27#64))), none, [4]⟩,
    ⟨(some 11), .iaddrA 32 .one (.g 0) (.t 10), none, [5]⟩,
    ⟨(some 12), .load .one (.t 11), none, [6]⟩,
    ⟨(some 13), .conv .i64 (.t 12), none, [7]⟩,
    ⟨(some 2), .mv (.t 13), none, [8, 0, 1, 2, 3, 4, 5, 6, 7, 8]⟩]) (
 .ret)))
def res_math_bits_TrailingZeros32 : List ResA := [.t 2]
theorem comp_math_bits_TrailingZeros32 : Tryd.f72.body.bind (compCode PP ann_math_bits_TrailingZeros32 14) = some code_math_bits_TrailingZeros32 := by kernel_rfl
theorem resc_math_bits_TrailingZeros32 : mapM' (compRes PP) Tryd.f72.results.toList = some res_math_bits_TrailingZeros32 := by kernel_rfl
theorem body_math_bits_TrailingZeros32 : hasBody PP 72 = true := by kernel_rfl
theorem enter_math_bits_TrailingZeros32 {args : List AV} {h : AHeap} {R : AEnd → AHeap → Prop} (hargs : args.length ≤ 14) (hw : codeWp ⟨PP, Gl, 14, ann_math_bits_TrailingZeros32, h.length, none⟩ code_math_bits_TrailingZeros32 (retPost PP Gl h res_math_bits_TrailingZeros32 R) (initEnv args) h) : ACalls PP Gl 72 args h R :=
  acalls_of_code Tryd.func72 body_math_bits_TrailingZeros32 comp_math_bits_TrailingZeros32 resc_math_bits_TrailingZeros32 hargs (Nat.le_trans hargs (by decide)) (codeWp_sound mixed hw)

/-- math/bits.TrailingZeros64 -/
def ann_math_bits_TrailingZeros64 : List Nat := []
def code_math_bits_TrailingZeros64 : ACode :=
 .seq (.reg [⟨(some 2), .mv (.c (.sc (.int .i64 0))), none, []⟩]) (
 .seq (.seq (.reg [⟨(some 3), .mv (.t 0), none, []⟩,
     ⟨(some 4), .bin .eql (.t 3) (.c (.sc (v64 0#64))), none, [0]⟩]) (
  .cond (.t 4) (.seq (.reg [⟨(some 2), .mv (.c (.sc (.int .i64 64))), none, []⟩]) (
   .ret)) (
  .skip))) (
 .seq (.reg [⟨(some 5), .mv (.t 0), none, []⟩,
    ⟨(some 6), .mv (.t 0), none, []⟩,
    ⟨(some 7), .un .neg (.t 6), none, [1]⟩,
    ⟨(some 8), .bin .and (.t 5) (.t 7), none, [0, 2]⟩,
    ⟨(some 9), .bin .mul (.t 8) (.c (.sc (v64 c64_285870213051353865))), none, [3]⟩,
    ⟨(some 10), .bin .shr (.t 9) (.c (.sc (v64 58#64))), none, [4]⟩,
    ⟨(some 11), .iaddrA 64 .one (.g 1) (.t 10), none, [5]⟩,
    ⟨(some 12), .load .one (.t 11), none, [6]⟩,
    ⟨(some 13), .conv .i64 (.t 12), none, [7]⟩,
    ⟨(some 2), .mv (.t 13), none, [8, 0, 1, 2, 3, 4, 5, 6, 7, 8]⟩]) (
 .ret)))
def res_math_bits_TrailingZeros64 : List ResA := [.t 2]
theorem comp_math_bits_TrailingZeros64 : Tryd.f73.body.bind (compCode PP ann_math_bits_TrailingZeros64 14) = some code_math_bits_TrailingZeros64 := by kernel_rfl
theorem resc_math_bits_TrailingZeros64 : mapM' (compRes PP) Tryd.f73.results.toList = some res_math_bits_TrailingZeros64 := by kernel_rfl
theorem body_math_bits_TrailingZeros64 : hasBody PP 73 = true := by kernel_rfl
theorem enter_math_bits_TrailingZeros64 {args : List AV} {h : AHeap} {R : AEnd → AHeap → Prop} (hargs : args.length ≤ 14) (hw : codeWp ⟨PP, Gl, 14, ann_math_bits_TrailingZeros64, h.length, none⟩ code_math_bits_TrailingZeros64 (retPost PP Gl h res_math_bits_TrailingZeros64 R) (initEnv args) h) : ACalls PP Gl 73 args h R :=
  acalls_of_code Tryd.func73 body_math_bits_TrailingZeros64 comp_math_bits_TrailingZeros64 resc_math_bits_TrailingZeros64 hargs (Nat.le_trans hargs (by decide)) (codeWp_sound mixed hw)

/-- apodixis/apodixisref35.wants -/
def ann_ref35_wants : List Nat := []
def code_ref35_wants : ACode :=
 .seq (.reg [⟨(some 2), .mv (.c (.sc (.int .i64 0))), none, []⟩]) (
 .seq (.seq (.reg [⟨(some 3), .mv (.t 0), none, []⟩]) (
  .block 0 (.seq (.seq (.reg [⟨(some 5), .bin .eql (.t 3) (.c (.sc (.int .i64 1))), none, []⟩,
       ⟨(some 4), .mv (.t 5), none, [0]⟩]) (
    .cond (.t 4) (.skip) (
    .seq (.reg [⟨(some 6), .bin .eql (.t 3) (.c (.sc (.int .i64 8))), none, []⟩,
        ⟨(some 4), .mv (.t 6), none, [0]⟩]) (
     .cond (.t 4) (.skip) (
     .reg [⟨(some 7), .bin .eql (.t 3) (.c (.sc (.int .i64 9))), none, []⟩,
        ⟨(some 4), .mv (.t 7), none, [0]⟩]))))) (
   .cond (.t 4) (.seq (.reg [⟨(some 2), .mv (.c (.sc (.int .i64 1))), none, []⟩]) (
    .ret)) (
   .seq (.seq (.reg [⟨(some 9), .bin .eql (.t 3) (.c (.sc (.int .i64 2))), none, []⟩,
        ⟨(some 8), .mv (.t 9), none, [0]⟩]) (
     .cond (.t 8) (.skip) (
     .seq (.reg [⟨(some 10), .bin .eql (.t 3) (.c (.sc (.int .i64 3))), none, []⟩,
         ⟨(some 8), .mv (.t 10), none, [0]⟩]) (
      .cond (.t 8) (.skip) (
      .seq (.reg [⟨(some 11), .bin .eql (.t 3) (.c (.sc (.int .i64 4))), none, []⟩,
          ⟨(some 8), .mv (.t 11), none, [0]⟩]) (
       .cond (.t 8) (.skip) (
       .reg [⟨(some 12), .bin .eql (.t 3) (.c (.sc (.int .i64 5))), none, []⟩,
          ⟨(some 8), .mv (.t 12), none, [0]⟩]))))))) (
    .cond (.t 8) (.seq (.reg [⟨(some 2), .mv (.c (.sc (.int .i64 2))), none, []⟩]) (
     .ret)) (
    .skip))))))) (
 .seq (.reg [⟨(some 2), .mv (.c (.sc (.int .i64 0))), none, []⟩]) (
 .ret)))
def res_ref35_wants : List ResA := [.t 2]
theorem comp_ref35_wants : Tryd.f74.body.bind (compCode PP ann_ref35_wants 13) = some code_ref35_wants := by kernel_rfl
theorem resc_ref35_wants : mapM' (compRes PP) Tryd.f74.results.toList = some res_ref35_wants := by kernel_rfl
theorem body_ref35_wants : hasBody PP 74 = true := by kernel_rfl
theorem enter_ref35_wants {args : List AV} {h : AHeap} {R : AEnd → AHeap → Prop} (hargs : args.length ≤ 13) (hw : codeWp ⟨PP, Gl, 13, ann_ref35_wants, h.length, none⟩ code_ref35_wants (retPost PP Gl h res_ref35_wants R) (initEnv args) h) : ACalls PP Gl 74 args h R :=
  acalls_of_code Tryd.func74 body_ref35_wants comp_ref35_wants resc_ref35_wants hargs (Nat.le_trans hargs (by decide)) (codeWp_sound mixed hw)

/-- (apodixis/modal.place).not -/
def ann_modal_place_not : List Nat := [2]
def code_modal_place_not : ACode :=
 .seq (.reg [⟨(some 2), .box (.t 0), none, []⟩,
    ⟨(some 4), .mv (.c (.sc (v64 0#64))), none, []⟩]) (
 .seq (.dreg [(true, ⟨(some 5), .faddr 0 (.agg 1) (.t 2), none, []⟩),
    (true, ⟨(some 6), .load (.agg 1) (.t 5), none, [0]⟩),
    (true, ⟨(some 8), .mv (.t 1), none, []⟩),
    (true, ⟨(some 9), .iaddr 1 (.t 8) (.c (.sc (.int .i64 0))), none, [3]⟩),
    (true, ⟨(some 10), .load .one (.t 9), none, [4]⟩),
    (false, ⟨(some 7), .call (.c (.fn (.func 42) [] [])) [(.t 6)], none, [1]⟩),
    (false, ⟨(some 11), .bin .andNot (.t 7) (.t 10), none, [2, 5]⟩),
    (false, ⟨(some 4), .mv (.t 11), none, [6, 2, 0, 1, 2, 3, 4, 5, 6]⟩)]) (
 .ret))
def res_modal_place_not : List ResA := [.t 4]
theorem comp_modal_place_not : Tryd.f75.body.bind (compCode PP ann_modal_place_not 12) = some code_modal_place_not := by kernel_rfl
theorem resc_modal_place_not : mapM' (compRes PP) Tryd.f75.results.toList = some res_modal_place_not := by kernel_rfl
theorem body_modal_place_not : hasBody PP 75 = true := by kernel_rfl
theorem enter_modal_place_not {args : List AV} {h : AHeap} {R : AEnd → AHeap → Prop} (hargs : args.length ≤ 12) (hw : codeWp ⟨PP, Gl, 12, ann_modal_place_not, h.length, none⟩ code_modal_place_not (retPost PP Gl h res_modal_place_not R) (initEnv args) h) : ACalls PP Gl 75 args h R :=
  acalls_of_code Tryd.func75 body_modal_place_not comp_modal_place_not resc_modal_place_not hargs (Nat.le_trans hargs (by decide)) (codeWp_sound mixed hw)

/-- (apodixis/modal.place).implies -/
def ann_modal_place_implies : List Nat := [2]
def code_modal_place_implies : ACode :=
 .seq (.reg [⟨(some 2), .box (.t 0), none, []⟩,
    ⟨(some 4), .mv (.c (.sc (v64 0#64))), none, []⟩]) (
 .seq (.dreg [(true, ⟨(some 5), .load (.agg 3) (.t 2), none, []⟩),
    (true, ⟨(some 6), .mv (.t 1), none, []⟩),
    (true, ⟨(some 8), .mv (.t 1), none, []⟩),
    (true, ⟨(some 9), .iaddr 1 (.t 8) (.c (.sc (.int .i64 1))), none, [3]⟩),
    (true, ⟨(some 10), .load .one (.t 9), none, [4]⟩),
    (false, ⟨(some 7), .call (.c (.fn (.func 75) [] [])) [(.t 5), (.t 6)], none, [0, 1]⟩),
    (false, ⟨(some 11), .bin .or (.t 7) (.t 10), none, [2, 5]⟩),
    (false, ⟨(some 4), .mv (.t 11), none, [6, 2, 0, 1, 2, 3, 4, 5, 6]⟩)]) (
 .ret))
def res_modal_place_implies : List ResA := [.t 4]
theorem comp_modal_place_implies : Tryd.f76.body.bind (compCode PP ann_modal_place_implies 12) = some code_modal_place_implies := by kernel_rfl
theorem resc_modal_place_implies : mapM' (compRes PP) Tryd.f76.results.toList = some res_modal_place_implies := by kernel_rfl
theorem body_modal_place_implies : hasBody PP 76 = true := by kernel_rfl
theorem enter_modal_place_implies {args : List AV} {h : AHeap} {R : AEnd → AHeap → Prop} (hargs : args.length ≤ 12) (hw : codeWp ⟨PP, Gl, 12, ann_modal_place_implies, h.length, none⟩ code_modal_place_implies (retPost PP Gl h res_modal_place_implies R) (initEnv args) h) : ACalls PP Gl 76 args h R :=
  acalls_of_code Tryd.func76 body_modal_place_implies comp_modal_place_implies resc_modal_place_implies hargs (Nat.le_trans hargs (by decide)) (codeWp_sound mixed hw)

/-- (apodixis/modal.place).and -/
def ann_modal_place_and : List Nat := [2]
def code_modal_place_and : ACode :=
 .seq (.reg [⟨(some 2), .box (.t 0), none, []⟩,
    ⟨(some 4), .mv (.c (.sc (v64 0#64))), none, []⟩]) (
 .seq (.dreg [(true, ⟨(some 5), .mv (.t 1), none, []⟩),
    (true, ⟨(some 6), .iaddr 1 (.t 5) (.c (.sc (.int .i64 0))), none, [0]⟩),
    (true, ⟨(some 7), .load .one (.t 6), none, [1]⟩),
    (false, ⟨(some 8), .mv (.t 1), none, []⟩),
    (false, ⟨(some 9), .iaddr 1 (.t 8) (.c (.sc (.int .i64 1))), none, [3]⟩),
    (false, ⟨(some 10), .load .one (.t 9), none, [4]⟩),
    (false, ⟨(some 11), .bin .and (.t 7) (.t 10), none, [2, 5]⟩),
    (false, ⟨(some 4), .mv (.t 11), none, [6, 0, 1, 2, 3, 4, 5, 6]⟩)]) (
 .ret))
def res_modal_place_and : List ResA := [.t 4]
theorem comp_modal_place_and : Tryd.f77.body.bind (compCode PP ann_modal_place_and 12) = some code_modal_place_and := by kernel_rfl
theorem resc_modal_place_and : mapM' (compRes PP) Tryd.f77.results.toList = some res_modal_place_and := by kernel_rfl
theorem body_modal_place_and : hasBody PP 77 = true := by kernel_rfl
theorem enter_modal_place_and {args : List AV} {h : AHeap} {R : AEnd → AHeap → Prop} (hargs : args.length ≤ 12) (hw : codeWp ⟨PP, Gl, 12, ann_modal_place_and, h.length, none⟩ code_modal_place_and (retPost PP Gl h res_modal_place_and R) (initEnv args) h) : ACalls PP Gl 77 args h R :=
  acalls_of_code Tryd.func77 body_modal_place_and comp_modal_place_and resc_modal_place_and hargs (Nat.le_trans hargs (by decide)) (codeWp_sound mixed hw)

/-- (apodixis/modal.place).or -/
def ann_modal_place_or : List Nat := [2]
def code_modal_place_or : ACode :=
 .seq (.reg [⟨(some 2), .box (.t 0), none, []⟩,
    ⟨(some 4), .mv (.c (.sc (v64 0#64))), none, []⟩]) (
 .seq (.dreg [(true, ⟨(some 5), .mv (.t 1), none, []⟩),
    (true, ⟨(some 6), .iaddr 1 (.t 5) (.c (.sc (.int .i64 0))), none, [0]⟩),
    (true, ⟨(some 7), .load .one (.t 6), none, [1]⟩),
    (false, ⟨(some 8), .mv (.t 1), none, []⟩),
    (false, ⟨(some 9), .iaddr 1 (.t 8) (.c (.sc (.int .i64 1))), none, [3]⟩),
    (false, ⟨(some 10), .load .one (.t 9), none, [4]⟩),
    (false, ⟨(some 11), .bin .or (.t 7) (.t 10), none, [2, 5]⟩),
    (false, ⟨(some 4), .mv (.t 11), none, [6, 0, 1, 2, 3, 4, 5, 6]⟩)]) (
 .ret))
def res_modal_place_or : List ResA := [.t 4]
theorem comp_modal_place_or : Tryd.f78.body.bind (compCode PP ann_modal_place_or 12) = some code_modal_place_or := by kernel_rfl
theorem resc_modal_place_or : mapM' (compRes PP) Tryd.f78.results.toList = some res_modal_place_or := by kernel_rfl
theorem body_modal_place_or : hasBody PP 78 = true := by kernel_rfl
theorem enter_modal_place_or {args : List AV} {h : AHeap} {R : AEnd → AHeap → Prop} (hargs : args.length ≤ 12) (hw : codeWp ⟨PP, Gl, 12, ann_modal_place_or, h.length, none⟩ code_modal_place_or (retPost PP Gl h res_modal_place_or R) (initEnv args) h) : ACalls PP Gl 78 args h R :=
  acalls_of_code Tryd.func78 body_modal_place_or comp_modal_place_or resc_modal_place_or hargs (Nat.le_trans hargs (by decide)) (codeWp_sound mixed hw)

/-- (apodixis/modal.place).iff -/
def ann_modal_place_iff : List Nat := [2]
def code_modal_place_iff : ACode :=
 .seq (.reg [⟨(some 2), .box (.t 0), none, []⟩,
    ⟨(some 4), .mv (.c (.sc (v64 0#64))), none, []⟩]) (
 .seq (.dreg [(true, ⟨(some 5), .faddr 0 (.agg 1) (.t 2), none, []⟩),
    (true, ⟨(some 6), .load (.agg 1) (.t 5), none, [0]⟩),
    (true, ⟨(some 8), .mv (.t 1), none, []⟩),
    (true, ⟨(some 9), .iaddr 1 (.t 8) (.c (.sc (.int .i64 0))), none, [3]⟩),
    (true, ⟨(some 10), .load .one (.t 9), none, [4]⟩),
    (true, ⟨(some 11), .mv (.t 1), none, []⟩),
    (true, ⟨(some 12), .iaddr 1 (.t 11) (.c (.sc (.int .i64 1))), none, [6]⟩),
    (true, ⟨(some 13), .load .one (.t 12), none, [7]⟩),
    (true, ⟨(some 14), .bin .xor (.t 10) (.t 13), none, [5, 8]⟩),
    (false, ⟨(some 7), .call (.c (.fn (.func 42) [] [])) [(.t 6)], none, [1]⟩),
    (false, ⟨(some 15), .bin .andNot (.t 7) (.t 14), none, [2, 9]⟩),
    (false, ⟨(some 4), .mv (.t 15), none, [10, 2, 0, 1, 2, 3, 4, 5, 6, 7, 8, 9, 10]⟩)]) (
 .ret))
def res_modal_place_iff : List ResA := [.t 4]
theorem comp_modal_place_iff : Tryd.f79.body.bind (compCode PP ann_modal_place_iff 16) = some code_modal_place_iff := by kernel_rfl
theorem resc_modal_place_iff : mapM' (compRes PP) Tryd.f79.results.toList = some res_modal_place_iff := by kernel_rfl
theorem body_modal_place_iff : hasBody PP 79 = true := by kernel_rfl
theorem enter_modal_place_iff {args : List AV} {h : AHeap} {R : AEnd → AHeap → Prop} (hargs : args.length ≤ 16) (hw : codeWp ⟨PP, Gl, 16, ann_modal_place_iff, h.length, none⟩ code_modal_place_iff (retPost PP Gl h res_modal_place_iff R) (initEnv args) h) : ACalls PP Gl 79 args h R :=
  acalls_of_code Tryd.func79 body_modal_place_iff comp_modal_place_iff resc_modal_place_iff hargs (Nat.le_trans hargs (by decide)) (codeWp_sound mixed hw)

/-- (apodixis/modal.place).all -/
def ann_modal_place_all : List Nat := [2]
def code_modal_place_all : ACode :=
 .seq (.reg [⟨(some 2), .box (.t 0), none, []⟩,
    ⟨(some 4), .mv (.c (.sc (v64 0#64))), none, []⟩]) (
 .seq (.reg [⟨(some 5), .faddr 0 (.agg 1) (.t 2), none, []⟩,
    ⟨(some 6), .load (.agg 1) (.t 5), none, [0]⟩,
    ⟨(some 7), .call (.c (.fn (.func 42) [] [])) [(.t 6)], none, [1]⟩,
    ⟨(some 4), .mv (.t 7), none, [2, 2, 0, 1, 2]⟩]) (
 .ret))
def res_modal_place_all : List ResA := [.t 4]
theorem comp_modal_place_all : Tryd.f80.body.bind (compCode PP ann_modal_place_all 8) = some code_modal_place_all := by kernel_rfl
theorem resc_modal_place_all : mapM' (compRes PP) Tryd.f80.results.toList = some res_modal_place_all := by kernel_rfl
theorem body_modal_place_all : hasBody PP 80 = true := by kernel_rfl
theorem enter_modal_place_all {args : List AV} {h : AHeap} {R : AEnd → AHeap → Prop} (hargs : args.length ≤ 8) (hw : codeWp ⟨PP, Gl, 8, ann_modal_place_all, h.length, none⟩ code_modal_place_all (retPost PP Gl h res_modal_place_all R) (initEnv args) h) : ACalls PP Gl 80 args h R :=
  acalls_of_code Tryd.func80 body_modal_place_all comp_modal_place_all resc_modal_place_all hargs (Nat.le_trans hargs (by decide)) (codeWp_sound mixed hw)

/-- (apodixis/modal.place).none -/
def ann_modal_place_none : List Nat := [2]
def code_modal_place_none : ACode :=
 .seq (.reg [⟨(some 2), .box (.t 0), none, []⟩,
    ⟨(some 4), .mv (.c (.sc (v64 0#64))), none, []⟩]) (
 .seq (.reg [⟨(some 4), .mv (.c (.sc (v64 0#64))), none, []⟩]) (
 .ret))
def res_modal_place_none : List ResA := [.t 4]
theorem comp_modal_place_none : Tryd.f81.body.bind (compCode PP ann_modal_place_none 5) = some code_modal_place_none := by kernel_rfl
theorem resc_modal_place_none : mapM' (compRes PP) Tryd.f81.results.toList = some res_modal_place_none := by kernel_rfl
theorem body_modal_place_none : hasBody PP 81 = true := by kernel_rfl
theorem enter_modal_place_none {args : List AV} {h : AHeap} {R : AEnd → AHeap → Prop} (hargs : args.length ≤ 5) (hw : codeWp ⟨PP, Gl, 5, ann_modal_place_none, h.length, none⟩ code_modal_place_none (retPost PP Gl h res_modal_place_none R) (initEnv args) h) : ACalls PP Gl 81 args h R :=
  acalls_of_code Tryd.func81 body_modal_place_none comp_modal_place_none resc_modal_place_none hargs (Nat.le_trans hargs (by decide)) (codeWp_sound mixed hw)

def lp0_modal_place_box : ACode :=
 .seq (.reg [⟨(some 13), .bin .lss (.t 12) (.t 11), none, []⟩]) (
    .seq (.cond (.t 13) (.skip) (
     .exit 0)) (
    .seq (.block 1 (.seq (.reg [⟨(some 14), .mv (.t 12), none, []⟩,
         ⟨(some 15), .iaddr 1 (.t 10) (.t 12), none, []⟩,
         ⟨(some 16), .load .one (.t 15), none, [1]⟩,
         ⟨(some 6), .mv (.t 14), none, [0, 0, 1, 2]⟩,
         ⟨(some 7), .mv (.t 16), none, [2, 3, 0, 1, 2, 3]⟩]) (
      .seq (.reg [⟨(some 17), .mv (.t 7), none, []⟩,
         ⟨(some 18), .mv (.t 1), none, []⟩,
         ⟨(some 19), .iaddr 1 (.t 18) (.c (.sc (.int .i64 0))), none, [1]⟩,
         ⟨(some 20), .load .one (.t 19), none, [2]⟩,
         ⟨(some 21), .bin .andNot (.t 17) (.t 20), none, [0, 3]⟩,
         ⟨(some 22), .bin .eql (.t 21) (.c (.sc (v64 0#64))), none, [4]⟩]) (
      .cond (.t 22) (.reg [⟨(some 23), .mv (.t 5), none, []⟩,
         ⟨(some 24), .mv (.t 6), none, []⟩,
         ⟨(some 25), .bin .shl (.c (.sc (v64 1#64))) (.t 24), none, [1]⟩,
         ⟨(some 26), .bin .or (.t 23) (.t 25), none, [0, 2]⟩,
         ⟨(some 5), .mv (.t 26), none, [3, 0, 1, 2, 3]⟩]) (
      .skip))))) (
    .reg [⟨(some 27), .bin .add (.t 12) (.c (.sc (.int .i64 1))), none, []⟩,
      ⟨(some 12), .mv (.t 27), none, [0]⟩])))
/-- (apodixis/modal.place).box -/
def ann_modal_place_box : List Nat := [2]
def code_modal_place_box : ACode :=
 .seq (.reg [⟨(some 2), .box (.t 0), none, []⟩,
    ⟨(some 4), .mv (.c (.sc (v64 0#64))), none, []⟩]) (
 .seq (.reg [⟨(some 5), .mv (.c (.sc (v64 0#64))), none, []⟩]) (
 .seq (.seq (.reg [⟨(some 8), .faddr 0 (.agg 1) (.t 2), none, []⟩,
     ⟨(some 9), .faddr 0 .one (.t 8), none, [0]⟩,
     ⟨(some 10), .load .one (.t 9), none, [1]⟩,
     ⟨(some 11), .len .sl (.t 10), none, [2]⟩,
     ⟨(some 12), .mv (.c (.sc (.int .i64 0))), none, []⟩]) (
  .block 0 (.loop lp0_modal_place_box))) (
 .seq (.reg [⟨(some 28), .mv (.t 5), none, []⟩,
    ⟨(some 4), .mv (.t 28), none, [0, 0]⟩]) (
 .ret))))
def res_modal_place_box : List ResA := [.t 4]
theorem comp_modal_place_box : Tryd.f82.body.bind (compCode PP ann_modal_place_box 29) = some code_modal_place_box := by kernel_rfl
theorem resc_modal_place_box : mapM' (compRes PP) Tryd.f82.results.toList = some res_modal_place_box := by kernel_rfl
theorem body_modal_place_box : hasBody PP 82 = true := by kernel_rfl
theorem enter_modal_place_box {args : List AV} {h : AHeap} {R : AEnd → AHeap → Prop} (hargs : args.length ≤ 29) (hw : codeWp ⟨PP, Gl, 29, ann_modal_place_box, h.length, none⟩ code_modal_place_box (retPost PP Gl h res_modal_place_box R) (initEnv args) h) : ACalls PP Gl 82 args h R :=
  acalls_of_code Tryd.func82 body_modal_place_box comp_modal_place_box resc_modal_place_box hargs (Nat.le_trans hargs (by decide)) (codeWp_sound mixed hw)

def lp0_modal_place_diamond : ACode :=
 .seq (.reg [⟨(some 13), .bin .lss (.t 12) (.t 11), none, []⟩]) (
    .seq (.cond (.t 13) (.skip) (
     .exit 0)) (
    .seq (.block 1 (.seq (.reg [⟨(some 14), .mv (.t 12), none, []⟩,
         ⟨(some 15), .iaddr 1 (.t 10) (.t 12), none, []⟩,
         ⟨(some 16), .load .one (.t 15), none, [1]⟩,
         ⟨(some 6), .mv (.t 14), none, [0, 0, 1, 2]⟩,
         ⟨(some 7), .mv (.t 16), none, [2, 3, 0, 1, 2, 3]⟩]) (
      .seq (.reg [⟨(some 17), .mv (.t 7), none, []⟩,
         ⟨(some 18), .mv (.t 1), none, []⟩,
         ⟨(some 19), .iaddr 1 (.t 18) (.c (.sc (.int .i64 0))), none, [1]⟩,
         ⟨(some 20), .load .one (.t 19), none, [2]⟩,
         ⟨(some 21), .bin .and (.t 17) (.t 20), none, [0, 3]⟩,
         ⟨(some 22), .bin .neq (.t 21) (.c (.sc (v64 0#64))), none, [4]⟩]) (
      .cond (.t 22) (.reg [⟨(some 23), .mv (.t 5), none, []⟩,
         ⟨(some 24), .mv (.t 6), none, []⟩,
         ⟨(some 25), .bin .shl (.c (.sc (v64 1#64))) (.t 24), none, [1]⟩,
         ⟨(some 26), .bin .or (.t 23) (.t 25), none, [0, 2]⟩,
         ⟨(some 5), .mv (.t 26), none, [3, 0, 1, 2, 3]⟩]) (
      .skip))))) (
    .reg [⟨(some 27), .bin .add (.t 12) (.c (.sc (.int .i64 1))), none, []⟩,
      ⟨(some 12), .mv (.t 27), none, [0]⟩])))
/-- (apodixis/modal.place).diamond -/
def ann_modal_place_diamond : List Nat := [2]
def code_modal_place_diamond : ACode :=
 .seq (.reg [⟨(some 2), .box (.t 0), none, []⟩,
    ⟨(some 4), .mv (.c (.sc (v64 0#64))), none, []⟩]) (
 .seq (.reg [⟨(some 5), .mv (.c (.sc (v64 0#64))), none, []⟩]) (
 .seq (.seq (.reg [⟨(some 8), .faddr 0 (.agg 1) (.t 2), none, []⟩,
     ⟨(some 9), .faddr 0 .one (.t 8), none, [0]⟩,
     ⟨(some 10), .load .one (.t 9), none, [1]⟩,
     ⟨(some 11), .len .sl (.t 10), none, [2]⟩,
     ⟨(some 12), .mv (.c (.sc (.int .i64 0))), none, []⟩]) (
  .block 0 (.loop lp0_modal_place_diamond))) (
 .seq (.reg [⟨(some 28), .mv (.t 5), none, []⟩,
    ⟨(some 4), .mv (.t 28), none, [0, 0]⟩]) (
 .ret))))
def res_modal_place_diamond : List ResA := [.t 4]
theorem comp_modal_place_diamond : Tryd.f83.body.bind (compCode PP ann_modal_place_diamond 29) = some code_modal_place_diamond := by kernel_rfl
theorem resc_modal_place_diamond : mapM' (compRes PP) Tryd.f83.results.toList = some res_modal_place_diamond := by kernel_rfl
theorem body_modal_place_diamond : hasBody PP 83 = true := by kernel_rfl
theorem enter_modal_place_diamond {args : List AV} {h : AHeap} {R : AEnd → AHeap → Prop} (hargs : args.length ≤ 29) (hw : codeWp ⟨PP, Gl, 29, ann_modal_place_diamond, h.length, none⟩ code_modal_place_diamond (retPost PP Gl h res_modal_place_diamond R) (initEnv args) h) : ACalls PP Gl 83 args h R :=
  acalls_of_code Tryd.func83 body_modal_place_diamond comp_modal_place_diamond resc_modal_place_diamond hargs (Nat.le_trans hargs (by decide)) (codeWp_sound mixed hw)

def lp0_slices_IndexFunc_uint_uint : ACode :=
 .seq (.reg [⟨(some 9), .bin .lss (.t 8) (.t 7), none, []⟩]) (
    .seq (.cond (.t 9) (.skip) (
     .exit 0)) (
    .seq (.block 1 (.seq (.reg [⟨(some 10), .mv (.t 8), none, []⟩,
         ⟨(some 5), .mv (.t 10), none, [0, 0]⟩]) (
      .seq (.reg [⟨(some 11), .mv (.t 1), none, []⟩,
         ⟨(some 12), .mv (.t 0), none, []⟩,
         ⟨(some 13), .mv (.t 5), none, []⟩,
         ⟨(some 14), .iaddr 1 (.t 12) (.t 13), none, [1, 2]⟩,
         ⟨(some 15), .load .one (.t 14), none, [3]⟩,
         ⟨(some 16), .call (.t 11) [(.t 15)], none, [0, 4]⟩]) (
      .cond (.t 16) (.seq (.reg [⟨(some 17), .mv (.t 5), none, []⟩,
          ⟨(some 4), .mv (.t 17), none, [0, 0]⟩]) (
       .ret)) (
      .skip))))) (
    .reg [⟨(some 18), .bin .add (.t 8) (.c (.sc (.int .i64 1))), none, []⟩,
      ⟨(some 8), .mv (.t 18), none, [0]⟩])))
/-- slices.IndexFunc[[]uint,uint] -/
def ann_slices_IndexFunc_uint_uint : List Nat := []
def code_slices_IndexFunc_uint_uint : ACode :=
 .seq (.reg [⟨(some 4), .mv (.c (.sc (.int .i64 0))), none, []⟩]) (
 .seq (.seq (.reg [⟨(some 6), .mv (.t 0), none, []⟩,
     ⟨(some 7), .len .sl (.t 6), none, [0]⟩,
     ⟨(some 8), .mv (.c (.sc (.int .i64 0))), none, []⟩]) (
  .block 0 (.loop lp0_slices_IndexFunc_uint_uint))) (
 .seq (.reg [⟨(some 4), .mv (.c (.sc (.int .i64 (-1)))), none, []⟩]) (
 .ret)))
def res_slices_IndexFunc_uint_uint : List ResA := [.t 4]
theorem comp_slices_IndexFunc_uint_uint : Tryd.f84.body.bind (compCode PP ann_slices_IndexFunc_uint_uint 19) = some code_slices_IndexFunc_uint_uint := by kernel_rfl
theorem resc_slices_IndexFunc_uint_uint : mapM' (compRes PP) Tryd.f84.results.toList = some res_slices_IndexFunc_uint_uint := by kernel_rfl
theorem body_slices_IndexFunc_uint_uint : hasBody PP 84 = true := by kernel_rfl
theorem enter_slices_IndexFunc_uint_uint {args : List AV} {h : AHeap} {R : AEnd → AHeap → Prop} (hargs : args.length ≤ 19) (hw : codeWp ⟨PP, Gl, 19, ann_slices_IndexFunc_uint_uint, h.length, none⟩ code_slices_IndexFunc_uint_uint (retPost PP Gl h res_slices_IndexFunc_uint_uint R) (initEnv args) h) : ACalls PP Gl 84 args h R :=
  acalls_of_code Tryd.func84 body_slices_IndexFunc_uint_uint comp_slices_IndexFunc_uint_uint resc_slices_IndexFunc_uint_uint hargs (Nat.le_trans hargs (by decide)) (codeWp_sound mixed hw)

/-- apodixis/syntax.nodeOf -/
def ann_syntax_nodeOf : List Nat := [1]
def code_syntax_nodeOf : ACode :=
 .seq (.reg [⟨(some 1), .box (.t 0), none, []⟩,
    ⟨(some 2), .mv (.c (.sc .nilIface)), none, []⟩]) (
 .seq (.seq (.reg [⟨(some 3), .faddr 1 .one (.t 1), none, []⟩,
     ⟨(some 4), .load .one (.t 3), none, [0]⟩,
     ⟨(some 5), .len .sl (.t 4), none, [1]⟩,
     ⟨(some 6), .bin .eql (.t 5) (.c (.sc (.int .i64 0))), none, [2]⟩]) (
  .cond (.t 6) (.seq (.reg [⟨(some 7), .faddr 0 .one (.t 1), none, []⟩,
      ⟨(some 8), .load .one (.t 7), none, [0]⟩,
      ⟨(some 9), .mkIface 140 (.t 8), none, [1]⟩,
      ⟨(some 2), .mv (.t 9), none, [2, 0, 1, 2]⟩]) (
   .ret)) (
  .skip))) (
 .seq (.reg [⟨(some 10), .faddr 0 .one (.t 1), none, []⟩,
    ⟨(some 11), .load .one (.t 10), none, [0]⟩,
    ⟨(some 12), .faddr 1 .one (.t 1), none, []⟩,
    ⟨(some 13), .load .one (.t 12), none, [2]⟩,
    ⟨(some 14), .build [(.sc (.string ⟨#[]⟩)), (.sl 0 [] .nil)] [(0, 1, (.t 11)), (1, 1, (.t 13))], none, [1, 3]⟩,
    ⟨(some 15), .mkIface 142 (.t 14), none, [4]⟩,
    ⟨(some 2), .mv (.t 15), none, [5, 0, 1, 2, 3, 4, 5]⟩]) (
 .ret)))
def res_syntax_nodeOf : List ResA := [.t 2]
theorem comp_syntax_nodeOf : Tryd.f85.body.bind (compCode PP ann_syntax_nodeOf 16) = some code_syntax_nodeOf := by kernel_rfl
theorem resc_syntax_nodeOf : mapM' (compRes PP) Tryd.f85.results.toList = some res_syntax_nodeOf := by kernel_rfl
theorem body_syntax_nodeOf : hasBody PP 85 = true := by kernel_rfl
theorem enter_syntax_nodeOf {args : List AV} {h : AHeap} {R : AEnd → AHeap → Prop} (hargs : args.length ≤ 16) (hw : codeWp ⟨PP, Gl, 16, ann_syntax_nodeOf, h.length, none⟩ code_syntax_nodeOf (retPost PP Gl h res_syntax_nodeOf R) (initEnv args) h) : ACalls PP Gl 85 args h R :=
  acalls_of_code Tryd.func85 body_syntax_nodeOf comp_syntax_nodeOf resc_syntax_nodeOf hargs (Nat.le_trans hargs (by decide)) (codeWp_sound mixed hw)

end Go.Apx
