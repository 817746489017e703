/- The resolved code of the program's functions (by program). -/
import Derived.Test.YtchbhhgnkcaegaaGl
namespace Go.Apx
open Go.Proofs
set_option maxRecDepth 100000
set_option linter.unusedVariables false
/-- apodixis/apodixislaw14.EarleyTexts -/
def ann_law14_EarleyTexts : List Nat := [2, 3, 6]
def code_law14_EarleyTexts : ACode :=
 .seq (.reg [⟨(some 2), .box (.t 0), none, []⟩,
    ⟨(some 3), .box (.t 1), none, []⟩,
    ⟨(some 4), .mv (.c (.sc (.bool false))), none, []⟩]) (
 .seq (.seq (.reg [⟨(some 13), .load (.agg 2) (.t 3), none, []⟩,
     ⟨(some 14), .call (.c (.fn (.func 4) [] [])) [(.t 13), (.c (.sc (.int .i64 4100)))], none, [0]⟩,
     ⟨(some 5), .mv (.t 14), none, [1, 1, 0, 1]⟩]) (
  .seq (.reg [⟨(some 15), .load (.agg 2) (.t 2), none, []⟩,
     ⟨(some 16), .call (.c (.fn (.func 5) [] [])) [(.t 15), (.c (.sc (.int .i64 10))), (.c (.sc (.int .i64 5)))], none, [0]⟩,
     ⟨(some 17), .un .not (.t 16), none, [1]⟩,
     ⟨(some 18), .mv (.t 17), none, [2, 1]⟩,
     ⟨(some 19), .mv (.t 5), (some (18, false)), [3]⟩,
     ⟨(some 20), .bin .gtr (.t 19) (.c (.sc (.int .i64 150))), (some (18, false)), [4, 3]⟩,
     ⟨(some 21), .mv (.t 20), (some (18, false)), [5, 3, 3]⟩,
     ⟨(some 22), .mv (.t 5), (some (21, true)), [6]⟩,
     ⟨(some 23), .bin .leq (.t 22) (.c (.sc (.int .i64 4000))), (some (21, true)), [7, 6]⟩,
     ⟨(some 24), .mv (.t 23), (some (21, true)), [8, 6, 6]⟩,
     ⟨(some 25), .mv (.t 5), (some (24, false)), [9]⟩,
     ⟨(some 26), .bin .gtr (.t 25) (.c (.sc (.int .i64 4090))), (some (24, false)), [10, 9]⟩,
     ⟨(some 27), .pick (.t 24) (.c (.sc (.bool true))) (.t 26), (some (21, true)), [9, 11, 6]⟩,
     ⟨(some 28), .pick (.t 21) (.t 27) (.c (.sc (.bool false))), (some (18, false)), [6, 12, 3]⟩,
     ⟨(some 29), .pick (.t 18) (.c (.sc (.bool true))) (.t 28), none, [3, 13]⟩]) (
  .cond (.t 29) (.seq (.reg [⟨(some 30), .call (.c (.fn (.func 6) [] [])) [], none, []⟩,
      ⟨(some 4), .mv (.t 30), none, [0, 0, 0]⟩]) (
   .ret)) (
  .skip)))) (
 .seq (.reg [⟨(some 31), .load (.agg 2) (.t 2), none, []⟩,
    ⟨(some 32), .call (.c (.fn (.func 7) [] [])) [(.t 31)], none, [0]⟩,
    ⟨(some 6), .pnew 2, none, []⟩,
    ⟨none, .pstore 2 6 (.t 32), none, [2, 1, 1, 0, 1, 2]⟩]) (
 .seq (.reg [⟨(some 34), .load (.agg 2) (.t 2), none, []⟩,
    ⟨(some 35), .load (.agg 2) (.t 3), none, []⟩,
    ⟨(some 36), .call (.c (.fn (.func 8) [] [])) [(.t 34), (.t 35)], none, [0, 1]⟩,
    ⟨(some 33), .mv (.t 36), none, [2]⟩,
    ⟨(some 37), .extract (.t 33) 0, none, [3]⟩,
    ⟨(some 38), .extract (.t 33) 1, none, [3]⟩,
    ⟨(some 7), .mv (.t 37), none, [4, 2, 0, 1, 2, 3, 4]⟩,
    ⟨(some 8), .mv (.t 38), none, [5, 6, 0, 1, 2, 3, 4, 5, 6]⟩]) (
 .seq (.reg [⟨(some 40), .load (.agg 2) (.t 6), none, []⟩,
    ⟨(some 41), .load (.agg 2) (.t 3), none, []⟩,
    ⟨(some 42), .call (.c (.fn (.func 9) [] [])) [(.t 40), (.t 41)], none, [0, 1]⟩,
    ⟨(some 39), .mv (.t 42), none, [2]⟩,
    ⟨(some 43), .extract (.t 39) 0, none, [3]⟩,
    ⟨(some 44), .extract (.t 39) 1, none, [3]⟩,
    ⟨(some 9), .mv (.t 43), none, [4, 2, 0, 1, 2, 3, 4]⟩,
    ⟨(some 10), .mv (.t 44), none, [5, 6, 0, 1, 2, 3, 4, 5, 6]⟩]) (
 .seq (.seq (.reg [⟨(some 45), .mv (.t 8), none, []⟩,
     ⟨(some 46), .mv (.t 10), none, []⟩,
     ⟨(some 47), .bin .neq (.t 45) (.t 46), none, [0, 1]⟩,
     ⟨(some 48), .mv (.t 47), none, [2]⟩,
     ⟨(some 49), .mv (.t 7), (some (48, false)), [3]⟩,
     ⟨(some 50), .mv (.t 9), (some (48, false)), [3]⟩,
     ⟨(some 51), .call (.c (.fn (.func 10) [] [])) [(.t 49), (.t 50)], (some (48, false)), [4, 5, 3, 3]⟩,
     ⟨(some 52), .un .not (.t 51), (some (48, false)), [6, 3]⟩,
     ⟨(some 53), .pick (.t 48) (.c (.sc (.bool true))) (.t 52), none, [3, 7]⟩]) (
  .cond (.t 53) (.seq (.reg [⟨(some 4), .mv (.c (.sc (.bool false))), none, []⟩]) (
   .ret)) (
  .skip))) (
 .seq (.reg [⟨(some 55), .load (.agg 2) (.t 2), none, []⟩,
    ⟨(some 56), .load (.agg 2) (.t 3), none, []⟩,
    ⟨(some 57), .call (.c (.fn (.func 11) [] [])) [(.t 55), (.t 56)], none, [0, 1]⟩,
    ⟨(some 54), .mv (.t 57), none, [2]⟩,
    ⟨(some 58), .extract (.t 54) 0, none, [3]⟩,
    ⟨(some 59), .extract (.t 54) 1, none, [3]⟩,
    ⟨(some 11), .mv (.t 58), none, [4, 2, 0, 1, 2, 3, 4]⟩,
    ⟨(some 8), .mv (.t 59), none, [5, 6, 0, 1, 2, 3, 4, 5, 6]⟩]) (
 .seq (.reg [⟨(some 61), .load (.agg 2) (.t 6), none, []⟩,
    ⟨(some 62), .load (.agg 2) (.t 3), none, []⟩,
    ⟨(some 63), .call (.c (.fn (.func 12) [] [])) [(.t 61), (.t 62)], none, [0, 1]⟩,
    ⟨(some 60), .mv (.t 63), none, [2]⟩,
    ⟨(some 64), .extract (.t 60) 0, none, [3]⟩,
    ⟨(some 65), .extract (.t 60) 1, none, [3]⟩,
    ⟨(some 12), .mv (.t 64), none, [4, 2, 0, 1, 2, 3, 4]⟩,
    ⟨(some 10), .mv (.t 65), none, [5, 6, 0, 1, 2, 3, 4, 5, 6]⟩]) (
 .seq (.reg [⟨(some 66), .mv (.t 11), none, []⟩,
    ⟨(some 67), .mv (.t 12), none, []⟩,
    ⟨(some 68), .bin .eql (.t 66) (.t 67), none, [0, 1]⟩,
    ⟨(some 69), .mv (.t 68), none, [2]⟩,
    ⟨(some 70), .mv (.t 8), (some (69, true)), [3]⟩,
    ⟨(some 71), .mv (.t 10), (some (69, true)), [3]⟩,
    ⟨(some 72), .bin .eql (.t 70) (.t 71), (some (69, true)), [4, 5, 3]⟩,
    ⟨(some 73), .pick (.t 69) (.t 72) (.c (.sc (.bool false))), none, [3, 6]⟩,
    ⟨(some 74), .mv (.t 73), none, [7, 3]⟩,
    ⟨(some 75), .call (.c (.fn (.func 6) [] [])) [], (some (74, true)), [8, 8]⟩,
    ⟨(some 76), .pick (.t 74) (.t 75) (.c (.sc (.bool false))), none, [8, 9]⟩,
    ⟨(some 4), .mv (.t 76), none, [10, 9, 0, 1, 2, 3, 4, 5, 6, 7, 8, 9, 10]⟩]) (
 .ret)))))))))
def res_law14_EarleyTexts : List ResA := [.t 4]
theorem comp_law14_EarleyTexts : Try.f3.body.bind (compCode PP ann_law14_EarleyTexts 77) = some code_law14_EarleyTexts := by kernel_rfl
theorem resc_law14_EarleyTexts : mapM' (compRes PP) Try.f3.results.toList = some res_law14_EarleyTexts := by kernel_rfl
theorem body_law14_EarleyTexts : hasBody PP 3 = true := by kernel_rfl
theorem enter_law14_EarleyTexts {args : List AV} {h : AHeap} {R : AEnd → AHeap → Prop} (hargs : args.length ≤ 77) (hw : codeWp ⟨PP, Gl, 77, ann_law14_EarleyTexts, h.length, none⟩ code_law14_EarleyTexts (retPost PP Gl h res_law14_EarleyTexts R) (initEnv args) h) : ACalls PP Gl 3 args h R :=
  acalls_of_code Try.func3 body_law14_EarleyTexts comp_law14_EarleyTexts resc_law14_EarleyTexts hargs (Nat.le_trans hargs (by decide)) (codeWp_sound mixed hw)

def lp0_law14_nodes : ACode :=
 .seq (.seq (.reg [⟨(some 7), .mv (.t 6), none, []⟩,
        ⟨(some 8), .faddr 1 .one (.t 2), none, []⟩,
        ⟨(some 9), .load .one (.t 8), none, [1]⟩,
        ⟨(some 10), .len .sl (.t 9), none, [2]⟩,
        ⟨(some 11), .bin .lss (.t 7) (.t 10), none, [0, 3]⟩,
        ⟨(some 12), .mv (.t 11), none, [4]⟩,
        ⟨(some 13), .mv (.t 5), (some (12, true)), [5]⟩,
        ⟨(some 14), .mv (.t 1), (some (12, true)), [5]⟩,
        ⟨(some 15), .bin .leq (.t 13) (.t 14), (some (12, true)), [6, 7, 5]⟩,
        ⟨(some 16), .pick (.t 12) (.t 15) (.c (.sc (.bool false))), none, [5, 8]⟩]) (
     .cond (.t 16) (.skip) (
     .exit 0))) (
    .seq (.block 1 (.reg [⟨(some 19), .mv (.t 5), none, []⟩,
        ⟨(some 20), .faddr 1 .one (.t 2), none, []⟩,
        ⟨(some 21), .load .one (.t 20), none, [1]⟩,
        ⟨(some 22), .mv (.t 6), none, []⟩,
        ⟨(some 23), .iaddr 2 (.t 21) (.t 22), none, [2, 3]⟩,
        ⟨(some 24), .load (.agg 2) (.t 23), none, [4]⟩,
        ⟨(some 25), .mv (.t 1), none, []⟩,
        ⟨(some 26), .mv (.t 5), none, []⟩,
        ⟨(some 27), .bin .sub (.t 25) (.t 26), none, [6, 7]⟩,
        ⟨(some 28), .call (.c (.fn (.func 4) [] [])) [(.t 24), (.t 27)], none, [5, 8]⟩,
        ⟨(some 29), .bin .add (.t 19) (.t 28), none, [0, 9]⟩,
        ⟨(some 5), .mv (.t 29), none, [10, 9, 0, 1, 2, 3, 4, 5, 6, 7, 8, 9, 10]⟩])) (
    .reg [⟨(some 17), .mv (.t 6), none, []⟩,
      ⟨(some 18), .bin .add (.t 17) (.c (.sc (.int .i64 1))), none, [0]⟩,
      ⟨(some 6), .mv (.t 18), none, [1, 0, 1]⟩]))
/-- apodixis/apodixislaw14.nodes -/
def ann_law14_nodes : List Nat := [2]
def code_law14_nodes : ACode :=
 .seq (.reg [⟨(some 2), .box (.t 0), none, []⟩,
    ⟨(some 4), .mv (.c (.sc (.int .i64 0))), none, []⟩]) (
 .seq (.reg [⟨(some 5), .mv (.c (.sc (.int .i64 1))), none, []⟩]) (
 .seq (.seq (.reg [⟨(some 6), .mv (.c (.sc (.int .i64 0))), none, []⟩]) (
  .block 0 (.loop lp0_law14_nodes))) (
 .seq (.reg [⟨(some 30), .mv (.t 5), none, []⟩,
    ⟨(some 4), .mv (.t 30), none, [0, 0]⟩]) (
 .ret))))
def res_law14_nodes : List ResA := [.t 4]
theorem comp_law14_nodes : Try.f4.body.bind (compCode PP ann_law14_nodes 31) = some code_law14_nodes := by kernel_rfl
theorem resc_law14_nodes : mapM' (compRes PP) Try.f4.results.toList = some res_law14_nodes := by kernel_rfl
theorem body_law14_nodes : hasBody PP 4 = true := by kernel_rfl
theorem enter_law14_nodes {args : List AV} {h : AHeap} {R : AEnd → AHeap → Prop} (hargs : args.length ≤ 31) (hw : codeWp ⟨PP, Gl, 31, ann_law14_nodes, h.length, none⟩ code_law14_nodes (retPost PP Gl h res_law14_nodes R) (initEnv args) h) : ACalls PP Gl 4 args h R :=
  acalls_of_code Try.func4 body_law14_nodes comp_law14_nodes resc_law14_nodes hargs (Nat.le_trans hargs (by decide)) (codeWp_sound mixed hw)

def lp0_law13_Small : ACode :=
 .seq (.seq (.reg [⟨(some 28), .mv (.t 7), none, []⟩,
        ⟨(some 29), .faddr 1 .one (.t 3), none, []⟩,
        ⟨(some 30), .load .one (.t 29), none, [1]⟩,
        ⟨(some 31), .len .sl (.t 30), none, [2]⟩,
        ⟨(some 32), .bin .lss (.t 28) (.t 31), none, [0, 3]⟩]) (
     .cond (.t 32) (.skip) (
     .exit 0))) (
    .seq (.block 1 (.seq (.reg [⟨(some 35), .faddr 1 .one (.t 3), none, []⟩,
         ⟨(some 36), .load .one (.t 35), none, [0]⟩,
         ⟨(some 37), .mv (.t 7), none, []⟩,
         ⟨(some 38), .iaddr 4 (.t 36) (.t 37), none, [1, 2]⟩,
         ⟨(some 39), .faddr 2 .one (.t 38), none, [3]⟩,
         ⟨(some 40), .load .one (.t 39), none, [4]⟩,
         ⟨(some 41), .len .sl (.t 40), none, [5]⟩,
         ⟨(some 42), .mv (.t 2), none, []⟩,
         ⟨(some 43), .bin .gtr (.t 41) (.t 42), none, [6, 7]⟩,
         ⟨(some 44), .mv (.t 43), none, [8]⟩,
         ⟨(some 45), .faddr 1 .one (.t 3), (some (44, true)), [9]⟩,
         ⟨(some 46), .load .one (.t 45), (some (44, true)), [10, 9]⟩,
         ⟨(some 47), .mv (.t 7), (some (44, true)), [9]⟩,
         ⟨(some 48), .iaddr 4 (.t 46) (.t 47), (some (44, true)), [11, 12, 9]⟩,
         ⟨(some 49), .faddr 2 .one (.t 48), (some (44, true)), [13, 9]⟩,
         ⟨(some 50), .load .one (.t 49), (some (44, true)), [14, 9]⟩,
         ⟨(some 51), .len .sl (.t 50), (some (44, true)), [15, 9]⟩,
         ⟨(some 52), .bin .leq (.t 51) (.c (.sc (.int .i64 200))), (some (44, true)), [16, 9]⟩,
         ⟨(some 53), .pick (.t 44) (.t 52) (.c (.sc (.bool false))), none, [9, 17]⟩,
         ⟨(some 54), .mv (.t 53), none, [18, 9]⟩,
         ⟨(some 55), .faddr 1 .one (.t 3), (some (54, false)), [19]⟩,
         ⟨(some 56), .load .one (.t 55), (some (54, false)), [20, 19]⟩,
         ⟨(some 57), .mv (.t 7), (some (54, false)), [19]⟩,
         ⟨(some 58), .iaddr 4 (.t 56) (.t 57), (some (54, false)), [21, 22, 19]⟩,
         ⟨(some 59), .faddr 2 .one (.t 58), (some (54, false)), [23, 19]⟩,
         ⟨(some 60), .load .one (.t 59), (some (54, false)), [24, 19]⟩,
         ⟨(some 61), .len .sl (.t 60), (some (54, false)), [25, 19]⟩,
         ⟨(some 62), .bin .gtr (.t 61) (.c (.sc (.int .i64 210))), (some (54, false)), [26, 19]⟩,
         ⟨(some 63), .pick (.t 54) (.c (.sc (.bool true))) (.t 62), none, [19, 27]⟩]) (
      .cond (.t 63) (.seq (.reg [⟨(some 6), .mv (.c (.sc (.bool false))), none, []⟩]) (
       .ret)) (
      .skip)))) (
    .reg [⟨(some 33), .mv (.t 7), none, []⟩,
      ⟨(some 34), .bin .add (.t 33) (.c (.sc (.int .i64 1))), none, [0]⟩,
      ⟨(some 7), .mv (.t 34), none, [1, 0, 1]⟩]))
/-- apodixis/apodixislaw13.Small -/
def ann_law13_Small : List Nat := [3]
def code_law13_Small : ACode :=
 .seq (.reg [⟨(some 3), .box (.t 0), none, []⟩,
    ⟨(some 6), .mv (.c (.sc (.bool false))), none, []⟩]) (
 .seq (.seq (.reg [⟨(some 8), .faddr 0 .one (.t 3), none, []⟩,
     ⟨(some 9), .load .one (.t 8), none, [0]⟩,
     ⟨(some 10), .len .sl (.t 9), none, [1]⟩,
     ⟨(some 11), .bin .gtr (.t 10) (.c (.sc (.int .i64 40))), none, [2]⟩,
     ⟨(some 12), .mv (.t 11), none, [3]⟩,
     ⟨(some 13), .faddr 1 .one (.t 3), (some (12, false)), [4]⟩,
     ⟨(some 14), .load .one (.t 13), (some (12, false)), [5, 4]⟩,
     ⟨(some 15), .len .sl (.t 14), (some (12, false)), [6, 4]⟩,
     ⟨(some 16), .bin .gtr (.t 15) (.c (.sc (.int .i64 620))), (some (12, false)), [7, 4]⟩,
     ⟨(some 17), .pick (.t 12) (.c (.sc (.bool true))) (.t 16), none, [4, 8]⟩]) (
  .cond (.t 17) (.seq (.reg [⟨(some 6), .mv (.c (.sc (.bool false))), none, []⟩]) (
   .ret)) (
  .skip))) (
 .seq (.seq (.reg [⟨(some 18), .faddr 0 .one (.t 3), none, []⟩,
     ⟨(some 19), .load .one (.t 18), none, [0]⟩,
     ⟨(some 20), .len .sl (.t 19), none, [1]⟩,
     ⟨(some 21), .bin .gtr (.t 20) (.c (.sc (.int .i64 32))), none, [2]⟩,
     ⟨(some 22), .mv (.t 21), none, [3]⟩,
     ⟨(some 23), .faddr 1 .one (.t 3), (some (22, false)), [4]⟩,
     ⟨(some 24), .load .one (.t 23), (some (22, false)), [5, 4]⟩,
     ⟨(some 25), .len .sl (.t 24), (some (22, false)), [6, 4]⟩,
     ⟨(some 26), .bin .gtr (.t 25) (.c (.sc (.int .i64 600))), (some (22, false)), [7, 4]⟩,
     ⟨(some 27), .pick (.t 22) (.c (.sc (.bool true))) (.t 26), none, [4, 8]⟩]) (
  .cond (.t 27) (.seq (.reg [⟨(some 6), .mv (.c (.sc (.bool true))), none, []⟩]) (
   .ret)) (
  .skip))) (
 .seq (.seq (.reg [⟨(some 7), .mv (.c (.sc (.int .i64 0))), none, []⟩]) (
  .block 0 (.loop lp0_law13_Small))) (
 .seq (.reg [⟨(some 64), .faddr 1 .one (.t 3), none, []⟩,
    ⟨(some 65), .load .one (.t 64), none, [0]⟩,
    ⟨(some 66), .len .sl (.t 65), none, [1]⟩,
    ⟨(some 67), .mv (.t 1), none, []⟩,
    ⟨(some 68), .bin .leq (.t 66) (.t 67), none, [2, 3]⟩,
    ⟨(some 69), .mv (.t 68), none, [4]⟩,
    ⟨(some 70), .faddr 0 .one (.t 3), (some (69, true)), [5]⟩,
    ⟨(some 71), .load .one (.t 70), (some (69, true)), [6, 5]⟩,
    ⟨(some 72), .len .sl (.t 71), (some (69, true)), [7, 5]⟩,
    ⟨(some 73), .bin .leq (.t 72) (.c (.sc (.int .i64 8))), (some (69, true)), [8, 5]⟩,
    ⟨(some 74), .pick (.t 69) (.t 73) (.c (.sc (.bool false))), none, [5, 9]⟩,
    ⟨(some 6), .mv (.t 74), none, [10, 5, 0, 1, 2, 3, 4, 5, 6, 7, 8, 9, 10]⟩]) (
 .ret)))))
def res_law13_Small : List ResA := [.t 6]
theorem comp_law13_Small : Try.f5.body.bind (compCode PP ann_law13_Small 75) = some code_law13_Small := by kernel_rfl
theorem resc_law13_Small : mapM' (compRes PP) Try.f5.results.toList = some res_law13_Small := by kernel_rfl
theorem body_law13_Small : hasBody PP 5 = true := by kernel_rfl
theorem enter_law13_Small {args : List AV} {h : AHeap} {R : AEnd → AHeap → Prop} (hargs : args.length ≤ 75) (hw : codeWp ⟨PP, Gl, 75, ann_law13_Small, h.length, none⟩ code_law13_Small (retPost PP Gl h res_law13_Small R) (initEnv args) h) : ACalls PP Gl 5 args h R :=
  acalls_of_code Try.func5 body_law13_Small comp_law13_Small resc_law13_Small hargs (Nat.le_trans hargs (by decide)) (codeWp_sound mixed hw)

/-- apodixis/apodixislaw14.awake -/
def ann_law14_awake : List Nat := [1]
def code_law14_awake : ACode :=
 .seq (.reg [⟨(some 0), .mv (.c (.sc (.bool false))), none, []⟩]) (
 .seq (.reg [⟨(some 6), .call (.c (.fn (.func 13) [] [])) [], none, []⟩,
    ⟨(some 1), .pnew 2, none, []⟩,
    ⟨none, .pstore 2 1 (.t 6), none, [1, 0, 0, 0, 1]⟩]) (
 .seq (.reg [⟨(some 8), .load (.agg 2) (.t 1), none, []⟩,
    ⟨(some 9), .bslice 1 3 (.sc (.string ⟨#[]⟩)) [(0, (.c (.sc (.string ⟨#[97]⟩)))), (1, (.c (.sc (.string ⟨#[97]⟩)))), (2, (.c (.sc (.string ⟨#[97]⟩))))], none, []⟩,
    ⟨(some 10), .call (.c (.fn (.func 14) [] [])) [(.t 8), (.c (.sc (.string ⟨#[115]⟩))), (.t 9)], none, [0, 1]⟩,
    ⟨(some 7), .mv (.t 10), none, [2]⟩,
    ⟨(some 11), .extract (.t 7) 0, none, [3]⟩,
    ⟨(some 12), .extract (.t 7) 1, none, [3]⟩,
    ⟨(some 2), .new [(.sl 0 [] .nil)], none, []⟩,
    ⟨none, .store 1 (.t 2) (.t 11), none, [6, 4, 2, 0, 1, 2, 3, 4, 6]⟩,
    ⟨(some 3), .mv (.t 12), none, [5, 7, 0, 1, 2, 3, 4, 5, 6, 7]⟩]) (
 .seq (.reg [⟨(some 14), .load (.agg 1) (.t 2), none, []⟩,
    ⟨(some 15), .call (.c (.fn (.func 15) [] [])) [(.t 14)], none, [0]⟩,
    ⟨(some 13), .mv (.t 15), none, [1]⟩,
    ⟨(some 16), .extract (.t 13) 0, none, [2]⟩,
    ⟨(some 17), .extract (.t 13) 1, none, [2]⟩,
    ⟨(some 4), .mv (.t 16), none, [3, 1, 0, 1, 2, 3]⟩,
    ⟨(some 5), .mv (.t 17), none, [4, 5, 0, 1, 2, 3, 4, 5]⟩]) (
 .seq (.seq (.reg [⟨(some 18), .mv (.t 3), none, []⟩,
     ⟨(some 19), .bin .neq (.t 18) (.c (.sc (.int .i64 0))), none, [0]⟩,
     ⟨(some 20), .mv (.t 19), none, [1]⟩,
     ⟨(some 21), .mv (.t 5), (some (20, false)), [2]⟩,
     ⟨(some 22), .bin .neq (.t 21) (.c (.sc (.int .i64 0))), (some (20, false)), [3, 2]⟩,
     ⟨(some 23), .pick (.t 20) (.c (.sc (.bool true))) (.t 22), none, [2, 4]⟩,
     ⟨(some 24), .mv (.t 23), none, [5, 2]⟩,
     ⟨(some 25), .mv (.t 4), (some (24, false)), [6]⟩,
     ⟨(some 26), .bin .neq (.t 25) (.c (.sc (.int .i64 2))), (some (24, false)), [7, 6]⟩,
     ⟨(some 27), .pick (.t 24) (.c (.sc (.bool true))) (.t 26), none, [6, 8]⟩,
     ⟨(some 28), .mv (.t 27), none, [9, 6]⟩,
     ⟨(some 29), .faddr 0 .one (.t 2), (some (28, false)), [10]⟩,
     ⟨(some 30), .load .one (.t 29), (some (28, false)), [11, 10]⟩,
     ⟨(some 31), .len .sl (.t 30), (some (28, false)), [12, 10]⟩,
     ⟨(some 32), .bin .neq (.t 31) (.c (.sc (.int .i64 6))), (some (28, false)), [13, 10]⟩,
     ⟨(some 33), .pick (.t 28) (.c (.sc (.bool true))) (.t 32), none, [10, 14]⟩,
     ⟨(some 34), .mv (.t 33), none, [15, 10]⟩,
     ⟨(some 35), .faddr 0 .one (.t 2), (some (34, false)), [16]⟩,
     ⟨(some 36), .load .one (.t 35), (some (34, false)), [17, 16]⟩,
     ⟨(some 37), .iaddr 4 (.t 36) (.c (.sc (.int .i64 0))), (some (34, false)), [18, 16]⟩,
     ⟨(some 38), .faddr 3 .one (.t 37), (some (34, false)), [19, 16]⟩,
     ⟨(some 39), .load .one (.t 38), (some (34, false)), [20, 16]⟩,
     ⟨(some 40), .len .sl (.t 39), (some (34, false)), [21, 16]⟩,
     ⟨(some 41), .bin .neq (.t 40) (.c (.sc (.int .i64 2))), (some (34, false)), [22, 16]⟩,
     ⟨(some 42), .pick (.t 34) (.c (.sc (.bool true))) (.t 41), none, [16, 23]⟩]) (
  .cond (.t 42) (.seq (.reg [⟨(some 0), .mv (.c (.sc (.bool false))), none, []⟩]) (
   .ret)) (
  .skip))) (
 .seq (.dreg [(true, ⟨(some 43), .faddr 1 .one (.t 1), none, []⟩),
    (true, ⟨(some 44), .load .one (.t 43), none, [0]⟩),
    (false, ⟨(some 45), .faddr 1 .one (.t 1), none, []⟩),
    (false, ⟨(some 46), .load .one (.t 45), none, [2]⟩),
    (false, ⟨(some 47), .iaddr 4 (.t 46) (.c (.sc (.int .i64 1))), none, [3]⟩),
    (false, ⟨(some 48), .faddr 2 .one (.t 47), none, [4]⟩),
    (false, ⟨(some 49), .load .one (.t 48), none, [5]⟩),
    (false, ⟨(some 50), .slice (.sl 3) (.t 49) none (some (.c (.sc (.int .i64 1)))) none, none, [6]⟩),
    (false, ⟨(some 51), .iaddr 4 (.t 44) (.c (.sc (.int .i64 1))), none, [1, 0, 1, 2, 3, 4, 5, 6, 7]⟩),
    (false, ⟨(some 52), .faddr 2 .one (.t 51), none, [8, 0, 1, 2, 3, 4, 5, 6, 7]⟩),
    (false, ⟨none, .store 1 (.t 52) (.t 50), none, [9, 7, 0, 1, 2, 3, 4, 5, 6, 7]⟩)]) (
 .seq (.reg [⟨(some 54), .load (.agg 2) (.t 1), none, []⟩,
    ⟨(some 55), .bslice 1 1 (.sc (.string ⟨#[]⟩)) [(0, (.c (.sc (.string ⟨#[97]⟩))))], none, []⟩,
    ⟨(some 56), .call (.c (.fn (.func 14) [] [])) [(.t 54), (.c (.sc (.string ⟨#[115]⟩))), (.t 55)], none, [0, 1]⟩,
    ⟨(some 53), .mv (.t 56), none, [2]⟩,
    ⟨(some 57), .extract (.t 53) 0, none, [3]⟩,
    ⟨(some 58), .extract (.t 53) 1, none, [3]⟩,
    ⟨none, .store 1 (.t 2) (.t 57), none, [4, 2, 0, 1, 2, 3, 4]⟩,
    ⟨(some 3), .mv (.t 58), none, [5, 6, 0, 1, 2, 3, 4, 5, 6]⟩]) (
 .seq (.reg [⟨(some 60), .load (.agg 1) (.t 2), none, []⟩,
    ⟨(some 61), .call (.c (.fn (.func 15) [] [])) [(.t 60)], none, [0]⟩,
    ⟨(some 59), .mv (.t 61), none, [1]⟩,
    ⟨(some 62), .extract (.t 59) 0, none, [2]⟩,
    ⟨(some 63), .extract (.t 59) 1, none, [2]⟩,
    ⟨(some 5), .mv (.t 63), none, [4, 1, 0, 1, 2, 3, 4]⟩]) (
 .seq (.reg [⟨(some 64), .mv (.t 3), none, []⟩,
    ⟨(some 65), .bin .eql (.t 64) (.c (.sc (.int .i64 0))), none, [0]⟩,
    ⟨(some 66), .mv (.t 65), none, [1]⟩,
    ⟨(some 67), .mv (.t 5), (some (66, true)), [2]⟩,
    ⟨(some 68), .bin .eql (.t 67) (.c (.sc (.int .i64 161))), (some (66, true)), [3, 2]⟩,
    ⟨(some 69), .pick (.t 66) (.t 68) (.c (.sc (.bool false))), none, [2, 4]⟩,
    ⟨(some 0), .mv (.t 69), none, [5, 2, 0, 1, 2, 3, 4, 5]⟩]) (
 .ret)))))))))
def res_law14_awake : List ResA := [.t 0]
theorem comp_law14_awake : Try.f6.body.bind (compCode PP ann_law14_awake 70) = some code_law14_awake := by kernel_rfl
theorem resc_law14_awake : mapM' (compRes PP) Try.f6.results.toList = some res_law14_awake := by kernel_rfl
theorem body_law14_awake : hasBody PP 6 = true := by kernel_rfl
theorem enter_law14_awake {args : List AV} {h : AHeap} {R : AEnd → AHeap → Prop} (hargs : args.length ≤ 70) (hw : codeWp ⟨PP, Gl, 70, ann_law14_awake, h.length, none⟩ code_law14_awake (retPost PP Gl h res_law14_awake R) (initEnv args) h) : ACalls PP Gl 6 args h R :=
  acalls_of_code Try.func6 body_law14_awake comp_law14_awake resc_law14_awake hargs (Nat.le_trans hargs (by decide)) (codeWp_sound mixed hw)

def lp1_law13_Grammar : ACode :=
 .seq (.seq (.reg [⟨(some 37), .mv (.t 6), none, []⟩,
             ⟨(some 38), .faddr 1 .one (.t 1), none, []⟩,
             ⟨(some 39), .load .one (.t 38), none, [1]⟩,
             ⟨(some 40), .mv (.t 4), none, []⟩,
             ⟨(some 41), .iaddr 4 (.t 39) (.t 40), none, [2, 3]⟩,
             ⟨(some 42), .faddr 2 .one (.t 41), none, [4]⟩,
             ⟨(some 43), .load .one (.t 42), none, [5]⟩,
             ⟨(some 44), .len .sl (.t 43), none, [6]⟩,
             ⟨(some 45), .bin .lss (.t 37) (.t 44), none, [0, 7]⟩]) (
          .cond (.t 45) (.skip) (
          .exit 2))) (
         .seq (.block 3 (.seq (.reg [⟨(some 48), .faddr 1 .one (.t 1), none, []⟩,
              ⟨(some 49), .load .one (.t 48), none, [0]⟩,
              ⟨(some 50), .mv (.t 4), none, []⟩,
              ⟨(some 51), .iaddr 4 (.t 49) (.t 50), none, [1, 2]⟩,
              ⟨(some 52), .faddr 2 .one (.t 51), none, [3]⟩,
              ⟨(some 53), .load .one (.t 52), none, [4]⟩,
              ⟨(some 54), .mv (.t 6), none, []⟩,
              ⟨(some 55), .iaddr 3 (.t 53) (.t 54), none, [5, 6]⟩,
              ⟨(some 56), .load (.agg 3) (.t 55), none, [7]⟩,
              ⟨(some 7), .pnew 3, none, []⟩,
              ⟨none, .pstore 3 7 (.t 56), none, [9, 8, 0, 1, 2, 3, 4, 5, 6, 7, 8, 9]⟩]) (
           .reg [⟨(some 57), .faddr 2 .one (.t 5), none, []⟩,
             ⟨(some 58), .load .one (.t 57), none, [0]⟩,
             ⟨(some 59), .faddr 0 .one (.t 7), none, []⟩,
             ⟨(some 60), .load .one (.t 59), none, [2]⟩,
             ⟨(some 61), .faddr 1 .one (.t 7), none, []⟩,
             ⟨(some 62), .load .one (.t 61), none, [4]⟩,
             ⟨(some 63), .faddr 2 .one (.t 7), none, []⟩,
             ⟨(some 64), .load .one (.t 63), none, [6]⟩,
             ⟨(some 65), .build [(.sc (.string ⟨#[]⟩)), (.sc (.string ⟨#[]⟩)), (.sc (.int .i64 0))] [(0, 1, (.t 60)), (1, 1, (.t 62)), (2, 1, (.t 64))], none, [3, 5, 7]⟩,
             ⟨(some 66), .bslice 3 1 (.agg [(.sc (.string ⟨#[]⟩)), (.sc (.string ⟨#[]⟩)), (.sc (.int .i64 0))]) [(0, (.t 65))], none, [8]⟩,
             ⟨(some 67), .append 3 40 (.t 58) (.t 66), none, [1, 9]⟩,
             ⟨(some 68), .faddr 2 .one (.t 5), none, [0, 1, 2, 3, 4, 5, 6, 7, 8, 9, 10]⟩,
             ⟨none, .store 1 (.t 68) (.t 67), none, [11, 10, 10, 0, 1, 2, 3, 4, 5, 6, 7, 8, 9, 10]⟩]))) (
         .reg [⟨(some 46), .mv (.t 6), none, []⟩,
           ⟨(some 47), .bin .add (.t 46) (.c (.sc (.int .i64 1))), none, [0]⟩,
           ⟨(some 6), .mv (.t 47), none, [1, 0, 1]⟩]))
def lp0_law13_Grammar : ACode :=
 .seq (.seq (.reg [⟨(some 11), .mv (.t 4), none, []⟩,
        ⟨(some 12), .faddr 1 .one (.t 1), none, []⟩,
        ⟨(some 13), .load .one (.t 12), none, [1]⟩,
        ⟨(some 14), .len .sl (.t 13), none, [2]⟩,
        ⟨(some 15), .bin .lss (.t 11) (.t 14), none, [0, 3]⟩]) (
     .cond (.t 15) (.skip) (
     .exit 0))) (
    .seq (.block 1 (.seq (.dreg [(true, ⟨(some 18), .faddr 1 .one (.t 1), none, []⟩),
         (true, ⟨(some 19), .load .one (.t 18), none, [0]⟩),
         (true, ⟨(some 20), .mv (.t 4), none, []⟩),
         (true, ⟨(some 21), .iaddr 4 (.t 19) (.t 20), none, [1, 2]⟩),
         (true, ⟨(some 22), .faddr 0 .one (.t 21), none, [3]⟩),
         (true, ⟨(some 23), .load .one (.t 22), none, [4]⟩),
         (true, ⟨(some 24), .faddr 1 .one (.t 1), none, []⟩),
         (true, ⟨(some 25), .load .one (.t 24), none, [6]⟩),
         (true, ⟨(some 26), .mv (.t 4), none, []⟩),
         (true, ⟨(some 27), .iaddr 4 (.t 25) (.t 26), none, [7, 8]⟩),
         (true, ⟨(some 28), .faddr 1 .one (.t 27), none, [9]⟩),
         (true, ⟨(some 29), .load .one (.t 28), none, [10]⟩),
         (true, ⟨(some 30), .faddr 1 .one (.t 1), none, []⟩),
         (true, ⟨(some 31), .load .one (.t 30), none, [12]⟩),
         (true, ⟨(some 32), .mv (.t 4), none, []⟩),
         (true, ⟨(some 33), .iaddr 4 (.t 31) (.t 32), none, [13, 14]⟩),
         (true, ⟨(some 34), .faddr 3 .one (.t 33), none, [15]⟩),
         (true, ⟨(some 35), .load .one (.t 34), none, [16]⟩),
         (true, ⟨(some 36), .build [(.sc (.string ⟨#[]⟩)), (.sc (.string ⟨#[]⟩)), (.sl 0 [] .nil), (.sc (.bool false))] [(0, 1, (.t 23)), (1, 1, (.t 29)), (3, 1, (.t 35))], none, [5, 11, 17]⟩),
         (false, ⟨(some 5), .new [(.sc (.string ⟨#[]⟩)), (.sc (.string ⟨#[]⟩)), (.sl 0 [] .nil), (.sc (.bool false))], none, []⟩),
         (false, ⟨none, .store 4 (.t 5) (.t 36), none, [19, 18, 0, 1, 2, 3, 4, 5, 6, 7, 8, 9, 10, 11, 12, 13, 14, 15, 16, 17, 18, 19]⟩)]) (
      .seq (.seq (.reg [⟨(some 6), .mv (.c (.sc (.int .i64 0))), none, []⟩]) (
       .block 2 (.loop lp1_law13_Grammar))) (
      .reg [⟨(some 69), .faddr 1 .one (.t 3), none, []⟩,
        ⟨(some 70), .load .one (.t 69), none, [0]⟩,
        ⟨(some 71), .load (.agg 4) (.t 5), none, []⟩,
        ⟨(some 72), .bslice 4 1 (.agg [(.sc (.string ⟨#[]⟩)), (.sc (.string ⟨#[]⟩)), (.sl 0 [] .nil), (.sc (.bool false))]) [(0, (.t 71))], none, [2]⟩,
        ⟨(some 73), .append 4 64 (.t 70) (.t 72), none, [1, 3]⟩,
        ⟨(some 74), .faddr 1 .one (.t 3), none, [0, 1, 2, 3, 4]⟩,
        ⟨none, .store 1 (.t 74) (.t 73), none, [5, 4, 4, 0, 1, 2, 3, 4]⟩])))) (
    .reg [⟨(some 16), .mv (.t 4), none, []⟩,
      ⟨(some 17), .bin .add (.t 16) (.c (.sc (.int .i64 1))), none, [0]⟩,
      ⟨(some 4), .mv (.t 17), none, [1, 0, 1]⟩]))
/-- apodixis/apodixislaw13.Grammar -/
def ann_law13_Grammar : List Nat := [1, 2, 7]
def code_law13_Grammar : ACode :=
 .seq (.reg [⟨(some 1), .box (.t 0), none, []⟩,
    ⟨(some 2), .pnew 2, none, []⟩]) (
 .seq (.reg [⟨(some 8), .faddr 0 .one (.t 1), none, []⟩,
    ⟨(some 9), .load .one (.t 8), none, [0]⟩,
    ⟨(some 10), .build [(.sl 0 [] .nil), (.sl 0 [] .nil)] [(0, 1, (.t 9))], none, [1]⟩,
    ⟨(some 3), .new [(.sl 0 [] .nil), (.sl 0 [] .nil)], none, []⟩,
    ⟨none, .store 2 (.t 3) (.t 10), none, [3, 2, 0, 1, 2, 3]⟩]) (
 .seq (.seq (.reg [⟨(some 4), .mv (.c (.sc (.int .i64 0))), none, []⟩]) (
  .block 0 (.loop lp0_law13_Grammar))) (
 .seq (.reg [⟨(some 75), .load (.agg 2) (.t 3), none, []⟩,
    ⟨none, .pstore 2 2 (.t 75), none, [0, 0]⟩]) (
 .ret))))
def res_law13_Grammar : List ResA := [.cell 2 (.agg 2)]
theorem comp_law13_Grammar : Try.f7.body.bind (compCode PP ann_law13_Grammar 76) = some code_law13_Grammar := by kernel_rfl
theorem resc_law13_Grammar : mapM' (compRes PP) Try.f7.results.toList = some res_law13_Grammar := by kernel_rfl
theorem body_law13_Grammar : hasBody PP 7 = true := by kernel_rfl
theorem enter_law13_Grammar {args : List AV} {h : AHeap} {R : AEnd → AHeap → Prop} (hargs : args.length ≤ 76) (hw : codeWp ⟨PP, Gl, 76, ann_law13_Grammar, h.length, none⟩ code_law13_Grammar (retPost PP Gl h res_law13_Grammar R) (initEnv args) h) : ACalls PP Gl 7 args h R :=
  acalls_of_code Try.func7 body_law13_Grammar comp_law13_Grammar resc_law13_Grammar hargs (Nat.le_trans hargs (by decide)) (codeWp_sound mixed hw)

/-- apodixis/earley.Text -/
def ann_earley_Text : List Nat := [2, 3]
def code_earley_Text : ACode :=
 .seq (.reg [⟨(some 2), .box (.t 0), none, []⟩,
    ⟨(some 3), .box (.t 1), none, []⟩,
    ⟨(some 4), .mv (.c (.sl 0 [] .nil)), none, []⟩,
    ⟨(some 5), .mv (.c (.sc (.int .i64 0))), none, [2]⟩]) (
 .seq (.reg [⟨(some 10), .load (.agg 2) (.t 2), none, []⟩,
    ⟨(some 11), .load (.agg 2) (.t 3), none, []⟩,
    ⟨(some 12), .call (.c (.fn (.func 16) [] [])) [(.t 10), (.t 11)], none, [0, 1]⟩,
    ⟨(some 9), .mv (.t 12), none, [2]⟩,
    ⟨(some 13), .extract (.t 9) 0, none, [3]⟩,
    ⟨(some 14), .extract (.t 9) 1, none, [3]⟩,
    ⟨(some 6), .mv (.t 13), none, [4, 2, 0, 1, 2, 3, 4]⟩,
    ⟨(some 7), .mv (.t 14), none, [5, 6, 0, 1, 2, 3, 4, 5, 6]⟩]) (
 .seq (.seq (.reg [⟨(some 15), .mv (.t 7), none, []⟩,
     ⟨(some 16), .bin .neq (.t 15) (.c (.sc (.int .i64 0))), none, [0]⟩]) (
  .cond (.t 16) (.seq (.reg [⟨(some 17), .mv (.t 7), none, []⟩,
      ⟨(some 4), .mv (.c (.sl 0 [] .nil)), none, []⟩,
      ⟨(some 5), .mv (.t 17), none, [0, 1, 0, 1]⟩]) (
   .ret)) (
  .skip))) (
 .seq (.reg [⟨(some 18), .mv (.t 6), none, []⟩,
    ⟨(some 19), .load (.agg 2) (.t 3), none, []⟩,
    ⟨(some 20), .call (.c (.fn (.func 17) [] [])) [(.t 18), (.t 19), (.c (.sl 0 [] .nil))], none, [0, 1]⟩,
    ⟨(some 8), .mv (.t 20), none, [2, 2, 0, 1, 2]⟩]) (
 .seq (.seq (.reg [⟨(some 21), .mv (.t 8), none, []⟩,
     ⟨(some 22), .len .sl (.t 21), none, [0]⟩,
     ⟨(some 23), .bin .gtr (.t 22) (.c (.sc (.int .i64 2000))), none, [1]⟩]) (
  .cond (.t 23) (.seq (.reg [⟨(some 4), .mv (.c (.sl 0 [] .nil)), none, []⟩,
      ⟨(some 5), .mv (.c (.sc (.int .i64 15))), none, [0, 0]⟩]) (
   .ret)) (
  .skip))) (
 .seq (.reg [⟨(some 24), .mv (.t 8), none, []⟩,
    ⟨(some 4), .mv (.t 24), none, [0, 0]⟩,
    ⟨(some 5), .mv (.c (.sc (.int .i64 0))), none, [1, 0, 1]⟩]) (
 .ret))))))
def res_earley_Text : List ResA := [.t 4, .t 5]
theorem comp_earley_Text : Try.f8.body.bind (compCode PP ann_earley_Text 25) = some code_earley_Text := by kernel_rfl
theorem resc_earley_Text : mapM' (compRes PP) Try.f8.results.toList = some res_earley_Text := by kernel_rfl
theorem body_earley_Text : hasBody PP 8 = true := by kernel_rfl
theorem enter_earley_Text {args : List AV} {h : AHeap} {R : AEnd → AHeap → Prop} (hargs : args.length ≤ 25) (hw : codeWp ⟨PP, Gl, 25, ann_earley_Text, h.length, none⟩ code_earley_Text (retPost PP Gl h res_earley_Text R) (initEnv args) h) : ACalls PP Gl 8 args h R :=
  acalls_of_code Try.func8 body_earley_Text comp_earley_Text resc_earley_Text hargs (Nat.le_trans hargs (by decide)) (codeWp_sound mixed hw)

/-- apodixis/apodixisref14.Text -/
def ann_ref14_Text : List Nat := [2, 3]
def code_ref14_Text : ACode :=
 .seq (.reg [⟨(some 2), .box (.t 0), none, []⟩,
    ⟨(some 3), .box (.t 1), none, []⟩,
    ⟨(some 4), .mv (.c (.sl 0 [] .nil)), none, []⟩,
    ⟨(some 5), .mv (.c (.sc (.int .i64 0))), none, [2]⟩]) (
 .seq (.seq (.reg [⟨(some 10), .load (.agg 2) (.t 2), none, []⟩,
     ⟨(some 11), .load (.agg 2) (.t 3), none, []⟩,
     ⟨(some 12), .call (.c (.fn (.func 12) [] [])) [(.t 10), (.t 11)], none, [0, 1]⟩,
     ⟨(some 9), .mv (.t 12), none, [2]⟩,
     ⟨(some 13), .extract (.t 9) 0, none, [3]⟩,
     ⟨(some 14), .extract (.t 9) 1, none, [3]⟩,
     ⟨(some 6), .mv (.t 13), none, [4, 2, 0, 1, 2, 3, 4]⟩,
     ⟨(some 7), .mv (.t 14), none, [5, 6, 0, 1, 2, 3, 4, 5, 6]⟩]) (
  .seq (.reg [⟨(some 15), .mv (.t 7), none, []⟩,
     ⟨(some 16), .bin .neq (.t 15) (.c (.sc (.int .i64 0))), none, [0]⟩]) (
  .cond (.t 16) (.seq (.reg [⟨(some 17), .mv (.t 7), none, []⟩,
      ⟨(some 4), .mv (.c (.sl 0 [] .nil)), none, []⟩,
      ⟨(some 5), .mv (.t 17), none, [0, 1, 0, 1]⟩]) (
   .ret)) (
  .skip)))) (
 .seq (.reg [⟨(some 18), .load (.agg 2) (.t 2), none, []⟩,
    ⟨(some 19), .load (.agg 2) (.t 3), none, []⟩,
    ⟨(some 20), .call (.c (.fn (.func 18) [] [])) [(.t 18), (.t 19)], none, [0, 1]⟩,
    ⟨(some 8), .mv (.t 20), none, [2, 2, 0, 1, 2]⟩]) (
 .seq (.seq (.reg [⟨(some 21), .mv (.t 8), none, []⟩,
     ⟨(some 22), .len .sl (.t 21), none, [0]⟩,
     ⟨(some 23), .bin .gtr (.t 22) (.c (.sc (.int .i64 2000))), none, [1]⟩]) (
  .cond (.t 23) (.seq (.reg [⟨(some 4), .mv (.c (.sl 0 [] .nil)), none, []⟩,
      ⟨(some 5), .mv (.c (.sc (.int .i64 15))), none, [0, 0]⟩]) (
   .ret)) (
  .skip))) (
 .seq (.reg [⟨(some 24), .mv (.t 8), none, []⟩,
    ⟨(some 4), .mv (.t 24), none, [0, 0]⟩,
    ⟨(some 5), .mv (.c (.sc (.int .i64 0))), none, [1, 0, 1]⟩]) (
 .ret)))))
def res_ref14_Text : List ResA := [.t 4, .t 5]
theorem comp_ref14_Text : Try.f9.body.bind (compCode PP ann_ref14_Text 25) = some code_ref14_Text := by kernel_rfl
theorem resc_ref14_Text : mapM' (compRes PP) Try.f9.results.toList = some res_ref14_Text := by kernel_rfl
theorem body_ref14_Text : hasBody PP 9 = true := by kernel_rfl
theorem enter_ref14_Text {args : List AV} {h : AHeap} {R : AEnd → AHeap → Prop} (hargs : args.length ≤ 25) (hw : codeWp ⟨PP, Gl, 25, ann_ref14_Text, h.length, none⟩ code_ref14_Text (retPost PP Gl h res_ref14_Text R) (initEnv args) h) : ACalls PP Gl 9 args h R :=
  acalls_of_code Try.func9 body_ref14_Text comp_ref14_Text resc_ref14_Text hargs (Nat.le_trans hargs (by decide)) (codeWp_sound mixed hw)

def lp0_law14_same : ACode :=
 .seq (.seq (.reg [⟨(some 11), .mv (.t 5), none, []⟩,
        ⟨(some 12), .mv (.t 0), none, []⟩,
        ⟨(some 13), .len .sl (.t 12), none, [1]⟩,
        ⟨(some 14), .bin .lss (.t 11) (.t 13), none, [0, 2]⟩]) (
     .cond (.t 14) (.skip) (
     .exit 0))) (
    .seq (.block 1 (.seq (.dreg [(true, ⟨(some 17), .mv (.t 0), none, []⟩),
         (true, ⟨(some 18), .mv (.t 5), none, []⟩),
         (true, ⟨(some 19), .iaddr 1 (.t 17) (.t 18), none, [0, 1]⟩),
         (true, ⟨(some 20), .load .one (.t 19), none, [2]⟩),
         (true, ⟨(some 21), .mv (.t 1), none, []⟩),
         (false, ⟨(some 22), .mv (.t 5), none, []⟩),
         (false, ⟨(some 23), .iaddr 1 (.t 21) (.t 22), none, [4, 5]⟩),
         (false, ⟨(some 24), .load .one (.t 23), none, [6]⟩),
         (false, ⟨(some 25), .bin .neq (.t 20) (.t 24), none, [3, 7]⟩)]) (
      .cond (.t 25) (.seq (.reg [⟨(some 4), .mv (.c (.sc (.bool false))), none, []⟩]) (
       .ret)) (
      .skip)))) (
    .reg [⟨(some 15), .mv (.t 5), none, []⟩,
      ⟨(some 16), .bin .add (.t 15) (.c (.sc (.int .i64 1))), none, [0]⟩,
      ⟨(some 5), .mv (.t 16), none, [1, 0, 1]⟩]))
/-- apodixis/apodixislaw14.same -/
def ann_law14_same : List Nat := []
def code_law14_same : ACode :=
 .seq (.reg [⟨(some 4), .mv (.c (.sc (.bool false))), none, []⟩]) (
 .seq (.seq (.reg [⟨(some 6), .mv (.t 0), none, []⟩,
     ⟨(some 7), .len .sl (.t 6), none, [0]⟩,
     ⟨(some 8), .mv (.t 1), none, []⟩,
     ⟨(some 9), .len .sl (.t 8), none, [2]⟩,
     ⟨(some 10), .bin .neq (.t 7) (.t 9), none, [1, 3]⟩]) (
  .cond (.t 10) (.seq (.reg [⟨(some 4), .mv (.c (.sc (.bool false))), none, []⟩]) (
   .ret)) (
  .skip))) (
 .seq (.seq (.reg [⟨(some 5), .mv (.c (.sc (.int .i64 0))), none, []⟩]) (
  .block 0 (.loop lp0_law14_same))) (
 .seq (.reg [⟨(some 4), .mv (.c (.sc (.bool true))), none, []⟩]) (
 .ret))))
def res_law14_same : List ResA := [.t 4]
theorem comp_law14_same : Try.f10.body.bind (compCode PP ann_law14_same 26) = some code_law14_same := by kernel_rfl
theorem resc_law14_same : mapM' (compRes PP) Try.f10.results.toList = some res_law14_same := by kernel_rfl
theorem body_law14_same : hasBody PP 10 = true := by kernel_rfl
theorem enter_law14_same {args : List AV} {h : AHeap} {R : AEnd → AHeap → Prop} (hargs : args.length ≤ 26) (hw : codeWp ⟨PP, Gl, 26, ann_law14_same, h.length, none⟩ code_law14_same (retPost PP Gl h res_law14_same R) (initEnv args) h) : ACalls PP Gl 10 args h R :=
  acalls_of_code Try.func10 body_law14_same comp_law14_same resc_law14_same hargs (Nat.le_trans hargs (by decide)) (codeWp_sound mixed hw)

/-- apodixis/earley.Sort -/
def ann_earley_Sort : List Nat := [2, 3, 8]
def code_earley_Sort : ACode :=
 .seq (.reg [⟨(some 2), .box (.t 0), none, []⟩,
    ⟨(some 3), .box (.t 1), none, []⟩,
    ⟨(some 4), .mv (.c (.sc (.string ⟨#[]⟩))), none, []⟩,
    ⟨(some 5), .mv (.c (.sc (.int .i64 0))), none, [2]⟩]) (
 .seq (.reg [⟨(some 11), .load (.agg 2) (.t 2), none, []⟩,
    ⟨(some 12), .load (.agg 2) (.t 3), none, []⟩,
    ⟨(some 13), .call (.c (.fn (.func 16) [] [])) [(.t 11), (.t 12)], none, [0, 1]⟩,
    ⟨(some 10), .mv (.t 13), none, [2]⟩,
    ⟨(some 14), .extract (.t 10) 0, none, [3]⟩,
    ⟨(some 15), .extract (.t 10) 1, none, [3]⟩,
    ⟨(some 6), .mv (.t 14), none, [4, 2, 0, 1, 2, 3, 4]⟩,
    ⟨(some 7), .mv (.t 15), none, [5, 6, 0, 1, 2, 3, 4, 5, 6]⟩]) (
 .seq (.seq (.reg [⟨(some 16), .mv (.t 7), none, []⟩,
     ⟨(some 17), .bin .neq (.t 16) (.c (.sc (.int .i64 0))), none, [0]⟩]) (
  .cond (.t 17) (.seq (.reg [⟨(some 18), .mv (.t 7), none, []⟩,
      ⟨(some 4), .mv (.c (.sc (.string ⟨#[]⟩))), none, []⟩,
      ⟨(some 5), .mv (.t 18), none, [0, 1, 0, 1]⟩]) (
   .ret)) (
  .skip))) (
 .seq (.reg [⟨(some 20), .mv (.t 6), none, []⟩,
    ⟨(some 21), .faddr 0 .one (.t 3), none, []⟩,
    ⟨(some 22), .load .one (.t 21), none, [1]⟩,
    ⟨(some 23), .call (.c (.fn (.func 19) [] [])) [(.t 20), (.t 22)], none, [0, 2]⟩,
    ⟨(some 19), .mv (.t 23), none, [3]⟩,
    ⟨(some 24), .extract (.t 19) 0, none, [4]⟩,
    ⟨(some 25), .extract (.t 19) 1, none, [4]⟩,
    ⟨(some 8), .pnew 4, none, []⟩,
    ⟨none, .pstore 4 8 (.t 24), none, [7, 5, 3, 0, 1, 2, 3, 4, 5, 7]⟩,
    ⟨(some 9), .mv (.t 25), none, [6, 8, 0, 1, 2, 3, 4, 5, 6, 7, 8]⟩]) (
 .seq (.reg [⟨(some 26), .faddr 1 .one (.t 8), none, []⟩,
    ⟨(some 27), .load .one (.t 26), none, [0]⟩,
    ⟨(some 4), .mv (.t 27), none, [1, 0, 1]⟩,
    ⟨(some 5), .mv (.c (.sc (.int .i64 0))), none, [2, 0, 1, 2]⟩]) (
 .ret)))))
def res_earley_Sort : List ResA := [.t 4, .t 5]
theorem comp_earley_Sort : Try.f11.body.bind (compCode PP ann_earley_Sort 28) = some code_earley_Sort := by kernel_rfl
theorem resc_earley_Sort : mapM' (compRes PP) Try.f11.results.toList = some res_earley_Sort := by kernel_rfl
theorem body_earley_Sort : hasBody PP 11 = true := by kernel_rfl
theorem enter_earley_Sort {args : List AV} {h : AHeap} {R : AEnd → AHeap → Prop} (hargs : args.length ≤ 28) (hw : codeWp ⟨PP, Gl, 28, ann_earley_Sort, h.length, none⟩ code_earley_Sort (retPost PP Gl h res_earley_Sort R) (initEnv args) h) : ACalls PP Gl 11 args h R :=
  acalls_of_code Try.func11 body_earley_Sort comp_earley_Sort resc_earley_Sort hargs (Nat.le_trans hargs (by decide)) (codeWp_sound mixed hw)

/-- apodixis/apodixisref14.Sort -/
def ann_ref14_Sort : List Nat := [2, 3]
def code_ref14_Sort : ACode :=
 .seq (.reg [⟨(some 2), .box (.t 0), none, []⟩,
    ⟨(some 3), .box (.t 1), none, []⟩,
    ⟨(some 4), .mv (.c (.sc (.string ⟨#[]⟩))), none, []⟩,
    ⟨(some 5), .mv (.c (.sc (.int .i64 0))), none, [2]⟩]) (
 .seq (.seq (.reg [⟨(some 11), .load (.agg 2) (.t 2), none, []⟩,
     ⟨(some 12), .call (.c (.fn (.func 20) [] [])) [(.t 11)], none, [0]⟩,
     ⟨(some 6), .mv (.t 12), none, [1, 1, 0, 1]⟩]) (
  .seq (.reg [⟨(some 13), .mv (.t 6), none, []⟩,
     ⟨(some 14), .bin .neq (.t 13) (.c (.sc (.int .i64 0))), none, [0]⟩]) (
  .cond (.t 14) (.seq (.reg [⟨(some 15), .mv (.t 6), none, []⟩,
      ⟨(some 4), .mv (.c (.sc (.string ⟨#[]⟩))), none, []⟩,
      ⟨(some 5), .mv (.t 15), none, [0, 1, 0, 1]⟩]) (
   .ret)) (
  .skip)))) (
 .seq (.reg [⟨(some 17), .load (.agg 2) (.t 3), none, []⟩,
    ⟨(some 18), .call (.c (.fn (.func 21) [] [])) [(.t 17), (.c (.sc (.int .i64 1)))], none, [0]⟩,
    ⟨(some 16), .mv (.t 18), none, [1]⟩,
    ⟨(some 19), .extract (.t 16) 0, none, [2]⟩,
    ⟨(some 20), .extract (.t 16) 1, none, [2]⟩,
    ⟨(some 7), .mv (.t 19), none, [3, 1, 0, 1, 2, 3]⟩,
    ⟨(some 8), .mv (.t 20), none, [4, 5, 0, 1, 2, 3, 4, 5]⟩]) (
 .seq (.seq (.reg [⟨(some 21), .mv (.t 7), none, []⟩,
     ⟨(some 22), .bin .gtr (.t 21) (.c (.sc (.int .i64 4000))), none, [0]⟩]) (
  .cond (.t 22) (.seq (.reg [⟨(some 4), .mv (.c (.sc (.string ⟨#[]⟩))), none, []⟩,
      ⟨(some 5), .mv (.c (.sc (.int .i64 4))), none, [0, 0]⟩]) (
   .ret)) (
  .skip))) (
 .seq (.seq (.reg [⟨(some 23), .mv (.t 8), none, []⟩,
     ⟨(some 24), .bin .gtr (.t 23) (.c (.sc (.int .i64 100))), none, [0]⟩]) (
  .cond (.t 24) (.seq (.reg [⟨(some 4), .mv (.c (.sc (.string ⟨#[]⟩))), none, []⟩,
      ⟨(some 5), .mv (.c (.sc (.int .i64 9))), none, [0, 0]⟩]) (
   .ret)) (
  .skip))) (
 .seq (.reg [⟨(some 26), .load (.agg 2) (.t 2), none, []⟩,
    ⟨(some 27), .load (.agg 2) (.t 3), none, []⟩,
    ⟨(some 28), .call (.c (.fn (.func 22) [] [])) [(.t 26), (.t 27)], none, [0, 1]⟩,
    ⟨(some 25), .mv (.t 28), none, [2]⟩,
    ⟨(some 29), .extract (.t 25) 0, none, [3]⟩,
    ⟨(some 30), .extract (.t 25) 1, none, [3]⟩,
    ⟨(some 9), .mv (.t 29), none, [4, 2, 0, 1, 2, 3, 4]⟩,
    ⟨(some 10), .mv (.t 30), none, [5, 6, 0, 1, 2, 3, 4, 5, 6]⟩]) (
 .seq (.seq (.reg [⟨(some 31), .mv (.t 10), none, []⟩,
     ⟨(some 32), .un .not (.t 31), none, [0]⟩]) (
  .cond (.t 32) (.seq (.reg [⟨(some 4), .mv (.c (.sc (.string ⟨#[]⟩))), none, []⟩,
      ⟨(some 5), .mv (.c (.sc (.int .i64 2))), none, [0, 0]⟩]) (
   .ret)) (
  .skip))) (
 .seq (.reg [⟨(some 33), .mv (.t 9), none, []⟩,
    ⟨(some 4), .mv (.t 33), none, [0, 0]⟩,
    ⟨(some 5), .mv (.c (.sc (.int .i64 0))), none, [1, 0, 1]⟩]) (
 .ret))))))))
def res_ref14_Sort : List ResA := [.t 4, .t 5]
theorem comp_ref14_Sort : Try.f12.body.bind (compCode PP ann_ref14_Sort 34) = some code_ref14_Sort := by kernel_rfl
theorem resc_ref14_Sort : mapM' (compRes PP) Try.f12.results.toList = some res_ref14_Sort := by kernel_rfl
theorem body_ref14_Sort : hasBody PP 12 = true := by kernel_rfl
theorem enter_ref14_Sort {args : List AV} {h : AHeap} {R : AEnd → AHeap → Prop} (hargs : args.length ≤ 34) (hw : codeWp ⟨PP, Gl, 34, ann_ref14_Sort, h.length, none⟩ code_ref14_Sort (retPost PP Gl h res_ref14_Sort R) (initEnv args) h) : ACalls PP Gl 12 args h R :=
  acalls_of_code Try.func12 body_ref14_Sort comp_ref14_Sort resc_ref14_Sort hargs (Nat.le_trans hargs (by decide)) (codeWp_sound mixed hw)

/-- apodixis/apodixislaw14.doubled -/
def ann_law14_doubled : List Nat := [0, 9]
def code_law14_doubled : ACode :=
 .seq (.reg [⟨(some 0), .pnew 2, none, []⟩]) (
 .seq (.reg [⟨(some 1), .bslice 1 1 (.sc (.string ⟨#[]⟩)) [(0, (.c (.sc (.string ⟨#[115]⟩))))], none, []⟩,
    ⟨(some 2), .build [(.sc (.string ⟨#[]⟩)), (.sc (.string ⟨#[]⟩)), (.sc (.int .i64 0))] [(0, 1, (.c (.sc (.string ⟨#[97]⟩))))], none, []⟩,
    ⟨(some 3), .bslice 3 1 (.agg [(.sc (.string ⟨#[]⟩)), (.sc (.string ⟨#[]⟩)), (.sc (.int .i64 0))]) [(0, (.t 2))], none, [1]⟩,
    ⟨(some 4), .build [(.sc (.string ⟨#[]⟩)), (.sc (.string ⟨#[]⟩)), (.sl 0 [] .nil), (.sc (.bool false))] [(0, 1, (.c (.sc (.string ⟨#[97]⟩)))), (1, 1, (.c (.sc (.string ⟨#[115]⟩)))), (2, 1, (.t 3))], none, [2]⟩,
    ⟨(some 5), .build [(.sc (.string ⟨#[]⟩)), (.sc (.string ⟨#[]⟩)), (.sc (.int .i64 0))] [(1, 1, (.c (.sc (.string ⟨#[115]⟩))))], none, []⟩,
    ⟨(some 6), .build [(.sc (.string ⟨#[]⟩)), (.sc (.string ⟨#[]⟩)), (.sc (.int .i64 0))] [(1, 1, (.c (.sc (.string ⟨#[115]⟩)))), (2, 1, (.c (.sc (.int .i64 1))))], none, []⟩,
    ⟨(some 7), .bslice 3 2 (.agg [(.sc (.string ⟨#[]⟩)), (.sc (.string ⟨#[]⟩)), (.sc (.int .i64 0))]) [(0, (.t 5)), (1, (.t 6))], none, [4, 5]⟩,
    ⟨(some 8), .build [(.sc (.string ⟨#[]⟩)), (.sc (.string ⟨#[]⟩)), (.sl 0 [] .nil), (.sc (.bool false))] [(0, 1, (.c (.sc (.string ⟨#[115, 115]⟩)))), (1, 1, (.c (.sc (.string ⟨#[115]⟩)))), (2, 1, (.t 7))], none, [6]⟩,
    ⟨(some 9), .mslice 4 2 (.agg [(.sc (.string ⟨#[]⟩)), (.sc (.string ⟨#[]⟩)), (.sl 0 [] .nil), (.sc (.bool false))]) [(0, (.t 4)), (1, (.t 8))], none, [3, 7]⟩,
    ⟨(some 10), .build [(.sl 0 [] .nil), (.sl 0 [] .nil)] [(0, 1, (.t 1)), (1, 1, (.t 9))], none, [0, 8]⟩,
    ⟨none, .pstore 2 0 (.t 10), none, [9, 0, 1, 2, 3, 4, 5, 6, 7, 8, 9]⟩]) (
 .ret))
def res_law14_doubled : List ResA := [.cell 0 (.agg 2)]
theorem comp_law14_doubled : Try.f13.body.bind (compCode PP ann_law14_doubled 11) = some code_law14_doubled := by kernel_rfl
theorem resc_law14_doubled : mapM' (compRes PP) Try.f13.results.toList = some res_law14_doubled := by kernel_rfl
theorem body_law14_doubled : hasBody PP 13 = true := by kernel_rfl
theorem enter_law14_doubled {args : List AV} {h : AHeap} {R : AEnd → AHeap → Prop} (hargs : args.length ≤ 11) (hw : codeWp ⟨PP, Gl, 11, ann_law14_doubled, h.length, none⟩ code_law14_doubled (retPost PP Gl h res_law14_doubled R) (initEnv args) h) : ACalls PP Gl 13 args h R :=
  acalls_of_code Try.func13 body_law14_doubled comp_law14_doubled resc_law14_doubled hargs (Nat.le_trans hargs (by decide)) (codeWp_sound mixed hw)

/-- apodixis/earley.Parse -/
def ann_earley_Parse : List Nat := [3, 10, 11]
def code_earley_Parse : ACode :=
 .seq (.reg [⟨(some 3), .box (.t 0), none, []⟩,
    ⟨(some 6), .new [(.sl 0 [] .nil)], none, []⟩,
    ⟨(some 7), .mv (.c (.sc (.int .i64 0))), none, []⟩]) (
 .seq (.seq (.reg [⟨(some 13), .load (.agg 2) (.t 3), none, []⟩,
     ⟨(some 14), .mv (.t 1), none, []⟩,
     ⟨(some 15), .mv (.t 2), none, []⟩,
     ⟨(some 16), .call (.c (.fn (.func 23) [] [])) [(.t 13), (.t 14), (.t 15)], none, [0, 1, 2]⟩,
     ⟨(some 8), .mv (.t 16), none, [3, 3, 0, 1, 2, 3]⟩]) (
  .seq (.reg [⟨(some 17), .mv (.t 8), none, []⟩,
     ⟨(some 18), .bin .neq (.t 17) (.c (.sc (.int .i64 0))), none, [0]⟩]) (
  .cond (.t 18) (.seq (.reg [⟨(some 19), .build [(.sl 0 [] .nil)] [], none, []⟩,
      ⟨(some 20), .mv (.t 8), none, []⟩,
      ⟨none, .store 1 (.t 6) (.t 19), none, [0, 0]⟩,
      ⟨(some 7), .mv (.t 20), none, [1, 2, 0, 1, 2]⟩]) (
   .ret)) (
  .skip)))) (
 .seq (.reg [⟨(some 21), .load (.agg 2) (.t 3), none, []⟩,
    ⟨(some 22), .mv (.t 1), none, []⟩,
    ⟨(some 23), .mv (.t 2), none, []⟩,
    ⟨(some 24), .call (.c (.fn (.func 24) [] [])) [(.t 21), (.t 22), (.t 23), (.c (.fn (.func 25) [] []))], none, [0, 1, 2]⟩,
    ⟨(some 9), .mv (.t 24), none, [3, 3, 0, 1, 2, 3]⟩]) (
 .seq (.reg [⟨(some 25), .mv (.t 1), none, []⟩,
    ⟨(some 26), .mv (.t 2), none, []⟩,
    ⟨(some 27), .len .sl (.t 26), none, [1]⟩,
    ⟨(some 28), .build [(.sc (.string ⟨#[]⟩)), (.sc (.int .i64 0)), (.sc (.int .i64 0))] [(0, 1, (.t 25)), (1, 1, (.c (.sc (.int .i64 0)))), (2, 1, (.t 27))], none, [0, 2]⟩,
    ⟨(some 10), .pnew 3, none, []⟩,
    ⟨none, .pstore 3 10 (.t 28), none, [4, 3, 0, 1, 2, 3, 4]⟩]) (
 .seq (.seq (.dreg [(true, ⟨(some 29), .mv (.t 9), none, []⟩),
     (true, ⟨(some 30), .nilc (.t 29), none, [0]⟩),
     (true, ⟨(some 31), .faddr 4 .one (.t 30), none, [1]⟩),
     (true, ⟨(some 32), .load .one (.t 31), none, [2]⟩),
     (true, ⟨(some 33), .len .sl (.t 32), none, [3]⟩),
     (false, ⟨(some 34), .mv (.t 2), none, []⟩),
     (false, ⟨(some 35), .len .sl (.t 34), none, [5]⟩),
     (false, ⟨(some 36), .bin .leq (.t 33) (.t 35), none, [4, 6]⟩),
     (false, ⟨(some 37), .mv (.t 36), none, [7]⟩),
     (true, ⟨(some 38), .mv (.t 9), (some (37, false)), [8]⟩),
     (true, ⟨(some 39), .nilc (.t 38), (some (37, false)), [9, 8]⟩),
     (true, ⟨(some 40), .faddr 6 .one (.t 39), (some (37, false)), [10, 8]⟩),
     (true, ⟨(some 41), .load .one (.t 40), (some (37, false)), [11, 8]⟩),
     (false, ⟨(some 42), .load (.agg 3) (.t 10), (some (37, false)), [8]⟩),
     (false, ⟨(some 43), .lookup (.flat [1, 0, 0]) (.sc (.bool false)) false (.t 41) (.t 42), (some (37, false)), [12, 13, 8]⟩),
     (false, ⟨(some 44), .un .not (.t 43), (some (37, false)), [14, 8]⟩),
     (false, ⟨(some 45), .pick (.t 37) (.c (.sc (.bool true))) (.t 44), none, [8, 15]⟩)]) (
  .cond (.t 45) (.seq (.reg [⟨(some 46), .build [(.sl 0 [] .nil)] [], none, []⟩,
      ⟨none, .store 1 (.t 6) (.t 46), none, [0, 0]⟩,
      ⟨(some 7), .mv (.c (.sc (.int .i64 160))), none, [1, 0, 1]⟩]) (
   .ret)) (
  .skip))) (
 .seq (.reg [⟨(some 48), .mv (.t 9), none, []⟩,
    ⟨(some 49), .mkMap, none, []⟩,
    ⟨(some 50), .mkMap, none, []⟩,
    ⟨(some 51), .build [(.sc (.pointer none)), (.sc (.map none)), (.sl 0 [] .nil), (.sc (.map none))] [(0, 1, (.t 48)), (1, 1, (.t 49)), (3, 1, (.t 50))], none, [0, 1, 2]⟩,
    ⟨(some 52), .boxm (.t 51), none, [3]⟩,
    ⟨(some 53), .load (.agg 3) (.t 10), none, []⟩,
    ⟨(some 54), .call (.c (.fn (.func 26) [] [])) [(.t 52), (.t 53)], none, [4, 5]⟩,
    ⟨(some 47), .mv (.t 54), none, [6]⟩,
    ⟨(some 55), .extract (.t 47) 0, none, [7]⟩,
    ⟨(some 56), .extract (.t 47) 1, none, [7]⟩,
    ⟨(some 11), .pnew 1, none, []⟩,
    ⟨none, .pstore 1 11 (.t 55), none, [10, 8, 6, 0, 1, 2, 3, 4, 5, 6, 7, 8, 10]⟩,
    ⟨(some 12), .mv (.t 56), none, [9, 11, 0, 1, 2, 3, 4, 5, 6, 7, 8, 9, 10, 11]⟩]) (
 .seq (.seq (.reg [⟨(some 57), .mv (.t 12), none, []⟩,
     ⟨(some 58), .un .not (.t 57), none, [0]⟩]) (
  .cond (.t 58) (.seq (.reg [⟨(some 59), .build [(.sl 0 [] .nil)] [], none, []⟩,
      ⟨none, .store 1 (.t 6) (.t 59), none, [0, 0]⟩,
      ⟨(some 7), .mv (.c (.sc (.int .i64 15))), none, [1, 0, 1]⟩]) (
   .ret)) (
  .skip))) (
 .seq (.reg [⟨(some 60), .load (.agg 1) (.t 11), none, []⟩,
    ⟨none, .store 1 (.t 6) (.t 60), none, [0, 0]⟩,
    ⟨(some 7), .mv (.c (.sc (.int .i64 0))), none, [1, 0, 1]⟩]) (
 .ret))))))))
def res_earley_Parse : List ResA := [.cell 6 (.agg 1), .t 7]
theorem comp_earley_Parse : Try.f14.body.bind (compCode PP ann_earley_Parse 61) = some code_earley_Parse := by kernel_rfl
theorem resc_earley_Parse : mapM' (compRes PP) Try.f14.results.toList = some res_earley_Parse := by kernel_rfl
theorem body_earley_Parse : hasBody PP 14 = true := by kernel_rfl
theorem enter_earley_Parse {args : List AV} {h : AHeap} {R : AEnd → AHeap → Prop} (hargs : args.length ≤ 61) (hw : codeWp ⟨PP, Gl, 61, ann_earley_Parse, h.length, none⟩ code_earley_Parse (retPost PP Gl h res_earley_Parse R) (initEnv args) h) : ACalls PP Gl 14 args h R :=
  acalls_of_code Try.func14 body_earley_Parse comp_earley_Parse resc_earley_Parse hargs (Nat.le_trans hargs (by decide)) (codeWp_sound mixed hw)

/-- apodixis/earley.Count -/
def ann_earley_Count : List Nat := [1]
def code_earley_Count : ACode :=
 .seq (.reg [⟨(some 1), .box (.t 0), none, []⟩,
    ⟨(some 2), .mv (.c (.sc (.int .i64 0))), none, []⟩,
    ⟨(some 3), .mv (.c (.sc (.int .i64 0))), none, [1]⟩]) (
 .seq (.reg [⟨(some 7), .load (.agg 1) (.t 1), none, []⟩,
    ⟨(some 8), .call (.c (.fn (.func 27) [] [])) [(.t 7)], none, [0]⟩,
    ⟨(some 6), .mv (.t 8), none, [1]⟩,
    ⟨(some 9), .extract (.t 6) 0, none, [2]⟩,
    ⟨(some 10), .extract (.t 6) 1, none, [2]⟩,
    ⟨(some 4), .mv (.t 9), none, [3, 1, 0, 1, 2, 3]⟩,
    ⟨(some 5), .mv (.t 10), none, [4, 5, 0, 1, 2, 3, 4, 5]⟩]) (
 .seq (.block 0 (.seq (.reg [⟨(some 12), .mv (.t 5), none, []⟩,
      ⟨(some 13), .bin .neq (.t 12) (.c (.sc (.int .i64 0))), none, [0]⟩,
      ⟨(some 11), .mv (.t 13), none, [1]⟩]) (
   .cond (.t 11) (.seq (.reg [⟨(some 14), .mv (.t 5), none, []⟩,
       ⟨(some 2), .mv (.c (.sc (.int .i64 0))), none, []⟩,
       ⟨(some 3), .mv (.t 14), none, [0, 1, 0, 1]⟩]) (
    .ret)) (
   .seq (.reg [⟨(some 16), .mv (.t 4), none, []⟩,
       ⟨(some 17), .nilc (.t 16), none, [0]⟩,
       ⟨(some 18), .faddr 2 .one (.t 17), none, [1]⟩,
       ⟨(some 19), .load .one (.t 18), none, [2]⟩,
       ⟨(some 20), .iaddr 1 (.t 19) (.c (.sc (.int .i64 0))), none, [3]⟩,
       ⟨(some 21), .load .one (.t 20), none, [4]⟩,
       ⟨(some 22), .bin .gtr (.t 21) (.c (.sc (.int .i64 1000000000))), none, [5]⟩,
       ⟨(some 15), .mv (.t 22), none, [6]⟩]) (
    .cond (.t 15) (.seq (.reg [⟨(some 2), .mv (.c (.sc (.int .i64 0))), none, []⟩,
        ⟨(some 3), .mv (.c (.sc (.int .i64 15))), none, [0, 0]⟩]) (
     .ret)) (
    .skip)))))) (
 .seq (.reg [⟨(some 23), .mv (.t 4), none, []⟩,
    ⟨(some 24), .nilc (.t 23), none, [0]⟩,
    ⟨(some 25), .faddr 2 .one (.t 24), none, [1]⟩,
    ⟨(some 26), .load .one (.t 25), none, [2]⟩,
    ⟨(some 27), .iaddr 1 (.t 26) (.c (.sc (.int .i64 0))), none, [3]⟩,
    ⟨(some 28), .load .one (.t 27), none, [4]⟩,
    ⟨(some 2), .mv (.t 28), none, [5, 0, 1, 2, 3, 4, 5]⟩,
    ⟨(some 3), .mv (.c (.sc (.int .i64 0))), none, [6, 0, 1, 2, 3, 4, 5, 6]⟩]) (
 .ret))))
def res_earley_Count : List ResA := [.t 2, .t 3]
theorem comp_earley_Count : Try.f15.body.bind (compCode PP ann_earley_Count 29) = some code_earley_Count := by kernel_rfl
theorem resc_earley_Count : mapM' (compRes PP) Try.f15.results.toList = some res_earley_Count := by kernel_rfl
theorem body_earley_Count : hasBody PP 15 = true := by kernel_rfl
theorem enter_earley_Count {args : List AV} {h : AHeap} {R : AEnd → AHeap → Prop} (hargs : args.length ≤ 29) (hw : codeWp ⟨PP, Gl, 29, ann_earley_Count, h.length, none⟩ code_earley_Count (retPost PP Gl h res_earley_Count R) (initEnv args) h) : ACalls PP Gl 15 args h R :=
  acalls_of_code Try.func15 body_earley_Count comp_earley_Count resc_earley_Count hargs (Nat.le_trans hargs (by decide)) (codeWp_sound mixed hw)

def lp0_earley_newSpeller : ACode :=
 .seq (.reg [⟨(some 34), .bin .lss (.t 33) (.t 32), none, []⟩]) (
    .seq (.cond (.t 34) (.skip) (
     .exit 0)) (
    .seq (.block 1 (.seq (.reg [⟨(some 35), .mv (.t 33), none, []⟩,
         ⟨(some 36), .iaddr 4 (.t 31) (.t 33), none, []⟩,
         ⟨(some 37), .load (.agg 4) (.t 36), none, [1]⟩,
         ⟨(some 11), .pnew 4, none, []⟩,
         ⟨(some 10), .mv (.t 35), none, [0, 0, 1, 2, 3]⟩,
         ⟨none, .pstore 4 11 (.t 37), none, [3, 2, 4, 0, 1, 2, 3, 4]⟩]) (
      .dreg [(true, ⟨(some 38), .mv (.t 9), none, []⟩),
        (true, ⟨(some 39), .nilc (.t 38), none, [0]⟩),
        (true, ⟨(some 40), .faddr 2 .one (.t 39), none, [1]⟩),
        (true, ⟨(some 41), .load .one (.t 40), none, [2]⟩),
        (true, ⟨(some 42), .faddr 0 .one (.t 11), none, []⟩),
        (true, ⟨(some 43), .load .one (.t 42), none, [4]⟩),
        (false, ⟨(some 44), .mv (.t 10), none, []⟩),
        (false, ⟨none, .mapUpd .str (.t 41) (.t 43) (.t 44), none, [3, 5, 6, 0, 1, 2, 3, 4, 5, 6]⟩)]))) (
    .reg [⟨(some 45), .bin .add (.t 33) (.c (.sc (.int .i64 1))), none, []⟩,
      ⟨(some 33), .mv (.t 45), none, [0]⟩])))
/-- apodixis/earley.newSpeller -/
def ann_earley_newSpeller : List Nat := [2, 3, 11]
def code_earley_newSpeller : ACode :=
 .seq (.reg [⟨(some 2), .box (.t 0), none, []⟩,
    ⟨(some 3), .box (.t 1), none, []⟩,
    ⟨(some 4), .mv (.c (.sc (.pointer none))), none, []⟩,
    ⟨(some 5), .mv (.c (.sc (.int .i64 0))), none, [2]⟩]) (
 .seq (.seq (.reg [⟨(some 12), .load (.agg 2) (.t 2), none, []⟩,
     ⟨(some 13), .call (.c (.fn (.func 28) [] [])) [(.t 12)], none, [0]⟩,
     ⟨(some 6), .mv (.t 13), none, [1, 1, 0, 1]⟩]) (
  .seq (.reg [⟨(some 14), .mv (.t 6), none, []⟩,
     ⟨(some 15), .bin .neq (.t 14) (.c (.sc (.int .i64 0))), none, [0]⟩]) (
  .cond (.t 15) (.seq (.reg [⟨(some 16), .mv (.t 6), none, []⟩,
      ⟨(some 4), .mv (.c (.sc (.pointer none))), none, []⟩,
      ⟨(some 5), .mv (.t 16), none, [0, 1, 0, 1]⟩]) (
   .ret)) (
  .skip)))) (
 .seq (.reg [⟨(some 18), .load (.agg 2) (.t 3), none, []⟩,
    ⟨(some 19), .call (.c (.fn (.func 29) [] [])) [(.t 18), (.c (.sc (.int .i64 1)))], none, [0]⟩,
    ⟨(some 17), .mv (.t 19), none, [1]⟩,
    ⟨(some 20), .extract (.t 17) 0, none, [2]⟩,
    ⟨(some 21), .extract (.t 17) 1, none, [2]⟩,
    ⟨(some 7), .mv (.t 20), none, [3, 1, 0, 1, 2, 3]⟩,
    ⟨(some 8), .mv (.t 21), none, [4, 5, 0, 1, 2, 3, 4, 5]⟩]) (
 .seq (.seq (.reg [⟨(some 22), .mv (.t 7), none, []⟩,
     ⟨(some 23), .bin .gtr (.t 22) (.c (.sc (.int .i64 4000))), none, [0]⟩]) (
  .cond (.t 23) (.seq (.reg [⟨(some 4), .mv (.c (.sc (.pointer none))), none, []⟩,
      ⟨(some 5), .mv (.c (.sc (.int .i64 4))), none, [0, 0]⟩]) (
   .ret)) (
  .skip))) (
 .seq (.seq (.reg [⟨(some 24), .mv (.t 8), none, []⟩,
     ⟨(some 25), .bin .gtr (.t 24) (.c (.sc (.int .i64 100))), none, [0]⟩]) (
  .cond (.t 25) (.seq (.reg [⟨(some 4), .mv (.c (.sc (.pointer none))), none, []⟩,
      ⟨(some 5), .mv (.c (.sc (.int .i64 9))), none, [0, 0]⟩]) (
   .ret)) (
  .skip))) (
 .seq (.reg [⟨(some 26), .load (.agg 2) (.t 2), none, []⟩,
    ⟨(some 27), .mkMap, none, []⟩,
    ⟨(some 28), .build [(.sl 0 [] .nil), (.sl 0 [] .nil), (.sc (.map none))] [(0, 2, (.t 26)), (2, 1, (.t 27))], none, [0, 1]⟩,
    ⟨(some 29), .boxm (.t 28), none, [2]⟩,
    ⟨(some 9), .mv (.t 29), none, [3, 0, 1, 2, 3]⟩]) (
 .seq (.seq (.reg [⟨(some 30), .faddr 1 .one (.t 2), none, []⟩,
     ⟨(some 31), .load .one (.t 30), none, [0]⟩,
     ⟨(some 32), .len .sl (.t 31), none, [1]⟩,
     ⟨(some 33), .mv (.c (.sc (.int .i64 0))), none, []⟩]) (
  .block 0 (.loop lp0_earley_newSpeller))) (
 .seq (.seq (.reg [⟨(some 46), .mv (.t 9), none, []⟩,
     ⟨(some 47), .load (.agg 2) (.t 3), none, []⟩,
     ⟨(some 48), .call (.c (.fn (.func 30) [] [])) [(.t 46), (.t 47)], none, [0, 1]⟩,
     ⟨(some 49), .un .not (.t 48), none, [2]⟩]) (
  .cond (.t 49) (.seq (.reg [⟨(some 4), .mv (.c (.sc (.pointer none))), none, []⟩,
      ⟨(some 5), .mv (.c (.sc (.int .i64 2))), none, [0, 0]⟩]) (
   .ret)) (
  .skip))) (
 .seq (.reg [⟨(some 50), .mv (.t 9), none, []⟩,
    ⟨(some 4), .mv (.t 50), none, [0, 0]⟩,
    ⟨(some 5), .mv (.c (.sc (.int .i64 0))), none, [1, 0, 1]⟩]) (
 .ret)))))))))
def res_earley_newSpeller : List ResA := [.t 4, .t 5]
theorem comp_earley_newSpeller : Try.f16.body.bind (compCode PP ann_earley_newSpeller 51) = some code_earley_newSpeller := by kernel_rfl
theorem resc_earley_newSpeller : mapM' (compRes PP) Try.f16.results.toList = some res_earley_newSpeller := by kernel_rfl
theorem body_earley_newSpeller : hasBody PP 16 = true := by kernel_rfl
theorem enter_earley_newSpeller {args : List AV} {h : AHeap} {R : AEnd → AHeap → Prop} (hargs : args.length ≤ 51) (hw : codeWp ⟨PP, Gl, 51, ann_earley_newSpeller, h.length, none⟩ code_earley_newSpeller (retPost PP Gl h res_earley_newSpeller R) (initEnv args) h) : ACalls PP Gl 16 args h R :=
  acalls_of_code Try.func16 body_earley_newSpeller comp_earley_newSpeller resc_earley_newSpeller hargs (Nat.le_trans hargs (by decide)) (codeWp_sound mixed hw)

def lp0_earley_speller_spell : ACode :=
 .seq (.reg [⟨(some 22), .bin .lss (.t 21) (.t 20), none, []⟩]) (
    .seq (.cond (.t 22) (.skip) (
     .exit 0)) (
    .seq (.block 1 (.seq (.reg [⟨(some 23), .iaddr 3 (.t 19) (.t 21), none, []⟩,
         ⟨(some 24), .load (.agg 3) (.t 23), none, [0]⟩,
         ⟨(some 10), .pnew 3, none, []⟩,
         ⟨none, .pstore 3 10 (.t 24), none, [2, 1, 0, 1, 2]⟩]) (
      .block 2 (.seq (.reg [⟨(some 35), .mv (.t 2), none, []⟩,
          ⟨(some 36), .len .sl (.t 35), none, [0]⟩,
          ⟨(some 37), .bin .gtr (.t 36) (.c (.sc (.int .i64 2000))), none, [1]⟩,
          ⟨(some 34), .mv (.t 37), none, [2]⟩]) (
       .cond (.t 34) (.seq (.reg [⟨(some 38), .mv (.t 2), none, []⟩,
           ⟨(some 6), .mv (.t 38), none, [0, 0]⟩]) (
        .ret)) (
       .seq (.reg [⟨(some 40), .faddr 1 .one (.t 10), none, []⟩,
           ⟨(some 41), .load .one (.t 40), none, [0]⟩,
           ⟨(some 42), .bin .eql (.t 41) (.c (.sc (.string ⟨#[]⟩))), none, [1]⟩,
           ⟨(some 39), .mv (.t 42), none, [2]⟩]) (
        .cond (.t 39) (.reg [⟨(some 43), .mv (.t 2), none, []⟩,
           ⟨(some 44), .faddr 0 .one (.t 10), none, []⟩,
           ⟨(some 45), .load .one (.t 44), none, [1]⟩,
           ⟨(some 46), .bslice 1 1 (.sc (.string ⟨#[]⟩)) [(0, (.t 45))], none, [2]⟩,
           ⟨(some 47), .append 1 16 (.t 43) (.t 46), none, [0, 3]⟩,
           ⟨(some 2), .mv (.t 47), none, [4, 4, 0, 1, 2, 3, 4]⟩]) (
        .reg [⟨(some 25), .mv (.t 0), none, []⟩,
           ⟨(some 26), .faddr 1 .one (.t 4), none, []⟩,
           ⟨(some 27), .load .one (.t 26), none, [1]⟩,
           ⟨(some 28), .faddr 2 .one (.t 10), none, []⟩,
           ⟨(some 29), .load .one (.t 28), none, [3]⟩,
           ⟨(some 30), .iaddr 2 (.t 27) (.t 29), none, [2, 4]⟩,
           ⟨(some 31), .load (.agg 2) (.t 30), none, [5]⟩,
           ⟨(some 32), .mv (.t 2), none, []⟩,
           ⟨(some 33), .call (.c (.fn (.func 17) [] [])) [(.t 25), (.t 31), (.t 32)], none, [0, 6, 7]⟩,
           ⟨(some 2), .mv (.t 33), none, [8, 8, 0, 1, 2, 3, 4, 5, 6, 7, 8]⟩])))))))) (
    .reg [⟨(some 48), .bin .add (.t 21) (.c (.sc (.int .i64 1))), none, []⟩,
      ⟨(some 21), .mv (.t 48), none, [0]⟩])))
/-- (*apodixis/earley.speller).spell -/
def ann_earley_speller_spell : List Nat := [4, 7, 10]
def code_earley_speller_spell : ACode :=
 .seq (.reg [⟨(some 4), .box (.t 1), none, []⟩,
    ⟨(some 6), .mv (.c (.sl 0 [] .nil)), none, []⟩]) (
 .seq (.reg [⟨(some 12), .mv (.t 0), none, []⟩,
    ⟨(some 13), .faddr 0 .one (.t 4), none, []⟩,
    ⟨(some 14), .load .one (.t 13), none, [1]⟩,
    ⟨(some 15), .call (.c (.fn (.func 19) [] [])) [(.t 12), (.t 14)], none, [0, 2]⟩,
    ⟨(some 11), .mv (.t 15), none, [3]⟩,
    ⟨(some 16), .extract (.t 11) 0, none, [4]⟩,
    ⟨(some 17), .extract (.t 11) 1, none, [4]⟩,
    ⟨(some 7), .pnew 4, none, []⟩,
    ⟨none, .pstore 4 7 (.t 16), none, [7, 5, 3, 0, 1, 2, 3, 4, 5, 7]⟩,
    ⟨(some 8), .mv (.t 17), none, [6, 8, 0, 1, 2, 3, 4, 5, 6, 7, 8]⟩]) (
 .seq (.seq (.reg [⟨(some 18), .faddr 2 .one (.t 7), none, []⟩,
     ⟨(some 19), .load .one (.t 18), none, [0]⟩,
     ⟨(some 20), .len .sl (.t 19), none, [1]⟩,
     ⟨(some 21), .mv (.c (.sc (.int .i64 0))), none, []⟩]) (
  .block 0 (.loop lp0_earley_speller_spell))) (
 .seq (.reg [⟨(some 49), .mv (.t 2), none, []⟩,
    ⟨(some 6), .mv (.t 49), none, [0, 0]⟩]) (
 .ret))))
def res_earley_speller_spell : List ResA := [.t 6]
theorem comp_earley_speller_spell : Try.f17.body.bind (compCode PP ann_earley_speller_spell 50) = some code_earley_speller_spell := by kernel_rfl
theorem resc_earley_speller_spell : mapM' (compRes PP) Try.f17.results.toList = some res_earley_speller_spell := by kernel_rfl
theorem body_earley_speller_spell : hasBody PP 17 = true := by kernel_rfl
theorem enter_earley_speller_spell {args : List AV} {h : AHeap} {R : AEnd → AHeap → Prop} (hargs : args.length ≤ 50) (hw : codeWp ⟨PP, Gl, 50, ann_earley_speller_spell, h.length, none⟩ code_earley_speller_spell (retPost PP Gl h res_earley_speller_spell R) (initEnv args) h) : ACalls PP Gl 17 args h R :=
  acalls_of_code Try.func17 body_earley_speller_spell comp_earley_speller_spell resc_earley_speller_spell hargs (Nat.le_trans hargs (by decide)) (codeWp_sound mixed hw)

def lp0_ref14_text : ACode :=
 .seq (.seq (.reg [⟨(some 16), .mv (.t 7), none, []⟩,
        ⟨(some 17), .faddr 2 .one (.t 5), none, []⟩,
        ⟨(some 18), .load .one (.t 17), none, [1]⟩,
        ⟨(some 19), .len .sl (.t 18), none, [2]⟩,
        ⟨(some 20), .bin .lss (.t 16) (.t 19), none, [0, 3]⟩,
        ⟨(some 21), .mv (.t 20), none, [4]⟩,
        ⟨(some 22), .mv (.t 6), (some (21, true)), [5]⟩,
        ⟨(some 23), .len .sl (.t 22), (some (21, true)), [6, 5]⟩,
        ⟨(some 24), .bin .leq (.t 23) (.c (.sc (.int .i64 2000))), (some (21, true)), [7, 5]⟩,
        ⟨(some 25), .pick (.t 21) (.t 24) (.c (.sc (.bool false))), none, [5, 8]⟩]) (
     .cond (.t 25) (.skip) (
     .exit 0))) (
    .seq (.block 1 (.seq (.reg [⟨(some 28), .faddr 2 .one (.t 5), none, []⟩,
         ⟨(some 29), .load .one (.t 28), none, [0]⟩,
         ⟨(some 30), .mv (.t 7), none, []⟩,
         ⟨(some 31), .iaddr 3 (.t 29) (.t 30), none, [1, 2]⟩,
         ⟨(some 32), .faddr 1 .one (.t 31), none, [3]⟩,
         ⟨(some 33), .load .one (.t 32), none, [4]⟩,
         ⟨(some 34), .bin .eql (.t 33) (.c (.sc (.string ⟨#[]⟩))), none, [5]⟩]) (
      .cond (.t 34) (.reg [⟨(some 35), .mv (.t 6), none, []⟩,
         ⟨(some 36), .faddr 2 .one (.t 5), none, []⟩,
         ⟨(some 37), .load .one (.t 36), none, [1]⟩,
         ⟨(some 38), .mv (.t 7), none, []⟩,
         ⟨(some 39), .iaddr 3 (.t 37) (.t 38), none, [2, 3]⟩,
         ⟨(some 40), .faddr 0 .one (.t 39), none, [4]⟩,
         ⟨(some 41), .load .one (.t 40), none, [5]⟩,
         ⟨(some 42), .bslice 1 1 (.sc (.string ⟨#[]⟩)) [(0, (.t 41))], none, [6]⟩,
         ⟨(some 43), .append 1 16 (.t 35) (.t 42), none, [0, 7]⟩,
         ⟨(some 6), .mv (.t 43), none, [8, 8, 0, 1, 2, 3, 4, 5, 6, 7, 8]⟩]) (
      .dreg [(true, ⟨(some 44), .mv (.t 6), none, []⟩),
         (true, ⟨(some 45), .load (.agg 2) (.t 2), none, []⟩),
         (true, ⟨(some 46), .faddr 1 .one (.t 3), none, []⟩),
         (true, ⟨(some 47), .load .one (.t 46), none, [2]⟩),
         (true, ⟨(some 48), .faddr 2 .one (.t 5), none, []⟩),
         (true, ⟨(some 49), .load .one (.t 48), none, [4]⟩),
         (false, ⟨(some 50), .mv (.t 7), none, []⟩),
         (false, ⟨(some 51), .iaddr 3 (.t 49) (.t 50), none, [5, 6]⟩),
         (false, ⟨(some 52), .faddr 2 .one (.t 51), none, [7]⟩),
         (false, ⟨(some 53), .load .one (.t 52), none, [8]⟩),
         (false, ⟨(some 54), .iaddr 2 (.t 47) (.t 53), none, [3, 9]⟩),
         (false, ⟨(some 55), .load (.agg 2) (.t 54), none, [10]⟩),
         (false, ⟨(some 56), .call (.c (.fn (.func 18) [] [])) [(.t 45), (.t 55)], none, [1, 11]⟩),
         (false, ⟨(some 57), .append 1 16 (.t 44) (.t 56), none, [0, 12, 12]⟩),
         (false, ⟨(some 6), .mv (.t 57), none, [13, 13, 0, 1, 2, 3, 4, 5, 6, 7, 8, 9, 10, 11, 12, 13]⟩)])))) (
    .reg [⟨(some 26), .mv (.t 7), none, []⟩,
      ⟨(some 27), .bin .add (.t 26) (.c (.sc (.int .i64 1))), none, [0]⟩,
      ⟨(some 7), .mv (.t 27), none, [1, 0, 1]⟩]))
/-- apodixis/apodixisref14.text -/
def ann_ref14_text : List Nat := [2, 3, 5]
def code_ref14_text : ACode :=
 .seq (.reg [⟨(some 2), .box (.t 0), none, []⟩,
    ⟨(some 3), .box (.t 1), none, []⟩,
    ⟨(some 4), .mv (.c (.sl 0 [] .nil)), none, []⟩]) (
 .seq (.dreg [(true, ⟨(some 8), .faddr 1 .one (.t 2), none, []⟩),
    (true, ⟨(some 9), .load .one (.t 8), none, [0]⟩),
    (true, ⟨(some 10), .load (.agg 2) (.t 2), none, []⟩),
    (true, ⟨(some 11), .faddr 0 .one (.t 3), none, []⟩),
    (true, ⟨(some 12), .load .one (.t 11), none, [3]⟩),
    (true, ⟨(some 5), .pnew 4, none, []⟩),
    (false, ⟨(some 13), .call (.c (.fn (.func 31) [] [])) [(.t 10), (.t 12)], none, [2, 4]⟩),
    (false, ⟨(some 14), .iaddr 4 (.t 9) (.t 13), none, [1, 5]⟩),
    (false, ⟨(some 15), .load (.agg 4) (.t 14), none, [6]⟩),
    (false, ⟨none, .pstore 4 5 (.t 15), none, [8, 7, 5, 0, 1, 2, 3, 4, 5, 6, 7, 8]⟩)]) (
 .seq (.reg [⟨(some 6), .mv (.c (.sl 0 [] .nil)), none, []⟩]) (
 .seq (.seq (.reg [⟨(some 7), .mv (.c (.sc (.int .i64 0))), none, []⟩]) (
  .block 0 (.loop lp0_ref14_text))) (
 .seq (.reg [⟨(some 58), .mv (.t 6), none, []⟩,
    ⟨(some 4), .mv (.t 58), none, [0, 0]⟩]) (
 .ret)))))
def res_ref14_text : List ResA := [.t 4]
theorem comp_ref14_text : Try.f18.body.bind (compCode PP ann_ref14_text 59) = some code_ref14_text := by kernel_rfl
theorem resc_ref14_text : mapM' (compRes PP) Try.f18.results.toList = some res_ref14_text := by kernel_rfl
theorem body_ref14_text : hasBody PP 18 = true := by kernel_rfl
theorem enter_ref14_text {args : List AV} {h : AHeap} {R : AEnd → AHeap → Prop} (hargs : args.length ≤ 59) (hw : codeWp ⟨PP, Gl, 59, ann_ref14_text, h.length, none⟩ code_ref14_text (retPost PP Gl h res_ref14_text R) (initEnv args) h) : ACalls PP Gl 18 args h R :=
  acalls_of_code Try.func18 body_ref14_text comp_ref14_text resc_ref14_text hargs (Nat.le_trans hargs (by decide)) (codeWp_sound mixed hw)

/-- (*apodixis/earley.speller).rule -/
def ann_earley_speller_rule : List Nat := []
def code_earley_speller_rule : ACode :=
 .seq (.reg [⟨(some 4), .new [(.sc (.string ⟨#[]⟩)), (.sc (.string ⟨#[]⟩)), (.sl 0 [] .nil), (.sc (.bool false))], none, []⟩,
    ⟨(some 5), .mv (.c (.sc (.bool false))), none, []⟩]) (
 .seq (.reg [⟨(some 9), .mv (.t 0), none, []⟩,
    ⟨(some 10), .nilc (.t 9), none, [0]⟩,
    ⟨(some 11), .faddr 2 .one (.t 10), none, [1]⟩,
    ⟨(some 12), .load .one (.t 11), none, [2]⟩,
    ⟨(some 13), .mv (.t 1), none, []⟩,
    ⟨(some 14), .lookup .str (.sc (.int .i64 0)) true (.t 12) (.t 13), none, [3, 4]⟩,
    ⟨(some 8), .mv (.t 14), none, [5]⟩,
    ⟨(some 15), .extract (.t 8) 0, none, [6]⟩,
    ⟨(some 16), .extract (.t 8) 1, none, [6]⟩,
    ⟨(some 6), .mv (.t 15), none, [7, 0, 1, 2, 3, 4, 5, 6, 7]⟩,
    ⟨(some 7), .mv (.t 16), none, [8, 9, 0, 1, 2, 3, 4, 5, 6, 7, 8, 9]⟩]) (
 .seq (.seq (.reg [⟨(some 17), .mv (.t 7), none, []⟩,
     ⟨(some 18), .un .not (.t 17), none, [0]⟩]) (
  .cond (.t 18) (.seq (.reg [⟨(some 19), .build [(.sc (.string ⟨#[]⟩)), (.sc (.string ⟨#[]⟩)), (.sl 0 [] .nil), (.sc (.bool false))] [], none, []⟩,
      ⟨none, .store 4 (.t 4) (.t 19), none, [0, 0]⟩,
      ⟨(some 5), .mv (.c (.sc (.bool false))), none, [1, 0, 1]⟩]) (
   .ret)) (
  .skip))) (
 .seq (.reg [⟨(some 20), .mv (.t 0), none, []⟩,
    ⟨(some 21), .nilc (.t 20), none, [0]⟩,
    ⟨(some 22), .faddr 0 (.agg 2) (.t 21), none, [1]⟩,
    ⟨(some 23), .faddr 1 .one (.t 22), none, [2]⟩,
    ⟨(some 24), .load .one (.t 23), none, [3]⟩,
    ⟨(some 25), .mv (.t 6), none, []⟩,
    ⟨(some 26), .iaddr 4 (.t 24) (.t 25), none, [4, 5]⟩,
    ⟨(some 27), .load (.agg 4) (.t 26), none, [6]⟩,
    ⟨none, .store 4 (.t 4) (.t 27), none, [7, 0, 1, 2, 3, 4, 5, 6, 7]⟩,
    ⟨(some 5), .mv (.c (.sc (.bool true))), none, [8, 0, 1, 2, 3, 4, 5, 6, 7, 8]⟩]) (
 .ret))))
def res_earley_speller_rule : List ResA := [.cell 4 (.agg 4), .t 5]
theorem comp_earley_speller_rule : Try.f19.body.bind (compCode PP ann_earley_speller_rule 28) = some code_earley_speller_rule := by kernel_rfl
theorem resc_earley_speller_rule : mapM' (compRes PP) Try.f19.results.toList = some res_earley_speller_rule := by kernel_rfl
theorem body_earley_speller_rule : hasBody PP 19 = true := by kernel_rfl
theorem enter_earley_speller_rule {args : List AV} {h : AHeap} {R : AEnd → AHeap → Prop} (hargs : args.length ≤ 28) (hw : codeWp ⟨PP, Gl, 28, ann_earley_speller_rule, h.length, none⟩ code_earley_speller_rule (retPost PP Gl h res_earley_speller_rule R) (initEnv args) h) : ACalls PP Gl 19 args h R :=
  acalls_of_code Try.func19 body_earley_speller_rule comp_earley_speller_rule resc_earley_speller_rule hargs (Nat.le_trans hargs (by decide)) (codeWp_sound mixed hw)

def lp0_ref13_Check : ACode :=
 .seq (.seq (.reg [⟨(some 16), .mv (.t 3), none, []⟩,
        ⟨(some 17), .faddr 1 .one (.t 1), none, []⟩,
        ⟨(some 18), .load .one (.t 17), none, [1]⟩,
        ⟨(some 19), .len .sl (.t 18), none, [2]⟩,
        ⟨(some 20), .bin .lss (.t 16) (.t 19), none, [0, 3]⟩]) (
     .cond (.t 20) (.skip) (
     .exit 0))) (
    .seq (.block 1 (.seq (.reg [⟨(some 23), .faddr 1 .one (.t 1), none, []⟩,
         ⟨(some 24), .load .one (.t 23), none, [0]⟩,
         ⟨(some 25), .mv (.t 3), none, []⟩,
         ⟨(some 26), .iaddr 4 (.t 24) (.t 25), none, [1, 2]⟩,
         ⟨(some 27), .faddr 2 .one (.t 26), none, [3]⟩,
         ⟨(some 28), .load .one (.t 27), none, [4]⟩,
         ⟨(some 29), .len .sl (.t 28), none, [5]⟩,
         ⟨(some 30), .bin .gtr (.t 29) (.c (.sc (.int .i64 200))), none, [6]⟩]) (
      .cond (.t 30) (.seq (.reg [⟨(some 2), .mv (.c (.sc (.int .i64 4))), none, []⟩]) (
       .ret)) (
      .skip)))) (
    .reg [⟨(some 21), .mv (.t 3), none, []⟩,
      ⟨(some 22), .bin .add (.t 21) (.c (.sc (.int .i64 1))), none, [0]⟩,
      ⟨(some 3), .mv (.t 22), none, [1, 0, 1]⟩]))
def lp1_ref13_Check : ACode :=
 .seq (.seq (.reg [⟨(some 31), .mv (.t 4), none, []⟩,
        ⟨(some 32), .faddr 0 .one (.t 1), none, []⟩,
        ⟨(some 33), .load .one (.t 32), none, [1]⟩,
        ⟨(some 34), .len .sl (.t 33), none, [2]⟩,
        ⟨(some 35), .bin .lss (.t 31) (.t 34), none, [0, 3]⟩]) (
     .cond (.t 35) (.skip) (
     .exit 2))) (
    .seq (.block 3 (.seq (.dreg [(true, ⟨(some 38), .faddr 0 .one (.t 1), none, []⟩),
         (true, ⟨(some 39), .load .one (.t 38), none, [0]⟩),
         (false, ⟨(some 40), .mv (.t 4), none, []⟩),
         (false, ⟨(some 41), .iaddr 1 (.t 39) (.t 40), none, [1, 2]⟩),
         (false, ⟨(some 42), .load .one (.t 41), none, [3]⟩),
         (false, ⟨(some 43), .call (.c (.fn (.func 32) [] [])) [(.t 42)], none, [4]⟩),
         (false, ⟨(some 44), .un .not (.t 43), none, [5]⟩),
         (false, ⟨(some 45), .mv (.t 44), none, [6, 5]⟩),
         (true, ⟨(some 46), .faddr 0 .one (.t 1), (some (45, false)), [7]⟩),
         (true, ⟨(some 47), .load .one (.t 46), (some (45, false)), [8, 7]⟩),
         (true, ⟨(some 48), .faddr 0 .one (.t 1), (some (45, false)), [7]⟩),
         (true, ⟨(some 49), .load .one (.t 48), (some (45, false)), [10, 7]⟩),
         (true, ⟨(some 50), .mv (.t 4), (some (45, false)), [7]⟩),
         (true, ⟨(some 51), .iaddr 1 (.t 49) (.t 50), (some (45, false)), [11, 12, 7]⟩),
         (true, ⟨(some 52), .load .one (.t 51), (some (45, false)), [13, 7]⟩),
         (true, ⟨(some 54), .mv (.t 4), (some (45, false)), [7]⟩),
         (false, ⟨(some 53), .call (.c (.fn (.func 33) [] [])) [(.t 47), (.t 52)], (some (45, false)), [9, 14, 7, 7]⟩),
         (false, ⟨(some 55), .bin .neq (.t 53) (.t 54), (some (45, false)), [15, 16, 7]⟩),
         (false, ⟨(some 56), .pick (.t 45) (.c (.sc (.bool true))) (.t 55), none, [7, 17]⟩)]) (
      .cond (.t 56) (.seq (.reg [⟨(some 2), .mv (.c (.sc (.int .i64 151))), none, []⟩]) (
       .ret)) (
      .skip)))) (
    .reg [⟨(some 36), .mv (.t 4), none, []⟩,
      ⟨(some 37), .bin .add (.t 36) (.c (.sc (.int .i64 1))), none, [0]⟩,
      ⟨(some 4), .mv (.t 37), none, [1, 0, 1]⟩]))
def lp2_ref13_Check : ACode :=
 .seq (.seq (.reg [⟨(some 57), .mv (.t 5), none, []⟩,
        ⟨(some 58), .faddr 1 .one (.t 1), none, []⟩,
        ⟨(some 59), .load .one (.t 58), none, [1]⟩,
        ⟨(some 60), .len .sl (.t 59), none, [2]⟩,
        ⟨(some 61), .bin .lss (.t 57) (.t 60), none, [0, 3]⟩]) (
     .cond (.t 61) (.skip) (
     .exit 4))) (
    .seq (.block 5 (.seq (.dreg [(true, ⟨(some 64), .load (.agg 2) (.t 1), none, []⟩),
         (true, ⟨(some 65), .faddr 1 .one (.t 1), none, []⟩),
         (true, ⟨(some 66), .load .one (.t 65), none, [1]⟩),
         (false, ⟨(some 67), .mv (.t 5), none, []⟩),
         (false, ⟨(some 68), .iaddr 4 (.t 66) (.t 67), none, [2, 3]⟩),
         (false, ⟨(some 69), .load (.agg 4) (.t 68), none, [4]⟩),
         (false, ⟨(some 70), .call (.c (.fn (.func 34) [] [])) [(.t 64), (.t 69)], none, [0, 5]⟩),
         (false, ⟨(some 71), .un .not (.t 70), none, [6]⟩),
         (false, ⟨(some 72), .mv (.t 71), none, [7, 6]⟩),
         (true, ⟨(some 73), .load (.agg 2) (.t 1), (some (72, false)), [8]⟩),
         (true, ⟨(some 74), .faddr 1 .one (.t 1), (some (72, false)), [8]⟩),
         (true, ⟨(some 75), .load .one (.t 74), (some (72, false)), [10, 8]⟩),
         (true, ⟨(some 76), .mv (.t 5), (some (72, false)), [8]⟩),
         (true, ⟨(some 77), .iaddr 4 (.t 75) (.t 76), (some (72, false)), [11, 12, 8]⟩),
         (true, ⟨(some 78), .faddr 0 .one (.t 77), (some (72, false)), [13, 8]⟩),
         (true, ⟨(some 79), .load .one (.t 78), (some (72, false)), [14, 8]⟩),
         (true, ⟨(some 81), .mv (.t 5), (some (72, false)), [8]⟩),
         (false, ⟨(some 80), .call (.c (.fn (.func 31) [] [])) [(.t 73), (.t 79)], (some (72, false)), [9, 15, 8, 8]⟩),
         (false, ⟨(some 82), .bin .neq (.t 80) (.t 81), (some (72, false)), [16, 17, 8]⟩),
         (false, ⟨(some 83), .pick (.t 72) (.c (.sc (.bool true))) (.t 82), none, [8, 18]⟩)]) (
      .cond (.t 83) (.seq (.reg [⟨(some 2), .mv (.c (.sc (.int .i64 151))), none, []⟩]) (
       .ret)) (
      .skip)))) (
    .reg [⟨(some 62), .mv (.t 5), none, []⟩,
      ⟨(some 63), .bin .add (.t 62) (.c (.sc (.int .i64 1))), none, [0]⟩,
      ⟨(some 5), .mv (.t 63), none, [1, 0, 1]⟩]))
/-- apodixis/apodixisref13.Check -/
def ann_ref13_Check : List Nat := [1]
def code_ref13_Check : ACode :=
 .seq (.reg [⟨(some 1), .box (.t 0), none, []⟩,
    ⟨(some 2), .mv (.c (.sc (.int .i64 0))), none, []⟩]) (
 .seq (.seq (.reg [⟨(some 6), .faddr 0 .one (.t 1), none, []⟩,
     ⟨(some 7), .load .one (.t 6), none, [0]⟩,
     ⟨(some 8), .len .sl (.t 7), none, [1]⟩,
     ⟨(some 9), .bin .gtr (.t 8) (.c (.sc (.int .i64 32))), none, [2]⟩,
     ⟨(some 10), .mv (.t 9), none, [3]⟩,
     ⟨(some 11), .faddr 1 .one (.t 1), (some (10, false)), [4]⟩,
     ⟨(some 12), .load .one (.t 11), (some (10, false)), [5, 4]⟩,
     ⟨(some 13), .len .sl (.t 12), (some (10, false)), [6, 4]⟩,
     ⟨(some 14), .bin .gtr (.t 13) (.c (.sc (.int .i64 600))), (some (10, false)), [7, 4]⟩,
     ⟨(some 15), .pick (.t 10) (.c (.sc (.bool true))) (.t 14), none, [4, 8]⟩]) (
  .cond (.t 15) (.seq (.reg [⟨(some 2), .mv (.c (.sc (.int .i64 4))), none, []⟩]) (
   .ret)) (
  .skip))) (
 .seq (.seq (.reg [⟨(some 3), .mv (.c (.sc (.int .i64 0))), none, []⟩]) (
  .block 0 (.loop lp0_ref13_Check))) (
 .seq (.seq (.reg [⟨(some 4), .mv (.c (.sc (.int .i64 0))), none, []⟩]) (
  .block 2 (.loop lp1_ref13_Check))) (
 .seq (.seq (.reg [⟨(some 5), .mv (.c (.sc (.int .i64 0))), none, []⟩]) (
  .block 4 (.loop lp2_ref13_Check))) (
 .seq (.reg [⟨(some 2), .mv (.c (.sc (.int .i64 0))), none, []⟩]) (
 .ret))))))
def res_ref13_Check : List ResA := [.t 2]
theorem comp_ref13_Check : Try.f20.body.bind (compCode PP ann_ref13_Check 84) = some code_ref13_Check := by kernel_rfl
theorem resc_ref13_Check : mapM' (compRes PP) Try.f20.results.toList = some res_ref13_Check := by kernel_rfl
theorem body_ref13_Check : hasBody PP 20 = true := by kernel_rfl
theorem enter_ref13_Check {args : List AV} {h : AHeap} {R : AEnd → AHeap → Prop} (hargs : args.length ≤ 84) (hw : codeWp ⟨PP, Gl, 84, ann_ref13_Check, h.length, none⟩ code_ref13_Check (retPost PP Gl h res_ref13_Check R) (initEnv args) h) : ACalls PP Gl 20 args h R :=
  acalls_of_code Try.func20 body_ref13_Check comp_ref13_Check resc_ref13_Check hargs (Nat.le_trans hargs (by decide)) (codeWp_sound mixed hw)

def lp0_ref14_size : ACode :=
 .seq (.seq (.reg [⟨(some 12), .mv (.t 8), none, []⟩,
        ⟨(some 13), .faddr 1 .one (.t 2), none, []⟩,
        ⟨(some 14), .load .one (.t 13), none, [1]⟩,
        ⟨(some 15), .len .sl (.t 14), none, [2]⟩,
        ⟨(some 16), .bin .lss (.t 12) (.t 15), none, [0, 3]⟩,
        ⟨(some 17), .mv (.t 16), none, [4]⟩,
        ⟨(some 18), .mv (.t 6), (some (17, true)), [5]⟩,
        ⟨(some 19), .bin .leq (.t 18) (.c (.sc (.int .i64 4000))), (some (17, true)), [6, 5]⟩,
        ⟨(some 20), .pick (.t 17) (.t 19) (.c (.sc (.bool false))), none, [5, 7]⟩]) (
     .cond (.t 20) (.skip) (
     .exit 0))) (
    .seq (.block 1 (.seq (.reg [⟨(some 24), .faddr 1 .one (.t 2), none, []⟩,
         ⟨(some 25), .load .one (.t 24), none, [0]⟩,
         ⟨(some 26), .mv (.t 8), none, []⟩,
         ⟨(some 27), .iaddr 2 (.t 25) (.t 26), none, [1, 2]⟩,
         ⟨(some 28), .load (.agg 2) (.t 27), none, [3]⟩,
         ⟨(some 29), .mv (.t 1), none, []⟩,
         ⟨(some 30), .bin .add (.t 29) (.c (.sc (.int .i64 1))), none, [5]⟩,
         ⟨(some 31), .call (.c (.fn (.func 21) [] [])) [(.t 28), (.t 30)], none, [4, 6]⟩,
         ⟨(some 23), .mv (.t 31), none, [7]⟩,
         ⟨(some 32), .extract (.t 23) 0, none, [8]⟩,
         ⟨(some 33), .extract (.t 23) 1, none, [8]⟩,
         ⟨(some 9), .mv (.t 32), none, [9, 7, 0, 1, 2, 3, 4, 5, 6, 7, 8, 9]⟩,
         ⟨(some 10), .mv (.t 33), none, [10, 11, 0, 1, 2, 3, 4, 5, 6, 7, 8, 9, 10, 11]⟩]) (
      .reg [⟨(some 34), .mv (.t 6), none, []⟩,
        ⟨(some 35), .mv (.t 9), none, []⟩,
        ⟨(some 36), .bin .add (.t 34) (.t 35), none, [0, 1]⟩,
        ⟨(some 37), .mv (.t 7), none, []⟩,
        ⟨(some 38), .mv (.t 10), none, []⟩,
        ⟨(some 39), .mx true (.t 37) (.t 38), none, [3, 4]⟩,
        ⟨(some 6), .mv (.t 36), none, [2, 0, 1, 2]⟩,
        ⟨(some 7), .mv (.t 39), none, [5, 6, 0, 1, 2, 3, 4, 5, 6]⟩]))) (
    .reg [⟨(some 21), .mv (.t 8), none, []⟩,
      ⟨(some 22), .bin .add (.t 21) (.c (.sc (.int .i64 1))), none, [0]⟩,
      ⟨(some 8), .mv (.t 22), none, [1, 0, 1]⟩]))
/-- apodixis/apodixisref14.size -/
def ann_ref14_size : List Nat := [2]
def code_ref14_size : ACode :=
 .seq (.reg [⟨(some 2), .box (.t 0), none, []⟩,
    ⟨(some 4), .mv (.c (.sc (.int .i64 0))), none, []⟩,
    ⟨(some 5), .mv (.c (.sc (.int .i64 0))), none, [1]⟩]) (
 .seq (.reg [⟨(some 11), .mv (.t 1), none, []⟩,
    ⟨(some 6), .mv (.c (.sc (.int .i64 1))), none, []⟩,
    ⟨(some 7), .mv (.t 11), none, [0, 1, 0, 1]⟩]) (
 .seq (.seq (.reg [⟨(some 8), .mv (.c (.sc (.int .i64 0))), none, []⟩]) (
  .block 0 (.loop lp0_ref14_size))) (
 .seq (.reg [⟨(some 40), .mv (.t 6), none, []⟩,
    ⟨(some 41), .mv (.t 7), none, []⟩,
    ⟨(some 4), .mv (.t 40), none, [0, 0]⟩,
    ⟨(some 5), .mv (.t 41), none, [1, 2, 0, 1, 2]⟩]) (
 .ret))))
def res_ref14_size : List ResA := [.t 4, .t 5]
theorem comp_ref14_size : Try.f21.body.bind (compCode PP ann_ref14_size 42) = some code_ref14_size := by kernel_rfl
theorem resc_ref14_size : mapM' (compRes PP) Try.f21.results.toList = some res_ref14_size := by kernel_rfl
theorem body_ref14_size : hasBody PP 21 = true := by kernel_rfl
theorem enter_ref14_size {args : List AV} {h : AHeap} {R : AEnd → AHeap → Prop} (hargs : args.length ≤ 42) (hw : codeWp ⟨PP, Gl, 42, ann_ref14_size, h.length, none⟩ code_ref14_size (retPost PP Gl h res_ref14_size R) (initEnv args) h) : ACalls PP Gl 21 args h R :=
  acalls_of_code Try.func21 body_ref14_size comp_ref14_size resc_ref14_size hargs (Nat.le_trans hargs (by decide)) (codeWp_sound mixed hw)

def lp0_ref14_sortOf : ACode :=
 .seq (.seq (.reg [⟨(some 29), .mv (.t 7), none, []⟩,
        ⟨(some 30), .faddr 1 .one (.t 2), none, []⟩,
        ⟨(some 31), .load .one (.t 30), none, [1]⟩,
        ⟨(some 32), .mv (.t 6), none, []⟩,
        ⟨(some 33), .iaddr 4 (.t 31) (.t 32), none, [2, 3]⟩,
        ⟨(some 34), .faddr 2 .one (.t 33), none, [4]⟩,
        ⟨(some 35), .load .one (.t 34), none, [5]⟩,
        ⟨(some 36), .len .sl (.t 35), none, [6]⟩,
        ⟨(some 37), .bin .lss (.t 29) (.t 36), none, [0, 7]⟩]) (
     .cond (.t 37) (.skip) (
     .exit 0))) (
    .seq (.block 1 (.seq (.reg [⟨(some 40), .faddr 1 .one (.t 2), none, []⟩,
         ⟨(some 41), .load .one (.t 40), none, [0]⟩,
         ⟨(some 42), .mv (.t 6), none, []⟩,
         ⟨(some 43), .iaddr 4 (.t 41) (.t 42), none, [1, 2]⟩,
         ⟨(some 44), .faddr 2 .one (.t 43), none, [3]⟩,
         ⟨(some 45), .load .one (.t 44), none, [4]⟩,
         ⟨(some 46), .mv (.t 7), none, []⟩,
         ⟨(some 47), .iaddr 3 (.t 45) (.t 46), none, [5, 6]⟩,
         ⟨(some 48), .load (.agg 3) (.t 47), none, [7]⟩,
         ⟨(some 8), .pnew 3, none, []⟩,
         ⟨none, .pstore 3 8 (.t 48), none, [9, 8, 0, 1, 2, 3, 4, 5, 6, 7, 8, 9]⟩]) (
      .seq (.seq (.reg [⟨(some 49), .faddr 1 .one (.t 8), none, []⟩,
          ⟨(some 50), .load .one (.t 49), none, [0]⟩,
          ⟨(some 51), .bin .eql (.t 50) (.c (.sc (.string ⟨#[]⟩))), none, [1]⟩]) (
       .cond (.t 51) (.exit 1) (
       .skip))) (
      .seq (.dreg [(true, ⟨(some 53), .load (.agg 2) (.t 2), none, []⟩),
         (true, ⟨(some 54), .faddr 1 .one (.t 3), none, []⟩),
         (true, ⟨(some 55), .load .one (.t 54), none, [1]⟩),
         (false, ⟨(some 56), .faddr 2 .one (.t 8), none, []⟩),
         (false, ⟨(some 57), .load .one (.t 56), none, [3]⟩),
         (false, ⟨(some 58), .iaddr 2 (.t 55) (.t 57), none, [2, 4]⟩),
         (false, ⟨(some 59), .load (.agg 2) (.t 58), none, [5]⟩),
         (false, ⟨(some 60), .call (.c (.fn (.func 22) [] [])) [(.t 53), (.t 59)], none, [0, 6]⟩),
         (false, ⟨(some 52), .mv (.t 60), none, [7]⟩),
         (true, ⟨(some 61), .extract (.t 52) 0, none, [8]⟩),
         (true, ⟨(some 62), .extract (.t 52) 1, none, [8]⟩),
         (false, ⟨(some 9), .mv (.t 61), none, [9, 7, 0, 1, 2, 3, 4, 5, 6, 7, 8, 9]⟩),
         (false, ⟨(some 10), .mv (.t 62), none, [10, 11, 0, 1, 2, 3, 4, 5, 6, 7, 8, 9, 10, 11]⟩)]) (
      .seq (.reg [⟨(some 63), .mv (.t 10), none, []⟩,
         ⟨(some 64), .un .not (.t 63), none, [0]⟩,
         ⟨(some 65), .mv (.t 64), none, [1]⟩,
         ⟨(some 66), .mv (.t 9), (some (65, false)), [2]⟩,
         ⟨(some 67), .faddr 1 .one (.t 8), (some (65, false)), [2]⟩,
         ⟨(some 68), .load .one (.t 67), (some (65, false)), [4, 2]⟩,
         ⟨(some 69), .bin .neq (.t 66) (.t 68), (some (65, false)), [3, 5, 2]⟩,
         ⟨(some 70), .pick (.t 65) (.c (.sc (.bool true))) (.t 69), none, [2, 6]⟩]) (
      .cond (.t 70) (.seq (.reg [⟨(some 4), .mv (.c (.sc (.string ⟨#[]⟩))), none, []⟩,
          ⟨(some 5), .mv (.c (.sc (.bool false))), none, [0, 0]⟩]) (
       .ret)) (
      .skip))))))) (
    .reg [⟨(some 38), .mv (.t 7), none, []⟩,
      ⟨(some 39), .bin .add (.t 38) (.c (.sc (.int .i64 1))), none, [0]⟩,
      ⟨(some 7), .mv (.t 39), none, [1, 0, 1]⟩]))
/-- apodixis/apodixisref14.sortOf -/
def ann_ref14_sortOf : List Nat := [2, 3, 8]
def code_ref14_sortOf : ACode :=
 .seq (.reg [⟨(some 2), .box (.t 0), none, []⟩,
    ⟨(some 3), .box (.t 1), none, []⟩,
    ⟨(some 4), .mv (.c (.sc (.string ⟨#[]⟩))), none, []⟩,
    ⟨(some 5), .mv (.c (.sc (.bool false))), none, [2]⟩]) (
 .seq (.reg [⟨(some 11), .load (.agg 2) (.t 2), none, []⟩,
    ⟨(some 12), .faddr 0 .one (.t 3), none, []⟩,
    ⟨(some 13), .load .one (.t 12), none, [1]⟩,
    ⟨(some 14), .call (.c (.fn (.func 31) [] [])) [(.t 11), (.t 13)], none, [0, 2]⟩,
    ⟨(some 6), .mv (.t 14), none, [3, 3, 0, 1, 2, 3]⟩]) (
 .seq (.seq (.dreg [(false, ⟨(some 15), .mv (.t 6), none, []⟩),
     (false, ⟨(some 16), .bin .lss (.t 15) (.c (.sc (.int .i64 0))), none, [0]⟩),
     (false, ⟨(some 17), .mv (.t 16), none, [1]⟩),
     (true, ⟨(some 18), .faddr 1 .one (.t 3), (some (17, false)), [2]⟩),
     (true, ⟨(some 19), .load .one (.t 18), (some (17, false)), [3, 2]⟩),
     (true, ⟨(some 20), .len .sl (.t 19), (some (17, false)), [4, 2]⟩),
     (true, ⟨(some 21), .faddr 1 .one (.t 2), (some (17, false)), [2]⟩),
     (true, ⟨(some 22), .load .one (.t 21), (some (17, false)), [6, 2]⟩),
     (false, ⟨(some 23), .mv (.t 6), (some (17, false)), [2]⟩),
     (false, ⟨(some 24), .iaddr 4 (.t 22) (.t 23), (some (17, false)), [7, 8, 2]⟩),
     (false, ⟨(some 25), .load (.agg 4) (.t 24), (some (17, false)), [9, 2]⟩),
     (false, ⟨(some 26), .call (.c (.fn (.func 35) [] [])) [(.t 25)], (some (17, false)), [10, 2, 2]⟩),
     (false, ⟨(some 27), .bin .neq (.t 20) (.t 26), (some (17, false)), [5, 11, 2]⟩),
     (false, ⟨(some 28), .pick (.t 17) (.c (.sc (.bool true))) (.t 27), none, [2, 12]⟩)]) (
  .cond (.t 28) (.seq (.reg [⟨(some 4), .mv (.c (.sc (.string ⟨#[]⟩))), none, []⟩,
      ⟨(some 5), .mv (.c (.sc (.bool false))), none, [0, 0]⟩]) (
   .ret)) (
  .skip))) (
 .seq (.seq (.reg [⟨(some 7), .mv (.c (.sc (.int .i64 0))), none, []⟩]) (
  .block 0 (.loop lp0_ref14_sortOf))) (
 .seq (.reg [⟨(some 71), .faddr 1 .one (.t 2), none, []⟩,
    ⟨(some 72), .load .one (.t 71), none, [0]⟩,
    ⟨(some 73), .mv (.t 6), none, []⟩,
    ⟨(some 74), .iaddr 4 (.t 72) (.t 73), none, [1, 2]⟩,
    ⟨(some 75), .faddr 1 .one (.t 74), none, [3]⟩,
    ⟨(some 76), .load .one (.t 75), none, [4]⟩,
    ⟨(some 4), .mv (.t 76), none, [5, 0, 1, 2, 3, 4, 5]⟩,
    ⟨(some 5), .mv (.c (.sc (.bool true))), none, [6, 0, 1, 2, 3, 4, 5, 6]⟩]) (
 .ret)))))
def res_ref14_sortOf : List ResA := [.t 4, .t 5]
theorem comp_ref14_sortOf : Try.f22.body.bind (compCode PP ann_ref14_sortOf 77) = some code_ref14_sortOf := by kernel_rfl
theorem resc_ref14_sortOf : mapM' (compRes PP) Try.f22.results.toList = some res_ref14_sortOf := by kernel_rfl
theorem body_ref14_sortOf : hasBody PP 22 = true := by kernel_rfl
theorem enter_ref14_sortOf {args : List AV} {h : AHeap} {R : AEnd → AHeap → Prop} (hargs : args.length ≤ 77) (hw : codeWp ⟨PP, Gl, 77, ann_ref14_sortOf, h.length, none⟩ code_ref14_sortOf (retPost PP Gl h res_ref14_sortOf R) (initEnv args) h) : ACalls PP Gl 22 args h R :=
  acalls_of_code Try.func22 body_ref14_sortOf comp_ref14_sortOf resc_ref14_sortOf hargs (Nat.le_trans hargs (by decide)) (codeWp_sound mixed hw)

/-- apodixis/earley.asked -/
def ann_earley_asked : List Nat := [3]
def code_earley_asked : ACode :=
 .seq (.reg [⟨(some 3), .box (.t 0), none, []⟩,
    ⟨(some 6), .mv (.c (.sc (.int .i64 0))), none, []⟩]) (
 .seq (.seq (.reg [⟨(some 8), .load (.agg 2) (.t 3), none, []⟩,
     ⟨(some 9), .call (.c (.fn (.func 28) [] [])) [(.t 8)], none, [0]⟩,
     ⟨(some 7), .mv (.t 9), none, [1, 1, 0, 1]⟩]) (
  .block 0 (.seq (.reg [⟨(some 11), .mv (.t 7), none, []⟩,
      ⟨(some 12), .bin .neq (.t 11) (.c (.sc (.int .i64 0))), none, [0]⟩,
      ⟨(some 10), .mv (.t 12), none, [1]⟩]) (
   .cond (.t 10) (.seq (.reg [⟨(some 13), .mv (.t 7), none, []⟩,
       ⟨(some 6), .mv (.t 13), none, [0, 0]⟩]) (
    .ret)) (
   .seq (.reg [⟨(some 15), .faddr 0 .one (.t 3), none, []⟩,
       ⟨(some 16), .load .one (.t 15), none, [0]⟩,
       ⟨(some 17), .mv (.t 1), none, []⟩,
       ⟨(some 18), .call (.c (.fn (.func 36) [] [])) [(.t 16), (.t 17)], none, [1, 2]⟩,
       ⟨(some 19), .un .not (.t 18), none, [3]⟩,
       ⟨(some 14), .mv (.t 19), none, [4, 3]⟩]) (
    .cond (.t 14) (.seq (.reg [⟨(some 6), .mv (.c (.sc (.int .i64 5))), none, []⟩]) (
     .ret)) (
    .seq (.reg [⟨(some 21), .mv (.t 2), none, []⟩,
        ⟨(some 22), .len .sl (.t 21), none, [0]⟩,
        ⟨(some 23), .bin .gtr (.t 22) (.c (.sc (.int .i64 200))), none, [1]⟩,
        ⟨(some 20), .mv (.t 23), none, [2]⟩]) (
     .cond (.t 20) (.seq (.reg [⟨(some 6), .mv (.c (.sc (.int .i64 4))), none, []⟩]) (
      .ret)) (
     .skip))))))))) (
 .seq (.reg [⟨(some 6), .mv (.c (.sc (.int .i64 0))), none, []⟩]) (
 .ret)))
def res_earley_asked : List ResA := [.t 6]
theorem comp_earley_asked : Try.f23.body.bind (compCode PP ann_earley_asked 24) = some code_earley_asked := by kernel_rfl
theorem resc_earley_asked : mapM' (compRes PP) Try.f23.results.toList = some res_earley_asked := by kernel_rfl
theorem body_earley_asked : hasBody PP 23 = true := by kernel_rfl
theorem enter_earley_asked {args : List AV} {h : AHeap} {R : AEnd → AHeap → Prop} (hargs : args.length ≤ 24) (hw : codeWp ⟨PP, Gl, 24, ann_earley_asked, h.length, none⟩ code_earley_asked (retPost PP Gl h res_earley_asked R) (initEnv args) h) : ACalls PP Gl 23 args h R :=
  acalls_of_code Try.func23 body_earley_asked comp_earley_asked resc_earley_asked hargs (Nat.le_trans hargs (by decide)) (codeWp_sound mixed hw)

def lp0_earley_newChart : ACode :=
 .seq (.reg [⟨(some 23), .bin .lss (.t 22) (.t 21), none, []⟩]) (
    .seq (.cond (.t 23) (.skip) (
     .exit 0)) (
    .seq (.block 1 (.seq (.reg [⟨(some 24), .mv (.t 22), none, []⟩,
         ⟨(some 25), .iaddr 4 (.t 20) (.t 22), none, []⟩,
         ⟨(some 26), .load (.agg 4) (.t 25), none, [1]⟩,
         ⟨(some 11), .pnew 4, none, []⟩,
         ⟨(some 10), .mv (.t 24), none, [0, 0, 1, 2, 3]⟩,
         ⟨none, .pstore 4 11 (.t 26), none, [3, 2, 4, 0, 1, 2, 3, 4]⟩]) (
      .seq (.reg [⟨(some 27), .mv (.t 3), none, []⟩,
         ⟨(some 28), .load (.agg 4) (.t 11), none, []⟩,
         ⟨(some 29), .call (.t 27) [(.t 28)], none, [0, 1]⟩]) (
      .cond (.t 29) (.dreg [(true, ⟨(some 30), .mv (.t 9), none, []⟩),
         (true, ⟨(some 31), .nilc (.t 30), none, [0]⟩),
         (true, ⟨(some 32), .faddr 2 .one (.t 31), none, [1]⟩),
         (true, ⟨(some 33), .load .one (.t 32), none, [2]⟩),
         (true, ⟨(some 34), .faddr 1 .one (.t 11), none, []⟩),
         (true, ⟨(some 35), .load .one (.t 34), none, [4]⟩),
         (true, ⟨(some 36), .mv (.t 9), none, []⟩),
         (true, ⟨(some 37), .nilc (.t 36), none, [6]⟩),
         (true, ⟨(some 38), .faddr 2 .one (.t 37), none, [7]⟩),
         (true, ⟨(some 39), .load .one (.t 38), none, [8]⟩),
         (true, ⟨(some 40), .faddr 1 .one (.t 11), none, []⟩),
         (true, ⟨(some 41), .load .one (.t 40), none, [10]⟩),
         (true, ⟨(some 42), .lookup .str (.sl 0 [] .nil) false (.t 39) (.t 41), none, [9, 11]⟩),
         (false, ⟨(some 43), .mv (.t 10), none, []⟩),
         (false, ⟨(some 44), .bslice 1 1 (.sc (.int .i64 0)) [(0, (.t 43))], none, [13]⟩),
         (false, ⟨(some 45), .append 1 8 (.t 42) (.t 44), none, [12, 14]⟩),
         (false, ⟨none, .mapUpd .str (.t 33) (.t 35) (.t 45), none, [3, 5, 15, 15, 0, 1, 2, 3, 4, 5, 6, 7, 8, 9, 10, 11, 12, 13, 14, 15]⟩)]) (
      .skip))))) (
    .reg [⟨(some 46), .bin .add (.t 22) (.c (.sc (.int .i64 1))), none, []⟩,
      ⟨(some 22), .mv (.t 46), none, [0]⟩])))
def lp1_earley_newChart : ACode :=
 .seq (.block 3 (.seq (.reg [⟨(some 54), .mv (.t 9), none, []⟩,
        ⟨(some 55), .mv (.t 12), none, []⟩,
        ⟨(some 56), .call (.c (.fn (.func 39) [] [])) [(.t 54), (.t 55)], none, [0, 1]⟩]) (
     .seq (.reg [⟨(some 57), .mv (.t 12), none, []⟩,
        ⟨(some 58), .mv (.t 2), none, []⟩,
        ⟨(some 59), .len .sl (.t 58), none, [1]⟩,
        ⟨(some 60), .bin .eql (.t 57) (.t 59), none, [0, 2]⟩,
        ⟨(some 61), .mv (.t 60), none, [3]⟩,
        ⟨(some 62), .mv (.t 9), (some (61, false)), [4]⟩,
        ⟨(some 63), .mv (.t 12), (some (61, false)), [4]⟩,
        ⟨(some 64), .call (.c (.fn (.func 40) [] [])) [(.t 62), (.t 63)], (some (61, false)), [5, 6, 4, 4]⟩,
        ⟨(some 65), .un .not (.t 64), (some (61, false)), [7, 4]⟩,
        ⟨(some 66), .pick (.t 61) (.c (.sc (.bool true))) (.t 65), none, [4, 8]⟩]) (
     .cond (.t 66) (.seq (.reg [⟨(some 67), .mv (.t 9), none, []⟩,
         ⟨(some 8), .mv (.t 67), none, [0, 0]⟩]) (
      .ret)) (
     .skip))))) (
   .reg [⟨(some 52), .mv (.t 12), none, []⟩,
     ⟨(some 53), .bin .add (.t 52) (.c (.sc (.int .i64 1))), none, [0]⟩,
     ⟨(some 12), .mv (.t 53), none, [1, 0, 1]⟩])
/-- apodixis/earley.newChart -/
def ann_earley_newChart : List Nat := [4, 11]
def code_earley_newChart : ACode :=
 .seq (.reg [⟨(some 4), .box (.t 0), none, []⟩,
    ⟨(some 8), .mv (.c (.sc (.pointer none))), none, []⟩]) (
 .seq (.reg [⟨(some 13), .load (.agg 2) (.t 4), none, []⟩,
    ⟨(some 14), .mkMap, none, []⟩,
    ⟨(some 15), .mv (.t 2), none, []⟩,
    ⟨(some 16), .mkMap, none, []⟩,
    ⟨(some 17), .build [(.sl 0 [] .nil), (.sl 0 [] .nil), (.sc (.map none)), (.sl 0 [] .nil), (.sl 0 [] .nil), (.sl 0 [] .nil), (.sc (.map none))] [(0, 2, (.t 13)), (2, 1, (.t 14)), (3, 1, (.t 15)), (6, 1, (.t 16))], none, [0, 1, 2, 3]⟩,
    ⟨(some 18), .boxm (.t 17), none, [4]⟩,
    ⟨(some 9), .mv (.t 18), none, [5, 0, 1, 2, 3, 4, 5]⟩]) (
 .seq (.seq (.reg [⟨(some 19), .faddr 1 .one (.t 4), none, []⟩,
     ⟨(some 20), .load .one (.t 19), none, [0]⟩,
     ⟨(some 21), .len .sl (.t 20), none, [1]⟩,
     ⟨(some 22), .mv (.c (.sc (.int .i64 0))), none, []⟩]) (
  .block 0 (.loop lp0_earley_newChart))) (
 .seq (.reg [⟨(some 47), .mv (.t 9), none, []⟩,
    ⟨(some 48), .call (.c (.fn (.func 37) [] [])) [(.t 47)], none, [0]⟩]) (
 .seq (.reg [⟨(some 49), .mv (.t 9), none, []⟩,
    ⟨(some 50), .mv (.t 1), none, []⟩,
    ⟨(some 51), .call (.c (.fn (.func 38) [] [])) [(.t 49), (.t 50), (.c (.sc (.int .i64 0)))], none, [0, 1]⟩]) (
 .seq (.reg [⟨(some 12), .mv (.c (.sc (.int .i64 0))), none, []⟩]) (
 .block 2 (.loop lp1_earley_newChart)))))))
def res_earley_newChart : List ResA := [.t 8]
theorem comp_earley_newChart : Try.f24.body.bind (compCode PP ann_earley_newChart 68) = some code_earley_newChart := by kernel_rfl
theorem resc_earley_newChart : mapM' (compRes PP) Try.f24.results.toList = some res_earley_newChart := by kernel_rfl
theorem body_earley_newChart : hasBody PP 24 = true := by kernel_rfl
theorem enter_earley_newChart {args : List AV} {h : AHeap} {R : AEnd → AHeap → Prop} (hargs : args.length ≤ 68) (hw : codeWp ⟨PP, Gl, 68, ann_earley_newChart, h.length, none⟩ code_earley_newChart (retPost PP Gl h res_earley_newChart R) (initEnv args) h) : ACalls PP Gl 24 args h R :=
  acalls_of_code Try.func24 body_earley_newChart comp_earley_newChart resc_earley_newChart hargs (Nat.le_trans hargs (by decide)) (codeWp_sound mixed hw)

/-- apodixis/earley.any -/
def ann_earley_any : List Nat := [1]
def code_earley_any : ACode :=
 .seq (.reg [⟨(some 1), .box (.t 0), none, []⟩,
    ⟨(some 2), .mv (.c (.sc (.bool false))), none, []⟩]) (
 .seq (.reg [⟨(some 2), .mv (.c (.sc (.bool true))), none, []⟩]) (
 .ret))
def res_earley_any : List ResA := [.t 2]
theorem comp_earley_any : Try.f25.body.bind (compCode PP ann_earley_any 3) = some code_earley_any := by kernel_rfl
theorem resc_earley_any : mapM' (compRes PP) Try.f25.results.toList = some res_earley_any := by kernel_rfl
theorem body_earley_any : hasBody PP 25 = true := by kernel_rfl
theorem enter_earley_any {args : List AV} {h : AHeap} {R : AEnd → AHeap → Prop} (hargs : args.length ≤ 3) (hw : codeWp ⟨PP, Gl, 3, ann_earley_any, h.length, none⟩ code_earley_any (retPost PP Gl h res_earley_any R) (initEnv args) h) : ACalls PP Gl 25 args h R :=
  acalls_of_code Try.func25 body_earley_any comp_earley_any resc_earley_any hargs (Nat.le_trans hargs (by decide)) (codeWp_sound mixed hw)

def ra0_earley_packer_pack : ACode :=
 .reg [⟨(some 13), .mv (.t 65), none, []⟩]
def lp0_earley_packer_pack : ACode :=
 .seq (.reg [⟨(some 71), .bin .lss (.t 70) (.t 69), none, []⟩]) (
                 .seq (.cond (.t 71) (.skip) (
                  .exit 6)) (
                 .seq (.block 7 (.seq (.reg [⟨(some 72), .iaddr 3 (.t 68) (.t 70), none, []⟩,
                      ⟨(some 73), .load (.agg 3) (.t 72), none, [0]⟩,
                      ⟨(some 16), .pnew 3, none, []⟩,
                      ⟨none, .pstore 3 16 (.t 73), none, [2, 1, 0, 1, 2]⟩]) (
                   .dreg [(true, ⟨(some 74), .faddr 1 .one (.t 14), none, []⟩),
                     (true, ⟨(some 75), .load .one (.t 74), none, [0]⟩),
                     (true, ⟨(some 76), .load .one (.t 2), none, []⟩),
                     (false, ⟨(some 77), .load (.agg 3) (.t 16), none, []⟩),
                     (false, ⟨(some 78), .call (.c (.fn (.func 41) [] [])) [(.t 76), (.t 77)], none, [2, 3]⟩),
                     (false, ⟨(some 79), .bslice 1 1 (.sc (.int .i64 0)) [(0, (.t 78))], none, [4]⟩),
                     (false, ⟨(some 80), .append 1 8 (.t 75) (.t 79), none, [1, 5, 4]⟩),
                     (false, ⟨(some 81), .faddr 1 .one (.t 14), none, [0, 1, 2, 3, 4, 5, 6]⟩),
                     (false, ⟨none, .store 1 (.t 81) (.t 80), none, [7, 6, 6, 0, 1, 2, 3, 4, 5, 6]⟩)]))) (
                 .reg [⟨(some 82), .bin .add (.t 70) (.c (.sc (.int .i64 1))), none, []⟩,
                   ⟨(some 70), .mv (.t 82), none, [0]⟩])))
def rb0_earley_packer_pack : ACode :=
 .block 5 (.seq (.reg [⟨(some 66), .load .one (.t 12), none, []⟩,
                 ⟨(some 67), .build [(.sc (.int .i64 0)), (.sl 0 [] .nil)] [(0, 1, (.t 66))], none, [0]⟩,
                 ⟨(some 14), .new [(.sc (.int .i64 0)), (.sl 0 [] .nil)], none, []⟩,
                 ⟨none, .store 2 (.t 14) (.t 67), none, [2, 1, 0, 1, 2]⟩]) (
              .seq (.seq (.reg [⟨(some 68), .mv (.t 13), none, []⟩,
                  ⟨(some 69), .len .sl (.t 68), none, [0]⟩,
                  ⟨(some 70), .mv (.c (.sc (.int .i64 0))), none, []⟩]) (
               .block 6 (.loop lp0_earley_packer_pack))) (
              .seq (.reg [⟨(some 83), .faddr 3 .one (.t 10), none, []⟩,
                 ⟨(some 84), .load .one (.t 83), none, [0]⟩,
                 ⟨(some 85), .load (.agg 2) (.t 14), none, []⟩,
                 ⟨(some 86), .bslice 2 1 (.agg [(.sc (.int .i64 0)), (.sl 0 [] .nil)]) [(0, (.t 85))], none, [2]⟩,
                 ⟨(some 87), .append 2 32 (.t 84) (.t 86), none, [1, 3]⟩,
                 ⟨(some 88), .faddr 3 .one (.t 10), none, [0, 1, 2, 3, 4]⟩,
                 ⟨none, .store 1 (.t 88) (.t 87), none, [5, 4, 4, 0, 1, 2, 3, 4]⟩]) (
              .seq (.reg [⟨(some 89), .load .one (.t 7), none, []⟩,
                 ⟨(some 90), .bin .add (.t 89) (.c (.sc (.int .i64 1))), none, [0]⟩,
                 ⟨none, .store 1 (.t 7) (.t 90), none, [1, 0, 1]⟩]) (
              .seq (.reg [⟨(some 91), .load .one (.t 7), none, []⟩,
                 ⟨(some 92), .bin .gtr (.t 91) (.c (.sc (.int .i64 40000))), none, [0]⟩,
                 ⟨(some 93), .mv (.t 92), none, [1]⟩,
                 ⟨(some 94), .load .one (.t 2), (some (93, false)), [2]⟩,
                 ⟨(some 95), .nilc (.t 94), (some (93, false)), [3, 2]⟩,
                 ⟨(some 96), .faddr 2 .one (.t 95), (some (93, false)), [4, 2]⟩,
                 ⟨(some 97), .load .one (.t 96), (some (93, false)), [5, 2]⟩,
                 ⟨(some 98), .len .sl (.t 97), (some (93, false)), [6, 2]⟩,
                 ⟨(some 99), .bin .gtr (.t 98) (.c (.sc (.int .i64 4000))), (some (93, false)), [7, 2]⟩,
                 ⟨(some 100), .pick (.t 93) (.c (.sc (.bool true))) (.t 99), none, [2, 8]⟩]) (
              .cond (.t 100) (.seq (.reg [⟨(some 101), .build [(.sl 0 [] .nil)] [], none, []⟩,
                  ⟨none, .store 1 (.t 4) (.t 101), none, [0, 0]⟩,
                  ⟨none, .store 1 (.t 5) (.c (.sc (.bool false))), none, [1, 0, 1]⟩]) (
               .ret)) (
              .skip)))))))
def lp2_earley_packer_pack : ACode :=
 .seq (.reg [⟨(some 55), .bin .lss (.t 54) (.t 53), none, []⟩]) (
         .seq (.cond (.t 55) (.skip) (
          .exit 2)) (
         .seq (.block 3 (.seq (.reg [⟨(some 56), .iaddr 1 (.t 52) (.t 54), none, []⟩,
              ⟨(some 57), .load .one (.t 56), none, [0]⟩,
              ⟨(some 12), .pnew 1, none, []⟩,
              ⟨none, .pstore 1 12 (.t 57), none, [2, 1, 0, 1, 2]⟩]) (
           .seq (.reg [⟨(some 58), .load .one (.t 2), none, []⟩,
              ⟨(some 59), .load .one (.t 12), none, []⟩,
              ⟨(some 60), .faddr 1 .one (.t 9), none, []⟩,
              ⟨(some 61), .load .one (.t 60), none, [2]⟩,
              ⟨(some 62), .faddr 2 .one (.t 9), none, []⟩,
              ⟨(some 63), .load .one (.t 62), none, [4]⟩,
              ⟨(some 64), .call (.c (.fn (.func 42) [] [])) [(.t 58), (.t 59), (.t 61), (.t 63)], none, [0, 1, 3, 5]⟩]) (
           .block 4 (.rangeF (.t 64) [65] ra0_earley_packer_pack rb0_earley_packer_pack))))) (
         .reg [⟨(some 102), .bin .add (.t 54) (.c (.sc (.int .i64 1))), none, []⟩,
           ⟨(some 54), .mv (.t 102), none, [0]⟩])))
def lp1_earley_packer_pack : ACode :=
 .seq (.seq (.reg [⟨(some 20), .mv (.t 8), none, []⟩,
        ⟨(some 21), .load .one (.t 2), none, []⟩,
        ⟨(some 22), .nilc (.t 21), none, [1]⟩,
        ⟨(some 23), .faddr 2 .one (.t 22), none, [2]⟩,
        ⟨(some 24), .load .one (.t 23), none, [3]⟩,
        ⟨(some 25), .len .sl (.t 24), none, [4]⟩,
        ⟨(some 26), .bin .lss (.t 20) (.t 25), none, [0, 5]⟩]) (
     .cond (.t 26) (.skip) (
     .exit 0))) (
    .seq (.block 1 (.seq (.reg [⟨(some 29), .load .one (.t 2), none, []⟩,
         ⟨(some 30), .nilc (.t 29), none, [0]⟩,
         ⟨(some 31), .faddr 2 .one (.t 30), none, [1]⟩,
         ⟨(some 32), .load .one (.t 31), none, [2]⟩,
         ⟨(some 33), .mv (.t 8), none, []⟩,
         ⟨(some 34), .iaddr 3 (.t 32) (.t 33), none, [3, 4]⟩,
         ⟨(some 35), .load (.agg 3) (.t 34), none, [5]⟩,
         ⟨(some 9), .pnew 3, none, []⟩,
         ⟨none, .pstore 3 9 (.t 35), none, [7, 6, 0, 1, 2, 3, 4, 5, 6, 7]⟩]) (
      .seq (.reg [⟨(some 36), .faddr 0 .one (.t 9), none, []⟩,
         ⟨(some 37), .load .one (.t 36), none, [0]⟩,
         ⟨(some 38), .faddr 1 .one (.t 9), none, []⟩,
         ⟨(some 39), .load .one (.t 38), none, [2]⟩,
         ⟨(some 40), .faddr 2 .one (.t 9), none, []⟩,
         ⟨(some 41), .load .one (.t 40), none, [4]⟩,
         ⟨(some 42), .build [(.sc (.string ⟨#[]⟩)), (.sc (.int .i64 0)), (.sc (.int .i64 0)), (.sl 0 [] .nil)] [(0, 1, (.t 37)), (1, 1, (.t 39)), (2, 1, (.t 41))], none, [1, 3, 5]⟩,
         ⟨(some 10), .new [(.sc (.string ⟨#[]⟩)), (.sc (.int .i64 0)), (.sc (.int .i64 0)), (.sl 0 [] .nil)], none, []⟩,
         ⟨none, .store 4 (.t 10) (.t 42), none, [7, 6, 0, 1, 2, 3, 4, 5, 6, 7]⟩]) (
      .seq (.seq (.dreg [(true, ⟨(some 43), .load .one (.t 2), none, []⟩),
          (true, ⟨(some 44), .nilc (.t 43), none, [0]⟩),
          (true, ⟨(some 45), .faddr 0 .one (.t 44), none, [1]⟩),
          (true, ⟨(some 46), .load .one (.t 45), none, [2]⟩),
          (true, ⟨(some 47), .nilc (.t 46), none, [3]⟩),
          (true, ⟨(some 48), .faddr 2 .one (.t 47), none, [4]⟩),
          (true, ⟨(some 49), .load .one (.t 48), none, [5]⟩),
          (true, ⟨(some 50), .faddr 0 .one (.t 9), none, []⟩),
          (true, ⟨(some 51), .load .one (.t 50), none, [7]⟩),
          (true, ⟨(some 52), .lookup .str (.sl 0 [] .nil) false (.t 49) (.t 51), none, [6, 8]⟩),
          (true, ⟨(some 53), .len .sl (.t 52), none, [9]⟩),
          (false, ⟨(some 54), .mv (.c (.sc (.int .i64 0))), none, []⟩)]) (
       .block 2 (.loop lp2_earley_packer_pack))) (
      .reg [⟨(some 103), .faddr 0 .one (.t 6), none, []⟩,
        ⟨(some 104), .load .one (.t 103), none, [0]⟩,
        ⟨(some 105), .load (.agg 4) (.t 10), none, []⟩,
        ⟨(some 106), .bslice 4 1 (.agg [(.sc (.string ⟨#[]⟩)), (.sc (.int .i64 0)), (.sc (.int .i64 0)), (.sl 0 [] .nil)]) [(0, (.t 105))], none, [2]⟩,
        ⟨(some 107), .append 4 56 (.t 104) (.t 106), none, [1, 3]⟩,
        ⟨(some 108), .faddr 0 .one (.t 6), none, [0, 1, 2, 3, 4]⟩,
        ⟨none, .store 1 (.t 108) (.t 107), none, [5, 4, 4, 0, 1, 2, 3, 4]⟩]))))) (
    .reg [⟨(some 27), .mv (.t 8), none, []⟩,
      ⟨(some 28), .bin .add (.t 27) (.c (.sc (.int .i64 1))), none, [0]⟩,
      ⟨(some 8), .mv (.t 28), none, [1, 0, 1]⟩]))
/-- (*apodixis/earley.packer).pack -/
def ann_earley_packer_pack : List Nat := [2, 3, 9, 12, 16]
def code_earley_packer_pack : ACode :=
 .seq (.reg [⟨(some 2), .box (.t 0), none, []⟩,
    ⟨(some 3), .box (.t 1), none, []⟩,
    ⟨(some 4), .new [(.sl 0 [] .nil)], none, []⟩,
    ⟨(some 5), .new [(.sc (.bool false))], none, []⟩]) (
 .seq (.reg [⟨(some 6), .new [(.sl 0 [] .nil)], none, []⟩]) (
 .seq (.reg [⟨(some 17), .load .one (.t 2), none, []⟩,
    ⟨(some 18), .load (.agg 3) (.t 3), none, []⟩,
    ⟨(some 19), .call (.c (.fn (.func 41) [] [])) [(.t 17), (.t 18)], none, [0, 1]⟩]) (
 .seq (.reg [⟨(some 7), .new [(.sc (.int .i64 0))], none, []⟩,
    ⟨none, .store 1 (.t 7) (.c (.sc (.int .i64 0))), none, [0, 0]⟩]) (
 .seq (.seq (.reg [⟨(some 8), .mv (.c (.sc (.int .i64 0))), none, []⟩]) (
  .block 0 (.loop lp1_earley_packer_pack))) (
 .seq (.reg [⟨(some 109), .load (.agg 1) (.t 6), none, []⟩,
    ⟨none, .store 1 (.t 4) (.t 109), none, [0, 0]⟩,
    ⟨none, .store 1 (.t 5) (.c (.sc (.bool true))), none, [1, 0, 1]⟩]) (
 .ret))))))
def res_earley_packer_pack : List ResA := [.cell 4 (.agg 1), .cell 5 .one]
theorem comp_earley_packer_pack : Try.f26.body.bind (compCode PP ann_earley_packer_pack 110) = some code_earley_packer_pack := by kernel_rfl
theorem resc_earley_packer_pack : mapM' (compRes PP) Try.f26.results.toList = some res_earley_packer_pack := by kernel_rfl
theorem body_earley_packer_pack : hasBody PP 26 = true := by kernel_rfl
theorem enter_earley_packer_pack {args : List AV} {h : AHeap} {R : AEnd → AHeap → Prop} (hargs : args.length ≤ 110) (hw : codeWp ⟨PP, Gl, 110, ann_earley_packer_pack, h.length, none⟩ code_earley_packer_pack (retPost PP Gl h res_earley_packer_pack R) (initEnv args) h) : ACalls PP Gl 26 args h R :=
  acalls_of_code Try.func26 body_earley_packer_pack comp_earley_packer_pack resc_earley_packer_pack hargs (Nat.le_trans hargs (by decide)) (codeWp_sound mixed hw)

def lp2_earley_counted : ACode :=
 .seq (.reg [⟨(some 33), .bin .lss (.t 32) (.t 31), none, []⟩]) (
            .seq (.cond (.t 33) (.skip) (
             .exit 4)) (
            .seq (.block 5 (.seq (.reg [⟨(some 34), .iaddr 1 (.t 30) (.t 32), none, []⟩,
                 ⟨(some 35), .load .one (.t 34), none, [0]⟩,
                 ⟨(some 9), .mv (.t 35), none, [1, 0, 1]⟩]) (
              .seq (.reg [⟨(some 36), .mv (.t 9), none, []⟩,
                 ⟨(some 37), .bin .lss (.t 36) (.c (.sc (.int .i64 0))), none, [0]⟩,
                 ⟨(some 38), .mv (.t 37), none, [1]⟩,
                 ⟨(some 39), .mv (.t 9), (some (38, false)), [2]⟩,
                 ⟨(some 40), .faddr 0 .one (.t 1), (some (38, false)), [2]⟩,
                 ⟨(some 41), .load .one (.t 40), (some (38, false)), [4, 2]⟩,
                 ⟨(some 42), .len .sl (.t 41), (some (38, false)), [5, 2]⟩,
                 ⟨(some 43), .bin .geq (.t 39) (.t 42), (some (38, false)), [3, 6, 2]⟩,
                 ⟨(some 44), .pick (.t 38) (.c (.sc (.bool true))) (.t 43), none, [2, 7]⟩]) (
              .cond (.t 44) (.seq (.reg [⟨(some 2), .mv (.c (.sc (.pointer none))), none, []⟩,
                  ⟨(some 3), .mv (.c (.sc (.int .i64 2))), none, [0, 0]⟩]) (
               .ret)) (
              .skip))))) (
            .reg [⟨(some 45), .bin .add (.t 32) (.c (.sc (.int .i64 1))), none, []⟩,
              ⟨(some 32), .mv (.t 45), none, [0]⟩])))
def lp1_earley_counted : ACode :=
 .seq (.reg [⟨(some 26), .bin .lss (.t 25) (.t 24), none, []⟩]) (
        .seq (.cond (.t 26) (.skip) (
         .exit 2)) (
        .seq (.block 3 (.seq (.reg [⟨(some 27), .iaddr 2 (.t 23) (.t 25), none, []⟩,
             ⟨(some 28), .load (.agg 2) (.t 27), none, [0]⟩,
             ⟨(some 7), .pnew 2, none, []⟩,
             ⟨none, .pstore 2 7 (.t 28), none, [2, 1, 0, 1, 2]⟩]) (
          .seq (.reg [⟨(some 29), .faddr 1 .one (.t 7), none, []⟩,
             ⟨(some 30), .load .one (.t 29), none, [0]⟩,
             ⟨(some 31), .len .sl (.t 30), none, [1]⟩,
             ⟨(some 32), .mv (.c (.sc (.int .i64 0))), none, []⟩]) (
          .block 4 (.loop lp2_earley_counted))))) (
        .reg [⟨(some 46), .bin .add (.t 25) (.c (.sc (.int .i64 1))), none, []⟩,
          ⟨(some 25), .mv (.t 46), none, [0]⟩])))
def lp0_earley_counted : ACode :=
 .seq (.reg [⟨(some 19), .bin .lss (.t 18) (.t 17), none, []⟩]) (
    .seq (.cond (.t 19) (.skip) (
     .exit 0)) (
    .seq (.block 1 (.seq (.reg [⟨(some 20), .iaddr 4 (.t 16) (.t 18), none, []⟩,
         ⟨(some 21), .load (.agg 4) (.t 20), none, [0]⟩,
         ⟨(some 5), .pnew 4, none, []⟩,
         ⟨none, .pstore 4 5 (.t 21), none, [2, 1, 0, 1, 2]⟩]) (
      .seq (.reg [⟨(some 22), .faddr 3 .one (.t 5), none, []⟩,
         ⟨(some 23), .load .one (.t 22), none, [0]⟩,
         ⟨(some 24), .len .sl (.t 23), none, [1]⟩,
         ⟨(some 25), .mv (.c (.sc (.int .i64 0))), none, []⟩]) (
      .block 2 (.loop lp1_earley_counted))))) (
    .reg [⟨(some 47), .bin .add (.t 18) (.c (.sc (.int .i64 1))), none, []⟩,
      ⟨(some 18), .mv (.t 47), none, [0]⟩])))
/-- apodixis/earley.counted -/
def ann_earley_counted : List Nat := [1, 5, 7]
def code_earley_counted : ACode :=
 .seq (.reg [⟨(some 1), .box (.t 0), none, []⟩,
    ⟨(some 2), .mv (.c (.sc (.pointer none))), none, []⟩,
    ⟨(some 3), .mv (.c (.sc (.int .i64 0))), none, [1]⟩]) (
 .seq (.seq (.reg [⟨(some 11), .faddr 0 .one (.t 1), none, []⟩,
     ⟨(some 12), .load .one (.t 11), none, [0]⟩,
     ⟨(some 13), .len .sl (.t 12), none, [1]⟩,
     ⟨(some 14), .bin .eql (.t 13) (.c (.sc (.int .i64 0))), none, [2]⟩]) (
  .cond (.t 14) (.seq (.reg [⟨(some 2), .mv (.c (.sc (.pointer none))), none, []⟩,
      ⟨(some 3), .mv (.c (.sc (.int .i64 2))), none, [0, 0]⟩]) (
   .ret)) (
  .skip))) (
 .seq (.seq (.reg [⟨(some 15), .faddr 0 .one (.t 1), none, []⟩,
     ⟨(some 16), .load .one (.t 15), none, [0]⟩,
     ⟨(some 17), .len .sl (.t 16), none, [1]⟩,
     ⟨(some 18), .mv (.c (.sc (.int .i64 0))), none, []⟩]) (
  .block 0 (.loop lp0_earley_counted))) (
 .seq (.dreg [(true, ⟨(some 48), .load (.agg 1) (.t 1), none, []⟩),
    (true, ⟨(some 49), .faddr 0 .one (.t 1), none, []⟩),
    (true, ⟨(some 50), .load .one (.t 49), none, [1]⟩),
    (true, ⟨(some 51), .len .sl (.t 50), none, [2]⟩),
    (true, ⟨(some 53), .faddr 0 .one (.t 1), none, []⟩),
    (true, ⟨(some 54), .load .one (.t 53), none, [5]⟩),
    (true, ⟨(some 55), .len .sl (.t 54), none, [6]⟩),
    (true, ⟨(some 52), .mkSlice 1 8 [(.sc (.int .i64 0))] (.t 51) (.t 51), none, [3, 3]⟩),
    (false, ⟨(some 56), .mkSlice 1 8 [(.sc (.int .i64 0))] (.t 55) (.t 55), none, [7, 7]⟩),
    (false, ⟨(some 57), .build [(.sl 0 [] .nil), (.sl 0 [] .nil), (.sl 0 [] .nil)] [(0, 1, (.t 48)), (1, 1, (.t 52)), (2, 1, (.t 56))], none, [0, 4, 8]⟩),
    (false, ⟨(some 58), .boxm (.t 57), none, [9]⟩),
    (false, ⟨(some 10), .mv (.t 58), none, [10, 0, 1, 2, 3, 4, 5, 6, 7, 8, 9, 10]⟩)]) (
 .seq (.seq (.reg [⟨(some 59), .mv (.t 10), none, []⟩,
     ⟨(some 60), .call (.c (.fn (.func 43) [] [])) [(.t 59), (.c (.sc (.int .i64 0)))], none, [0]⟩,
     ⟨(some 61), .un .not (.t 60), none, [1]⟩]) (
  .cond (.t 61) (.seq (.reg [⟨(some 2), .mv (.c (.sc (.pointer none))), none, []⟩,
      ⟨(some 3), .mv (.c (.sc (.int .i64 161))), none, [0, 0]⟩]) (
   .ret)) (
  .skip))) (
 .seq (.reg [⟨(some 62), .mv (.t 10), none, []⟩,
    ⟨(some 2), .mv (.t 62), none, [0, 0]⟩,
    ⟨(some 3), .mv (.c (.sc (.int .i64 0))), none, [1, 0, 1]⟩]) (
 .ret))))))
def res_earley_counted : List ResA := [.t 2, .t 3]
theorem comp_earley_counted : Try.f27.body.bind (compCode PP ann_earley_counted 63) = some code_earley_counted := by kernel_rfl
theorem resc_earley_counted : mapM' (compRes PP) Try.f27.results.toList = some res_earley_counted := by kernel_rfl
theorem body_earley_counted : hasBody PP 27 = true := by kernel_rfl
theorem enter_earley_counted {args : List AV} {h : AHeap} {R : AEnd → AHeap → Prop} (hargs : args.length ≤ 63) (hw : codeWp ⟨PP, Gl, 63, ann_earley_counted, h.length, none⟩ code_earley_counted (retPost PP Gl h res_earley_counted R) (initEnv args) h) : ACalls PP Gl 27 args h R :=
  acalls_of_code Try.func27 body_earley_counted comp_earley_counted resc_earley_counted hargs (Nat.le_trans hargs (by decide)) (codeWp_sound mixed hw)

def lp0_grammar_Check : ACode :=
 .seq (.reg [⟨(some 30), .bin .lss (.t 29) (.t 28), none, []⟩]) (
    .seq (.cond (.t 30) (.skip) (
     .exit 0)) (
    .seq (.block 1 (.seq (.reg [⟨(some 31), .iaddr 1 (.t 27) (.t 29), none, []⟩,
         ⟨(some 32), .load .one (.t 31), none, [0]⟩,
         ⟨(some 6), .mv (.t 32), none, [1, 0, 1]⟩]) (
      .seq (.seq (.reg [⟨(some 33), .mv (.t 6), none, []⟩,
          ⟨(some 34), .call (.c (.fn (.func 46) [] [])) [(.t 33)], none, [0]⟩,
          ⟨(some 35), .un .not (.t 34), none, [1]⟩,
          ⟨(some 36), .mv (.t 35), none, [2, 1]⟩,
          ⟨(some 37), .mv (.t 4), (some (36, false)), [3]⟩,
          ⟨(some 38), .mv (.t 6), (some (36, false)), [3]⟩,
          ⟨(some 39), .lookup .str (.sc (.bool false)) false (.t 37) (.t 38), (some (36, false)), [4, 5, 3]⟩,
          ⟨(some 40), .pick (.t 36) (.c (.sc (.bool true))) (.t 39), none, [3, 6]⟩]) (
       .cond (.t 40) (.seq (.reg [⟨(some 2), .mv (.c (.sc (.int .i64 151))), none, []⟩]) (
        .ret)) (
       .skip))) (
      .reg [⟨(some 41), .mv (.t 4), none, []⟩,
        ⟨(some 42), .mv (.t 6), none, []⟩,
        ⟨none, .mapUpd .str (.t 41) (.t 42) (.c (.sc (.bool true))), none, [0, 1, 0, 1]⟩])))) (
    .reg [⟨(some 43), .bin .add (.t 29) (.c (.sc (.int .i64 1))), none, []⟩,
      ⟨(some 29), .mv (.t 43), none, [0]⟩])))
def lp1_grammar_Check : ACode :=
 .seq (.reg [⟨(some 49), .bin .lss (.t 48) (.t 47), none, []⟩]) (
    .seq (.cond (.t 49) (.skip) (
     .exit 2)) (
    .seq (.block 3 (.seq (.reg [⟨(some 50), .iaddr 4 (.t 46) (.t 48), none, []⟩,
         ⟨(some 51), .load (.agg 4) (.t 50), none, [0]⟩,
         ⟨(some 8), .pnew 4, none, []⟩,
         ⟨none, .pstore 4 8 (.t 51), none, [2, 1, 0, 1, 2]⟩]) (
      .seq (.seq (.reg [⟨(some 52), .load (.agg 4) (.t 8), none, []⟩,
          ⟨(some 53), .load (.agg 2) (.t 1), none, []⟩,
          ⟨(some 54), .call (.c (.fn (.func 47) [] [])) [(.t 52), (.t 53)], none, [0, 1]⟩,
          ⟨(some 55), .un .not (.t 54), none, [2]⟩,
          ⟨(some 56), .mv (.t 55), none, [3, 2]⟩,
          ⟨(some 57), .mv (.t 4), (some (56, false)), [4]⟩,
          ⟨(some 58), .faddr 0 .one (.t 8), (some (56, false)), [4]⟩,
          ⟨(some 59), .load .one (.t 58), (some (56, false)), [6, 4]⟩,
          ⟨(some 60), .lookup .str (.sc (.bool false)) false (.t 57) (.t 59), (some (56, false)), [5, 7, 4]⟩,
          ⟨(some 61), .pick (.t 56) (.c (.sc (.bool true))) (.t 60), none, [4, 8]⟩]) (
       .cond (.t 61) (.seq (.reg [⟨(some 2), .mv (.c (.sc (.int .i64 151))), none, []⟩]) (
        .ret)) (
       .skip))) (
      .reg [⟨(some 62), .mv (.t 4), none, []⟩,
        ⟨(some 63), .faddr 0 .one (.t 8), none, []⟩,
        ⟨(some 64), .load .one (.t 63), none, [1]⟩,
        ⟨none, .mapUpd .str (.t 62) (.t 64) (.c (.sc (.bool true))), none, [0, 2, 0, 1, 2]⟩])))) (
    .reg [⟨(some 65), .bin .add (.t 48) (.c (.sc (.int .i64 1))), none, []⟩,
      ⟨(some 48), .mv (.t 65), none, [0]⟩])))
/-- apodixis/grammar.Check -/
def ann_grammar_Check : List Nat := [1, 8]
def code_grammar_Check : ACode :=
 .seq (.reg [⟨(some 1), .box (.t 0), none, []⟩,
    ⟨(some 2), .mv (.c (.sc (.int .i64 0))), none, []⟩]) (
 .seq (.reg [⟨(some 3), .mv (.c (.fn (.func 44) [] [])), none, []⟩]) (
 .seq (.seq (.reg [⟨(some 9), .faddr 0 .one (.t 1), none, []⟩,
     ⟨(some 10), .load .one (.t 9), none, [0]⟩,
     ⟨(some 11), .len .sl (.t 10), none, [1]⟩,
     ⟨(some 12), .bin .gtr (.t 11) (.c (.sc (.int .i64 32))), none, [2]⟩,
     ⟨(some 13), .mv (.t 12), none, [3]⟩,
     ⟨(some 14), .faddr 1 .one (.t 1), (some (13, false)), [4]⟩,
     ⟨(some 15), .load .one (.t 14), (some (13, false)), [5, 4]⟩,
     ⟨(some 16), .len .sl (.t 15), (some (13, false)), [6, 4]⟩,
     ⟨(some 17), .bin .gtr (.t 16) (.c (.sc (.int .i64 600))), (some (13, false)), [7, 4]⟩,
     ⟨(some 18), .pick (.t 13) (.c (.sc (.bool true))) (.t 17), none, [4, 8]⟩,
     ⟨(some 19), .mv (.t 18), none, [9, 4]⟩,
     ⟨(some 20), .faddr 1 .one (.t 1), (some (19, false)), [10]⟩,
     ⟨(some 21), .load .one (.t 20), (some (19, false)), [11, 10]⟩,
     ⟨(some 22), .mv (.t 3), (some (19, false)), [10]⟩,
     ⟨(some 23), .call (.c (.fn (.func 45) [] [])) [(.t 21), (.t 22)], (some (19, false)), [12, 13, 10, 10]⟩,
     ⟨(some 24), .pick (.t 19) (.c (.sc (.bool true))) (.t 23), none, [10, 14]⟩]) (
  .cond (.t 24) (.seq (.reg [⟨(some 2), .mv (.c (.sc (.int .i64 4))), none, []⟩]) (
   .ret)) (
  .skip))) (
 .seq (.reg [⟨(some 25), .mkMap, none, []⟩,
    ⟨(some 4), .mv (.t 25), none, [0, 0]⟩]) (
 .seq (.seq (.reg [⟨(some 26), .faddr 0 .one (.t 1), none, []⟩,
     ⟨(some 27), .load .one (.t 26), none, [0]⟩,
     ⟨(some 28), .len .sl (.t 27), none, [1]⟩,
     ⟨(some 29), .mv (.c (.sc (.int .i64 0))), none, []⟩]) (
  .block 0 (.loop lp0_grammar_Check))) (
 .seq (.reg [⟨(some 44), .mv (.t 4), none, []⟩,
    ⟨none, .clearM (.t 44), none, [0]⟩]) (
 .seq (.seq (.reg [⟨(some 45), .faddr 1 .one (.t 1), none, []⟩,
     ⟨(some 46), .load .one (.t 45), none, [0]⟩,
     ⟨(some 47), .len .sl (.t 46), none, [1]⟩,
     ⟨(some 48), .mv (.c (.sc (.int .i64 0))), none, []⟩]) (
  .block 2 (.loop lp1_grammar_Check))) (
 .seq (.reg [⟨(some 2), .mv (.c (.sc (.int .i64 0))), none, []⟩]) (
 .ret))))))))
def res_grammar_Check : List ResA := [.t 2]
theorem comp_grammar_Check : Try.f28.body.bind (compCode PP ann_grammar_Check 66) = some code_grammar_Check := by kernel_rfl
theorem resc_grammar_Check : mapM' (compRes PP) Try.f28.results.toList = some res_grammar_Check := by kernel_rfl
theorem body_grammar_Check : hasBody PP 28 = true := by kernel_rfl
theorem enter_grammar_Check {args : List AV} {h : AHeap} {R : AEnd → AHeap → Prop} (hargs : args.length ≤ 66) (hw : codeWp ⟨PP, Gl, 66, ann_grammar_Check, h.length, none⟩ code_grammar_Check (retPost PP Gl h res_grammar_Check R) (initEnv args) h) : ACalls PP Gl 28 args h R :=
  acalls_of_code Try.func28 body_grammar_Check comp_grammar_Check resc_grammar_Check hargs (Nat.le_trans hargs (by decide)) (codeWp_sound mixed hw)

def lp0_earley_size : ACode :=
 .seq (.reg [⟨(some 15), .bin .lss (.t 14) (.t 13), none, []⟩]) (
    .seq (.cond (.t 15) (.skip) (
     .exit 0)) (
    .seq (.block 1 (.seq (.reg [⟨(some 16), .iaddr 2 (.t 12) (.t 14), none, []⟩,
         ⟨(some 17), .load (.agg 2) (.t 16), none, [0]⟩,
         ⟨(some 7), .pnew 2, none, []⟩,
         ⟨none, .pstore 2 7 (.t 17), none, [2, 1, 0, 1, 2]⟩]) (
      .seq (.seq (.reg [⟨(some 18), .mv (.t 4), none, []⟩,
          ⟨(some 19), .bin .gtr (.t 18) (.c (.sc (.int .i64 4000))), none, [0]⟩]) (
       .cond (.t 19) (.exit 0) (
       .skip))) (
      .seq (.reg [⟨(some 21), .load (.agg 2) (.t 7), none, []⟩,
         ⟨(some 22), .mv (.t 1), none, []⟩,
         ⟨(some 23), .bin .add (.t 22) (.c (.sc (.int .i64 1))), none, [1]⟩,
         ⟨(some 24), .call (.c (.fn (.func 29) [] [])) [(.t 21), (.t 23)], none, [0, 2]⟩,
         ⟨(some 20), .mv (.t 24), none, [3]⟩,
         ⟨(some 25), .extract (.t 20) 0, none, [4]⟩,
         ⟨(some 26), .extract (.t 20) 1, none, [4]⟩,
         ⟨(some 8), .mv (.t 25), none, [5, 3, 0, 1, 2, 3, 4, 5]⟩,
         ⟨(some 9), .mv (.t 26), none, [6, 7, 0, 1, 2, 3, 4, 5, 6, 7]⟩]) (
      .reg [⟨(some 27), .mv (.t 4), none, []⟩,
        ⟨(some 28), .mv (.t 8), none, []⟩,
        ⟨(some 29), .bin .add (.t 27) (.t 28), none, [0, 1]⟩,
        ⟨(some 30), .mv (.t 5), none, []⟩,
        ⟨(some 31), .mv (.t 9), none, []⟩,
        ⟨(some 32), .mx true (.t 30) (.t 31), none, [3, 4]⟩,
        ⟨(some 4), .mv (.t 29), none, [2, 0, 1, 2]⟩,
        ⟨(some 5), .mv (.t 32), none, [5, 6, 0, 1, 2, 3, 4, 5, 6]⟩]))))) (
    .reg [⟨(some 33), .bin .add (.t 14) (.c (.sc (.int .i64 1))), none, []⟩,
      ⟨(some 14), .mv (.t 33), none, [0]⟩])))
/-- apodixis/earley.size -/
def ann_earley_size : List Nat := [2, 7]
def code_earley_size : ACode :=
 .seq (.reg [⟨(some 2), .box (.t 0), none, []⟩,
    ⟨(some 4), .mv (.c (.sc (.int .i64 0))), none, []⟩,
    ⟨(some 5), .mv (.c (.sc (.int .i64 0))), none, [1]⟩]) (
 .seq (.reg [⟨(some 10), .mv (.t 1), none, []⟩,
    ⟨(some 4), .mv (.c (.sc (.int .i64 1))), none, []⟩,
    ⟨(some 5), .mv (.t 10), none, [0, 1, 0, 1]⟩]) (
 .seq (.seq (.reg [⟨(some 11), .faddr 1 .one (.t 2), none, []⟩,
     ⟨(some 12), .load .one (.t 11), none, [0]⟩,
     ⟨(some 13), .len .sl (.t 12), none, [1]⟩,
     ⟨(some 14), .mv (.c (.sc (.int .i64 0))), none, []⟩]) (
  .block 0 (.loop lp0_earley_size))) (
 .seq (.reg [⟨(some 34), .mv (.t 4), none, []⟩,
    ⟨(some 35), .mv (.t 5), none, []⟩,
    ⟨(some 4), .mv (.t 34), none, [0, 0]⟩,
    ⟨(some 5), .mv (.t 35), none, [1, 2, 0, 1, 2]⟩]) (
 .ret))))
def res_earley_size : List ResA := [.t 4, .t 5]
theorem comp_earley_size : Try.f29.body.bind (compCode PP ann_earley_size 36) = some code_earley_size := by kernel_rfl
theorem resc_earley_size : mapM' (compRes PP) Try.f29.results.toList = some res_earley_size := by kernel_rfl
theorem body_earley_size : hasBody PP 29 = true := by kernel_rfl
theorem enter_earley_size {args : List AV} {h : AHeap} {R : AEnd → AHeap → Prop} (hargs : args.length ≤ 36) (hw : codeWp ⟨PP, Gl, 36, ann_earley_size, h.length, none⟩ code_earley_size (retPost PP Gl h res_earley_size R) (initEnv args) h) : ACalls PP Gl 29 args h R :=
  acalls_of_code Try.func29 body_earley_size comp_earley_size resc_earley_size hargs (Nat.le_trans hargs (by decide)) (codeWp_sound mixed hw)

def lp0_earley_speller_formed : ACode :=
 .seq (.reg [⟨(some 25), .bin .lss (.t 24) (.t 23), none, []⟩]) (
    .seq (.cond (.t 25) (.skip) (
     .exit 0)) (
    .seq (.block 1 (.seq (.reg [⟨(some 26), .iaddr 3 (.t 22) (.t 24), none, []⟩,
         ⟨(some 27), .load (.agg 3) (.t 26), none, [0]⟩,
         ⟨(some 9), .pnew 3, none, []⟩,
         ⟨none, .pstore 3 9 (.t 27), none, [2, 1, 0, 1, 2]⟩]) (
      .seq (.seq (.reg [⟨(some 28), .faddr 1 .one (.t 9), none, []⟩,
          ⟨(some 29), .load .one (.t 28), none, [0]⟩,
          ⟨(some 30), .bin .eql (.t 29) (.c (.sc (.string ⟨#[]⟩))), none, [1]⟩]) (
       .cond (.t 30) (.exit 1) (
       .skip))) (
      .seq (.reg [⟨(some 31), .mv (.t 7), none, []⟩,
         ⟨(some 32), .bin .add (.t 31) (.c (.sc (.int .i64 1))), none, [0]⟩,
         ⟨(some 7), .mv (.t 32), none, [1, 0, 1]⟩]) (
      .seq (.seq (.reg [⟨(some 33), .faddr 2 .one (.t 9), none, []⟩,
          ⟨(some 34), .load .one (.t 33), none, [0]⟩,
          ⟨(some 35), .faddr 1 .one (.t 3), none, []⟩,
          ⟨(some 36), .load .one (.t 35), none, [2]⟩,
          ⟨(some 37), .len .sl (.t 36), none, [3]⟩,
          ⟨(some 38), .bin .geq (.t 34) (.t 37), none, [1, 4]⟩]) (
       .cond (.t 38) (.seq (.reg [⟨(some 4), .mv (.c (.sc (.bool false))), none, []⟩]) (
        .ret)) (
       .skip))) (
      .seq (.reg [⟨(some 40), .mv (.t 0), none, []⟩,
         ⟨(some 41), .faddr 1 .one (.t 3), none, []⟩,
         ⟨(some 42), .load .one (.t 41), none, [1]⟩,
         ⟨(some 43), .faddr 2 .one (.t 9), none, []⟩,
         ⟨(some 44), .load .one (.t 43), none, [3]⟩,
         ⟨(some 45), .iaddr 2 (.t 42) (.t 44), none, [2, 4]⟩,
         ⟨(some 46), .faddr 0 .one (.t 45), none, [5]⟩,
         ⟨(some 47), .load .one (.t 46), none, [6]⟩,
         ⟨(some 48), .call (.c (.fn (.func 19) [] [])) [(.t 40), (.t 47)], none, [0, 7]⟩,
         ⟨(some 39), .mv (.t 48), none, [8]⟩,
         ⟨(some 49), .extract (.t 39) 0, none, [9]⟩,
         ⟨(some 50), .extract (.t 39) 1, none, [9]⟩,
         ⟨(some 10), .pnew 4, none, []⟩,
         ⟨none, .pstore 4 10 (.t 49), none, [12, 10, 8, 0, 1, 2, 3, 4, 5, 6, 7, 8, 9, 10, 12]⟩,
         ⟨(some 11), .mv (.t 50), none, [11, 13, 0, 1, 2, 3, 4, 5, 6, 7, 8, 9, 10, 11, 12, 13]⟩]) (
      .seq (.reg [⟨(some 51), .mv (.t 11), none, []⟩,
         ⟨(some 52), .un .not (.t 51), none, [0]⟩,
         ⟨(some 53), .mv (.t 52), none, [1]⟩,
         ⟨(some 54), .faddr 1 .one (.t 10), (some (53, false)), [2]⟩,
         ⟨(some 55), .load .one (.t 54), (some (53, false)), [3, 2]⟩,
         ⟨(some 56), .faddr 1 .one (.t 9), (some (53, false)), [2]⟩,
         ⟨(some 57), .load .one (.t 56), (some (53, false)), [5, 2]⟩,
         ⟨(some 58), .bin .neq (.t 55) (.t 57), (some (53, false)), [4, 6, 2]⟩,
         ⟨(some 59), .pick (.t 53) (.c (.sc (.bool true))) (.t 58), none, [2, 7]⟩,
         ⟨(some 60), .mv (.t 59), none, [8, 2]⟩,
         ⟨(some 61), .mv (.t 0), (some (60, false)), [9]⟩,
         ⟨(some 62), .faddr 1 .one (.t 3), (some (60, false)), [9]⟩,
         ⟨(some 63), .load .one (.t 62), (some (60, false)), [11, 9]⟩,
         ⟨(some 64), .faddr 2 .one (.t 9), (some (60, false)), [9]⟩,
         ⟨(some 65), .load .one (.t 64), (some (60, false)), [13, 9]⟩,
         ⟨(some 66), .iaddr 2 (.t 63) (.t 65), (some (60, false)), [12, 14, 9]⟩,
         ⟨(some 67), .load (.agg 2) (.t 66), (some (60, false)), [15, 9]⟩,
         ⟨(some 68), .call (.c (.fn (.func 30) [] [])) [(.t 61), (.t 67)], (some (60, false)), [10, 16, 9, 9]⟩,
         ⟨(some 69), .un .not (.t 68), (some (60, false)), [17, 9]⟩,
         ⟨(some 70), .pick (.t 60) (.c (.sc (.bool true))) (.t 69), none, [9, 18]⟩]) (
      .cond (.t 70) (.seq (.reg [⟨(some 4), .mv (.c (.sc (.bool false))), none, []⟩]) (
       .ret)) (
      .skip))))))))) (
    .reg [⟨(some 71), .bin .add (.t 24) (.c (.sc (.int .i64 1))), none, []⟩,
      ⟨(some 24), .mv (.t 71), none, [0]⟩])))
/-- (*apodixis/earley.speller).formed -/
def ann_earley_speller_formed : List Nat := [3, 5, 9, 10]
def code_earley_speller_formed : ACode :=
 .seq (.reg [⟨(some 3), .box (.t 1), none, []⟩,
    ⟨(some 4), .mv (.c (.sc (.bool false))), none, []⟩]) (
 .seq (.reg [⟨(some 13), .mv (.t 0), none, []⟩,
    ⟨(some 14), .faddr 0 .one (.t 3), none, []⟩,
    ⟨(some 15), .load .one (.t 14), none, [1]⟩,
    ⟨(some 16), .call (.c (.fn (.func 19) [] [])) [(.t 13), (.t 15)], none, [0, 2]⟩,
    ⟨(some 12), .mv (.t 16), none, [3]⟩,
    ⟨(some 17), .extract (.t 12) 0, none, [4]⟩,
    ⟨(some 18), .extract (.t 12) 1, none, [4]⟩,
    ⟨(some 5), .pnew 4, none, []⟩,
    ⟨none, .pstore 4 5 (.t 17), none, [7, 5, 3, 0, 1, 2, 3, 4, 5, 7]⟩,
    ⟨(some 6), .mv (.t 18), none, [6, 8, 0, 1, 2, 3, 4, 5, 6, 7, 8]⟩]) (
 .seq (.seq (.reg [⟨(some 19), .mv (.t 6), none, []⟩,
     ⟨(some 20), .un .not (.t 19), none, [0]⟩]) (
  .cond (.t 20) (.seq (.reg [⟨(some 4), .mv (.c (.sc (.bool false))), none, []⟩]) (
   .ret)) (
  .skip))) (
 .seq (.reg [⟨(some 7), .mv (.c (.sc (.int .i64 0))), none, []⟩]) (
 .seq (.seq (.reg [⟨(some 21), .faddr 2 .one (.t 5), none, []⟩,
     ⟨(some 22), .load .one (.t 21), none, [0]⟩,
     ⟨(some 23), .len .sl (.t 22), none, [1]⟩,
     ⟨(some 24), .mv (.c (.sc (.int .i64 0))), none, []⟩]) (
  .block 0 (.loop lp0_earley_speller_formed))) (
 .seq (.reg [⟨(some 72), .mv (.t 7), none, []⟩,
    ⟨(some 73), .faddr 1 .one (.t 3), none, []⟩,
    ⟨(some 74), .load .one (.t 73), none, [1]⟩,
    ⟨(some 75), .len .sl (.t 74), none, [2]⟩,
    ⟨(some 76), .bin .eql (.t 72) (.t 75), none, [0, 3]⟩,
    ⟨(some 4), .mv (.t 76), none, [4, 0, 1, 2, 3, 4]⟩]) (
 .ret))))))
def res_earley_speller_formed : List ResA := [.t 4]
theorem comp_earley_speller_formed : Try.f30.body.bind (compCode PP ann_earley_speller_formed 77) = some code_earley_speller_formed := by kernel_rfl
theorem resc_earley_speller_formed : mapM' (compRes PP) Try.f30.results.toList = some res_earley_speller_formed := by kernel_rfl
theorem body_earley_speller_formed : hasBody PP 30 = true := by kernel_rfl
theorem enter_earley_speller_formed {args : List AV} {h : AHeap} {R : AEnd → AHeap → Prop} (hargs : args.length ≤ 77) (hw : codeWp ⟨PP, Gl, 77, ann_earley_speller_formed, h.length, none⟩ code_earley_speller_formed (retPost PP Gl h res_earley_speller_formed R) (initEnv args) h) : ACalls PP Gl 30 args h R :=
  acalls_of_code Try.func30 body_earley_speller_formed comp_earley_speller_formed resc_earley_speller_formed hargs (Nat.le_trans hargs (by decide)) (codeWp_sound mixed hw)

def lp0_ref13_Find : ACode :=
 .seq (.seq (.reg [⟨(some 6), .mv (.t 5), none, []⟩,
        ⟨(some 7), .faddr 1 .one (.t 2), none, []⟩,
        ⟨(some 8), .load .one (.t 7), none, [1]⟩,
        ⟨(some 9), .len .sl (.t 8), none, [2]⟩,
        ⟨(some 10), .bin .lss (.t 6) (.t 9), none, [0, 3]⟩]) (
     .cond (.t 10) (.skip) (
     .exit 0))) (
    .seq (.block 1 (.seq (.reg [⟨(some 13), .faddr 1 .one (.t 2), none, []⟩,
         ⟨(some 14), .load .one (.t 13), none, [0]⟩,
         ⟨(some 15), .mv (.t 5), none, []⟩,
         ⟨(some 16), .iaddr 4 (.t 14) (.t 15), none, [1, 2]⟩,
         ⟨(some 17), .faddr 0 .one (.t 16), none, [3]⟩,
         ⟨(some 18), .load .one (.t 17), none, [4]⟩,
         ⟨(some 19), .mv (.t 1), none, []⟩,
         ⟨(some 20), .bin .eql (.t 18) (.t 19), none, [5, 6]⟩]) (
      .cond (.t 20) (.seq (.reg [⟨(some 21), .mv (.t 5), none, []⟩,
          ⟨(some 4), .mv (.t 21), none, [0, 0]⟩]) (
       .ret)) (
      .skip)))) (
    .reg [⟨(some 11), .mv (.t 5), none, []⟩,
      ⟨(some 12), .bin .add (.t 11) (.c (.sc (.int .i64 1))), none, [0]⟩,
      ⟨(some 5), .mv (.t 12), none, [1, 0, 1]⟩]))
/-- apodixis/apodixisref13.Find -/
def ann_ref13_Find : List Nat := [2]
def code_ref13_Find : ACode :=
 .seq (.reg [⟨(some 2), .box (.t 0), none, []⟩,
    ⟨(some 4), .mv (.c (.sc (.int .i64 0))), none, []⟩]) (
 .seq (.seq (.reg [⟨(some 5), .mv (.c (.sc (.int .i64 0))), none, []⟩]) (
  .block 0 (.loop lp0_ref13_Find))) (
 .seq (.reg [⟨(some 4), .mv (.c (.sc (.int .i64 (-1)))), none, []⟩]) (
 .ret)))
def res_ref13_Find : List ResA := [.t 4]
theorem comp_ref13_Find : Try.f31.body.bind (compCode PP ann_ref13_Find 22) = some code_ref13_Find := by kernel_rfl
theorem resc_ref13_Find : mapM' (compRes PP) Try.f31.results.toList = some res_ref13_Find := by kernel_rfl
theorem body_ref13_Find : hasBody PP 31 = true := by kernel_rfl
theorem enter_ref13_Find {args : List AV} {h : AHeap} {R : AEnd → AHeap → Prop} (hargs : args.length ≤ 22) (hw : codeWp ⟨PP, Gl, 22, ann_ref13_Find, h.length, none⟩ code_ref13_Find (retPost PP Gl h res_ref13_Find R) (initEnv args) h) : ACalls PP Gl 31 args h R :=
  acalls_of_code Try.func31 body_ref13_Find comp_ref13_Find resc_ref13_Find hargs (Nat.le_trans hargs (by decide)) (codeWp_sound mixed hw)

/-- apodixis/apodixisref13.name -/
def ann_ref13_name : List Nat := []
def code_ref13_name : ACode :=
 .seq (.reg [⟨(some 2), .mv (.c (.sc (.bool false))), none, []⟩]) (
 .seq (.reg [⟨(some 3), .mv (.t 0), none, []⟩,
    ⟨(some 4), .bin .neq (.t 3) (.c (.sc (.string ⟨#[]⟩))), none, [0]⟩,
    ⟨(some 5), .mv (.t 4), none, [1]⟩,
    ⟨(some 6), .mv (.t 0), (some (5, true)), [2]⟩,
    ⟨(some 7), .len .str (.t 6), (some (5, true)), [3, 2]⟩,
    ⟨(some 8), .bin .leq (.t 7) (.c (.sc (.int .i64 60))), (some (5, true)), [4, 2]⟩,
    ⟨(some 9), .pick (.t 5) (.t 8) (.c (.sc (.bool false))), none, [2, 5]⟩,
    ⟨(some 2), .mv (.t 9), none, [6, 2, 0, 1, 2, 3, 4, 5, 6]⟩]) (
 .ret))
def res_ref13_name : List ResA := [.t 2]
theorem comp_ref13_name : Try.f32.body.bind (compCode PP ann_ref13_name 10) = some code_ref13_name := by kernel_rfl
theorem resc_ref13_name : mapM' (compRes PP) Try.f32.results.toList = some res_ref13_name := by kernel_rfl
theorem body_ref13_name : hasBody PP 32 = true := by kernel_rfl
theorem enter_ref13_name {args : List AV} {h : AHeap} {R : AEnd → AHeap → Prop} (hargs : args.length ≤ 10) (hw : codeWp ⟨PP, Gl, 10, ann_ref13_name, h.length, none⟩ code_ref13_name (retPost PP Gl h res_ref13_name R) (initEnv args) h) : ACalls PP Gl 32 args h R :=
  acalls_of_code Try.func32 body_ref13_name comp_ref13_name resc_ref13_name hargs (Nat.le_trans hargs (by decide)) (codeWp_sound mixed hw)

def lp0_ref13_index : ACode :=
 .seq (.seq (.reg [⟨(some 6), .mv (.t 5), none, []⟩,
        ⟨(some 7), .mv (.t 0), none, []⟩,
        ⟨(some 8), .len .sl (.t 7), none, [1]⟩,
        ⟨(some 9), .bin .lss (.t 6) (.t 8), none, [0, 2]⟩]) (
     .cond (.t 9) (.skip) (
     .exit 0))) (
    .seq (.block 1 (.seq (.reg [⟨(some 12), .mv (.t 0), none, []⟩,
         ⟨(some 13), .mv (.t 5), none, []⟩,
         ⟨(some 14), .iaddr 1 (.t 12) (.t 13), none, [0, 1]⟩,
         ⟨(some 15), .load .one (.t 14), none, [2]⟩,
         ⟨(some 16), .mv (.t 1), none, []⟩,
         ⟨(some 17), .bin .eql (.t 15) (.t 16), none, [3, 4]⟩]) (
      .cond (.t 17) (.seq (.reg [⟨(some 18), .mv (.t 5), none, []⟩,
          ⟨(some 4), .mv (.t 18), none, [0, 0]⟩]) (
       .ret)) (
      .skip)))) (
    .reg [⟨(some 10), .mv (.t 5), none, []⟩,
      ⟨(some 11), .bin .add (.t 10) (.c (.sc (.int .i64 1))), none, [0]⟩,
      ⟨(some 5), .mv (.t 11), none, [1, 0, 1]⟩]))
/-- apodixis/apodixisref13.index -/
def ann_ref13_index : List Nat := []
def code_ref13_index : ACode :=
 .seq (.reg [⟨(some 4), .mv (.c (.sc (.int .i64 0))), none, []⟩]) (
 .seq (.seq (.reg [⟨(some 5), .mv (.c (.sc (.int .i64 0))), none, []⟩]) (
  .block 0 (.loop lp0_ref13_index))) (
 .seq (.reg [⟨(some 4), .mv (.c (.sc (.int .i64 (-1)))), none, []⟩]) (
 .ret)))
def res_ref13_index : List ResA := [.t 4]
theorem comp_ref13_index : Try.f33.body.bind (compCode PP ann_ref13_index 19) = some code_ref13_index := by kernel_rfl
theorem resc_ref13_index : mapM' (compRes PP) Try.f33.results.toList = some res_ref13_index := by kernel_rfl
theorem body_ref13_index : hasBody PP 33 = true := by kernel_rfl
theorem enter_ref13_index {args : List AV} {h : AHeap} {R : AEnd → AHeap → Prop} (hargs : args.length ≤ 19) (hw : codeWp ⟨PP, Gl, 19, ann_ref13_index, h.length, none⟩ code_ref13_index (retPost PP Gl h res_ref13_index R) (initEnv args) h) : ACalls PP Gl 33 args h R :=
  acalls_of_code Try.func33 body_ref13_index comp_ref13_index resc_ref13_index hargs (Nat.le_trans hargs (by decide)) (codeWp_sound mixed hw)

def lp0_ref13_ruleOK : ACode :=
 .seq (.seq (.reg [⟨(some 22), .mv (.t 6), none, []⟩,
        ⟨(some 23), .faddr 2 .one (.t 3), none, []⟩,
        ⟨(some 24), .load .one (.t 23), none, [1]⟩,
        ⟨(some 25), .len .sl (.t 24), none, [2]⟩,
        ⟨(some 26), .bin .lss (.t 22) (.t 25), none, [0, 3]⟩]) (
     .cond (.t 26) (.skip) (
     .exit 0))) (
    .seq (.block 1 (.seq (.seq (.dreg [(true, ⟨(some 29), .load (.agg 2) (.t 2), none, []⟩),
          (true, ⟨(some 30), .faddr 2 .one (.t 3), none, []⟩),
          (true, ⟨(some 31), .load .one (.t 30), none, [1]⟩),
          (false, ⟨(some 32), .mv (.t 6), none, []⟩),
          (false, ⟨(some 33), .iaddr 3 (.t 31) (.t 32), none, [2, 3]⟩),
          (false, ⟨(some 34), .load (.agg 3) (.t 33), none, [4]⟩),
          (false, ⟨(some 35), .call (.c (.fn (.func 48) [] [])) [(.t 29), (.t 34)], none, [0, 5]⟩),
          (false, ⟨(some 36), .un .not (.t 35), none, [6]⟩)]) (
       .cond (.t 36) (.seq (.reg [⟨(some 4), .mv (.c (.sc (.bool false))), none, []⟩]) (
        .ret)) (
       .skip))) (
      .seq (.reg [⟨(some 37), .faddr 2 .one (.t 3), none, []⟩,
         ⟨(some 38), .load .one (.t 37), none, [0]⟩,
         ⟨(some 39), .mv (.t 6), none, []⟩,
         ⟨(some 40), .iaddr 3 (.t 38) (.t 39), none, [1, 2]⟩,
         ⟨(some 41), .faddr 1 .one (.t 40), none, [3]⟩,
         ⟨(some 42), .load .one (.t 41), none, [4]⟩,
         ⟨(some 43), .bin .neq (.t 42) (.c (.sc (.string ⟨#[]⟩))), none, [5]⟩]) (
      .cond (.t 43) (.reg [⟨(some 44), .mv (.t 5), none, []⟩,
         ⟨(some 45), .bin .add (.t 44) (.c (.sc (.int .i64 1))), none, [0]⟩,
         ⟨(some 5), .mv (.t 45), none, [1, 0, 1]⟩]) (
      .skip))))) (
    .reg [⟨(some 27), .mv (.t 6), none, []⟩,
      ⟨(some 28), .bin .add (.t 27) (.c (.sc (.int .i64 1))), none, [0]⟩,
      ⟨(some 6), .mv (.t 28), none, [1, 0, 1]⟩]))
def lp2_ref13_ruleOK : ACode :=
 .seq (.seq (.reg [⟨(some 51), .mv (.t 9), none, []⟩,
             ⟨(some 52), .faddr 2 .one (.t 3), none, []⟩,
             ⟨(some 53), .load .one (.t 52), none, [1]⟩,
             ⟨(some 54), .len .sl (.t 53), none, [2]⟩,
             ⟨(some 55), .bin .lss (.t 51) (.t 54), none, [0, 3]⟩]) (
          .cond (.t 55) (.skip) (
          .exit 4))) (
         .seq (.block 5 (.seq (.reg [⟨(some 58), .faddr 2 .one (.t 3), none, []⟩,
              ⟨(some 59), .load .one (.t 58), none, [0]⟩,
              ⟨(some 60), .mv (.t 9), none, []⟩,
              ⟨(some 61), .iaddr 3 (.t 59) (.t 60), none, [1, 2]⟩,
              ⟨(some 62), .faddr 1 .one (.t 61), none, [3]⟩,
              ⟨(some 63), .load .one (.t 62), none, [4]⟩,
              ⟨(some 64), .bin .neq (.t 63) (.c (.sc (.string ⟨#[]⟩))), none, [5]⟩,
              ⟨(some 65), .mv (.t 64), none, [6]⟩,
              ⟨(some 66), .faddr 2 .one (.t 3), (some (65, true)), [7]⟩,
              ⟨(some 67), .load .one (.t 66), (some (65, true)), [8, 7]⟩,
              ⟨(some 68), .mv (.t 9), (some (65, true)), [7]⟩,
              ⟨(some 69), .iaddr 3 (.t 67) (.t 68), (some (65, true)), [9, 10, 7]⟩,
              ⟨(some 70), .faddr 2 .one (.t 69), (some (65, true)), [11, 7]⟩,
              ⟨(some 71), .load .one (.t 70), (some (65, true)), [12, 7]⟩,
              ⟨(some 72), .mv (.t 7), (some (65, true)), [7]⟩,
              ⟨(some 73), .bin .eql (.t 71) (.t 72), (some (65, true)), [13, 14, 7]⟩,
              ⟨(some 74), .pick (.t 65) (.t 73) (.c (.sc (.bool false))), none, [7, 15]⟩]) (
           .cond (.t 74) (.reg [⟨(some 75), .mv (.t 8), none, []⟩,
              ⟨(some 76), .bin .add (.t 75) (.c (.sc (.int .i64 1))), none, [0]⟩,
              ⟨(some 8), .mv (.t 76), none, [1, 0, 1]⟩]) (
           .skip)))) (
         .reg [⟨(some 56), .mv (.t 9), none, []⟩,
           ⟨(some 57), .bin .add (.t 56) (.c (.sc (.int .i64 1))), none, [0]⟩,
           ⟨(some 9), .mv (.t 57), none, [1, 0, 1]⟩]))
def lp1_ref13_ruleOK : ACode :=
 .seq (.seq (.reg [⟨(some 46), .mv (.t 7), none, []⟩,
        ⟨(some 47), .mv (.t 5), none, []⟩,
        ⟨(some 48), .bin .lss (.t 46) (.t 47), none, [0, 1]⟩]) (
     .cond (.t 48) (.skip) (
     .exit 2))) (
    .seq (.block 3 (.seq (.reg [⟨(some 8), .mv (.c (.sc (.int .i64 0))), none, []⟩]) (
      .seq (.seq (.reg [⟨(some 9), .mv (.c (.sc (.int .i64 0))), none, []⟩]) (
       .block 4 (.loop lp2_ref13_ruleOK))) (
      .seq (.reg [⟨(some 77), .mv (.t 8), none, []⟩,
         ⟨(some 78), .bin .neq (.t 77) (.c (.sc (.int .i64 1))), none, [0]⟩]) (
      .cond (.t 78) (.seq (.reg [⟨(some 4), .mv (.c (.sc (.bool false))), none, []⟩]) (
       .ret)) (
      .skip)))))) (
    .reg [⟨(some 49), .mv (.t 7), none, []⟩,
      ⟨(some 50), .bin .add (.t 49) (.c (.sc (.int .i64 1))), none, [0]⟩,
      ⟨(some 7), .mv (.t 50), none, [1, 0, 1]⟩]))
/-- apodixis/apodixisref13.ruleOK -/
def ann_ref13_ruleOK : List Nat := [2, 3]
def code_ref13_ruleOK : ACode :=
 .seq (.reg [⟨(some 2), .box (.t 0), none, []⟩,
    ⟨(some 3), .box (.t 1), none, []⟩,
    ⟨(some 4), .mv (.c (.sc (.bool false))), none, []⟩]) (
 .seq (.seq (.reg [⟨(some 10), .faddr 0 .one (.t 3), none, []⟩,
     ⟨(some 11), .load .one (.t 10), none, [0]⟩,
     ⟨(some 12), .call (.c (.fn (.func 32) [] [])) [(.t 11)], none, [1]⟩,
     ⟨(some 13), .un .not (.t 12), none, [2]⟩,
     ⟨(some 14), .mv (.t 13), none, [3, 2]⟩,
     ⟨(some 15), .faddr 0 .one (.t 2), (some (14, false)), [4]⟩,
     ⟨(some 16), .load .one (.t 15), (some (14, false)), [5, 4]⟩,
     ⟨(some 17), .faddr 1 .one (.t 3), (some (14, false)), [4]⟩,
     ⟨(some 18), .load .one (.t 17), (some (14, false)), [7, 4]⟩,
     ⟨(some 19), .call (.c (.fn (.func 33) [] [])) [(.t 16), (.t 18)], (some (14, false)), [6, 8, 4, 4]⟩,
     ⟨(some 20), .bin .lss (.t 19) (.c (.sc (.int .i64 0))), (some (14, false)), [9, 4]⟩,
     ⟨(some 21), .pick (.t 14) (.c (.sc (.bool true))) (.t 20), none, [4, 10]⟩]) (
  .cond (.t 21) (.seq (.reg [⟨(some 4), .mv (.c (.sc (.bool false))), none, []⟩]) (
   .ret)) (
  .skip))) (
 .seq (.reg [⟨(some 5), .mv (.c (.sc (.int .i64 0))), none, []⟩]) (
 .seq (.seq (.reg [⟨(some 6), .mv (.c (.sc (.int .i64 0))), none, []⟩]) (
  .block 0 (.loop lp0_ref13_ruleOK))) (
 .seq (.seq (.reg [⟨(some 7), .mv (.c (.sc (.int .i64 0))), none, []⟩]) (
  .block 2 (.loop lp1_ref13_ruleOK))) (
 .seq (.reg [⟨(some 79), .faddr 3 .one (.t 3), none, []⟩,
    ⟨(some 80), .load .one (.t 79), none, [0]⟩,
    ⟨(some 81), .un .not (.t 80), none, [1]⟩,
    ⟨(some 82), .mv (.t 81), none, [2]⟩,
    ⟨(some 83), .faddr 2 .one (.t 3), (some (82, false)), [3]⟩,
    ⟨(some 84), .load .one (.t 83), (some (82, false)), [4, 3]⟩,
    ⟨(some 85), .len .sl (.t 84), (some (82, false)), [5, 3]⟩,
    ⟨(some 86), .bin .eql (.t 85) (.c (.sc (.int .i64 1))), (some (82, false)), [6, 3]⟩,
    ⟨(some 87), .mv (.t 86), (some (82, false)), [7, 3, 3]⟩,
    ⟨(some 88), .mv (.t 5), (some (87, true)), [8]⟩,
    ⟨(some 89), .bin .eql (.t 88) (.c (.sc (.int .i64 0))), (some (87, true)), [9, 8]⟩,
    ⟨(some 90), .pick (.t 87) (.t 89) (.c (.sc (.bool false))), (some (82, false)), [8, 10, 3]⟩,
    ⟨(some 91), .pick (.t 82) (.c (.sc (.bool true))) (.t 90), none, [3, 11]⟩,
    ⟨(some 4), .mv (.t 91), none, [12, 8, 0, 1, 2, 3, 4, 5, 6, 7, 8, 9, 10, 11, 12]⟩]) (
 .ret))))))
def res_ref13_ruleOK : List ResA := [.t 4]
theorem comp_ref13_ruleOK : Try.f34.body.bind (compCode PP ann_ref13_ruleOK 92) = some code_ref13_ruleOK := by kernel_rfl
theorem resc_ref13_ruleOK : mapM' (compRes PP) Try.f34.results.toList = some res_ref13_ruleOK := by kernel_rfl
theorem body_ref13_ruleOK : hasBody PP 34 = true := by kernel_rfl
theorem enter_ref13_ruleOK {args : List AV} {h : AHeap} {R : AEnd → AHeap → Prop} (hargs : args.length ≤ 92) (hw : codeWp ⟨PP, Gl, 92, ann_ref13_ruleOK, h.length, none⟩ code_ref13_ruleOK (retPost PP Gl h res_ref13_ruleOK R) (initEnv args) h) : ACalls PP Gl 34 args h R :=
  acalls_of_code Try.func34 body_ref13_ruleOK comp_ref13_ruleOK resc_ref13_ruleOK hargs (Nat.le_trans hargs (by decide)) (codeWp_sound mixed hw)

def lp0_ref14_args : ACode :=
 .seq (.seq (.reg [⟨(some 5), .mv (.t 4), none, []⟩,
        ⟨(some 6), .faddr 2 .one (.t 1), none, []⟩,
        ⟨(some 7), .load .one (.t 6), none, [1]⟩,
        ⟨(some 8), .len .sl (.t 7), none, [2]⟩,
        ⟨(some 9), .bin .lss (.t 5) (.t 8), none, [0, 3]⟩]) (
     .cond (.t 9) (.skip) (
     .exit 0))) (
    .seq (.block 1 (.seq (.reg [⟨(some 12), .faddr 2 .one (.t 1), none, []⟩,
         ⟨(some 13), .load .one (.t 12), none, [0]⟩,
         ⟨(some 14), .mv (.t 4), none, []⟩,
         ⟨(some 15), .iaddr 3 (.t 13) (.t 14), none, [1, 2]⟩,
         ⟨(some 16), .faddr 1 .one (.t 15), none, [3]⟩,
         ⟨(some 17), .load .one (.t 16), none, [4]⟩,
         ⟨(some 18), .bin .neq (.t 17) (.c (.sc (.string ⟨#[]⟩))), none, [5]⟩]) (
      .cond (.t 18) (.reg [⟨(some 19), .mv (.t 3), none, []⟩,
         ⟨(some 20), .bin .add (.t 19) (.c (.sc (.int .i64 1))), none, [0]⟩,
         ⟨(some 3), .mv (.t 20), none, [1, 0, 1]⟩]) (
      .skip)))) (
    .reg [⟨(some 10), .mv (.t 4), none, []⟩,
      ⟨(some 11), .bin .add (.t 10) (.c (.sc (.int .i64 1))), none, [0]⟩,
      ⟨(some 4), .mv (.t 11), none, [1, 0, 1]⟩]))
/-- apodixis/apodixisref14.args -/
def ann_ref14_args : List Nat := [1]
def code_ref14_args : ACode :=
 .seq (.reg [⟨(some 1), .box (.t 0), none, []⟩,
    ⟨(some 2), .mv (.c (.sc (.int .i64 0))), none, []⟩]) (
 .seq (.reg [⟨(some 3), .mv (.c (.sc (.int .i64 0))), none, []⟩]) (
 .seq (.seq (.reg [⟨(some 4), .mv (.c (.sc (.int .i64 0))), none, []⟩]) (
  .block 0 (.loop lp0_ref14_args))) (
 .seq (.reg [⟨(some 21), .mv (.t 3), none, []⟩,
    ⟨(some 2), .mv (.t 21), none, [0, 0]⟩]) (
 .ret))))
def res_ref14_args : List ResA := [.t 2]
theorem comp_ref14_args : Try.f35.body.bind (compCode PP ann_ref14_args 22) = some code_ref14_args := by kernel_rfl
theorem resc_ref14_args : mapM' (compRes PP) Try.f35.results.toList = some res_ref14_args := by kernel_rfl
theorem body_ref14_args : hasBody PP 35 = true := by kernel_rfl
theorem enter_ref14_args {args : List AV} {h : AHeap} {R : AEnd → AHeap → Prop} (hargs : args.length ≤ 22) (hw : codeWp ⟨PP, Gl, 22, ann_ref14_args, h.length, none⟩ code_ref14_args (retPost PP Gl h res_ref14_args R) (initEnv args) h) : ACalls PP Gl 35 args h R :=
  acalls_of_code Try.func35 body_ref14_args comp_ref14_args resc_ref14_args hargs (Nat.le_trans hargs (by decide)) (codeWp_sound mixed hw)

/-- slices.Contains[[]string,string] -/
def ann_slices_Contains_string_string : List Nat := []
def code_slices_Contains_string_string : ACode :=
 .seq (.reg [⟨(some 4), .mv (.c (.sc (.bool false))), none, []⟩]) (
 .seq (.reg [⟨(some 5), .mv (.t 0), none, []⟩,
    ⟨(some 6), .mv (.t 1), none, []⟩,
    ⟨(some 7), .call (.c (.fn (.func 49) [] [])) [(.t 5), (.t 6)], none, [0, 1]⟩,
    ⟨(some 8), .bin .geq (.t 7) (.c (.sc (.int .i64 0))), none, [2]⟩,
    ⟨(some 4), .mv (.t 8), none, [3, 2, 0, 1, 2, 3]⟩]) (
 .ret))
def res_slices_Contains_string_string : List ResA := [.t 4]
theorem comp_slices_Contains_string_string : Try.f36.body.bind (compCode PP ann_slices_Contains_string_string 9) = some code_slices_Contains_string_string := by kernel_rfl
theorem resc_slices_Contains_string_string : mapM' (compRes PP) Try.f36.results.toList = some res_slices_Contains_string_string := by kernel_rfl
theorem body_slices_Contains_string_string : hasBody PP 36 = true := by kernel_rfl
theorem enter_slices_Contains_string_string {args : List AV} {h : AHeap} {R : AEnd → AHeap → Prop} (hargs : args.length ≤ 9) (hw : codeWp ⟨PP, Gl, 9, ann_slices_Contains_string_string, h.length, none⟩ code_slices_Contains_string_string (retPost PP Gl h res_slices_Contains_string_string R) (initEnv args) h) : ACalls PP Gl 36 args h R :=
  acalls_of_code Try.func36 body_slices_Contains_string_string comp_slices_Contains_string_string resc_slices_Contains_string_string hargs (Nat.le_trans hargs (by decide)) (codeWp_sound mixed hw)

/-- (*apodixis/earley.chart).open -/
def ann_earley_chart_open : List Nat := [8]
def code_earley_chart_open : ACode :=
 .seq (.reg [⟨(some 2), .mv (.t 0), none, []⟩,
    ⟨(some 3), .mv (.t 0), none, []⟩,
    ⟨(some 4), .nilc (.t 3), none, [1]⟩,
    ⟨(some 5), .faddr 4 .one (.t 4), none, [2]⟩,
    ⟨(some 6), .load .one (.t 5), none, [3]⟩,
    ⟨(some 7), .bslice 1 1 (.sl 0 [] .nil) [(0, (.c (.sl 0 [] .nil)))], none, []⟩,
    ⟨(some 8), .mappend 1 24 (.t 6) (.t 7), none, [4, 5]⟩,
    ⟨(some 9), .nilc (.t 2), none, [0, 0, 1, 2, 3, 4, 5, 6]⟩,
    ⟨(some 10), .faddr 4 .one (.t 9), none, [7, 0, 1, 2, 3, 4, 5, 6]⟩,
    ⟨none, .store 1 (.t 10) (.t 8), none, [8, 6, 6, 0, 1, 2, 3, 4, 5, 6]⟩]) (
 .reg [⟨(some 11), .mv (.t 0), none, []⟩,
   ⟨(some 12), .mv (.t 0), none, []⟩,
   ⟨(some 13), .nilc (.t 12), none, [1]⟩,
   ⟨(some 14), .faddr 5 .one (.t 13), none, [2]⟩,
   ⟨(some 15), .load .one (.t 14), none, [3]⟩,
   ⟨(some 16), .mkMap, none, []⟩,
   ⟨(some 17), .bslice 1 1 (.sc (.map none)) [(0, (.t 16))], none, [5]⟩,
   ⟨(some 18), .append 1 8 (.t 15) (.t 17), none, [4, 6]⟩,
   ⟨(some 19), .nilc (.t 11), none, [0, 0, 1, 2, 3, 4, 5, 6, 7]⟩,
   ⟨(some 20), .faddr 5 .one (.t 19), none, [8, 0, 1, 2, 3, 4, 5, 6, 7]⟩,
   ⟨none, .store 1 (.t 20) (.t 18), none, [9, 7, 7, 0, 1, 2, 3, 4, 5, 6, 7]⟩])
def res_earley_chart_open : List ResA := []
theorem comp_earley_chart_open : Try.f37.body.bind (compCode PP ann_earley_chart_open 21) = some code_earley_chart_open := by kernel_rfl
theorem resc_earley_chart_open : mapM' (compRes PP) Try.f37.results.toList = some res_earley_chart_open := by kernel_rfl
theorem body_earley_chart_open : hasBody PP 37 = true := by kernel_rfl
theorem enter_earley_chart_open {args : List AV} {h : AHeap} {R : AEnd → AHeap → Prop} (hargs : args.length ≤ 21) (hw : codeWp ⟨PP, Gl, 21, ann_earley_chart_open, h.length, none⟩ code_earley_chart_open (retPost PP Gl h res_earley_chart_open R) (initEnv args) h) : ACalls PP Gl 37 args h R :=
  acalls_of_code Try.func37 body_earley_chart_open comp_earley_chart_open resc_earley_chart_open hargs (Nat.le_trans hargs (by decide)) (codeWp_sound mixed hw)

def lp0_earley_chart_predict : ACode :=
 .seq (.reg [⟨(some 16), .bin .lss (.t 15) (.t 14), none, []⟩]) (
   .seq (.cond (.t 16) (.skip) (
    .exit 0)) (
   .seq (.block 1 (.seq (.reg [⟨(some 17), .iaddr 1 (.t 13) (.t 15), none, []⟩,
        ⟨(some 18), .load .one (.t 17), none, [0]⟩,
        ⟨(some 7), .mv (.t 18), none, [1, 0, 1]⟩]) (
     .reg [⟨(some 19), .mv (.t 0), none, []⟩,
       ⟨(some 20), .mv (.t 2), none, []⟩,
       ⟨(some 21), .mv (.t 7), none, []⟩,
       ⟨(some 22), .mv (.t 2), none, []⟩,
       ⟨(some 23), .build [(.sc (.int .i64 0)), (.sc (.int .i64 0)), (.sc (.int .i64 0))] [(0, 1, (.t 21)), (1, 1, (.c (.sc (.int .i64 0)))), (2, 1, (.t 22))], none, [2, 3]⟩,
       ⟨(some 24), .call (.c (.fn (.func 50) [] [])) [(.t 19), (.t 20), (.t 23)], none, [0, 1, 4]⟩]))) (
   .reg [⟨(some 25), .bin .add (.t 15) (.c (.sc (.int .i64 1))), none, []⟩,
     ⟨(some 15), .mv (.t 25), none, [0]⟩])))
/-- (*apodixis/earley.chart).predict -/
def ann_earley_chart_predict : List Nat := []
def code_earley_chart_predict : ACode :=
 .seq (.reg [⟨(some 8), .mv (.t 0), none, []⟩,
    ⟨(some 9), .nilc (.t 8), none, [0]⟩,
    ⟨(some 10), .faddr 2 .one (.t 9), none, [1]⟩,
    ⟨(some 11), .load .one (.t 10), none, [2]⟩,
    ⟨(some 12), .mv (.t 1), none, []⟩,
    ⟨(some 13), .lookup .str (.sl 0 [] .nil) false (.t 11) (.t 12), none, [3, 4]⟩,
    ⟨(some 14), .len .sl (.t 13), none, [5]⟩,
    ⟨(some 15), .mv (.c (.sc (.int .i64 0))), none, []⟩]) (
 .block 0 (.loop lp0_earley_chart_predict))
def res_earley_chart_predict : List ResA := []
theorem comp_earley_chart_predict : Try.f38.body.bind (compCode PP ann_earley_chart_predict 26) = some code_earley_chart_predict := by kernel_rfl
theorem resc_earley_chart_predict : mapM' (compRes PP) Try.f38.results.toList = some res_earley_chart_predict := by kernel_rfl
theorem body_earley_chart_predict : hasBody PP 38 = true := by kernel_rfl
theorem enter_earley_chart_predict {args : List AV} {h : AHeap} {R : AEnd → AHeap → Prop} (hargs : args.length ≤ 26) (hw : codeWp ⟨PP, Gl, 26, ann_earley_chart_predict, h.length, none⟩ code_earley_chart_predict (retPost PP Gl h res_earley_chart_predict R) (initEnv args) h) : ACalls PP Gl 38 args h R :=
  acalls_of_code Try.func38 body_earley_chart_predict comp_earley_chart_predict resc_earley_chart_predict hargs (Nat.le_trans hargs (by decide)) (codeWp_sound mixed hw)

def lp0_earley_chart_close : ACode :=
 .seq (.seq (.reg [⟨(some 9), .mv (.t 4), none, []⟩,
       ⟨(some 10), .mv (.t 0), none, []⟩,
       ⟨(some 11), .nilc (.t 10), none, [1]⟩,
       ⟨(some 12), .faddr 4 .one (.t 11), none, [2]⟩,
       ⟨(some 13), .load .one (.t 12), none, [3]⟩,
       ⟨(some 14), .mv (.t 1), none, []⟩,
       ⟨(some 15), .iaddr 1 (.t 13) (.t 14), none, [4, 5]⟩,
       ⟨(some 16), .load .one (.t 15), none, [6]⟩,
       ⟨(some 17), .len .sl (.t 16), none, [7]⟩,
       ⟨(some 18), .bin .lss (.t 9) (.t 17), none, [0, 8]⟩]) (
    .cond (.t 18) (.skip) (
    .exit 0))) (
   .seq (.block 1 (.seq (.reg [⟨(some 21), .mv (.t 0), none, []⟩,
        ⟨(some 22), .nilc (.t 21), none, [0]⟩,
        ⟨(some 23), .faddr 4 .one (.t 22), none, [1]⟩,
        ⟨(some 24), .load .one (.t 23), none, [2]⟩,
        ⟨(some 25), .mv (.t 1), none, []⟩,
        ⟨(some 26), .iaddr 1 (.t 24) (.t 25), none, [3, 4]⟩,
        ⟨(some 27), .load .one (.t 26), none, [5]⟩,
        ⟨(some 28), .mv (.t 4), none, []⟩,
        ⟨(some 29), .iaddr 3 (.t 27) (.t 28), none, [6, 7]⟩,
        ⟨(some 30), .load (.agg 3) (.t 29), none, [8]⟩,
        ⟨(some 5), .pnew 3, none, []⟩,
        ⟨none, .pstore 3 5 (.t 30), none, [10, 9, 0, 1, 2, 3, 4, 5, 6, 7, 8, 9, 10]⟩]) (
     .seq (.reg [⟨(some 32), .mv (.t 0), none, []⟩,
        ⟨(some 33), .load (.agg 3) (.t 5), none, []⟩,
        ⟨(some 34), .call (.c (.fn (.func 51) [] [])) [(.t 32), (.t 33)], none, [0, 1]⟩,
        ⟨(some 31), .mv (.t 34), none, [2]⟩,
        ⟨(some 35), .extract (.t 31) 0, none, [3]⟩,
        ⟨(some 36), .extract (.t 31) 1, none, [3]⟩,
        ⟨(some 6), .pnew 3, none, []⟩,
        ⟨none, .pstore 3 6 (.t 35), none, [6, 4, 2, 0, 1, 2, 3, 4, 6]⟩,
        ⟨(some 7), .mv (.t 36), none, [5, 7, 0, 1, 2, 3, 4, 5, 6, 7]⟩]) (
     .block 2 (.seq (.reg [⟨(some 38), .mv (.t 7), none, []⟩,
         ⟨(some 39), .un .not (.t 38), none, [0]⟩,
         ⟨(some 37), .mv (.t 39), none, [1]⟩]) (
      .cond (.t 37) (.seq (.dreg [(true, ⟨(some 40), .mv (.t 0), none, []⟩),
          (true, ⟨(some 41), .nilc (.t 40), none, [0]⟩),
          (true, ⟨(some 42), .faddr 0 (.agg 2) (.t 41), none, [1]⟩),
          (true, ⟨(some 43), .faddr 1 .one (.t 42), none, [2]⟩),
          (true, ⟨(some 44), .load .one (.t 43), none, [3]⟩),
          (true, ⟨(some 45), .iaddrA 3 .one (.t 5) (.c (.sc (.int .i64 0))), none, []⟩),
          (true, ⟨(some 46), .load .one (.t 45), none, [5]⟩),
          (true, ⟨(some 47), .iaddr 4 (.t 44) (.t 46), none, [4, 6]⟩),
          (true, ⟨(some 48), .faddr 1 .one (.t 47), none, [7]⟩),
          (true, ⟨(some 49), .load .one (.t 48), none, [8]⟩),
          (true, ⟨(some 50), .iaddrA 3 .one (.t 5) (.c (.sc (.int .i64 2))), none, []⟩),
          (true, ⟨(some 51), .load .one (.t 50), none, [10]⟩),
          (true, ⟨(some 52), .mv (.t 1), none, []⟩),
          (true, ⟨(some 53), .build [(.sc (.string ⟨#[]⟩)), (.sc (.int .i64 0)), (.sc (.int .i64 0))] [(0, 1, (.t 49)), (1, 1, (.t 51)), (2, 1, (.t 52))], none, [9, 11, 12]⟩),
          (false, ⟨(some 8), .pnew 3, none, []⟩),
          (false, ⟨none, .pstore 3 8 (.t 53), none, [14, 13, 0, 1, 2, 3, 4, 5, 6, 7, 8, 9, 10, 11, 12, 13, 14]⟩)]) (
       .seq (.seq (.dreg [(true, ⟨(some 54), .mv (.t 0), none, []⟩),
           (true, ⟨(some 55), .nilc (.t 54), none, [0]⟩),
           (true, ⟨(some 56), .faddr 6 .one (.t 55), none, [1]⟩),
           (true, ⟨(some 57), .load .one (.t 56), none, [2]⟩),
           (false, ⟨(some 58), .load (.agg 3) (.t 8), none, []⟩),
           (false, ⟨(some 59), .lookup (.flat [1, 0, 0]) (.sc (.bool false)) false (.t 57) (.t 58), none, [3, 4]⟩)]) (
        .cond (.t 59) (.exit 1) (
        .skip))) (
       .seq (.dreg [(true, ⟨(some 60), .mv (.t 0), none, []⟩),
          (true, ⟨(some 61), .nilc (.t 60), none, [0]⟩),
          (true, ⟨(some 62), .faddr 6 .one (.t 61), none, [1]⟩),
          (true, ⟨(some 63), .load .one (.t 62), none, [2]⟩),
          (false, ⟨(some 64), .load (.agg 3) (.t 8), none, []⟩),
          (false, ⟨none, .mapUpd (.flat [1, 0, 0]) (.t 63) (.t 64) (.c (.sc (.bool true))), none, [3, 4, 0, 1, 2, 3, 4]⟩)]) (
       .reg [⟨(some 65), .mv (.t 0), none, []⟩,
         ⟨(some 66), .load (.agg 3) (.t 8), none, []⟩,
         ⟨(some 67), .call (.c (.fn (.func 52) [] [])) [(.t 65), (.t 66)], none, [0, 1]⟩])))) (
      .seq (.reg [⟨(some 69), .faddr 1 .one (.t 6), none, []⟩,
          ⟨(some 70), .load .one (.t 69), none, [0]⟩,
          ⟨(some 71), .bin .neq (.t 70) (.c (.sc (.string ⟨#[]⟩))), none, [1]⟩,
          ⟨(some 68), .mv (.t 71), none, [2]⟩]) (
       .cond (.t 68) (.seq (.reg [⟨(some 72), .mv (.t 0), none, []⟩,
           ⟨(some 73), .faddr 1 .one (.t 6), none, []⟩,
           ⟨(some 74), .load .one (.t 73), none, [1]⟩,
           ⟨(some 75), .mv (.t 1), none, []⟩,
           ⟨(some 76), .call (.c (.fn (.func 38) [] [])) [(.t 72), (.t 74), (.t 75)], none, [0, 2, 3]⟩]) (
        .seq (.dreg [(true, ⟨(some 77), .mv (.t 0), none, []⟩),
           (true, ⟨(some 78), .nilc (.t 77), none, [0]⟩),
           (true, ⟨(some 79), .faddr 6 .one (.t 78), none, [1]⟩),
           (true, ⟨(some 80), .load .one (.t 79), none, [2]⟩),
           (true, ⟨(some 81), .faddr 1 .one (.t 6), none, []⟩),
           (true, ⟨(some 82), .load .one (.t 81), none, [4]⟩),
           (true, ⟨(some 83), .mv (.t 1), none, []⟩),
           (false, ⟨(some 84), .mv (.t 1), none, []⟩),
           (false, ⟨(some 85), .build [(.sc (.string ⟨#[]⟩)), (.sc (.int .i64 0)), (.sc (.int .i64 0))] [(0, 1, (.t 82)), (1, 1, (.t 83)), (2, 1, (.t 84))], none, [5, 6, 7]⟩),
           (false, ⟨(some 86), .lookup (.flat [1, 0, 0]) (.sc (.bool false)) false (.t 80) (.t 85), none, [3, 8]⟩)]) (
        .cond (.t 86) (.reg [⟨(some 87), .mv (.t 0), none, []⟩,
           ⟨(some 88), .mv (.t 1), none, []⟩,
           ⟨(some 89), .iaddrA 3 .one (.t 5) (.c (.sc (.int .i64 0))), none, []⟩,
           ⟨(some 90), .load .one (.t 89), none, [2]⟩,
           ⟨(some 91), .iaddrA 3 .one (.t 5) (.c (.sc (.int .i64 1))), none, []⟩,
           ⟨(some 92), .load .one (.t 91), none, [4]⟩,
           ⟨(some 93), .bin .add (.t 92) (.c (.sc (.int .i64 1))), none, [5]⟩,
           ⟨(some 94), .iaddrA 3 .one (.t 5) (.c (.sc (.int .i64 2))), none, []⟩,
           ⟨(some 95), .load .one (.t 94), none, [7]⟩,
           ⟨(some 96), .build [(.sc (.int .i64 0)), (.sc (.int .i64 0)), (.sc (.int .i64 0))] [(0, 1, (.t 90)), (1, 1, (.t 93)), (2, 1, (.t 95))], none, [3, 6, 8]⟩,
           ⟨(some 97), .call (.c (.fn (.func 50) [] [])) [(.t 87), (.t 88), (.t 96)], none, [0, 1, 9]⟩]) (
        .skip)))) (
       .skip))))))))) (
   .reg [⟨(some 19), .mv (.t 4), none, []⟩,
     ⟨(some 20), .bin .add (.t 19) (.c (.sc (.int .i64 1))), none, [0]⟩,
     ⟨(some 4), .mv (.t 20), none, [1, 0, 1]⟩]))
/-- (*apodixis/earley.chart).close -/
def ann_earley_chart_close : List Nat := [5, 6, 8]
def code_earley_chart_close : ACode :=
 .seq (.reg [⟨(some 4), .mv (.c (.sc (.int .i64 0))), none, []⟩]) (
 .block 0 (.loop lp0_earley_chart_close))
def res_earley_chart_close : List ResA := []
theorem comp_earley_chart_close : Try.f39.body.bind (compCode PP ann_earley_chart_close 98) = some code_earley_chart_close := by kernel_rfl
theorem resc_earley_chart_close : mapM' (compRes PP) Try.f39.results.toList = some res_earley_chart_close := by kernel_rfl
theorem body_earley_chart_close : hasBody PP 39 = true := by kernel_rfl
theorem enter_earley_chart_close {args : List AV} {h : AHeap} {R : AEnd → AHeap → Prop} (hargs : args.length ≤ 98) (hw : codeWp ⟨PP, Gl, 98, ann_earley_chart_close, h.length, none⟩ code_earley_chart_close (retPost PP Gl h res_earley_chart_close R) (initEnv args) h) : ACalls PP Gl 39 args h R :=
  acalls_of_code Try.func39 body_earley_chart_close comp_earley_chart_close resc_earley_chart_close hargs (Nat.le_trans hargs (by decide)) (codeWp_sound mixed hw)

def lp0_earley_chart_scan : ACode :=
 .seq (.reg [⟨(some 21), .bin .lss (.t 20) (.t 19), none, []⟩]) (
    .seq (.cond (.t 21) (.skip) (
     .exit 0)) (
    .seq (.block 1 (.seq (.reg [⟨(some 22), .iaddr 3 (.t 18) (.t 20), none, []⟩,
         ⟨(some 23), .load (.agg 3) (.t 22), none, [0]⟩,
         ⟨(some 7), .pnew 3, none, []⟩,
         ⟨none, .pstore 3 7 (.t 23), none, [2, 1, 0, 1, 2]⟩]) (
      .seq (.reg [⟨(some 25), .mv (.t 0), none, []⟩,
         ⟨(some 26), .load (.agg 3) (.t 7), none, []⟩,
         ⟨(some 27), .call (.c (.fn (.func 51) [] [])) [(.t 25), (.t 26)], none, [0, 1]⟩,
         ⟨(some 24), .mv (.t 27), none, [2]⟩,
         ⟨(some 28), .extract (.t 24) 0, none, [3]⟩,
         ⟨(some 29), .extract (.t 24) 1, none, [3]⟩,
         ⟨(some 8), .pnew 3, none, []⟩,
         ⟨none, .pstore 3 8 (.t 28), none, [6, 4, 2, 0, 1, 2, 3, 4, 6]⟩,
         ⟨(some 9), .mv (.t 29), none, [5, 7, 0, 1, 2, 3, 4, 5, 6, 7]⟩]) (
      .seq (.dreg [(false, ⟨(some 30), .mv (.t 9), none, []⟩),
         (false, ⟨(some 31), .mv (.t 30), none, [0]⟩),
         (false, ⟨(some 32), .faddr 1 .one (.t 8), (some (31, true)), [1]⟩),
         (false, ⟨(some 33), .load .one (.t 32), (some (31, true)), [2, 1]⟩),
         (false, ⟨(some 34), .bin .eql (.t 33) (.c (.sc (.string ⟨#[]⟩))), (some (31, true)), [3, 1]⟩),
         (false, ⟨(some 35), .pick (.t 31) (.t 34) (.c (.sc (.bool false))), none, [1, 4]⟩),
         (false, ⟨(some 36), .mv (.t 35), none, [5, 1]⟩),
         (true, ⟨(some 37), .faddr 0 .one (.t 8), (some (36, true)), [6]⟩),
         (true, ⟨(some 38), .load .one (.t 37), (some (36, true)), [7, 6]⟩),
         (true, ⟨(some 39), .mv (.t 0), (some (36, true)), [6]⟩),
         (true, ⟨(some 40), .nilc (.t 39), (some (36, true)), [9, 6]⟩),
         (true, ⟨(some 41), .faddr 3 .one (.t 40), (some (36, true)), [10, 6]⟩),
         (true, ⟨(some 42), .load .one (.t 41), (some (36, true)), [11, 6]⟩),
         (false, ⟨(some 43), .mv (.t 1), (some (36, true)), [6]⟩),
         (false, ⟨(some 44), .iaddr 1 (.t 42) (.t 43), (some (36, true)), [12, 13, 6]⟩),
         (false, ⟨(some 45), .load .one (.t 44), (some (36, true)), [14, 6]⟩),
         (false, ⟨(some 46), .bin .eql (.t 38) (.t 45), (some (36, true)), [8, 15, 6]⟩),
         (false, ⟨(some 47), .pick (.t 36) (.t 46) (.c (.sc (.bool false))), none, [6, 16]⟩)]) (
      .cond (.t 47) (.reg [⟨(some 48), .mv (.t 5), none, []⟩,
         ⟨(some 49), .iaddrA 3 .one (.t 7) (.c (.sc (.int .i64 0))), none, []⟩,
         ⟨(some 50), .load .one (.t 49), none, [1]⟩,
         ⟨(some 51), .iaddrA 3 .one (.t 7) (.c (.sc (.int .i64 1))), none, []⟩,
         ⟨(some 52), .load .one (.t 51), none, [3]⟩,
         ⟨(some 53), .bin .add (.t 52) (.c (.sc (.int .i64 1))), none, [4]⟩,
         ⟨(some 54), .iaddrA 3 .one (.t 7) (.c (.sc (.int .i64 2))), none, []⟩,
         ⟨(some 55), .load .one (.t 54), none, [6]⟩,
         ⟨(some 56), .build [(.sc (.int .i64 0)), (.sc (.int .i64 0)), (.sc (.int .i64 0))] [(0, 1, (.t 50)), (1, 1, (.t 53)), (2, 1, (.t 55))], none, [2, 5, 7]⟩,
         ⟨(some 57), .bslice 3 1 (.agg [(.sc (.int .i64 0)), (.sc (.int .i64 0)), (.sc (.int .i64 0))]) [(0, (.t 56))], none, [8]⟩,
         ⟨(some 58), .append 3 24 (.t 48) (.t 57), none, [0, 9]⟩,
         ⟨(some 5), .mv (.t 58), none, [10, 10, 0, 1, 2, 3, 4, 5, 6, 7, 8, 9, 10]⟩]) (
      .skip)))))) (
    .reg [⟨(some 59), .bin .add (.t 20) (.c (.sc (.int .i64 1))), none, []⟩,
      ⟨(some 20), .mv (.t 59), none, [0]⟩])))
def lp1_earley_chart_scan : ACode :=
 .seq (.reg [⟨(some 68), .bin .lss (.t 67) (.t 66), none, []⟩]) (
    .seq (.cond (.t 68) (.skip) (
     .exit 2)) (
    .seq (.block 3 (.seq (.reg [⟨(some 69), .iaddr 3 (.t 65) (.t 67), none, []⟩,
         ⟨(some 70), .load (.agg 3) (.t 69), none, [0]⟩,
         ⟨(some 11), .pnew 3, none, []⟩,
         ⟨none, .pstore 3 11 (.t 70), none, [2, 1, 0, 1, 2]⟩]) (
      .reg [⟨(some 71), .mv (.t 0), none, []⟩,
        ⟨(some 72), .mv (.t 1), none, []⟩,
        ⟨(some 73), .bin .add (.t 72) (.c (.sc (.int .i64 1))), none, [1]⟩,
        ⟨(some 74), .load (.agg 3) (.t 11), none, []⟩,
        ⟨(some 75), .call (.c (.fn (.func 50) [] [])) [(.t 71), (.t 73), (.t 74)], none, [0, 2, 3]⟩]))) (
    .reg [⟨(some 76), .bin .add (.t 67) (.c (.sc (.int .i64 1))), none, []⟩,
      ⟨(some 67), .mv (.t 76), none, [0]⟩])))
/-- (*apodixis/earley.chart).scan -/
def ann_earley_chart_scan : List Nat := [7, 8, 11]
def code_earley_chart_scan : ACode :=
 .seq (.reg [⟨(some 4), .mv (.c (.sc (.bool false))), none, []⟩]) (
 .seq (.reg [⟨(some 5), .mv (.c (.sl 0 [] .nil)), none, []⟩]) (
 .seq (.seq (.reg [⟨(some 12), .mv (.t 0), none, []⟩,
     ⟨(some 13), .nilc (.t 12), none, [0]⟩,
     ⟨(some 14), .faddr 4 .one (.t 13), none, [1]⟩,
     ⟨(some 15), .load .one (.t 14), none, [2]⟩,
     ⟨(some 16), .mv (.t 1), none, []⟩,
     ⟨(some 17), .iaddr 1 (.t 15) (.t 16), none, [3, 4]⟩,
     ⟨(some 18), .load .one (.t 17), none, [5]⟩,
     ⟨(some 19), .len .sl (.t 18), none, [6]⟩,
     ⟨(some 20), .mv (.c (.sc (.int .i64 0))), none, []⟩]) (
  .block 0 (.loop lp0_earley_chart_scan))) (
 .seq (.seq (.reg [⟨(some 60), .mv (.t 5), none, []⟩,
     ⟨(some 61), .len .sl (.t 60), none, [0]⟩,
     ⟨(some 62), .bin .eql (.t 61) (.c (.sc (.int .i64 0))), none, [1]⟩]) (
  .cond (.t 62) (.seq (.reg [⟨(some 4), .mv (.c (.sc (.bool false))), none, []⟩]) (
   .ret)) (
  .skip))) (
 .seq (.reg [⟨(some 63), .mv (.t 0), none, []⟩,
    ⟨(some 64), .call (.c (.fn (.func 37) [] [])) [(.t 63)], none, [0]⟩]) (
 .seq (.seq (.reg [⟨(some 65), .mv (.t 5), none, []⟩,
     ⟨(some 66), .len .sl (.t 65), none, [0]⟩,
     ⟨(some 67), .mv (.c (.sc (.int .i64 0))), none, []⟩]) (
  .block 2 (.loop lp1_earley_chart_scan))) (
 .seq (.reg [⟨(some 4), .mv (.c (.sc (.bool true))), none, []⟩]) (
 .ret)))))))
def res_earley_chart_scan : List ResA := [.t 4]
theorem comp_earley_chart_scan : Try.f40.body.bind (compCode PP ann_earley_chart_scan 77) = some code_earley_chart_scan := by kernel_rfl
theorem resc_earley_chart_scan : mapM' (compRes PP) Try.f40.results.toList = some res_earley_chart_scan := by kernel_rfl
theorem body_earley_chart_scan : hasBody PP 40 = true := by kernel_rfl
theorem enter_earley_chart_scan {args : List AV} {h : AHeap} {R : AEnd → AHeap → Prop} (hargs : args.length ≤ 77) (hw : codeWp ⟨PP, Gl, 77, ann_earley_chart_scan, h.length, none⟩ code_earley_chart_scan (retPost PP Gl h res_earley_chart_scan R) (initEnv args) h) : ACalls PP Gl 40 args h R :=
  acalls_of_code Try.func40 body_earley_chart_scan comp_earley_chart_scan resc_earley_chart_scan hargs (Nat.le_trans hargs (by decide)) (codeWp_sound mixed hw)

/-- (*apodixis/earley.packer).meet -/
def ann_earley_packer_meet : List Nat := [3]
def code_earley_packer_meet : ACode :=
 .seq (.reg [⟨(some 3), .box (.t 1), none, []⟩,
    ⟨(some 4), .mv (.c (.sc (.int .i64 0))), none, []⟩]) (
 .seq (.dreg [(true, ⟨(some 8), .mv (.t 0), none, []⟩),
    (true, ⟨(some 9), .nilc (.t 8), none, [0]⟩),
    (true, ⟨(some 10), .faddr 1 .one (.t 9), none, [1]⟩),
    (true, ⟨(some 11), .load .one (.t 10), none, [2]⟩),
    (false, ⟨(some 12), .load (.agg 3) (.t 3), none, []⟩),
    (false, ⟨(some 13), .lookup (.flat [1, 0, 0]) (.sc (.int .i64 0)) true (.t 11) (.t 12), none, [3, 4]⟩),
    (false, ⟨(some 7), .mv (.t 13), none, [5]⟩),
    (true, ⟨(some 14), .extract (.t 7) 0, none, [6]⟩),
    (true, ⟨(some 15), .extract (.t 7) 1, none, [6]⟩),
    (false, ⟨(some 5), .mv (.t 14), none, [7, 0, 1, 2, 3, 4, 5, 6, 7]⟩),
    (false, ⟨(some 6), .mv (.t 15), none, [8, 9, 0, 1, 2, 3, 4, 5, 6, 7, 8, 9]⟩)]) (
 .seq (.seq (.reg [⟨(some 16), .mv (.t 6), none, []⟩,
     ⟨(some 17), .un .not (.t 16), none, [0]⟩]) (
  .cond (.t 17) (.seq (.reg [⟨(some 18), .mv (.t 0), none, []⟩,
      ⟨(some 19), .nilc (.t 18), none, [0]⟩,
      ⟨(some 20), .faddr 2 .one (.t 19), none, [1]⟩,
      ⟨(some 21), .load .one (.t 20), none, [2]⟩,
      ⟨(some 22), .len .sl (.t 21), none, [3]⟩,
      ⟨(some 5), .mv (.t 22), none, [4, 0, 1, 2, 3, 4]⟩]) (
   .seq (.dreg [(true, ⟨(some 23), .mv (.t 0), none, []⟩),
      (true, ⟨(some 24), .nilc (.t 23), none, [0]⟩),
      (true, ⟨(some 25), .faddr 1 .one (.t 24), none, [1]⟩),
      (true, ⟨(some 26), .load .one (.t 25), none, [2]⟩),
      (true, ⟨(some 27), .load (.agg 3) (.t 3), none, []⟩),
      (false, ⟨(some 28), .mv (.t 5), none, []⟩),
      (false, ⟨none, .mapUpd (.flat [1, 0, 0]) (.t 26) (.t 27) (.t 28), none, [3, 4, 5, 0, 1, 2, 3, 4, 5]⟩)]) (
   .dreg [(true, ⟨(some 29), .mv (.t 0), none, []⟩),
     (true, ⟨(some 30), .mv (.t 0), none, []⟩),
     (true, ⟨(some 31), .nilc (.t 30), none, [1]⟩),
     (true, ⟨(some 32), .faddr 2 .one (.t 31), none, [2]⟩),
     (true, ⟨(some 33), .load .one (.t 32), none, [3]⟩),
     (false, ⟨(some 34), .load (.agg 3) (.t 3), none, []⟩),
     (false, ⟨(some 35), .bslice 3 1 (.agg [(.sc (.string ⟨#[]⟩)), (.sc (.int .i64 0)), (.sc (.int .i64 0))]) [(0, (.t 34))], none, [5]⟩),
     (false, ⟨(some 36), .append 3 32 (.t 33) (.t 35), none, [4, 6]⟩),
     (false, ⟨(some 37), .nilc (.t 29), none, [0, 0, 1, 2, 3, 4, 5, 6, 7]⟩),
     (false, ⟨(some 38), .faddr 2 .one (.t 37), none, [8, 0, 1, 2, 3, 4, 5, 6, 7]⟩),
     (false, ⟨none, .store 1 (.t 38) (.t 36), none, [9, 7, 7, 0, 1, 2, 3, 4, 5, 6, 7]⟩)]))) (
  .skip))) (
 .seq (.reg [⟨(some 39), .mv (.t 5), none, []⟩,
    ⟨(some 4), .mv (.t 39), none, [0, 0]⟩]) (
 .ret))))
def res_earley_packer_meet : List ResA := [.t 4]
theorem comp_earley_packer_meet : Try.f41.body.bind (compCode PP ann_earley_packer_meet 40) = some code_earley_packer_meet := by kernel_rfl
theorem resc_earley_packer_meet : mapM' (compRes PP) Try.f41.results.toList = some res_earley_packer_meet := by kernel_rfl
theorem body_earley_packer_meet : hasBody PP 41 = true := by kernel_rfl
theorem enter_earley_packer_meet {args : List AV} {h : AHeap} {R : AEnd → AHeap → Prop} (hargs : args.length ≤ 40) (hw : codeWp ⟨PP, Gl, 40, ann_earley_packer_meet, h.length, none⟩ code_earley_packer_meet (retPost PP Gl h res_earley_packer_meet R) (initEnv args) h) : ACalls PP Gl 41 args h R :=
  acalls_of_code Try.func41 body_earley_packer_meet comp_earley_packer_meet resc_earley_packer_meet hargs (Nat.le_trans hargs (by decide)) (codeWp_sound mixed hw)

def lp0_earley_packer_ways : ACode :=
 .seq (.reg [⟨(some 29), .bin .lss (.t 28) (.t 27), none, []⟩]) (
    .seq (.cond (.t 29) (.skip) (
     .exit 0)) (
    .seq (.block 1 (.seq (.reg [⟨(some 30), .iaddr 3 (.t 26) (.t 28), none, []⟩,
         ⟨(some 31), .load (.agg 3) (.t 30), none, [0]⟩,
         ⟨(some 12), .pnew 3, none, []⟩,
         ⟨none, .pstore 3 12 (.t 31), none, [2, 1, 0, 1, 2]⟩]) (
      .seq (.reg [⟨(some 32), .faddr 1 .one (.t 12), none, []⟩,
         ⟨(some 33), .load .one (.t 32), none, [0]⟩,
         ⟨(some 34), .bin .neq (.t 33) (.c (.sc (.string ⟨#[]⟩))), none, [1]⟩]) (
      .cond (.t 34) (.reg [⟨(some 35), .mv (.t 10), none, []⟩,
         ⟨(some 36), .bin .add (.t 35) (.c (.sc (.int .i64 1))), none, [0]⟩,
         ⟨(some 10), .mv (.t 36), none, [1, 0, 1]⟩]) (
      .skip))))) (
    .reg [⟨(some 37), .bin .add (.t 28) (.c (.sc (.int .i64 1))), none, []⟩,
      ⟨(some 28), .mv (.t 37), none, [0]⟩])))
/-- (*apodixis/earley.packer).ways -/
def ann_earley_packer_ways : List Nat := [4, 5, 6, 7, 9, 12, 13]
def code_earley_packer_ways : ACode :=
 .seq (.reg [⟨(some 4), .box (.t 0), none, []⟩,
    ⟨(some 5), .box (.t 1), none, []⟩,
    ⟨(some 6), .box (.t 2), none, []⟩,
    ⟨(some 7), .box (.t 3), none, []⟩,
    ⟨(some 8), .mv (.c (.sc .nilFunc)), none, []⟩]) (
 .seq (.dreg [(true, ⟨(some 14), .load .one (.t 4), none, []⟩),
    (true, ⟨(some 15), .nilc (.t 14), none, [0]⟩),
    (true, ⟨(some 16), .faddr 0 .one (.t 15), none, [1]⟩),
    (true, ⟨(some 17), .load .one (.t 16), none, [2]⟩),
    (true, ⟨(some 18), .nilc (.t 17), none, [3]⟩),
    (true, ⟨(some 19), .faddr 0 (.agg 2) (.t 18), none, [4]⟩),
    (true, ⟨(some 20), .faddr 1 .one (.t 19), none, [5]⟩),
    (true, ⟨(some 21), .load .one (.t 20), none, [6]⟩),
    (true, ⟨(some 22), .load .one (.t 5), none, []⟩),
    (true, ⟨(some 23), .iaddr 4 (.t 21) (.t 22), none, [7, 8]⟩),
    (true, ⟨(some 24), .faddr 2 .one (.t 23), none, [9]⟩),
    (true, ⟨(some 25), .load .one (.t 24), none, [10]⟩),
    (false, ⟨(some 9), .pnew 1, none, []⟩),
    (false, ⟨none, .pstore 1 9 (.t 25), none, [12, 11, 0, 1, 2, 3, 4, 5, 6, 7, 8, 9, 10, 11, 12]⟩)]) (
 .seq (.reg [⟨(some 10), .mv (.c (.sc (.int .i64 0))), none, []⟩]) (
 .seq (.seq (.reg [⟨(some 26), .load .one (.t 9), none, []⟩,
     ⟨(some 27), .len .sl (.t 26), none, [0]⟩,
     ⟨(some 28), .mv (.c (.sc (.int .i64 0))), none, []⟩]) (
  .block 0 (.loop lp0_earley_packer_ways))) (
 .seq (.reg [⟨(some 38), .mv (.t 10), none, []⟩,
    ⟨(some 39), .mkSlice 3 32 [(.sc (.string ⟨#[]⟩)), (.sc (.int .i64 0)), (.sc (.int .i64 0))] (.t 38) (.t 38), none, [0, 0]⟩,
    ⟨(some 13), .pnew 1, none, []⟩,
    ⟨none, .pstore 1 13 (.t 39), none, [2, 1, 0, 1, 2]⟩]) (
 .seq (.reg [⟨(some 40), .mkFunc (.func 53) [] [(.t 4), (.t 5), (.t 7), (.t 9), (.t 13), (.t 6)], none, []⟩,
    ⟨(some 8), .mv (.t 40), none, [0, 0]⟩]) (
 .ret))))))
def res_earley_packer_ways : List ResA := [.t 8]
theorem comp_earley_packer_ways : Try.f42.body.bind (compCode PP ann_earley_packer_ways 41) = some code_earley_packer_ways := by kernel_rfl
theorem resc_earley_packer_ways : mapM' (compRes PP) Try.f42.results.toList = some res_earley_packer_ways := by kernel_rfl
theorem body_earley_packer_ways : hasBody PP 42 = true := by kernel_rfl
theorem enter_earley_packer_ways {args : List AV} {h : AHeap} {R : AEnd → AHeap → Prop} (hargs : args.length ≤ 41) (hw : codeWp ⟨PP, Gl, 41, ann_earley_packer_ways, h.length, none⟩ code_earley_packer_ways (retPost PP Gl h res_earley_packer_ways R) (initEnv args) h) : ACalls PP Gl 42 args h R :=
  acalls_of_code Try.func42 body_earley_packer_ways comp_earley_packer_ways resc_earley_packer_ways hargs (Nat.le_trans hargs (by decide)) (codeWp_sound mixed hw)

def lp1_earley_counter_count : ACode :=
 .seq (.reg [⟨(some 46), .bin .lss (.t 45) (.t 44), none, []⟩]) (
         .seq (.cond (.t 46) (.skip) (
          .exit 3)) (
         .seq (.block 4 (.seq (.reg [⟨(some 47), .iaddr 1 (.t 43) (.t 45), none, []⟩,
              ⟨(some 48), .load .one (.t 47), none, [0]⟩,
              ⟨(some 10), .mv (.t 48), none, [1, 0, 1]⟩]) (
           .seq (.seq (.reg [⟨(some 49), .mv (.t 0), none, []⟩,
               ⟨(some 50), .mv (.t 10), none, []⟩,
               ⟨(some 51), .call (.c (.fn (.func 43) [] [])) [(.t 49), (.t 50)], none, [0, 1]⟩,
               ⟨(some 52), .un .not (.t 51), none, [2]⟩]) (
            .cond (.t 52) (.seq (.reg [⟨(some 4), .mv (.c (.sc (.bool false))), none, []⟩]) (
             .ret)) (
            .skip))) (
           .reg [⟨(some 53), .mv (.t 8), none, []⟩,
             ⟨(some 54), .mv (.t 0), none, []⟩,
             ⟨(some 55), .nilc (.t 54), none, [1]⟩,
             ⟨(some 56), .faddr 2 .one (.t 55), none, [2]⟩,
             ⟨(some 57), .load .one (.t 56), none, [3]⟩,
             ⟨(some 58), .mv (.t 10), none, []⟩,
             ⟨(some 59), .iaddr 1 (.t 57) (.t 58), none, [4, 5]⟩,
             ⟨(some 60), .load .one (.t 59), none, [6]⟩,
             ⟨(some 61), .bin .mul (.t 53) (.t 60), none, [0, 7]⟩,
             ⟨(some 62), .mx false (.t 61) (.c (.sc (.int .i64 1000000001))), none, [8]⟩,
             ⟨(some 8), .mv (.t 62), none, [9, 0, 1, 2, 3, 4, 5, 6, 7, 8, 9]⟩])))) (
         .reg [⟨(some 63), .bin .add (.t 45) (.c (.sc (.int .i64 1))), none, []⟩,
           ⟨(some 45), .mv (.t 63), none, [0]⟩])))
def lp0_earley_counter_count : ACode :=
 .seq (.reg [⟨(some 39), .bin .lss (.t 38) (.t 37), none, []⟩]) (
    .seq (.cond (.t 39) (.skip) (
     .exit 1)) (
    .seq (.block 2 (.seq (.reg [⟨(some 40), .iaddr 2 (.t 36) (.t 38), none, []⟩,
         ⟨(some 41), .load (.agg 2) (.t 40), none, [0]⟩,
         ⟨(some 7), .pnew 2, none, []⟩,
         ⟨none, .pstore 2 7 (.t 41), none, [2, 1, 0, 1, 2]⟩]) (
      .seq (.reg [⟨(some 8), .mv (.c (.sc (.int .i64 1))), none, []⟩]) (
      .seq (.seq (.reg [⟨(some 42), .faddr 1 .one (.t 7), none, []⟩,
          ⟨(some 43), .load .one (.t 42), none, [0]⟩,
          ⟨(some 44), .len .sl (.t 43), none, [1]⟩,
          ⟨(some 45), .mv (.c (.sc (.int .i64 0))), none, []⟩]) (
       .block 3 (.loop lp1_earley_counter_count))) (
      .reg [⟨(some 64), .mv (.t 5), none, []⟩,
        ⟨(some 65), .mv (.t 8), none, []⟩,
        ⟨(some 66), .bin .add (.t 64) (.t 65), none, [0, 1]⟩,
        ⟨(some 67), .mx false (.t 66) (.c (.sc (.int .i64 1000000001))), none, [2]⟩,
        ⟨(some 5), .mv (.t 67), none, [3, 0, 1, 2, 3]⟩]))))) (
    .reg [⟨(some 68), .bin .add (.t 38) (.c (.sc (.int .i64 1))), none, []⟩,
      ⟨(some 38), .mv (.t 68), none, [0]⟩])))
/-- (*apodixis/earley.counter).count -/
def ann_earley_counter_count : List Nat := [7]
def code_earley_counter_count : ACode :=
 .seq (.reg [⟨(some 4), .mv (.c (.sc (.bool false))), none, []⟩]) (
 .seq (.seq (.reg [⟨(some 11), .mv (.t 0), none, []⟩,
     ⟨(some 12), .nilc (.t 11), none, [0]⟩,
     ⟨(some 13), .faddr 1 .one (.t 12), none, [1]⟩,
     ⟨(some 14), .load .one (.t 13), none, [2]⟩,
     ⟨(some 15), .mv (.t 1), none, []⟩,
     ⟨(some 16), .iaddr 1 (.t 14) (.t 15), none, [3, 4]⟩,
     ⟨(some 17), .load .one (.t 16), none, [5]⟩]) (
  .block 0 (.seq (.reg [⟨(some 19), .bin .eql (.t 17) (.c (.sc (.int .i64 1))), none, []⟩,
      ⟨(some 18), .mv (.t 19), none, [0]⟩]) (
   .cond (.t 18) (.seq (.reg [⟨(some 4), .mv (.c (.sc (.bool false))), none, []⟩]) (
    .ret)) (
   .seq (.reg [⟨(some 21), .bin .eql (.t 17) (.c (.sc (.int .i64 2))), none, []⟩,
       ⟨(some 20), .mv (.t 21), none, [0]⟩]) (
    .cond (.t 20) (.seq (.reg [⟨(some 4), .mv (.c (.sc (.bool true))), none, []⟩]) (
     .ret)) (
    .skip))))))) (
 .seq (.reg [⟨(some 22), .mv (.t 0), none, []⟩,
    ⟨(some 23), .nilc (.t 22), none, [0]⟩,
    ⟨(some 24), .faddr 1 .one (.t 23), none, [1]⟩,
    ⟨(some 25), .load .one (.t 24), none, [2]⟩,
    ⟨(some 26), .mv (.t 1), none, []⟩,
    ⟨(some 27), .iaddr 1 (.t 25) (.t 26), none, [3, 4, 0, 1, 2, 3, 4]⟩,
    ⟨none, .store 1 (.t 27) (.c (.sc (.int .i64 1))), none, [5, 0, 1, 2, 3, 4]⟩]) (
 .seq (.reg [⟨(some 5), .mv (.c (.sc (.int .i64 0))), none, []⟩]) (
 .seq (.seq (.reg [⟨(some 28), .mv (.t 0), none, []⟩,
     ⟨(some 29), .nilc (.t 28), none, [0]⟩,
     ⟨(some 30), .faddr 0 (.agg 1) (.t 29), none, [1]⟩,
     ⟨(some 31), .faddr 0 .one (.t 30), none, [2]⟩,
     ⟨(some 32), .load .one (.t 31), none, [3]⟩,
     ⟨(some 33), .mv (.t 1), none, []⟩,
     ⟨(some 34), .iaddr 4 (.t 32) (.t 33), none, [4, 5]⟩,
     ⟨(some 35), .faddr 3 .one (.t 34), none, [6]⟩,
     ⟨(some 36), .load .one (.t 35), none, [7]⟩,
     ⟨(some 37), .len .sl (.t 36), none, [8]⟩,
     ⟨(some 38), .mv (.c (.sc (.int .i64 0))), none, []⟩]) (
  .block 1 (.loop lp0_earley_counter_count))) (
 .seq (.dreg [(true, ⟨(some 69), .mv (.t 0), none, []⟩),
    (true, ⟨(some 70), .nilc (.t 69), none, [0]⟩),
    (true, ⟨(some 71), .faddr 1 .one (.t 70), none, [1]⟩),
    (true, ⟨(some 72), .load .one (.t 71), none, [2]⟩),
    (true, ⟨(some 73), .mv (.t 1), none, []⟩),
    (true, ⟨(some 74), .mv (.t 0), none, []⟩),
    (true, ⟨(some 75), .nilc (.t 74), none, [5]⟩),
    (true, ⟨(some 76), .faddr 2 .one (.t 75), none, [6]⟩),
    (true, ⟨(some 77), .load .one (.t 76), none, [7]⟩),
    (true, ⟨(some 78), .mv (.t 1), none, []⟩),
    (true, ⟨(some 79), .mv (.t 5), none, []⟩),
    (false, ⟨(some 80), .iaddr 1 (.t 72) (.t 73), none, [3, 4, 0, 1, 2, 3, 4, 8]⟩),
    (false, ⟨none, .store 1 (.t 80) (.c (.sc (.int .i64 2))), none, [11, 0, 1, 2, 3, 4, 8]⟩),
    (false, ⟨(some 81), .iaddr 1 (.t 77) (.t 78), none, [8, 9, 0, 1, 2, 3, 4, 5, 6, 7, 8, 9, 10, 11, 12]⟩),
    (false, ⟨none, .store 1 (.t 81) (.t 79), none, [13, 10, 12, 0, 1, 2, 3, 4, 5, 6, 7, 8, 9, 10, 11, 12]⟩)]) (
 .seq (.reg [⟨(some 4), .mv (.c (.sc (.bool true))), none, []⟩]) (
 .ret)))))))
def res_earley_counter_count : List ResA := [.t 4]
theorem comp_earley_counter_count : Try.f43.body.bind (compCode PP ann_earley_counter_count 82) = some code_earley_counter_count := by kernel_rfl
theorem resc_earley_counter_count : mapM' (compRes PP) Try.f43.results.toList = some res_earley_counter_count := by kernel_rfl
theorem body_earley_counter_count : hasBody PP 43 = true := by kernel_rfl
theorem enter_earley_counter_count {args : List AV} {h : AHeap} {R : AEnd → AHeap → Prop} (hargs : args.length ≤ 82) (hw : codeWp ⟨PP, Gl, 82, ann_earley_counter_count, h.length, none⟩ code_earley_counter_count (retPost PP Gl h res_earley_counter_count R) (initEnv args) h) : ACalls PP Gl 43 args h R :=
  acalls_of_code Try.func43 body_earley_counter_count comp_earley_counter_count resc_earley_counter_count hargs (Nat.le_trans hargs (by decide)) (codeWp_sound mixed hw)

/-- apodixis/grammar.Check$1 -/
def ann_grammar_Check_1 : List Nat := [1]
def code_grammar_Check_1 : ACode :=
 .seq (.reg [⟨(some 1), .box (.t 0), none, []⟩,
    ⟨(some 2), .mv (.c (.sc (.bool false))), none, []⟩]) (
 .seq (.reg [⟨(some 3), .faddr 2 .one (.t 1), none, []⟩,
    ⟨(some 4), .load .one (.t 3), none, [0]⟩,
    ⟨(some 5), .len .sl (.t 4), none, [1]⟩,
    ⟨(some 6), .bin .gtr (.t 5) (.c (.sc (.int .i64 200))), none, [2]⟩,
    ⟨(some 2), .mv (.t 6), none, [3, 0, 1, 2, 3]⟩]) (
 .ret))
def res_grammar_Check_1 : List ResA := [.t 2]
theorem comp_grammar_Check_1 : Try.f44.body.bind (compCode PP ann_grammar_Check_1 7) = some code_grammar_Check_1 := by kernel_rfl
theorem resc_grammar_Check_1 : mapM' (compRes PP) Try.f44.results.toList = some res_grammar_Check_1 := by kernel_rfl
theorem body_grammar_Check_1 : hasBody PP 44 = true := by kernel_rfl
theorem enter_grammar_Check_1 {args : List AV} {h : AHeap} {R : AEnd → AHeap → Prop} (hargs : args.length ≤ 7) (hw : codeWp ⟨PP, Gl, 7, ann_grammar_Check_1, h.length, none⟩ code_grammar_Check_1 (retPost PP Gl h res_grammar_Check_1 R) (initEnv args) h) : ACalls PP Gl 44 args h R :=
  acalls_of_code Try.func44 body_grammar_Check_1 comp_grammar_Check_1 resc_grammar_Check_1 hargs (Nat.le_trans hargs (by decide)) (codeWp_sound mixed hw)

/-- slices.ContainsFunc[[]apodixis/grammar.Rule,apodixis/grammar.Rule] -/
def ann_slices_ContainsFunc_grammar_Rule_grammar_Rule : List Nat := []
def code_slices_ContainsFunc_grammar_Rule_grammar_Rule : ACode :=
 .seq (.reg [⟨(some 4), .mv (.c (.sc (.bool false))), none, []⟩]) (
 .seq (.reg [⟨(some 5), .mv (.t 0), none, []⟩,
    ⟨(some 6), .mv (.t 1), none, []⟩,
    ⟨(some 7), .call (.c (.fn (.func 57) [] [])) [(.t 5), (.t 6)], none, [0, 1]⟩,
    ⟨(some 8), .bin .geq (.t 7) (.c (.sc (.int .i64 0))), none, [2]⟩,
    ⟨(some 4), .mv (.t 8), none, [3, 2, 0, 1, 2, 3]⟩]) (
 .ret))
def res_slices_ContainsFunc_grammar_Rule_grammar_Rule : List ResA := [.t 4]
theorem comp_slices_ContainsFunc_grammar_Rule_grammar_Rule : Try.f45.body.bind (compCode PP ann_slices_ContainsFunc_grammar_Rule_grammar_Rule 9) = some code_slices_ContainsFunc_grammar_Rule_grammar_Rule := by kernel_rfl
theorem resc_slices_ContainsFunc_grammar_Rule_grammar_Rule : mapM' (compRes PP) Try.f45.results.toList = some res_slices_ContainsFunc_grammar_Rule_grammar_Rule := by kernel_rfl
theorem body_slices_ContainsFunc_grammar_Rule_grammar_Rule : hasBody PP 45 = true := by kernel_rfl
theorem enter_slices_ContainsFunc_grammar_Rule_grammar_Rule {args : List AV} {h : AHeap} {R : AEnd → AHeap → Prop} (hargs : args.length ≤ 9) (hw : codeWp ⟨PP, Gl, 9, ann_slices_ContainsFunc_grammar_Rule_grammar_Rule, h.length, none⟩ code_slices_ContainsFunc_grammar_Rule_grammar_Rule (retPost PP Gl h res_slices_ContainsFunc_grammar_Rule_grammar_Rule R) (initEnv args) h) : ACalls PP Gl 45 args h R :=
  acalls_of_code Try.func45 body_slices_ContainsFunc_grammar_Rule_grammar_Rule comp_slices_ContainsFunc_grammar_Rule_grammar_Rule resc_slices_ContainsFunc_grammar_Rule_grammar_Rule hargs (Nat.le_trans hargs (by decide)) (codeWp_sound mixed hw)

/-- apodixis/grammar.name -/
def ann_grammar_name : List Nat := []
def code_grammar_name : ACode :=
 .seq (.reg [⟨(some 2), .mv (.c (.sc (.bool false))), none, []⟩]) (
 .seq (.reg [⟨(some 3), .mv (.t 0), none, []⟩,
    ⟨(some 4), .bin .neq (.t 3) (.c (.sc (.string ⟨#[]⟩))), none, [0]⟩,
    ⟨(some 5), .mv (.t 4), none, [1]⟩,
    ⟨(some 6), .mv (.t 0), (some (5, true)), [2]⟩,
    ⟨(some 7), .len .str (.t 6), (some (5, true)), [3, 2]⟩,
    ⟨(some 8), .bin .leq (.t 7) (.c (.sc (.int .i64 60))), (some (5, true)), [4, 2]⟩,
    ⟨(some 9), .pick (.t 5) (.t 8) (.c (.sc (.bool false))), none, [2, 5]⟩,
    ⟨(some 2), .mv (.t 9), none, [6, 2, 0, 1, 2, 3, 4, 5, 6]⟩]) (
 .ret))
def res_grammar_name : List ResA := [.t 2]
theorem comp_grammar_name : Try.f46.body.bind (compCode PP ann_grammar_name 10) = some code_grammar_name := by kernel_rfl
theorem resc_grammar_name : mapM' (compRes PP) Try.f46.results.toList = some res_grammar_name := by kernel_rfl
theorem body_grammar_name : hasBody PP 46 = true := by kernel_rfl
theorem enter_grammar_name {args : List AV} {h : AHeap} {R : AEnd → AHeap → Prop} (hargs : args.length ≤ 10) (hw : codeWp ⟨PP, Gl, 10, ann_grammar_name, h.length, none⟩ code_grammar_name (retPost PP Gl h res_grammar_name R) (initEnv args) h) : ACalls PP Gl 46 args h R :=
  acalls_of_code Try.func46 body_grammar_name comp_grammar_name resc_grammar_name hargs (Nat.le_trans hargs (by decide)) (codeWp_sound mixed hw)

def ra0_grammar_Rule_valid : ACode :=
 .reg [⟨(some 6), .pnew 3, none, []⟩,
      ⟨none, .pstore 3 6 (.t 29), none, [0, 0]⟩]
def rb0_grammar_Rule_valid : ACode :=
 .block 1 (.reg [⟨(some 30), .load .one (.t 5), none, []⟩,
       ⟨(some 31), .faddr 2 .one (.t 6), none, []⟩,
       ⟨(some 32), .load .one (.t 31), none, [1]⟩,
       ⟨(some 33), .bslice 1 1 (.sc (.int .i64 0)) [(0, (.t 32))], none, [2]⟩,
       ⟨(some 34), .mappend 1 8 (.t 30) (.t 33), none, [0, 3]⟩,
       ⟨none, .store 1 (.t 5) (.t 34), none, [4, 4, 0, 1, 2, 3, 4]⟩])
def lp0_grammar_Rule_valid : ACode :=
 .seq (.reg [⟨(some 40), .bin .lss (.t 39) (.t 38), none, []⟩]) (
    .seq (.cond (.t 40) (.skip) (
     .exit 2)) (
    .seq (.block 3 (.seq (.reg [⟨(some 41), .mv (.t 39), none, []⟩,
         ⟨(some 42), .iaddr 1 (.t 37) (.t 39), none, []⟩,
         ⟨(some 43), .load .one (.t 42), none, [1]⟩,
         ⟨(some 7), .mv (.t 41), none, [0, 0, 1, 2]⟩,
         ⟨(some 8), .mv (.t 43), none, [2, 3, 0, 1, 2, 3]⟩]) (
      .seq (.reg [⟨(some 44), .mv (.t 8), none, []⟩,
         ⟨(some 45), .mv (.t 7), none, []⟩,
         ⟨(some 46), .bin .neq (.t 44) (.t 45), none, [0, 1]⟩]) (
      .cond (.t 46) (.seq (.reg [⟨(some 4), .mv (.c (.sc (.bool false))), none, []⟩]) (
       .ret)) (
      .skip))))) (
    .reg [⟨(some 47), .bin .add (.t 39) (.c (.sc (.int .i64 1))), none, []⟩,
      ⟨(some 39), .mv (.t 47), none, [0]⟩])))
/-- (apodixis/grammar.Rule).valid -/
def ann_grammar_Rule_valid : List Nat := [2, 3, 6, 34]
def code_grammar_Rule_valid : ACode :=
 .seq (.reg [⟨(some 2), .box (.t 0), none, []⟩,
    ⟨(some 3), .box (.t 1), none, []⟩,
    ⟨(some 4), .mv (.c (.sc (.bool false))), none, []⟩]) (
 .seq (.seq (.reg [⟨(some 9), .faddr 0 .one (.t 2), none, []⟩,
     ⟨(some 10), .load .one (.t 9), none, [0]⟩,
     ⟨(some 11), .call (.c (.fn (.func 46) [] [])) [(.t 10)], none, [1]⟩,
     ⟨(some 12), .un .not (.t 11), none, [2]⟩,
     ⟨(some 13), .mv (.t 12), none, [3, 2]⟩,
     ⟨(some 14), .faddr 0 .one (.t 3), (some (13, false)), [4]⟩,
     ⟨(some 15), .load .one (.t 14), (some (13, false)), [5, 4]⟩,
     ⟨(some 16), .faddr 1 .one (.t 2), (some (13, false)), [4]⟩,
     ⟨(some 17), .load .one (.t 16), (some (13, false)), [7, 4]⟩,
     ⟨(some 18), .call (.c (.fn (.func 36) [] [])) [(.t 15), (.t 17)], (some (13, false)), [6, 8, 4, 4]⟩,
     ⟨(some 19), .un .not (.t 18), (some (13, false)), [9, 4]⟩,
     ⟨(some 20), .pick (.t 13) (.c (.sc (.bool true))) (.t 19), none, [4, 10]⟩,
     ⟨(some 21), .mv (.t 20), none, [11, 9]⟩,
     ⟨(some 22), .faddr 2 .one (.t 2), (some (21, false)), [12]⟩,
     ⟨(some 23), .load .one (.t 22), (some (21, false)), [13, 12]⟩,
     ⟨(some 24), .mkFunc (.func 59) [] [(.t 3)], (some (21, false)), [12]⟩,
     ⟨(some 25), .call (.c (.fn (.func 58) [] [])) [(.t 23), (.t 24)], (some (21, false)), [14, 15, 12, 12]⟩,
     ⟨(some 26), .pick (.t 21) (.c (.sc (.bool true))) (.t 25), none, [12, 16]⟩]) (
  .cond (.t 26) (.seq (.reg [⟨(some 4), .mv (.c (.sc (.bool false))), none, []⟩]) (
   .ret)) (
  .skip))) (
 .seq (.reg [⟨(some 5), .new [(.sl 0 [] .nil)], none, []⟩]) (
 .seq (.seq (.reg [⟨(some 27), .load (.agg 4) (.t 2), none, []⟩,
     ⟨(some 28), .call (.c (.fn (.func 61) [] [])) [(.t 27)], none, [0]⟩]) (
  .block 0 (.rangeF (.t 28) [29] ra0_grammar_Rule_valid rb0_grammar_Rule_valid))) (
 .seq (.reg [⟨(some 35), .load .one (.t 5), none, []⟩,
    ⟨(some 36), .call (.c (.fn (.func 62) [] [])) [(.t 35)], none, [0]⟩]) (
 .seq (.seq (.reg [⟨(some 37), .load .one (.t 5), none, []⟩,
     ⟨(some 38), .len .sl (.t 37), none, [0]⟩,
     ⟨(some 39), .mv (.c (.sc (.int .i64 0))), none, []⟩]) (
  .block 2 (.loop lp0_grammar_Rule_valid))) (
 .seq (.reg [⟨(some 48), .faddr 3 .one (.t 2), none, []⟩,
    ⟨(some 49), .load .one (.t 48), none, [0]⟩,
    ⟨(some 50), .un .not (.t 49), none, [1]⟩,
    ⟨(some 51), .mv (.t 50), none, [2]⟩,
    ⟨(some 52), .faddr 2 .one (.t 2), (some (51, false)), [3]⟩,
    ⟨(some 53), .load .one (.t 52), (some (51, false)), [4, 3]⟩,
    ⟨(some 54), .len .sl (.t 53), (some (51, false)), [5, 3]⟩,
    ⟨(some 55), .bin .eql (.t 54) (.c (.sc (.int .i64 1))), (some (51, false)), [6, 3]⟩,
    ⟨(some 56), .mv (.t 55), (some (51, false)), [7, 3, 3]⟩,
    ⟨(some 57), .load .one (.t 5), (some (56, true)), [8]⟩,
    ⟨(some 58), .len .sl (.t 57), (some (56, true)), [9, 8]⟩,
    ⟨(some 59), .bin .eql (.t 58) (.c (.sc (.int .i64 0))), (some (56, true)), [10, 8]⟩,
    ⟨(some 60), .pick (.t 56) (.t 59) (.c (.sc (.bool false))), (some (51, false)), [8, 11, 3]⟩,
    ⟨(some 61), .pick (.t 51) (.c (.sc (.bool true))) (.t 60), none, [3, 12]⟩,
    ⟨(some 4), .mv (.t 61), none, [13, 8, 0, 1, 2, 3, 4, 5, 6, 7, 8, 9, 10, 11, 12, 13]⟩]) (
 .ret)))))))
def res_grammar_Rule_valid : List ResA := [.t 4]
theorem comp_grammar_Rule_valid : Try.f47.body.bind (compCode PP ann_grammar_Rule_valid 62) = some code_grammar_Rule_valid := by kernel_rfl
theorem resc_grammar_Rule_valid : mapM' (compRes PP) Try.f47.results.toList = some res_grammar_Rule_valid := by kernel_rfl
theorem body_grammar_Rule_valid : hasBody PP 47 = true := by kernel_rfl
theorem enter_grammar_Rule_valid {args : List AV} {h : AHeap} {R : AEnd → AHeap → Prop} (hargs : args.length ≤ 62) (hw : codeWp ⟨PP, Gl, 62, ann_grammar_Rule_valid, h.length, none⟩ code_grammar_Rule_valid (retPost PP Gl h res_grammar_Rule_valid R) (initEnv args) h) : ACalls PP Gl 47 args h R :=
  acalls_of_code Try.func47 body_grammar_Rule_valid comp_grammar_Rule_valid resc_grammar_Rule_valid hargs (Nat.le_trans hargs (by decide)) (codeWp_sound mixed hw)

/-- apodixis/apodixisref13.partOK -/
def ann_ref13_partOK : List Nat := [2, 3]
def code_ref13_partOK : ACode :=
 .seq (.reg [⟨(some 2), .box (.t 0), none, []⟩,
    ⟨(some 3), .box (.t 1), none, []⟩,
    ⟨(some 4), .mv (.c (.sc (.bool false))), none, []⟩]) (
 .seq (.seq (.reg [⟨(some 5), .faddr 1 .one (.t 3), none, []⟩,
     ⟨(some 6), .load .one (.t 5), none, [0]⟩,
     ⟨(some 7), .bin .eql (.t 6) (.c (.sc (.string ⟨#[]⟩))), none, [1]⟩]) (
  .cond (.t 7) (.seq (.reg [⟨(some 8), .faddr 0 .one (.t 3), none, []⟩,
      ⟨(some 9), .load .one (.t 8), none, [0]⟩,
      ⟨(some 10), .call (.c (.fn (.func 32) [] [])) [(.t 9)], none, [1]⟩,
      ⟨(some 11), .mv (.t 10), none, [2, 2]⟩,
      ⟨(some 12), .faddr 2 .one (.t 3), (some (11, true)), [3]⟩,
      ⟨(some 13), .load .one (.t 12), (some (11, true)), [4, 3]⟩,
      ⟨(some 14), .bin .eql (.t 13) (.c (.sc (.int .i64 0))), (some (11, true)), [5, 3]⟩,
      ⟨(some 15), .pick (.t 11) (.t 14) (.c (.sc (.bool false))), none, [3, 6]⟩,
      ⟨(some 4), .mv (.t 15), none, [7, 3, 0, 1, 2, 3, 4, 5, 6, 7]⟩]) (
   .ret)) (
  .skip))) (
 .seq (.reg [⟨(some 16), .faddr 0 .one (.t 3), none, []⟩,
    ⟨(some 17), .load .one (.t 16), none, [0]⟩,
    ⟨(some 18), .bin .eql (.t 17) (.c (.sc (.string ⟨#[]⟩))), none, [1]⟩,
    ⟨(some 19), .mv (.t 18), none, [2]⟩,
    ⟨(some 20), .faddr 0 .one (.t 2), (some (19, true)), [3]⟩,
    ⟨(some 21), .load .one (.t 20), (some (19, true)), [4, 3]⟩,
    ⟨(some 22), .faddr 1 .one (.t 3), (some (19, true)), [3]⟩,
    ⟨(some 23), .load .one (.t 22), (some (19, true)), [6, 3]⟩,
    ⟨(some 24), .call (.c (.fn (.func 33) [] [])) [(.t 21), (.t 23)], (some (19, true)), [5, 7, 3, 3]⟩,
    ⟨(some 25), .bin .geq (.t 24) (.c (.sc (.int .i64 0))), (some (19, true)), [8, 3]⟩,
    ⟨(some 26), .pick (.t 19) (.t 25) (.c (.sc (.bool false))), none, [3, 9]⟩,
    ⟨(some 4), .mv (.t 26), none, [10, 8, 0, 1, 2, 3, 4, 5, 6, 7, 8, 9, 10]⟩]) (
 .ret)))
def res_ref13_partOK : List ResA := [.t 4]
theorem comp_ref13_partOK : Try.f48.body.bind (compCode PP ann_ref13_partOK 27) = some code_ref13_partOK := by kernel_rfl
theorem resc_ref13_partOK : mapM' (compRes PP) Try.f48.results.toList = some res_ref13_partOK := by kernel_rfl
theorem body_ref13_partOK : hasBody PP 48 = true := by kernel_rfl
theorem enter_ref13_partOK {args : List AV} {h : AHeap} {R : AEnd → AHeap → Prop} (hargs : args.length ≤ 27) (hw : codeWp ⟨PP, Gl, 27, ann_ref13_partOK, h.length, none⟩ code_ref13_partOK (retPost PP Gl h res_ref13_partOK R) (initEnv args) h) : ACalls PP Gl 48 args h R :=
  acalls_of_code Try.func48 body_ref13_partOK comp_ref13_partOK resc_ref13_partOK hargs (Nat.le_trans hargs (by decide)) (codeWp_sound mixed hw)

def lp0_slices_Index_string_string : ACode :=
 .seq (.reg [⟨(some 9), .bin .lss (.t 8) (.t 7), none, []⟩]) (
    .seq (.cond (.t 9) (.skip) (
     .exit 0)) (
    .seq (.block 1 (.seq (.reg [⟨(some 10), .mv (.t 8), none, []⟩,
         ⟨(some 5), .mv (.t 10), none, [0, 0]⟩]) (
      .seq (.reg [⟨(some 11), .mv (.t 1), none, []⟩,
         ⟨(some 12), .mv (.t 0), none, []⟩,
         ⟨(some 13), .mv (.t 5), none, []⟩,
         ⟨(some 14), .iaddr 1 (.t 12) (.t 13), none, [1, 2]⟩,
         ⟨(some 15), .load .one (.t 14), none, [3]⟩,
         ⟨(some 16), .bin .eql (.t 11) (.t 15), none, [0, 4]⟩]) (
      .cond (.t 16) (.seq (.reg [⟨(some 17), .mv (.t 5), none, []⟩,
          ⟨(some 4), .mv (.t 17), none, [0, 0]⟩]) (
       .ret)) (
      .skip))))) (
    .reg [⟨(some 18), .bin .add (.t 8) (.c (.sc (.int .i64 1))), none, []⟩,
      ⟨(some 8), .mv (.t 18), none, [0]⟩])))
/-- slices.Index[[]string,string] -/
def ann_slices_Index_string_string : List Nat := []
def code_slices_Index_string_string : ACode :=
 .seq (.reg [⟨(some 4), .mv (.c (.sc (.int .i64 0))), none, []⟩]) (
 .seq (.seq (.reg [⟨(some 6), .mv (.t 0), none, []⟩,
     ⟨(some 7), .len .sl (.t 6), none, [0]⟩,
     ⟨(some 8), .mv (.c (.sc (.int .i64 0))), none, []⟩]) (
  .block 0 (.loop lp0_slices_Index_string_string))) (
 .seq (.reg [⟨(some 4), .mv (.c (.sc (.int .i64 (-1)))), none, []⟩]) (
 .ret)))
def res_slices_Index_string_string : List ResA := [.t 4]
theorem comp_slices_Index_string_string : Try.f49.body.bind (compCode PP ann_slices_Index_string_string 19) = some code_slices_Index_string_string := by kernel_rfl
theorem resc_slices_Index_string_string : mapM' (compRes PP) Try.f49.results.toList = some res_slices_Index_string_string := by kernel_rfl
theorem body_slices_Index_string_string : hasBody PP 49 = true := by kernel_rfl
theorem enter_slices_Index_string_string {args : List AV} {h : AHeap} {R : AEnd → AHeap → Prop} (hargs : args.length ≤ 19) (hw : codeWp ⟨PP, Gl, 19, ann_slices_Index_string_string, h.length, none⟩ code_slices_Index_string_string (retPost PP Gl h res_slices_Index_string_string R) (initEnv args) h) : ACalls PP Gl 49 args h R :=
  acalls_of_code Try.func49 body_slices_Index_string_string comp_slices_Index_string_string resc_slices_Index_string_string hargs (Nat.le_trans hargs (by decide)) (codeWp_sound mixed hw)

/-- (*apodixis/earley.chart).add -/
def ann_earley_chart_add : List Nat := [5]
def code_earley_chart_add : ACode :=
 .seq (.reg [⟨(some 5), .box (.t 2), none, []⟩]) (
 .seq (.dreg [(true, ⟨(some 6), .mv (.t 0), none, []⟩),
    (true, ⟨(some 7), .nilc (.t 6), none, [0]⟩),
    (true, ⟨(some 8), .faddr 5 .one (.t 7), none, [1]⟩),
    (true, ⟨(some 9), .load .one (.t 8), none, [2]⟩),
    (true, ⟨(some 10), .mv (.t 1), none, []⟩),
    (true, ⟨(some 11), .iaddr 1 (.t 9) (.t 10), none, [3, 4]⟩),
    (true, ⟨(some 12), .load .one (.t 11), none, [5]⟩),
    (false, ⟨(some 13), .load (.agg 3) (.t 5), none, []⟩),
    (false, ⟨(some 14), .lookup (.flat [0, 0, 0]) (.sc (.bool false)) false (.t 12) (.t 13), none, [6, 7]⟩),
    (false, ⟨(some 15), .un .not (.t 14), none, [8]⟩)]) (
 .cond (.t 15) (.seq (.dreg [(true, ⟨(some 16), .mv (.t 0), none, []⟩),
     (true, ⟨(some 17), .nilc (.t 16), none, [0]⟩),
     (true, ⟨(some 18), .faddr 5 .one (.t 17), none, [1]⟩),
     (true, ⟨(some 19), .load .one (.t 18), none, [2]⟩),
     (true, ⟨(some 20), .mv (.t 1), none, []⟩),
     (true, ⟨(some 21), .iaddr 1 (.t 19) (.t 20), none, [3, 4]⟩),
     (true, ⟨(some 22), .load .one (.t 21), none, [5]⟩),
     (false, ⟨(some 23), .load (.agg 3) (.t 5), none, []⟩),
     (false, ⟨none, .mapUpd (.flat [0, 0, 0]) (.t 22) (.t 23) (.c (.sc (.bool true))), none, [6, 7, 0, 1, 2, 3, 4, 5, 6, 7]⟩)]) (
  .dreg [(true, ⟨(some 24), .mv (.t 0), none, []⟩),
    (true, ⟨(some 25), .nilc (.t 24), none, [0]⟩),
    (true, ⟨(some 26), .faddr 4 .one (.t 25), none, [1]⟩),
    (true, ⟨(some 27), .load .one (.t 26), none, [2]⟩),
    (true, ⟨(some 28), .mv (.t 1), none, []⟩),
    (true, ⟨(some 29), .mv (.t 0), none, []⟩),
    (true, ⟨(some 30), .nilc (.t 29), none, [5]⟩),
    (true, ⟨(some 31), .faddr 4 .one (.t 30), none, [6]⟩),
    (true, ⟨(some 32), .load .one (.t 31), none, [7]⟩),
    (true, ⟨(some 33), .mv (.t 1), none, []⟩),
    (true, ⟨(some 34), .iaddr 1 (.t 32) (.t 33), none, [8, 9]⟩),
    (true, ⟨(some 35), .load .one (.t 34), none, [10]⟩),
    (false, ⟨(some 36), .load (.agg 3) (.t 5), none, []⟩),
    (false, ⟨(some 37), .bslice 3 1 (.agg [(.sc (.int .i64 0)), (.sc (.int .i64 0)), (.sc (.int .i64 0))]) [(0, (.t 36))], none, [12]⟩),
    (false, ⟨(some 38), .append 3 24 (.t 35) (.t 37), none, [11, 13]⟩),
    (false, ⟨(some 39), .iaddr 1 (.t 27) (.t 28), none, [3, 4, 0, 1, 2, 3, 4, 5, 6, 7, 8, 9, 10, 11, 12, 13, 14]⟩),
    (false, ⟨none, .store 1 (.t 39) (.t 38), none, [15, 14, 14, 0, 1, 2, 3, 4, 5, 6, 7, 8, 9, 10, 11, 12, 13, 14]⟩)])) (
 .skip)))
def res_earley_chart_add : List ResA := []
theorem comp_earley_chart_add : Try.f50.body.bind (compCode PP ann_earley_chart_add 40) = some code_earley_chart_add := by kernel_rfl
theorem resc_earley_chart_add : mapM' (compRes PP) Try.f50.results.toList = some res_earley_chart_add := by kernel_rfl
theorem body_earley_chart_add : hasBody PP 50 = true := by kernel_rfl
theorem enter_earley_chart_add {args : List AV} {h : AHeap} {R : AEnd → AHeap → Prop} (hargs : args.length ≤ 40) (hw : codeWp ⟨PP, Gl, 40, ann_earley_chart_add, h.length, none⟩ code_earley_chart_add (retPost PP Gl h res_earley_chart_add R) (initEnv args) h) : ACalls PP Gl 50 args h R :=
  acalls_of_code Try.func50 body_earley_chart_add comp_earley_chart_add resc_earley_chart_add hargs (Nat.le_trans hargs (by decide)) (codeWp_sound mixed hw)

/-- (*apodixis/earley.chart).next -/
def ann_earley_chart_next : List Nat := [3]
def code_earley_chart_next : ACode :=
 .seq (.reg [⟨(some 3), .box (.t 1), none, []⟩,
    ⟨(some 4), .new [(.sc (.string ⟨#[]⟩)), (.sc (.string ⟨#[]⟩)), (.sc (.int .i64 0))], none, []⟩,
    ⟨(some 5), .mv (.c (.sc (.bool false))), none, []⟩]) (
 .seq (.dreg [(true, ⟨(some 7), .mv (.t 0), none, []⟩),
    (true, ⟨(some 8), .nilc (.t 7), none, [0]⟩),
    (true, ⟨(some 9), .faddr 0 (.agg 2) (.t 8), none, [1]⟩),
    (true, ⟨(some 10), .faddr 1 .one (.t 9), none, [2]⟩),
    (true, ⟨(some 11), .load .one (.t 10), none, [3]⟩),
    (false, ⟨(some 12), .iaddrA 3 .one (.t 3) (.c (.sc (.int .i64 0))), none, []⟩),
    (false, ⟨(some 13), .load .one (.t 12), none, [5]⟩),
    (false, ⟨(some 14), .iaddr 4 (.t 11) (.t 13), none, [4, 6]⟩),
    (false, ⟨(some 15), .faddr 2 .one (.t 14), none, [7]⟩),
    (false, ⟨(some 16), .load .one (.t 15), none, [8]⟩),
    (false, ⟨(some 6), .mv (.t 16), none, [9, 0, 1, 2, 3, 4, 5, 6, 7, 8, 9]⟩)]) (
 .seq (.seq (.reg [⟨(some 17), .iaddrA 3 .one (.t 3) (.c (.sc (.int .i64 1))), none, []⟩,
     ⟨(some 18), .load .one (.t 17), none, [0]⟩,
     ⟨(some 19), .mv (.t 6), none, []⟩,
     ⟨(some 20), .len .sl (.t 19), none, [2]⟩,
     ⟨(some 21), .bin .eql (.t 18) (.t 20), none, [1, 3]⟩]) (
  .cond (.t 21) (.seq (.reg [⟨(some 22), .build [(.sc (.string ⟨#[]⟩)), (.sc (.string ⟨#[]⟩)), (.sc (.int .i64 0))] [], none, []⟩,
      ⟨none, .store 3 (.t 4) (.t 22), none, [0, 0]⟩,
      ⟨(some 5), .mv (.c (.sc (.bool false))), none, [1, 0, 1]⟩]) (
   .ret)) (
  .skip))) (
 .seq (.reg [⟨(some 23), .mv (.t 6), none, []⟩,
    ⟨(some 24), .iaddrA 3 .one (.t 3) (.c (.sc (.int .i64 1))), none, []⟩,
    ⟨(some 25), .load .one (.t 24), none, [1]⟩,
    ⟨(some 26), .iaddr 3 (.t 23) (.t 25), none, [0, 2]⟩,
    ⟨(some 27), .load (.agg 3) (.t 26), none, [3]⟩,
    ⟨none, .store 3 (.t 4) (.t 27), none, [4, 0, 1, 2, 3, 4]⟩,
    ⟨(some 5), .mv (.c (.sc (.bool true))), none, [5, 0, 1, 2, 3, 4, 5]⟩]) (
 .ret))))
def res_earley_chart_next : List ResA := [.cell 4 (.agg 3), .t 5]
theorem comp_earley_chart_next : Try.f51.body.bind (compCode PP ann_earley_chart_next 28) = some code_earley_chart_next := by kernel_rfl
theorem resc_earley_chart_next : mapM' (compRes PP) Try.f51.results.toList = some res_earley_chart_next := by kernel_rfl
theorem body_earley_chart_next : hasBody PP 51 = true := by kernel_rfl
theorem enter_earley_chart_next {args : List AV} {h : AHeap} {R : AEnd → AHeap → Prop} (hargs : args.length ≤ 28) (hw : codeWp ⟨PP, Gl, 28, ann_earley_chart_next, h.length, none⟩ code_earley_chart_next (retPost PP Gl h res_earley_chart_next R) (initEnv args) h) : ACalls PP Gl 51 args h R :=
  acalls_of_code Try.func51 body_earley_chart_next comp_earley_chart_next resc_earley_chart_next hargs (Nat.le_trans hargs (by decide)) (codeWp_sound mixed hw)

def lp0_earley_chart_advance : ACode :=
 .seq (.seq (.dreg [(true, ⟨(some 8), .mv (.t 4), none, []⟩),
       (true, ⟨(some 9), .mv (.t 0), none, []⟩),
       (true, ⟨(some 10), .nilc (.t 9), none, [1]⟩),
       (true, ⟨(some 11), .faddr 4 .one (.t 10), none, [2]⟩),
       (true, ⟨(some 12), .load .one (.t 11), none, [3]⟩),
       (false, ⟨(some 13), .faddr 1 .one (.t 3), none, []⟩),
       (false, ⟨(some 14), .load .one (.t 13), none, [5]⟩),
       (false, ⟨(some 15), .iaddr 1 (.t 12) (.t 14), none, [4, 6]⟩),
       (false, ⟨(some 16), .load .one (.t 15), none, [7]⟩),
       (false, ⟨(some 17), .len .sl (.t 16), none, [8]⟩),
       (false, ⟨(some 18), .bin .lss (.t 8) (.t 17), none, [0, 9]⟩)]) (
    .cond (.t 18) (.skip) (
    .exit 0))) (
   .seq (.block 1 (.seq (.dreg [(true, ⟨(some 21), .mv (.t 0), none, []⟩),
        (true, ⟨(some 22), .nilc (.t 21), none, [0]⟩),
        (true, ⟨(some 23), .faddr 4 .one (.t 22), none, [1]⟩),
        (true, ⟨(some 24), .load .one (.t 23), none, [2]⟩),
        (true, ⟨(some 25), .faddr 1 .one (.t 3), none, []⟩),
        (true, ⟨(some 26), .load .one (.t 25), none, [4]⟩),
        (true, ⟨(some 27), .iaddr 1 (.t 24) (.t 26), none, [3, 5]⟩),
        (true, ⟨(some 28), .load .one (.t 27), none, [6]⟩),
        (true, ⟨(some 29), .mv (.t 4), none, []⟩),
        (true, ⟨(some 30), .iaddr 3 (.t 28) (.t 29), none, [7, 8]⟩),
        (true, ⟨(some 31), .load (.agg 3) (.t 30), none, [9]⟩),
        (false, ⟨(some 5), .pnew 3, none, []⟩),
        (false, ⟨none, .pstore 3 5 (.t 31), none, [11, 10, 0, 1, 2, 3, 4, 5, 6, 7, 8, 9, 10, 11]⟩)]) (
     .seq (.reg [⟨(some 33), .mv (.t 0), none, []⟩,
        ⟨(some 34), .load (.agg 3) (.t 5), none, []⟩,
        ⟨(some 35), .call (.c (.fn (.func 51) [] [])) [(.t 33), (.t 34)], none, [0, 1]⟩,
        ⟨(some 32), .mv (.t 35), none, [2]⟩,
        ⟨(some 36), .extract (.t 32) 0, none, [3]⟩,
        ⟨(some 37), .extract (.t 32) 1, none, [3]⟩,
        ⟨(some 6), .pnew 3, none, []⟩,
        ⟨none, .pstore 3 6 (.t 36), none, [6, 4, 2, 0, 1, 2, 3, 4, 6]⟩,
        ⟨(some 7), .mv (.t 37), none, [5, 7, 0, 1, 2, 3, 4, 5, 6, 7]⟩]) (
     .seq (.reg [⟨(some 38), .mv (.t 7), none, []⟩,
        ⟨(some 39), .mv (.t 38), none, [0]⟩,
        ⟨(some 40), .faddr 1 .one (.t 6), (some (39, true)), [1]⟩,
        ⟨(some 41), .load .one (.t 40), (some (39, true)), [2, 1]⟩,
        ⟨(some 42), .faddr 0 .one (.t 3), (some (39, true)), [1]⟩,
        ⟨(some 43), .load .one (.t 42), (some (39, true)), [4, 1]⟩,
        ⟨(some 44), .bin .eql (.t 41) (.t 43), (some (39, true)), [3, 5, 1]⟩,
        ⟨(some 45), .pick (.t 39) (.t 44) (.c (.sc (.bool false))), none, [1, 6]⟩]) (
     .cond (.t 45) (.reg [⟨(some 46), .mv (.t 0), none, []⟩,
        ⟨(some 47), .faddr 2 .one (.t 3), none, []⟩,
        ⟨(some 48), .load .one (.t 47), none, [1]⟩,
        ⟨(some 49), .iaddrA 3 .one (.t 5) (.c (.sc (.int .i64 0))), none, []⟩,
        ⟨(some 50), .load .one (.t 49), none, [3]⟩,
        ⟨(some 51), .iaddrA 3 .one (.t 5) (.c (.sc (.int .i64 1))), none, []⟩,
        ⟨(some 52), .load .one (.t 51), none, [5]⟩,
        ⟨(some 53), .bin .add (.t 52) (.c (.sc (.int .i64 1))), none, [6]⟩,
        ⟨(some 54), .iaddrA 3 .one (.t 5) (.c (.sc (.int .i64 2))), none, []⟩,
        ⟨(some 55), .load .one (.t 54), none, [8]⟩,
        ⟨(some 56), .build [(.sc (.int .i64 0)), (.sc (.int .i64 0)), (.sc (.int .i64 0))] [(0, 1, (.t 50)), (1, 1, (.t 53)), (2, 1, (.t 55))], none, [4, 7, 9]⟩,
        ⟨(some 57), .call (.c (.fn (.func 50) [] [])) [(.t 46), (.t 48), (.t 56)], none, [0, 2, 10]⟩]) (
     .skip)))))) (
   .reg [⟨(some 19), .mv (.t 4), none, []⟩,
     ⟨(some 20), .bin .add (.t 19) (.c (.sc (.int .i64 1))), none, [0]⟩,
     ⟨(some 4), .mv (.t 20), none, [1, 0, 1]⟩]))
/-- (*apodixis/earley.chart).advance -/
def ann_earley_chart_advance : List Nat := [3, 5, 6]
def code_earley_chart_advance : ACode :=
 .seq (.reg [⟨(some 3), .box (.t 1), none, []⟩]) (
 .seq (.reg [⟨(some 4), .mv (.c (.sc (.int .i64 0))), none, []⟩]) (
 .block 0 (.loop lp0_earley_chart_advance)))
def res_earley_chart_advance : List ResA := []
theorem comp_earley_chart_advance : Try.f52.body.bind (compCode PP ann_earley_chart_advance 58) = some code_earley_chart_advance := by kernel_rfl
theorem resc_earley_chart_advance : mapM' (compRes PP) Try.f52.results.toList = some res_earley_chart_advance := by kernel_rfl
theorem body_earley_chart_advance : hasBody PP 52 = true := by kernel_rfl
theorem enter_earley_chart_advance {args : List AV} {h : AHeap} {R : AEnd → AHeap → Prop} (hargs : args.length ≤ 58) (hw : codeWp ⟨PP, Gl, 58, ann_earley_chart_advance, h.length, none⟩ code_earley_chart_advance (retPost PP Gl h res_earley_chart_advance R) (initEnv args) h) : ACalls PP Gl 52 args h R :=
  acalls_of_code Try.func52 body_earley_chart_advance comp_earley_chart_advance resc_earley_chart_advance hargs (Nat.le_trans hargs (by decide)) (codeWp_sound mixed hw)

/-- (*apodixis/earley.packer).ways$1 -/
def ann_earley_packer_ways_1 : List Nat := [7]
def code_earley_packer_ways_1 : ACode :=
 .seq (.reg [⟨(some 7), .box (.t 0), none, []⟩]) (
 .seq (.reg [⟨(some 8), .new [(.sc .nilFunc)], none, []⟩]) (
 .seq (.reg [⟨(some 9), .mkFunc (.func 54) [] [(.t 1), (.t 2), (.t 3), (.t 4), (.t 7), (.t 5), (.t 8)], none, []⟩,
    ⟨none, .store 1 (.t 8) (.t 9), none, [0, 0]⟩]) (
 .reg [⟨(some 10), .load .one (.t 8), none, []⟩,
   ⟨(some 11), .load .one (.t 6), none, []⟩,
   ⟨(some 12), .call (.t 10) [(.c (.sc (.int .i64 0))), (.t 11)], none, [0, 1]⟩])))
def res_earley_packer_ways_1 : List ResA := []
theorem comp_earley_packer_ways_1 : Try.f53.body.bind (compCode PP ann_earley_packer_ways_1 13) = some code_earley_packer_ways_1 := by kernel_rfl
theorem resc_earley_packer_ways_1 : mapM' (compRes PP) Try.f53.results.toList = some res_earley_packer_ways_1 := by kernel_rfl
theorem body_earley_packer_ways_1 : hasBody PP 53 = true := by kernel_rfl
theorem enter_earley_packer_ways_1 {args : List AV} {h : AHeap} {R : AEnd → AHeap → Prop} (hargs : args.length ≤ 13) (hw : codeWp ⟨PP, Gl, 13, ann_earley_packer_ways_1, h.length, none⟩ code_earley_packer_ways_1 (retPost PP Gl h res_earley_packer_ways_1 R) (initEnv args) h) : ACalls PP Gl 53 args h R :=
  acalls_of_code Try.func53 body_earley_packer_ways_1 comp_earley_packer_ways_1 resc_earley_packer_ways_1 hargs (Nat.le_trans hargs (by decide)) (codeWp_sound mixed hw)

def lp0_earley_packer_ways_1_1 : ACode :=
 .seq (.seq (.reg [⟨(some 44), .mv (.t 13), none, []⟩,
        ⟨(some 45), .load .one (.t 4), none, []⟩,
        ⟨(some 46), .bin .leq (.t 44) (.t 45), none, [0, 1]⟩]) (
     .cond (.t 46) (.skip) (
     .exit 0))) (
    .seq (.block 1 (.seq (.reg [⟨(some 49), .faddr 1 .one (.t 12), none, []⟩,
         ⟨(some 50), .load .one (.t 49), none, [0]⟩,
         ⟨(some 51), .mv (.t 1), none, []⟩,
         ⟨(some 52), .mv (.t 13), none, []⟩,
         ⟨(some 53), .build [(.sc (.string ⟨#[]⟩)), (.sc (.int .i64 0)), (.sc (.int .i64 0))] [(0, 1, (.t 50)), (1, 1, (.t 51)), (2, 1, (.t 52))], none, [1, 2, 3]⟩,
         ⟨(some 14), .pnew 3, none, []⟩,
         ⟨none, .pstore 3 14 (.t 53), none, [5, 4, 0, 1, 2, 3, 4, 5]⟩]) (
      .seq (.seq (.dreg [(true, ⟨(some 54), .load .one (.t 2), none, []⟩),
          (true, ⟨(some 55), .nilc (.t 54), none, [0]⟩),
          (true, ⟨(some 56), .faddr 0 .one (.t 55), none, [1]⟩),
          (true, ⟨(some 57), .load .one (.t 56), none, [2]⟩),
          (true, ⟨(some 58), .nilc (.t 57), none, [3]⟩),
          (true, ⟨(some 59), .faddr 6 .one (.t 58), none, [4]⟩),
          (true, ⟨(some 60), .load .one (.t 59), none, [5]⟩),
          (false, ⟨(some 61), .load (.agg 3) (.t 14), none, []⟩),
          (false, ⟨(some 62), .lookup (.flat [1, 0, 0]) (.sc (.bool false)) false (.t 60) (.t 61), none, [6, 7]⟩),
          (false, ⟨(some 63), .un .not (.t 62), none, [8]⟩)]) (
       .cond (.t 63) (.exit 1) (
       .skip))) (
      .seq (.reg [⟨(some 64), .load .one (.t 7), none, []⟩,
         ⟨(some 65), .faddr 2 .one (.t 12), none, []⟩,
         ⟨(some 66), .load .one (.t 65), none, [1]⟩,
         ⟨(some 67), .load (.agg 3) (.t 14), none, []⟩,
         ⟨(some 68), .iaddr 3 (.t 64) (.t 66), none, [0, 2, 0, 1, 2, 3]⟩,
         ⟨none, .store 3 (.t 68) (.t 67), none, [4, 3, 0, 1, 2, 3]⟩]) (
      .seq (.reg [⟨(some 69), .load .one (.t 8), none, []⟩,
         ⟨(some 70), .mv (.t 0), none, []⟩,
         ⟨(some 71), .bin .add (.t 70) (.c (.sc (.int .i64 1))), none, [1]⟩,
         ⟨(some 72), .mv (.t 13), none, []⟩,
         ⟨(some 73), .call (.t 69) [(.t 71), (.t 72)], none, [0, 2, 3]⟩,
         ⟨(some 74), .un .not (.t 73), none, [4]⟩]) (
      .cond (.t 74) (.seq (.reg [⟨(some 11), .mv (.c (.sc (.bool false))), none, []⟩]) (
       .ret)) (
      .skip))))))) (
    .reg [⟨(some 47), .mv (.t 13), none, []⟩,
      ⟨(some 48), .bin .add (.t 47) (.c (.sc (.int .i64 1))), none, [0]⟩,
      ⟨(some 13), .mv (.t 48), none, [1, 0, 1]⟩]))
/-- (*apodixis/earley.packer).ways$1$1 -/
def ann_earley_packer_ways_1_1 : List Nat := [12, 14]
def code_earley_packer_ways_1_1 : ACode :=
 .seq (.reg [⟨(some 11), .mv (.c (.sc (.bool false))), none, []⟩]) (
 .seq (.seq (.reg [⟨(some 15), .load .one (.t 2), none, []⟩,
     ⟨(some 16), .load .one (.t 3), none, []⟩,
     ⟨(some 17), .mv (.t 0), none, []⟩,
     ⟨(some 18), .mv (.t 1), none, []⟩,
     ⟨(some 19), .load .one (.t 4), none, []⟩,
     ⟨(some 20), .call (.c (.fn (.func 55) [] [])) [(.t 15), (.t 16), (.t 17), (.t 18), (.t 19)], none, [0, 1, 2, 3, 4]⟩,
     ⟨(some 21), .un .not (.t 20), none, [5]⟩]) (
  .cond (.t 21) (.seq (.reg [⟨(some 11), .mv (.c (.sc (.bool true))), none, []⟩]) (
   .ret)) (
  .skip))) (
 .seq (.seq (.reg [⟨(some 22), .mv (.t 0), none, []⟩,
     ⟨(some 23), .load .one (.t 5), none, []⟩,
     ⟨(some 24), .len .sl (.t 23), none, [1]⟩,
     ⟨(some 25), .bin .eql (.t 22) (.t 24), none, [0, 2]⟩]) (
  .cond (.t 25) (.seq (.dreg [(true, ⟨(some 26), .load .one (.t 6), none, []⟩),
      (false, ⟨(some 27), .load .one (.t 7), none, []⟩),
      (false, ⟨(some 28), .call (.c (.fn (.func 56) [] [])) [(.t 27)], none, [1]⟩),
      (false, ⟨(some 29), .call (.t 26) [(.t 28)], none, [0, 2, 2]⟩),
      (false, ⟨(some 11), .mv (.t 29), none, [3, 3, 0, 1, 2, 3]⟩)]) (
   .ret)) (
  .skip))) (
 .seq (.reg [⟨(some 30), .load .one (.t 5), none, []⟩,
    ⟨(some 31), .mv (.t 0), none, []⟩,
    ⟨(some 32), .iaddr 3 (.t 30) (.t 31), none, [0, 1]⟩,
    ⟨(some 33), .load (.agg 3) (.t 32), none, [2]⟩,
    ⟨(some 12), .pnew 3, none, []⟩,
    ⟨none, .pstore 3 12 (.t 33), none, [4, 3, 0, 1, 2, 3, 4]⟩]) (
 .seq (.seq (.reg [⟨(some 34), .faddr 1 .one (.t 12), none, []⟩,
     ⟨(some 35), .load .one (.t 34), none, [0]⟩,
     ⟨(some 36), .bin .eql (.t 35) (.c (.sc (.string ⟨#[]⟩))), none, [1]⟩]) (
  .cond (.t 36) (.seq (.reg [⟨(some 37), .load .one (.t 8), none, []⟩,
      ⟨(some 38), .mv (.t 0), none, []⟩,
      ⟨(some 39), .bin .add (.t 38) (.c (.sc (.int .i64 1))), none, [1]⟩,
      ⟨(some 40), .mv (.t 1), none, []⟩,
      ⟨(some 41), .bin .add (.t 40) (.c (.sc (.int .i64 1))), none, [3]⟩,
      ⟨(some 42), .call (.t 37) [(.t 39), (.t 41)], none, [0, 2, 4]⟩,
      ⟨(some 11), .mv (.t 42), none, [5, 5, 0, 1, 2, 3, 4, 5]⟩]) (
   .ret)) (
  .skip))) (
 .seq (.seq (.reg [⟨(some 43), .mv (.t 1), none, []⟩,
     ⟨(some 13), .mv (.t 43), none, [0, 0]⟩]) (
  .block 0 (.loop lp0_earley_packer_ways_1_1))) (
 .seq (.reg [⟨(some 11), .mv (.c (.sc (.bool true))), none, []⟩]) (
 .ret)))))))
def res_earley_packer_ways_1_1 : List ResA := [.t 11]
theorem comp_earley_packer_ways_1_1 : Try.f54.body.bind (compCode PP ann_earley_packer_ways_1_1 75) = some code_earley_packer_ways_1_1 := by kernel_rfl
theorem resc_earley_packer_ways_1_1 : mapM' (compRes PP) Try.f54.results.toList = some res_earley_packer_ways_1_1 := by kernel_rfl
theorem body_earley_packer_ways_1_1 : hasBody PP 54 = true := by kernel_rfl
theorem enter_earley_packer_ways_1_1 {args : List AV} {h : AHeap} {R : AEnd → AHeap → Prop} (hargs : args.length ≤ 75) (hw : codeWp ⟨PP, Gl, 75, ann_earley_packer_ways_1_1, h.length, none⟩ code_earley_packer_ways_1_1 (retPost PP Gl h res_earley_packer_ways_1_1 R) (initEnv args) h) : ACalls PP Gl 54 args h R :=
  acalls_of_code Try.func54 body_earley_packer_ways_1_1 comp_earley_packer_ways_1_1 resc_earley_packer_ways_1_1 hargs (Nat.le_trans hargs (by decide)) (codeWp_sound mixed hw)

end Go.Apx
