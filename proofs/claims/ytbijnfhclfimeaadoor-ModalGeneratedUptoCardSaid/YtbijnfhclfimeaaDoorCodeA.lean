/- The resolved code of the program's functions (by program). -/
import Derived.Test.YtbijnfhclfimeaaDoorGl
namespace Go.Apx
open Go.Proofs
set_option maxRecDepth 100000
set_option linter.unusedVariables false
/-- gosem.cut.init -/
def ann_gosem_cut_init : List Nat := []
def code_gosem_cut_init : ACode :=
 .reg [⟨(some 0), .call (.c (.fn (.func 1) [] [])) [], none, []⟩]
def res_gosem_cut_init : List ResA := []
theorem comp_gosem_cut_init : Tryd.f2.body.bind (compCode PP ann_gosem_cut_init 1) = some code_gosem_cut_init := by kernel_rfl
theorem resc_gosem_cut_init : mapM' (compRes PP) Tryd.f2.results.toList = some res_gosem_cut_init := by kernel_rfl
theorem body_gosem_cut_init : hasBody PP 2 = true := by kernel_rfl
theorem enter_gosem_cut_init {args : List AV} {h : AHeap} {R : AEnd → AHeap → Prop} (hargs : args.length ≤ 1) (hw : codeWp ⟨PP, Gl, 1, ann_gosem_cut_init, h.length, none⟩ code_gosem_cut_init (retPost PP Gl h res_gosem_cut_init R) (initEnv args) h) : ACalls PP Gl 2 args h R :=
  acalls_of_code Tryd.func2 body_gosem_cut_init comp_gosem_cut_init resc_gosem_cut_init hargs (Nat.le_trans hargs (by decide)) (codeWp_sound mixed hw)

def lp0_law35_ModalFollows : ACode :=
 .seq (.seq (.reg [⟨(some 43), .mv (.t 9), none, []⟩,
        ⟨(some 44), .mv (.t 2), none, []⟩,
        ⟨(some 45), .len .sl (.t 44), none, [1]⟩,
        ⟨(some 46), .bin .lss (.t 43) (.t 45), none, [0, 2]⟩]) (
     .cond (.t 46) (.skip) (
     .exit 0))) (
    .seq (.block 1 (.seq (.reg [⟨(some 49), .mv (.t 2), none, []⟩,
         ⟨(some 50), .mv (.t 9), none, []⟩,
         ⟨(some 51), .iaddr 2 (.t 49) (.t 50), none, [0, 1]⟩,
         ⟨(some 52), .load (.agg 2) (.t 51), none, [2]⟩,
         ⟨(some 53), .call (.c (.fn (.func 10) [] [])) [(.t 52), (.c (.sc (.int .i64 40)))], none, [3]⟩,
         ⟨(some 54), .bin .gtr (.t 53) (.c (.sc (.int .i64 40))), none, [4]⟩]) (
      .cond (.t 54) (.seq (.reg [⟨(some 55), .call (.c (.fn (.func 11) [] [])) [], none, []⟩,
          ⟨(some 8), .mv (.t 55), none, [0, 0, 0]⟩]) (
       .ret)) (
      .skip)))) (
    .reg [⟨(some 47), .mv (.t 9), none, []⟩,
      ⟨(some 48), .bin .add (.t 47) (.c (.sc (.int .i64 1))), none, [0]⟩,
      ⟨(some 9), .mv (.t 48), none, [1, 0, 1]⟩]))
/-- apodixis/apodixislaw35.ModalFollows -/
def ann_law35_ModalFollows : List Nat := [4, 7]
def code_law35_ModalFollows : ACode :=
 .seq (.reg [⟨(some 4), .box (.t 0), none, []⟩,
    ⟨(some 7), .box (.t 3), none, []⟩,
    ⟨(some 8), .mv (.c (.sc (.bool false))), none, []⟩]) (
 .seq (.seq (.reg [⟨(some 18), .load (.agg 1) (.t 4), none, []⟩,
     ⟨(some 19), .mv (.t 1), none, []⟩,
     ⟨(some 20), .call (.c (.fn (.func 9) [] [])) [(.t 18), (.t 19)], none, [0, 1]⟩,
     ⟨(some 21), .un .not (.t 20), none, [2]⟩,
     ⟨(some 22), .mv (.t 21), none, [3, 2]⟩,
     ⟨(some 23), .mv (.t 2), (some (22, false)), [4]⟩,
     ⟨(some 24), .len .sl (.t 23), (some (22, false)), [5, 4]⟩,
     ⟨(some 25), .bin .gtr (.t 24) (.c (.sc (.int .i64 4))), (some (22, false)), [6, 4]⟩,
     ⟨(some 26), .mv (.t 25), (some (22, false)), [7, 4, 4]⟩,
     ⟨(some 27), .mv (.t 2), (some (26, true)), [8]⟩,
     ⟨(some 28), .len .sl (.t 27), (some (26, true)), [9, 8]⟩,
     ⟨(some 29), .bin .leq (.t 28) (.c (.sc (.int .i64 40))), (some (26, true)), [10, 8]⟩,
     ⟨(some 30), .pick (.t 26) (.t 29) (.c (.sc (.bool false))), (some (22, false)), [8, 11, 4]⟩,
     ⟨(some 31), .pick (.t 22) (.c (.sc (.bool true))) (.t 30), none, [4, 12]⟩,
     ⟨(some 32), .mv (.t 31), none, [13, 8]⟩,
     ⟨(some 33), .mv (.t 2), (some (32, false)), [14]⟩,
     ⟨(some 34), .len .sl (.t 33), (some (32, false)), [15, 14]⟩,
     ⟨(some 35), .bin .gtr (.t 34) (.c (.sc (.int .i64 50))), (some (32, false)), [16, 14]⟩,
     ⟨(some 36), .pick (.t 32) (.c (.sc (.bool true))) (.t 35), none, [14, 17]⟩,
     ⟨(some 37), .mv (.t 36), none, [18, 14]⟩,
     ⟨(some 38), .load (.agg 2) (.t 7), (some (37, false)), [19]⟩,
     ⟨(some 39), .call (.c (.fn (.func 10) [] [])) [(.t 38), (.c (.sc (.int .i64 40)))], (some (37, false)), [20, 19, 19]⟩,
     ⟨(some 40), .bin .gtr (.t 39) (.c (.sc (.int .i64 40))), (some (37, false)), [21, 19]⟩,
     ⟨(some 41), .pick (.t 37) (.c (.sc (.bool true))) (.t 40), none, [19, 22]⟩]) (
  .cond (.t 41) (.seq (.reg [⟨(some 42), .call (.c (.fn (.func 11) [] [])) [], none, []⟩,
      ⟨(some 8), .mv (.t 42), none, [0, 0, 0]⟩]) (
   .ret)) (
  .skip))) (
 .seq (.seq (.reg [⟨(some 9), .mv (.c (.sc (.int .i64 0))), none, []⟩]) (
  .block 0 (.loop lp0_law35_ModalFollows))) (
 .seq (.reg [⟨(some 57), .load (.agg 1) (.t 4), none, []⟩,
    ⟨(some 58), .mv (.t 1), none, []⟩,
    ⟨(some 59), .mv (.t 2), none, []⟩,
    ⟨(some 60), .load (.agg 2) (.t 7), none, []⟩,
    ⟨(some 61), .call (.c (.fn (.func 12) [] [])) [(.t 57), (.t 58), (.t 59), (.t 60)], none, [0, 1, 2, 3]⟩,
    ⟨(some 56), .mv (.t 61), none, [4]⟩,
    ⟨(some 62), .extract (.t 56) 0, none, [5]⟩,
    ⟨(some 63), .extract (.t 56) 1, none, [5]⟩,
    ⟨(some 64), .extract (.t 56) 2, none, [5]⟩,
    ⟨(some 65), .extract (.t 56) 3, none, [5]⟩,
    ⟨(some 10), .mv (.t 62), none, [6, 4, 0, 1, 2, 3, 4, 5, 6]⟩,
    ⟨(some 11), .mv (.t 63), none, [7, 10, 0, 1, 2, 3, 4, 5, 6, 7, 10]⟩,
    ⟨(some 12), .mv (.t 64), none, [8, 11, 0, 1, 2, 3, 4, 5, 6, 7, 8, 10, 11]⟩,
    ⟨(some 13), .mv (.t 65), none, [9, 12, 0, 1, 2, 3, 4, 5, 6, 7, 8, 9, 10, 11, 12]⟩]) (
 .seq (.dreg [(true, ⟨(some 67), .load (.agg 1) (.t 4), none, []⟩),
    (true, ⟨(some 69), .mv (.t 1), none, []⟩),
    (true, ⟨(some 71), .mv (.t 2), none, []⟩),
    (true, ⟨(some 72), .load (.agg 2) (.t 7), none, []⟩),
    (false, ⟨(some 68), .call (.c (.fn (.func 14) [] [])) [(.t 67)], none, [0]⟩),
    (false, ⟨(some 70), .call (.c (.fn (.func 15) [] [])) [(.t 69)], none, [2, 1]⟩),
    (false, ⟨(some 73), .call (.c (.fn (.func 13) [] [])) [(.t 68), (.t 70), (.t 71), (.t 72)], none, [1, 3, 4, 5, 3]⟩),
    (false, ⟨(some 66), .mv (.t 73), none, [6]⟩),
    (true, ⟨(some 74), .extract (.t 66) 0, none, [7]⟩),
    (true, ⟨(some 75), .extract (.t 66) 1, none, [7]⟩),
    (true, ⟨(some 76), .extract (.t 66) 2, none, [7]⟩),
    (true, ⟨(some 77), .extract (.t 66) 3, none, [7]⟩),
    (false, ⟨(some 14), .mv (.t 74), none, [8, 6, 0, 1, 2, 3, 4, 5, 6, 7, 8]⟩),
    (false, ⟨(some 15), .mv (.t 75), none, [9, 12, 0, 1, 2, 3, 4, 5, 6, 7, 8, 9, 12]⟩),
    (false, ⟨(some 16), .mv (.t 76), none, [10, 13, 0, 1, 2, 3, 4, 5, 6, 7, 8, 9, 10, 12, 13]⟩),
    (false, ⟨(some 17), .mv (.t 77), none, [11, 14, 0, 1, 2, 3, 4, 5, 6, 7, 8, 9, 10, 11, 12, 13, 14]⟩)]) (
 .seq (.seq (.reg [⟨(some 78), .mv (.t 10), none, []⟩,
     ⟨(some 79), .mv (.t 14), none, []⟩,
     ⟨(some 80), .eqb true (.t 78) (.t 79), none, [0, 1]⟩,
     ⟨(some 81), .mv (.t 80), none, [2]⟩,
     ⟨(some 82), .mv (.t 12), (some (81, false)), [3]⟩,
     ⟨(some 83), .mv (.t 16), (some (81, false)), [3]⟩,
     ⟨(some 84), .bin .neq (.t 82) (.t 83), (some (81, false)), [4, 5, 3]⟩,
     ⟨(some 85), .pick (.t 81) (.c (.sc (.bool true))) (.t 84), none, [3, 6]⟩,
     ⟨(some 86), .mv (.t 85), none, [7, 3]⟩,
     ⟨(some 87), .mv (.t 13), (some (86, false)), [8]⟩,
     ⟨(some 88), .mv (.t 17), (some (86, false)), [8]⟩,
     ⟨(some 89), .bin .neq (.t 87) (.t 88), (some (86, false)), [9, 10, 8]⟩,
     ⟨(some 90), .pick (.t 86) (.c (.sc (.bool true))) (.t 89), none, [8, 11]⟩,
     ⟨(some 91), .mv (.t 90), none, [12, 8]⟩,
     ⟨(some 92), .mv (.t 11), (some (91, false)), [13]⟩,
     ⟨(some 93), .call (.c (.fn (.func 17) [] [])) [(.t 92)], (some (91, false)), [14, 13, 13]⟩,
     ⟨(some 94), .mv (.t 15), (some (91, false)), [13]⟩,
     ⟨(some 95), .call (.c (.fn (.func 16) [] [])) [(.t 93), (.t 94)], (some (91, false)), [15, 16, 15, 13]⟩,
     ⟨(some 96), .un .not (.t 95), (some (91, false)), [17, 13]⟩,
     ⟨(some 97), .pick (.t 91) (.c (.sc (.bool true))) (.t 96), none, [13, 18]⟩]) (
  .cond (.t 97) (.seq (.reg [⟨(some 8), .mv (.c (.sc (.bool false))), none, []⟩]) (
   .ret)) (
  .skip))) (
 .seq (.reg [⟨(some 99), .load (.agg 1) (.t 4), none, []⟩,
    ⟨(some 100), .mv (.t 1), none, []⟩,
    ⟨(some 101), .load (.agg 2) (.t 7), none, []⟩,
    ⟨(some 102), .call (.c (.fn (.func 18) [] [])) [(.t 99), (.t 100), (.t 101)], none, [0, 1, 2]⟩,
    ⟨(some 98), .mv (.t 102), none, [3]⟩,
    ⟨(some 103), .extract (.t 98) 0, none, [4]⟩,
    ⟨(some 104), .extract (.t 98) 1, none, [4]⟩,
    ⟨(some 105), .extract (.t 98) 2, none, [4]⟩,
    ⟨(some 106), .extract (.t 98) 3, none, [4]⟩,
    ⟨(some 10), .mv (.t 103), none, [5, 3, 0, 1, 2, 3, 4, 5]⟩,
    ⟨(some 11), .mv (.t 104), none, [6, 9, 0, 1, 2, 3, 4, 5, 6, 9]⟩,
    ⟨(some 12), .mv (.t 105), none, [7, 10, 0, 1, 2, 3, 4, 5, 6, 7, 9, 10]⟩,
    ⟨(some 13), .mv (.t 106), none, [8, 11, 0, 1, 2, 3, 4, 5, 6, 7, 8, 9, 10, 11]⟩]) (
 .seq (.dreg [(true, ⟨(some 108), .load (.agg 1) (.t 4), none, []⟩),
    (true, ⟨(some 110), .mv (.t 1), none, []⟩),
    (true, ⟨(some 112), .load (.agg 2) (.t 7), none, []⟩),
    (false, ⟨(some 109), .call (.c (.fn (.func 14) [] [])) [(.t 108)], none, [0]⟩),
    (false, ⟨(some 111), .call (.c (.fn (.func 15) [] [])) [(.t 110)], none, [2, 1]⟩),
    (false, ⟨(some 113), .call (.c (.fn (.func 19) [] [])) [(.t 109), (.t 111), (.t 112)], none, [1, 3, 4, 3]⟩),
    (false, ⟨(some 107), .mv (.t 113), none, [5]⟩),
    (true, ⟨(some 114), .extract (.t 107) 0, none, [6]⟩),
    (true, ⟨(some 115), .extract (.t 107) 1, none, [6]⟩),
    (true, ⟨(some 116), .extract (.t 107) 2, none, [6]⟩),
    (true, ⟨(some 117), .extract (.t 107) 3, none, [6]⟩),
    (false, ⟨(some 14), .mv (.t 114), none, [7, 5, 0, 1, 2, 3, 4, 5, 6, 7]⟩),
    (false, ⟨(some 15), .mv (.t 115), none, [8, 11, 0, 1, 2, 3, 4, 5, 6, 7, 8, 11]⟩),
    (false, ⟨(some 16), .mv (.t 116), none, [9, 12, 0, 1, 2, 3, 4, 5, 6, 7, 8, 9, 11, 12]⟩),
    (false, ⟨(some 17), .mv (.t 117), none, [10, 13, 0, 1, 2, 3, 4, 5, 6, 7, 8, 9, 10, 11, 12, 13]⟩)]) (
 .seq (.reg [⟨(some 118), .mv (.t 10), none, []⟩,
    ⟨(some 119), .mv (.t 14), none, []⟩,
    ⟨(some 120), .eqb false (.t 118) (.t 119), none, [0, 1]⟩,
    ⟨(some 121), .mv (.t 120), none, [2]⟩,
    ⟨(some 122), .mv (.t 12), (some (121, true)), [3]⟩,
    ⟨(some 123), .mv (.t 16), (some (121, true)), [3]⟩,
    ⟨(some 124), .bin .eql (.t 122) (.t 123), (some (121, true)), [4, 5, 3]⟩,
    ⟨(some 125), .pick (.t 121) (.t 124) (.c (.sc (.bool false))), none, [3, 6]⟩,
    ⟨(some 126), .mv (.t 125), none, [7, 3]⟩,
    ⟨(some 127), .mv (.t 13), (some (126, true)), [8]⟩,
    ⟨(some 128), .mv (.t 17), (some (126, true)), [8]⟩,
    ⟨(some 129), .bin .eql (.t 127) (.t 128), (some (126, true)), [9, 10, 8]⟩,
    ⟨(some 130), .pick (.t 126) (.t 129) (.c (.sc (.bool false))), none, [8, 11]⟩,
    ⟨(some 131), .mv (.t 130), none, [12, 8]⟩,
    ⟨(some 132), .mv (.t 11), (some (131, true)), [13]⟩,
    ⟨(some 133), .call (.c (.fn (.func 17) [] [])) [(.t 132)], (some (131, true)), [14, 13, 13]⟩,
    ⟨(some 134), .mv (.t 15), (some (131, true)), [13]⟩,
    ⟨(some 135), .call (.c (.fn (.func 16) [] [])) [(.t 133), (.t 134)], (some (131, true)), [15, 16, 15, 13]⟩,
    ⟨(some 136), .pick (.t 131) (.t 135) (.c (.sc (.bool false))), none, [13, 17]⟩,
    ⟨(some 137), .mv (.t 136), none, [18, 17]⟩,
    ⟨(some 138), .call (.c (.fn (.func 11) [] [])) [], (some (137, true)), [19, 19]⟩,
    ⟨(some 139), .pick (.t 137) (.t 138) (.c (.sc (.bool false))), none, [19, 20]⟩,
    ⟨(some 8), .mv (.t 139), none, [21, 20, 0, 1, 2, 3, 4, 5, 6, 7, 8, 9, 10, 11, 12, 13, 14, 15, 16, 17, 18, 19, 20, 21]⟩]) (
 .ret)))))))))
def res_law35_ModalFollows : List ResA := [.t 8]
theorem comp_law35_ModalFollows : Tryd.f3.body.bind (compCode PP ann_law35_ModalFollows 140) = some code_law35_ModalFollows := by kernel_rfl
theorem resc_law35_ModalFollows : mapM' (compRes PP) Tryd.f3.results.toList = some res_law35_ModalFollows := by kernel_rfl
theorem body_law35_ModalFollows : hasBody PP 3 = true := by kernel_rfl
theorem enter_law35_ModalFollows {args : List AV} {h : AHeap} {R : AEnd → AHeap → Prop} (hargs : args.length ≤ 140) (hw : codeWp ⟨PP, Gl, 140, ann_law35_ModalFollows, h.length, none⟩ code_law35_ModalFollows (retPost PP Gl h res_law35_ModalFollows R) (initEnv args) h) : ACalls PP Gl 3 args h R :=
  acalls_of_code Tryd.func3 body_law35_ModalFollows comp_law35_ModalFollows resc_law35_ModalFollows hargs (Nat.le_trans hargs (by decide)) (codeWp_sound mixed hw)

def cp0_law35_ModalRules : ACode :=
 .reg [⟨(some 4), .box (.t 1), none, []⟩,
    ⟨(some 5), .box (.t 2), none, []⟩,
    ⟨(some 6), .mv (.c (.sc (.bool false))), none, []⟩]
def cp1_law35_ModalRules : ACode :=
 .reg [⟨(some 38), .mv (.t 0), none, []⟩,
    ⟨(some 39), .build [(.sl 0 [] .nil)] [(0, 1, (.t 38))], none, [0]⟩,
    ⟨(some 7), .pnew 1, none, []⟩,
    ⟨none, .pstore 1 7 (.t 39), none, [2, 1, 0, 1, 2]⟩]
def cp2_law35_ModalRules : ACode :=
 .seq (.reg [⟨(some 40), .mv (.t 0), none, []⟩,
     ⟨(some 41), .len .sl (.t 40), none, [0]⟩,
     ⟨(some 42), .bin .gtr (.t 41) (.c (.sc (.int .i64 4))), none, [1]⟩,
     ⟨(some 43), .mv (.t 42), none, [2]⟩,
     ⟨(some 44), .load (.agg 2) (.t 4), (some (43, false)), [3]⟩,
     ⟨(some 45), .call (.c (.fn (.func 10) [] [])) [(.t 44), (.c (.sc (.int .i64 20)))], (some (43, false)), [4, 3, 3]⟩,
     ⟨(some 46), .bin .gtr (.t 45) (.c (.sc (.int .i64 20))), (some (43, false)), [5, 3]⟩,
     ⟨(some 47), .pick (.t 43) (.c (.sc (.bool true))) (.t 46), none, [3, 6]⟩,
     ⟨(some 48), .mv (.t 47), none, [7, 5]⟩,
     ⟨(some 49), .load (.agg 2) (.t 5), (some (48, false)), [8]⟩,
     ⟨(some 50), .call (.c (.fn (.func 10) [] [])) [(.t 49), (.c (.sc (.int .i64 20)))], (some (48, false)), [9, 8, 8]⟩,
     ⟨(some 51), .bin .gtr (.t 50) (.c (.sc (.int .i64 20))), (some (48, false)), [10, 8]⟩,
     ⟨(some 52), .pick (.t 48) (.c (.sc (.bool true))) (.t 51), none, [8, 11]⟩]) (
  .cond (.t 52) (.seq (.reg [⟨(some 53), .call (.c (.fn (.func 11) [] [])) [], none, []⟩,
      ⟨(some 6), .mv (.t 53), none, [0, 0, 0]⟩]) (
   .ret)) (
  .skip))
def cp3_law35_ModalRules : ACode :=
 .reg [⟨(some 54), .call (.c (.fn (.func 20) [] [])) [], none, []⟩,
    ⟨(some 8), .mv (.t 54), none, [0, 0, 0]⟩]
def cp4_law35_ModalRules : ACode :=
 .reg [⟨(some 55), .call (.c (.fn (.func 21) [] [])) [(.c (.sc (.string ⟨#[112]⟩))), (.c (.sl 0 [] .nil))], none, []⟩,
    ⟨(some 56), .call (.c (.fn (.func 21) [] [])) [(.c (.sc (.string ⟨#[113]⟩))), (.c (.sl 0 [] .nil))], none, [0]⟩,
    ⟨(some 9), .pnew 2, none, []⟩,
    ⟨(some 10), .pnew 2, none, []⟩,
    ⟨none, .pstore 2 9 (.t 55), none, [2, 0, 1, 0, 2, 3]⟩,
    ⟨none, .pstore 2 10 (.t 56), none, [3, 1, 4, 0, 1, 2, 3, 4]⟩]
def cp5_law35_ModalRules : ACode :=
 .reg [⟨(some 57), .load (.agg 2) (.t 4), none, []⟩,
    ⟨(some 58), .load (.agg 2) (.t 5), none, []⟩,
    ⟨(some 59), .bslice 2 2 (.agg [(.sc (.string ⟨#[]⟩)), (.sl 0 [] .nil)]) [(0, (.t 57)), (1, (.t 58))], none, [0, 1]⟩,
    ⟨(some 60), .call (.c (.fn (.func 21) [] [])) [(.c (.sc (.string ⟨#[105, 109, 112]⟩))), (.t 59)], none, [2]⟩,
    ⟨(some 11), .pnew 2, none, []⟩,
    ⟨none, .pstore 2 11 (.t 60), none, [4, 3, 3, 0, 1, 2, 3, 4]⟩]
def cp6_law35_ModalRules : ACode :=
 .dreg [(true, ⟨(some 61), .load (.agg 2) (.t 9), none, []⟩),
    (true, ⟨(some 62), .load (.agg 2) (.t 10), none, []⟩),
    (true, ⟨(some 63), .bslice 2 2 (.agg [(.sc (.string ⟨#[]⟩)), (.sl 0 [] .nil)]) [(0, (.t 61)), (1, (.t 62))], none, [0, 1]⟩),
    (true, ⟨(some 67), .load (.agg 2) (.t 9), none, []⟩),
    (true, ⟨(some 68), .bslice 2 1 (.agg [(.sc (.string ⟨#[]⟩)), (.sl 0 [] .nil)]) [(0, (.t 67))], none, [6]⟩),
    (true, ⟨(some 70), .load (.agg 2) (.t 10), none, []⟩),
    (true, ⟨(some 71), .bslice 2 1 (.agg [(.sc (.string ⟨#[]⟩)), (.sl 0 [] .nil)]) [(0, (.t 70))], none, [9]⟩),
    (true, ⟨(some 12), .pnew 2, none, []⟩),
    (false, ⟨(some 64), .call (.c (.fn (.func 21) [] [])) [(.c (.sc (.string ⟨#[105, 109, 112]⟩))), (.t 63)], none, [2]⟩),
    (false, ⟨(some 65), .bslice 2 1 (.agg [(.sc (.string ⟨#[]⟩)), (.sl 0 [] .nil)]) [(0, (.t 64))], none, [3]⟩),
    (false, ⟨(some 66), .call (.c (.fn (.func 21) [] [])) [(.c (.sc (.string ⟨#[98, 111, 120]⟩))), (.t 65)], none, [4, 3]⟩),
    (false, ⟨(some 69), .call (.c (.fn (.func 21) [] [])) [(.c (.sc (.string ⟨#[98, 111, 120]⟩))), (.t 68)], none, [7, 5]⟩),
    (false, ⟨(some 72), .call (.c (.fn (.func 21) [] [])) [(.c (.sc (.string ⟨#[98, 111, 120]⟩))), (.t 71)], none, [10, 8]⟩),
    (false, ⟨(some 73), .bslice 2 2 (.agg [(.sc (.string ⟨#[]⟩)), (.sl 0 [] .nil)]) [(0, (.t 69)), (1, (.t 72))], none, [8, 11]⟩),
    (false, ⟨(some 74), .call (.c (.fn (.func 21) [] [])) [(.c (.sc (.string ⟨#[105, 109, 112]⟩))), (.t 73)], none, [12, 11]⟩),
    (false, ⟨(some 75), .bslice 2 2 (.agg [(.sc (.string ⟨#[]⟩)), (.sl 0 [] .nil)]) [(0, (.t 66)), (1, (.t 74))], none, [5, 13]⟩),
    (false, ⟨(some 76), .call (.c (.fn (.func 21) [] [])) [(.c (.sc (.string ⟨#[105, 109, 112]⟩))), (.t 75)], none, [14, 13]⟩),
    (false, ⟨none, .pstore 2 12 (.t 76), none, [16, 15, 15, 0, 1, 2, 3, 4, 5, 6, 7, 8, 9, 10, 11, 12, 13, 14, 15, 16]⟩)]
def cp7_law35_ModalRules : ACode :=
 .reg [⟨(some 78), .load (.agg 1) (.t 7), none, []⟩,
    ⟨(some 79), .mv (.t 8), none, []⟩,
    ⟨(some 80), .load (.agg 2) (.t 12), none, []⟩,
    ⟨(some 81), .call (.c (.fn (.func 18) [] [])) [(.t 78), (.t 79), (.t 80)], none, [0, 1, 2]⟩,
    ⟨(some 77), .mv (.t 81), none, [3]⟩,
    ⟨(some 82), .extract (.t 77) 0, none, [4]⟩,
    ⟨(some 83), .extract (.t 77) 1, none, [4]⟩,
    ⟨(some 84), .extract (.t 77) 2, none, [4]⟩,
    ⟨(some 85), .extract (.t 77) 3, none, [4]⟩,
    ⟨(some 13), .mv (.t 82), none, [5, 3, 0, 1, 2, 3, 4, 5]⟩,
    ⟨(some 14), .mv (.t 83), none, [6, 9, 0, 1, 2, 3, 4, 5, 6, 9]⟩,
    ⟨(some 15), .mv (.t 84), none, [7, 10, 0, 1, 2, 3, 4, 5, 6, 7, 9, 10]⟩,
    ⟨(some 16), .mv (.t 85), none, [8, 11, 0, 1, 2, 3, 4, 5, 6, 7, 8, 9, 10, 11]⟩]
def cp8_law35_ModalRules : ACode :=
 .seq (.reg [⟨(some 86), .mv (.t 16), none, []⟩,
     ⟨(some 87), .bin .neq (.t 86) (.c (.sc (.int .i64 0))), none, [0]⟩]) (
  .cond (.t 87) (.seq (.reg [⟨(some 88), .call (.c (.fn (.func 11) [] [])) [], none, []⟩,
      ⟨(some 6), .mv (.t 88), none, [0, 0, 0]⟩]) (
   .ret)) (
  .skip))
def cp9_law35_ModalRules : ACode :=
 .seq (.reg [⟨(some 89), .mv (.t 13), none, []⟩,
     ⟨(some 90), .un .not (.t 89), none, [0]⟩]) (
  .cond (.t 90) (.seq (.reg [⟨(some 6), .mv (.c (.sc (.bool false))), none, []⟩]) (
   .ret)) (
  .skip))
def cp10_law35_ModalRules : ACode :=
 .reg [⟨(some 92), .load (.agg 1) (.t 7), none, []⟩,
    ⟨(some 93), .mv (.t 8), none, []⟩,
    ⟨(some 94), .load (.agg 2) (.t 4), none, []⟩,
    ⟨(some 95), .call (.c (.fn (.func 18) [] [])) [(.t 92), (.t 93), (.t 94)], none, [0, 1, 2]⟩,
    ⟨(some 91), .mv (.t 95), none, [3]⟩,
    ⟨(some 96), .extract (.t 91) 0, none, [4]⟩,
    ⟨(some 97), .extract (.t 91) 1, none, [4]⟩,
    ⟨(some 98), .extract (.t 91) 2, none, [4]⟩,
    ⟨(some 99), .extract (.t 91) 3, none, [4]⟩,
    ⟨(some 17), .mv (.t 96), none, [5, 3, 0, 1, 2, 3, 4, 5]⟩,
    ⟨(some 18), .mv (.t 97), none, [6, 9, 0, 1, 2, 3, 4, 5, 6, 9]⟩,
    ⟨(some 19), .mv (.t 98), none, [7, 10, 0, 1, 2, 3, 4, 5, 6, 7, 9, 10]⟩,
    ⟨(some 16), .mv (.t 99), none, [8, 11, 0, 1, 2, 3, 4, 5, 6, 7, 8, 9, 10, 11]⟩]
def cp11_law35_ModalRules : ACode :=
 .seq (.reg [⟨(some 100), .mv (.t 16), none, []⟩,
     ⟨(some 101), .bin .neq (.t 100) (.c (.sc (.int .i64 0))), none, [0]⟩]) (
  .cond (.t 101) (.seq (.reg [⟨(some 102), .call (.c (.fn (.func 11) [] [])) [], none, []⟩,
      ⟨(some 6), .mv (.t 102), none, [0, 0, 0]⟩]) (
   .ret)) (
  .skip))
def cp12_law35_ModalRules : ACode :=
 .seq (.dreg [(true, ⟨(some 104), .load (.agg 1) (.t 7), none, []⟩),
     (true, ⟨(some 105), .mv (.t 8), none, []⟩),
     (false, ⟨(some 106), .load (.agg 2) (.t 4), none, []⟩),
     (false, ⟨(some 107), .bslice 2 1 (.agg [(.sc (.string ⟨#[]⟩)), (.sl 0 [] .nil)]) [(0, (.t 106))], none, [2]⟩),
     (false, ⟨(some 108), .call (.c (.fn (.func 21) [] [])) [(.c (.sc (.string ⟨#[98, 111, 120]⟩))), (.t 107)], none, [3]⟩),
     (false, ⟨(some 109), .call (.c (.fn (.func 18) [] [])) [(.t 104), (.t 105), (.t 108)], none, [0, 1, 4, 4]⟩),
     (false, ⟨(some 103), .mv (.t 109), none, [5]⟩),
     (true, ⟨(some 110), .extract (.t 103) 0, none, [6]⟩),
     (true, ⟨(some 111), .extract (.t 103) 1, none, [6]⟩),
     (true, ⟨(some 112), .extract (.t 103) 2, none, [6]⟩),
     (true, ⟨(some 113), .extract (.t 103) 3, none, [6]⟩),
     (false, ⟨(some 20), .mv (.t 110), none, [7, 5, 0, 1, 2, 3, 4, 5, 6, 7]⟩),
     (false, ⟨(some 21), .mv (.t 111), none, [8, 11, 0, 1, 2, 3, 4, 5, 6, 7, 8, 11]⟩),
     (false, ⟨(some 22), .mv (.t 112), none, [9, 12, 0, 1, 2, 3, 4, 5, 6, 7, 8, 9, 11, 12]⟩),
     (false, ⟨(some 23), .mv (.t 113), none, [10, 13, 0, 1, 2, 3, 4, 5, 6, 7, 8, 9, 10, 11, 12, 13]⟩)]) (
  .seq (.reg [⟨(some 114), .mv (.t 17), none, []⟩,
     ⟨(some 115), .mv (.t 114), none, [0]⟩,
     ⟨(some 116), .mv (.t 23), (some (115, true)), [1]⟩,
     ⟨(some 117), .bin .neq (.t 116) (.c (.sc (.int .i64 0))), (some (115, true)), [2, 1]⟩,
     ⟨(some 118), .mv (.t 117), (some (115, true)), [3, 1, 1]⟩,
     ⟨(some 119), .mv (.t 20), (some (118, false)), [4]⟩,
     ⟨(some 120), .un .not (.t 119), (some (118, false)), [5, 4]⟩,
     ⟨(some 121), .pick (.t 118) (.c (.sc (.bool true))) (.t 120), (some (115, true)), [4, 6, 1]⟩,
     ⟨(some 122), .pick (.t 115) (.t 121) (.c (.sc (.bool false))), none, [1, 7]⟩]) (
  .cond (.t 122) (.seq (.reg [⟨(some 6), .mv (.c (.sc (.bool false))), none, []⟩]) (
   .ret)) (
  .skip)))
def cp13_law35_ModalRules : ACode :=
 .seq (.dreg [(true, ⟨(some 124), .load (.agg 1) (.t 7), none, []⟩),
     (true, ⟨(some 125), .mv (.t 8), none, []⟩),
     (true, ⟨(some 126), .load (.agg 2) (.t 4), none, []⟩),
     (true, ⟨(some 127), .bslice 2 1 (.agg [(.sc (.string ⟨#[]⟩)), (.sl 0 [] .nil)]) [(0, (.t 126))], none, [2]⟩),
     (false, ⟨(some 128), .load (.agg 2) (.t 4), none, []⟩),
     (false, ⟨(some 129), .bslice 2 1 (.agg [(.sc (.string ⟨#[]⟩)), (.sl 0 [] .nil)]) [(0, (.t 128))], none, [4]⟩),
     (false, ⟨(some 130), .call (.c (.fn (.func 21) [] [])) [(.c (.sc (.string ⟨#[98, 111, 120]⟩))), (.t 129)], none, [5]⟩),
     (false, ⟨(some 131), .call (.c (.fn (.func 12) [] [])) [(.t 124), (.t 125), (.t 127), (.t 130)], none, [0, 1, 3, 6, 6]⟩),
     (false, ⟨(some 123), .mv (.t 131), none, [7]⟩),
     (true, ⟨(some 132), .extract (.t 123) 0, none, [8]⟩),
     (true, ⟨(some 133), .extract (.t 123) 1, none, [8]⟩),
     (true, ⟨(some 134), .extract (.t 123) 2, none, [8]⟩),
     (true, ⟨(some 135), .extract (.t 123) 3, none, [8]⟩),
     (false, ⟨(some 24), .mv (.t 132), none, [9, 7, 0, 1, 2, 3, 4, 5, 6, 7, 8, 9]⟩),
     (false, ⟨(some 25), .mv (.t 133), none, [10, 13, 0, 1, 2, 3, 4, 5, 6, 7, 8, 9, 10, 13]⟩),
     (false, ⟨(some 26), .mv (.t 134), none, [11, 14, 0, 1, 2, 3, 4, 5, 6, 7, 8, 9, 10, 11, 13, 14]⟩),
     (false, ⟨(some 27), .mv (.t 135), none, [12, 15, 0, 1, 2, 3, 4, 5, 6, 7, 8, 9, 10, 11, 12, 13, 14, 15]⟩)]) (
  .seq (.reg [⟨(some 136), .mv (.t 27), none, []⟩,
     ⟨(some 137), .bin .neq (.t 136) (.c (.sc (.int .i64 0))), none, [0]⟩,
     ⟨(some 138), .mv (.t 137), none, [1]⟩,
     ⟨(some 139), .mv (.t 24), (some (138, false)), [2]⟩,
     ⟨(some 140), .un .not (.t 139), (some (138, false)), [3, 2]⟩,
     ⟨(some 141), .pick (.t 138) (.c (.sc (.bool true))) (.t 140), none, [2, 4]⟩]) (
  .cond (.t 141) (.seq (.reg [⟨(some 6), .mv (.c (.sc (.bool false))), none, []⟩]) (
   .ret)) (
  .skip)))
def cp14_law35_ModalRules : ACode :=
 .seq (.dreg [(true, ⟨(some 143), .load (.agg 1) (.t 7), none, []⟩),
     (true, ⟨(some 144), .mv (.t 8), none, []⟩),
     (true, ⟨(some 145), .load (.agg 2) (.t 4), none, []⟩),
     (false, ⟨(some 146), .load (.agg 2) (.t 5), none, []⟩),
     (false, ⟨(some 147), .call (.c (.fn (.func 22) [] [])) [(.t 145), (.t 146)], none, [2, 3]⟩),
     (false, ⟨(some 148), .call (.c (.fn (.func 18) [] [])) [(.t 143), (.t 144), (.t 147)], none, [0, 1, 4, 4]⟩),
     (false, ⟨(some 142), .mv (.t 148), none, [5]⟩),
     (true, ⟨(some 149), .extract (.t 142) 0, none, [6]⟩),
     (true, ⟨(some 150), .extract (.t 142) 1, none, [6]⟩),
     (true, ⟨(some 151), .extract (.t 142) 2, none, [6]⟩),
     (true, ⟨(some 152), .extract (.t 142) 3, none, [6]⟩),
     (false, ⟨(some 28), .mv (.t 149), none, [7, 5, 0, 1, 2, 3, 4, 5, 6, 7]⟩),
     (false, ⟨(some 29), .mv (.t 150), none, [8, 11, 0, 1, 2, 3, 4, 5, 6, 7, 8, 11]⟩),
     (false, ⟨(some 30), .mv (.t 151), none, [9, 12, 0, 1, 2, 3, 4, 5, 6, 7, 8, 9, 11, 12]⟩),
     (false, ⟨(some 31), .mv (.t 152), none, [10, 13, 0, 1, 2, 3, 4, 5, 6, 7, 8, 9, 10, 11, 12, 13]⟩)]) (
  .seq (.reg [⟨(some 153), .mv (.t 17), none, []⟩,
     ⟨(some 154), .mv (.t 153), none, [0]⟩,
     ⟨(some 155), .mv (.t 31), (some (154, true)), [1]⟩,
     ⟨(some 156), .bin .eql (.t 155) (.c (.sc (.int .i64 0))), (some (154, true)), [2, 1]⟩,
     ⟨(some 157), .pick (.t 154) (.t 156) (.c (.sc (.bool false))), none, [1, 3]⟩,
     ⟨(some 158), .mv (.t 157), none, [4, 1]⟩,
     ⟨(some 159), .mv (.t 28), (some (158, true)), [5]⟩,
     ⟨(some 160), .un .not (.t 159), (some (158, true)), [6, 5]⟩,
     ⟨(some 161), .pick (.t 158) (.t 160) (.c (.sc (.bool false))), none, [5, 7]⟩]) (
  .cond (.t 161) (.seq (.reg [⟨(some 6), .mv (.c (.sc (.bool false))), none, []⟩]) (
   .ret)) (
  .skip)))
def cp15_law35_ModalRules : ACode :=
 .reg [⟨(some 163), .load (.agg 1) (.t 7), none, []⟩,
    ⟨(some 164), .mv (.t 8), none, []⟩,
    ⟨(some 165), .load (.agg 2) (.t 11), none, []⟩,
    ⟨(some 166), .call (.c (.fn (.func 18) [] [])) [(.t 163), (.t 164), (.t 165)], none, [0, 1, 2]⟩,
    ⟨(some 162), .mv (.t 166), none, [3]⟩,
    ⟨(some 167), .extract (.t 162) 0, none, [4]⟩,
    ⟨(some 168), .extract (.t 162) 1, none, [4]⟩,
    ⟨(some 169), .extract (.t 162) 2, none, [4]⟩,
    ⟨(some 170), .extract (.t 162) 3, none, [4]⟩,
    ⟨(some 32), .mv (.t 167), none, [5, 3, 0, 1, 2, 3, 4, 5]⟩,
    ⟨(some 33), .mv (.t 168), none, [6, 9, 0, 1, 2, 3, 4, 5, 6, 9]⟩,
    ⟨(some 34), .mv (.t 169), none, [7, 10, 0, 1, 2, 3, 4, 5, 6, 7, 9, 10]⟩,
    ⟨(some 16), .mv (.t 170), none, [8, 11, 0, 1, 2, 3, 4, 5, 6, 7, 8, 9, 10, 11]⟩]
def cp16_law35_ModalRules : ACode :=
 .seq (.reg [⟨(some 171), .mv (.t 16), none, []⟩,
     ⟨(some 172), .bin .neq (.t 171) (.c (.sc (.int .i64 0))), none, [0]⟩]) (
  .cond (.t 172) (.seq (.reg [⟨(some 173), .call (.c (.fn (.func 11) [] [])) [], none, []⟩,
      ⟨(some 6), .mv (.t 173), none, [0, 0, 0]⟩]) (
   .ret)) (
  .skip))
def cp17_law35_ModalRules : ACode :=
 .reg [⟨(some 175), .load (.agg 1) (.t 7), none, []⟩,
    ⟨(some 176), .mv (.t 8), none, []⟩,
    ⟨(some 177), .load (.agg 2) (.t 5), none, []⟩,
    ⟨(some 178), .call (.c (.fn (.func 18) [] [])) [(.t 175), (.t 176), (.t 177)], none, [0, 1, 2]⟩,
    ⟨(some 174), .mv (.t 178), none, [3]⟩,
    ⟨(some 179), .extract (.t 174) 0, none, [4]⟩,
    ⟨(some 180), .extract (.t 174) 1, none, [4]⟩,
    ⟨(some 181), .extract (.t 174) 2, none, [4]⟩,
    ⟨(some 182), .extract (.t 174) 3, none, [4]⟩,
    ⟨(some 35), .mv (.t 179), none, [5, 3, 0, 1, 2, 3, 4, 5]⟩,
    ⟨(some 36), .mv (.t 180), none, [6, 9, 0, 1, 2, 3, 4, 5, 6, 9]⟩,
    ⟨(some 37), .mv (.t 181), none, [7, 10, 0, 1, 2, 3, 4, 5, 6, 7, 9, 10]⟩,
    ⟨(some 16), .mv (.t 182), none, [8, 11, 0, 1, 2, 3, 4, 5, 6, 7, 8, 9, 10, 11]⟩]
def cp18_law35_ModalRules : ACode :=
 .seq (.reg [⟨(some 183), .mv (.t 16), none, []⟩,
     ⟨(some 184), .bin .neq (.t 183) (.c (.sc (.int .i64 0))), none, [0]⟩,
     ⟨(some 185), .mv (.t 184), none, [1]⟩,
     ⟨(some 186), .mv (.t 17), (some (185, false)), [2]⟩,
     ⟨(some 187), .mv (.t 186), (some (185, false)), [3, 2, 2]⟩,
     ⟨(some 188), .mv (.t 32), (some (187, true)), [4]⟩,
     ⟨(some 189), .pick (.t 187) (.t 188) (.c (.sc (.bool false))), (some (185, false)), [4, 5, 2]⟩,
     ⟨(some 190), .mv (.t 189), (some (185, false)), [6, 4, 2]⟩,
     ⟨(some 191), .mv (.t 35), (some (190, true)), [7]⟩,
     ⟨(some 192), .un .not (.t 191), (some (190, true)), [8, 7]⟩,
     ⟨(some 193), .pick (.t 190) (.t 192) (.c (.sc (.bool false))), (some (185, false)), [7, 9, 2]⟩,
     ⟨(some 194), .pick (.t 185) (.c (.sc (.bool true))) (.t 193), none, [2, 10]⟩]) (
  .cond (.t 194) (.seq (.reg [⟨(some 6), .mv (.c (.sc (.bool false))), none, []⟩]) (
   .ret)) (
  .skip))
def cp19_law35_ModalRules : ACode :=
 .reg [⟨(some 196), .load (.agg 1) (.t 7), none, []⟩,
    ⟨(some 197), .mv (.t 8), none, []⟩,
    ⟨(some 198), .load (.agg 2) (.t 4), none, []⟩,
    ⟨(some 199), .load (.agg 2) (.t 11), none, []⟩,
    ⟨(some 200), .bslice 2 2 (.agg [(.sc (.string ⟨#[]⟩)), (.sl 0 [] .nil)]) [(0, (.t 198)), (1, (.t 199))], none, [2, 3]⟩,
    ⟨(some 201), .load (.agg 2) (.t 5), none, []⟩,
    ⟨(some 202), .call (.c (.fn (.func 12) [] [])) [(.t 196), (.t 197), (.t 200), (.t 201)], none, [0, 1, 4, 5]⟩,
    ⟨(some 195), .mv (.t 202), none, [6]⟩,
    ⟨(some 203), .extract (.t 195) 0, none, [7]⟩,
    ⟨(some 204), .extract (.t 195) 1, none, [7]⟩,
    ⟨(some 205), .extract (.t 195) 2, none, [7]⟩,
    ⟨(some 206), .extract (.t 195) 3, none, [7]⟩,
    ⟨(some 35), .mv (.t 203), none, [8, 6, 0, 1, 2, 3, 4, 5, 6, 7, 8]⟩,
    ⟨(some 16), .mv (.t 206), none, [11, 12, 0, 1, 2, 3, 4, 5, 6, 7, 8, 9, 10, 11, 12]⟩]
def cp20_law35_ModalRules : ACode :=
 .reg [⟨(some 207), .mv (.t 16), none, []⟩,
    ⟨(some 208), .bin .eql (.t 207) (.c (.sc (.int .i64 0))), none, [0]⟩,
    ⟨(some 209), .mv (.t 208), none, [1]⟩,
    ⟨(some 210), .mv (.t 35), (some (209, true)), [2]⟩,
    ⟨(some 211), .pick (.t 209) (.t 210) (.c (.sc (.bool false))), none, [2, 3]⟩,
    ⟨(some 212), .mv (.t 211), none, [4, 2]⟩,
    ⟨(some 213), .call (.c (.fn (.func 11) [] [])) [], (some (212, true)), [5, 5]⟩,
    ⟨(some 214), .pick (.t 212) (.t 213) (.c (.sc (.bool false))), none, [5, 6]⟩,
    ⟨(some 6), .mv (.t 214), none, [7, 6, 0, 1, 2, 3, 4, 5, 6, 7]⟩]
def tl21_law35_ModalRules : ACode := .ret
def tl20_law35_ModalRules : ACode := .seq cp20_law35_ModalRules tl21_law35_ModalRules
def tl19_law35_ModalRules : ACode := .seq cp19_law35_ModalRules tl20_law35_ModalRules
def tl18_law35_ModalRules : ACode := .seq cp18_law35_ModalRules tl19_law35_ModalRules
def tl17_law35_ModalRules : ACode := .seq cp17_law35_ModalRules tl18_law35_ModalRules
def tl16_law35_ModalRules : ACode := .seq cp16_law35_ModalRules tl17_law35_ModalRules
def tl15_law35_ModalRules : ACode := .seq cp15_law35_ModalRules tl16_law35_ModalRules
def tl14_law35_ModalRules : ACode := .seq cp14_law35_ModalRules tl15_law35_ModalRules
def tl13_law35_ModalRules : ACode := .seq cp13_law35_ModalRules tl14_law35_ModalRules
def tl12_law35_ModalRules : ACode := .seq cp12_law35_ModalRules tl13_law35_ModalRules
def tl11_law35_ModalRules : ACode := .seq cp11_law35_ModalRules tl12_law35_ModalRules
def tl10_law35_ModalRules : ACode := .seq cp10_law35_ModalRules tl11_law35_ModalRules
def tl9_law35_ModalRules : ACode := .seq cp9_law35_ModalRules tl10_law35_ModalRules
def tl8_law35_ModalRules : ACode := .seq cp8_law35_ModalRules tl9_law35_ModalRules
def tl7_law35_ModalRules : ACode := .seq cp7_law35_ModalRules tl8_law35_ModalRules
def tl6_law35_ModalRules : ACode := .seq cp6_law35_ModalRules tl7_law35_ModalRules
def tl5_law35_ModalRules : ACode := .seq cp5_law35_ModalRules tl6_law35_ModalRules
def tl4_law35_ModalRules : ACode := .seq cp4_law35_ModalRules tl5_law35_ModalRules
def tl3_law35_ModalRules : ACode := .seq cp3_law35_ModalRules tl4_law35_ModalRules
def tl2_law35_ModalRules : ACode := .seq cp2_law35_ModalRules tl3_law35_ModalRules
def tl1_law35_ModalRules : ACode := .seq cp1_law35_ModalRules tl2_law35_ModalRules
def tl0_law35_ModalRules : ACode := .seq cp0_law35_ModalRules tl1_law35_ModalRules
/-- apodixis/apodixislaw35.ModalRules -/
def ann_law35_ModalRules : List Nat := [4, 5, 7, 9, 10, 11, 12]
def code_law35_ModalRules : ACode := tl0_law35_ModalRules

def res_law35_ModalRules : List ResA := [.t 6]theorem comp_law35_ModalRules : Tryd.f4.body.bind (compCode PP ann_law35_ModalRules 215) = some code_law35_ModalRules := by kernel_rfl
theorem resc_law35_ModalRules : mapM' (compRes PP) Tryd.f4.results.toList = some res_law35_ModalRules := by kernel_rfl
theorem body_law35_ModalRules : hasBody PP 4 = true := by kernel_rfl
theorem enter_law35_ModalRules {args : List AV} {h : AHeap} {R : AEnd → AHeap → Prop} (hargs : args.length ≤ 215) (hw : codeWp ⟨PP, Gl, 215, ann_law35_ModalRules, h.length, none⟩ code_law35_ModalRules (retPost PP Gl h res_law35_ModalRules R) (initEnv args) h) : ACalls PP Gl 4 args h R :=
  acalls_of_code Tryd.func4 body_law35_ModalRules comp_law35_ModalRules resc_law35_ModalRules hargs (Nat.le_trans hargs (by decide)) (codeWp_sound mixed hw)

/-- apodixis/apodixislaw35.ModalHolds -/
def ann_law35_ModalHolds : List Nat := [4, 7]
def code_law35_ModalHolds : ACode :=
 .seq (.reg [⟨(some 4), .box (.t 0), none, []⟩,
    ⟨(some 7), .box (.t 3), none, []⟩,
    ⟨(some 8), .mv (.c (.sc (.bool false))), none, []⟩]) (
 .seq (.reg [⟨(some 14), .load (.agg 2) (.t 7), none, []⟩,
    ⟨(some 15), .call (.c (.fn (.func 10) [] [])) [(.t 14), (.c (.sc (.int .i64 4100)))], none, [0]⟩,
    ⟨(some 9), .mv (.t 15), none, [1, 1, 0, 1]⟩]) (
 .seq (.seq (.reg [⟨(some 16), .load (.agg 1) (.t 4), none, []⟩,
     ⟨(some 17), .mv (.t 1), none, []⟩,
     ⟨(some 18), .call (.c (.fn (.func 9) [] [])) [(.t 16), (.t 17)], none, [0, 1]⟩,
     ⟨(some 19), .un .not (.t 18), none, [2]⟩,
     ⟨(some 20), .mv (.t 19), none, [3, 2]⟩,
     ⟨(some 21), .mv (.t 2), (some (20, false)), [4]⟩,
     ⟨(some 22), .len .sl (.t 21), (some (20, false)), [5, 4]⟩,
     ⟨(some 23), .bin .gtr (.t 22) (.c (.sc (.int .i64 12))), (some (20, false)), [6, 4]⟩,
     ⟨(some 24), .pick (.t 20) (.c (.sc (.bool true))) (.t 23), none, [4, 7]⟩,
     ⟨(some 25), .mv (.t 24), none, [8, 4]⟩,
     ⟨(some 26), .mv (.t 9), (some (25, false)), [9]⟩,
     ⟨(some 27), .bin .gtr (.t 26) (.c (.sc (.int .i64 60))), (some (25, false)), [10, 9]⟩,
     ⟨(some 28), .mv (.t 27), (some (25, false)), [11, 9, 9]⟩,
     ⟨(some 29), .mv (.t 9), (some (28, true)), [12]⟩,
     ⟨(some 30), .bin .leq (.t 29) (.c (.sc (.int .i64 4000))), (some (28, true)), [13, 12]⟩,
     ⟨(some 31), .mv (.t 30), (some (28, true)), [14, 12, 12]⟩,
     ⟨(some 32), .mv (.t 9), (some (31, false)), [15]⟩,
     ⟨(some 33), .bin .gtr (.t 32) (.c (.sc (.int .i64 4090))), (some (31, false)), [16, 15]⟩,
     ⟨(some 34), .pick (.t 31) (.c (.sc (.bool true))) (.t 33), (some (28, true)), [15, 17, 12]⟩,
     ⟨(some 35), .pick (.t 28) (.t 34) (.c (.sc (.bool false))), (some (25, false)), [12, 18, 9]⟩,
     ⟨(some 36), .pick (.t 25) (.c (.sc (.bool true))) (.t 35), none, [9, 19]⟩]) (
  .cond (.t 36) (.seq (.reg [⟨(some 37), .call (.c (.fn (.func 11) [] [])) [], none, []⟩,
      ⟨(some 8), .mv (.t 37), none, [0, 0, 0]⟩]) (
   .ret)) (
  .skip))) (
 .seq (.reg [⟨(some 39), .load (.agg 1) (.t 4), none, []⟩,
    ⟨(some 40), .mv (.t 1), none, []⟩,
    ⟨(some 41), .mv (.t 2), none, []⟩,
    ⟨(some 42), .load (.agg 2) (.t 7), none, []⟩,
    ⟨(some 43), .call (.c (.fn (.func 23) [] [])) [(.t 39), (.t 40), (.t 41), (.t 42)], none, [0, 1, 2, 3]⟩,
    ⟨(some 38), .mv (.t 43), none, [4]⟩,
    ⟨(some 44), .extract (.t 38) 0, none, [5]⟩,
    ⟨(some 45), .extract (.t 38) 1, none, [5]⟩,
    ⟨(some 10), .mv (.t 44), none, [6, 4, 0, 1, 2, 3, 4, 5, 6]⟩,
    ⟨(some 11), .mv (.t 45), none, [7, 8, 0, 1, 2, 3, 4, 5, 6, 7, 8]⟩]) (
 .seq (.dreg [(true, ⟨(some 47), .load (.agg 1) (.t 4), none, []⟩),
    (true, ⟨(some 49), .mv (.t 1), none, []⟩),
    (true, ⟨(some 51), .mv (.t 2), none, []⟩),
    (true, ⟨(some 53), .load (.agg 2) (.t 7), none, []⟩),
    (false, ⟨(some 48), .call (.c (.fn (.func 14) [] [])) [(.t 47)], none, [0]⟩),
    (false, ⟨(some 50), .call (.c (.fn (.func 15) [] [])) [(.t 49)], none, [2, 1]⟩),
    (false, ⟨(some 52), .call (.c (.fn (.func 17) [] [])) [(.t 51)], none, [4, 3]⟩),
    (false, ⟨(some 54), .call (.c (.fn (.func 24) [] [])) [(.t 48), (.t 50), (.t 52), (.t 53)], none, [1, 3, 5, 6, 5]⟩),
    (false, ⟨(some 46), .mv (.t 54), none, [7]⟩),
    (true, ⟨(some 55), .extract (.t 46) 0, none, [8]⟩),
    (true, ⟨(some 56), .extract (.t 46) 1, none, [8]⟩),
    (false, ⟨(some 12), .mv (.t 55), none, [9, 7, 0, 1, 2, 3, 4, 5, 6, 7, 8, 9]⟩),
    (false, ⟨(some 13), .mv (.t 56), none, [10, 11, 0, 1, 2, 3, 4, 5, 6, 7, 8, 9, 10, 11]⟩)]) (
 .seq (.reg [⟨(some 57), .mv (.t 10), none, []⟩,
    ⟨(some 58), .mv (.t 12), none, []⟩,
    ⟨(some 59), .bin .eql (.t 57) (.t 58), none, [0, 1]⟩,
    ⟨(some 60), .mv (.t 59), none, [2]⟩,
    ⟨(some 61), .mv (.t 11), (some (60, true)), [3]⟩,
    ⟨(some 62), .mv (.t 13), (some (60, true)), [3]⟩,
    ⟨(some 63), .bin .eql (.t 61) (.t 62), (some (60, true)), [4, 5, 3]⟩,
    ⟨(some 64), .pick (.t 60) (.t 63) (.c (.sc (.bool false))), none, [3, 6]⟩,
    ⟨(some 65), .mv (.t 64), none, [7, 3]⟩,
    ⟨(some 66), .call (.c (.fn (.func 11) [] [])) [], (some (65, true)), [8, 8]⟩,
    ⟨(some 67), .pick (.t 65) (.t 66) (.c (.sc (.bool false))), none, [8, 9]⟩,
    ⟨(some 8), .mv (.t 67), none, [10, 9, 0, 1, 2, 3, 4, 5, 6, 7, 8, 9, 10]⟩]) (
 .ret))))))
def res_law35_ModalHolds : List ResA := [.t 8]
theorem comp_law35_ModalHolds : Tryd.f5.body.bind (compCode PP ann_law35_ModalHolds 68) = some code_law35_ModalHolds := by kernel_rfl
theorem resc_law35_ModalHolds : mapM' (compRes PP) Tryd.f5.results.toList = some res_law35_ModalHolds := by kernel_rfl
theorem body_law35_ModalHolds : hasBody PP 5 = true := by kernel_rfl
theorem enter_law35_ModalHolds {args : List AV} {h : AHeap} {R : AEnd → AHeap → Prop} (hargs : args.length ≤ 68) (hw : codeWp ⟨PP, Gl, 68, ann_law35_ModalHolds, h.length, none⟩ code_law35_ModalHolds (retPost PP Gl h res_law35_ModalHolds R) (initEnv args) h) : ACalls PP Gl 5 args h R :=
  acalls_of_code Tryd.func5 body_law35_ModalHolds comp_law35_ModalHolds resc_law35_ModalHolds hargs (Nat.le_trans hargs (by decide)) (codeWp_sound mixed hw)

def lp0_law35_ModalCorresponds : ACode :=
 .seq (.seq (.reg [⟨(some 21), .mv (.t 5), none, []⟩,
        ⟨(some 22), .mv (.t 4), none, []⟩,
        ⟨(some 23), .len .sl (.t 22), none, [1]⟩,
        ⟨(some 24), .bin .lss (.t 21) (.t 23), none, [0, 2]⟩]) (
     .cond (.t 24) (.skip) (
     .exit 0))) (
    .seq (.block 1 (.seq (.dreg [(true, ⟨(some 28), .load (.agg 1) (.t 3), none, []⟩),
         (true, ⟨(some 30), .mv (.t 4), none, []⟩),
         (true, ⟨(some 31), .mv (.t 5), none, []⟩),
         (true, ⟨(some 32), .iaddr 2 (.t 30) (.t 31), none, [2, 3]⟩),
         (true, ⟨(some 33), .load (.agg 2) (.t 32), none, [4]⟩),
         (false, ⟨(some 29), .call (.c (.fn (.func 20) [] [])) [], none, []⟩),
         (false, ⟨(some 34), .call (.c (.fn (.func 18) [] [])) [(.t 28), (.t 29), (.t 33)], none, [0, 1, 5, 1]⟩),
         (false, ⟨(some 27), .mv (.t 34), none, [6]⟩),
         (true, ⟨(some 35), .extract (.t 27) 0, none, [7]⟩),
         (true, ⟨(some 36), .extract (.t 27) 1, none, [7]⟩),
         (true, ⟨(some 37), .extract (.t 27) 2, none, [7]⟩),
         (true, ⟨(some 38), .extract (.t 27) 3, none, [7]⟩),
         (false, ⟨(some 6), .mv (.t 35), none, [8, 6, 0, 1, 2, 3, 4, 5, 6, 7, 8]⟩),
         (false, ⟨(some 7), .mv (.t 36), none, [9, 12, 0, 1, 2, 3, 4, 5, 6, 7, 8, 9, 12]⟩),
         (false, ⟨(some 8), .mv (.t 37), none, [10, 13, 0, 1, 2, 3, 4, 5, 6, 7, 8, 9, 10, 12, 13]⟩),
         (false, ⟨(some 9), .mv (.t 38), none, [11, 14, 0, 1, 2, 3, 4, 5, 6, 7, 8, 9, 10, 11, 12, 13, 14]⟩)]) (
      .seq (.reg [⟨(some 40), .load (.agg 1) (.t 3), none, []⟩,
         ⟨(some 41), .mv (.t 5), none, []⟩,
         ⟨(some 42), .bin .add (.t 41) (.c (.sc (.int .i64 1))), none, [1]⟩,
         ⟨(some 43), .call (.c (.fn (.func 26) [] [])) [(.t 40), (.t 42)], none, [0, 2]⟩,
         ⟨(some 39), .mv (.t 43), none, [3]⟩,
         ⟨(some 44), .extract (.t 39) 0, none, [4]⟩,
         ⟨(some 45), .extract (.t 39) 1, none, [4]⟩,
         ⟨(some 10), .mv (.t 44), none, [5, 3, 0, 1, 2, 3, 4, 5]⟩,
         ⟨(some 11), .mv (.t 45), none, [6, 7, 0, 1, 2, 3, 4, 5, 6, 7]⟩]) (
      .seq (.seq (.reg [⟨(some 46), .mv (.t 5), none, []⟩,
          ⟨(some 47), .bin .eql (.t 46) (.c (.sc (.int .i64 5))), none, [0]⟩,
          ⟨(some 48), .mv (.t 47), none, [1]⟩,
          ⟨(some 49), .mv (.t 11), (some (48, true)), [2]⟩,
          ⟨(some 50), .bin .eql (.t 49) (.c (.sc (.int .i64 0))), (some (48, true)), [3, 2]⟩,
          ⟨(some 51), .pick (.t 48) (.t 50) (.c (.sc (.bool false))), none, [2, 4]⟩]) (
       .cond (.t 51) (.seq (.reg [⟨(some 53), .load (.agg 1) (.t 3), none, []⟩,
           ⟨(some 54), .call (.c (.fn (.func 26) [] [])) [(.t 53), (.c (.sc (.int .i64 2)))], none, [0]⟩,
           ⟨(some 52), .mv (.t 54), none, [1]⟩,
           ⟨(some 55), .extract (.t 52) 0, none, [2]⟩,
           ⟨(some 56), .extract (.t 52) 1, none, [2]⟩,
           ⟨(some 12), .mv (.t 55), none, [3, 1, 0, 1, 2, 3]⟩,
           ⟨(some 13), .mv (.t 56), none, [4, 5, 0, 1, 2, 3, 4, 5]⟩]) (
        .reg [⟨(some 57), .mv (.t 10), none, []⟩,
          ⟨(some 58), .mv (.t 57), none, [0]⟩,
          ⟨(some 59), .mv (.t 12), (some (58, true)), [1]⟩,
          ⟨(some 60), .pick (.t 58) (.t 59) (.c (.sc (.bool false))), none, [1, 2]⟩,
          ⟨(some 10), .mv (.t 60), none, [3, 1, 0, 1, 2, 3]⟩])) (
       .skip))) (
      .seq (.reg [⟨(some 61), .mv (.t 9), none, []⟩,
         ⟨(some 62), .mv (.t 11), none, []⟩,
         ⟨(some 63), .bin .neq (.t 61) (.t 62), none, [0, 1]⟩,
         ⟨(some 64), .mv (.t 63), none, [2]⟩,
         ⟨(some 65), .mv (.t 9), (some (64, false)), [3]⟩,
         ⟨(some 66), .bin .eql (.t 65) (.c (.sc (.int .i64 0))), (some (64, false)), [4, 3]⟩,
         ⟨(some 67), .mv (.t 66), (some (64, false)), [5, 3, 3]⟩,
         ⟨(some 68), .mv (.t 6), (some (67, true)), [6]⟩,
         ⟨(some 69), .mv (.t 10), (some (67, true)), [6]⟩,
         ⟨(some 70), .eqb true (.t 68) (.t 69), (some (67, true)), [7, 8, 6]⟩,
         ⟨(some 71), .pick (.t 67) (.t 70) (.c (.sc (.bool false))), (some (64, false)), [6, 9, 3]⟩,
         ⟨(some 72), .pick (.t 64) (.c (.sc (.bool true))) (.t 71), none, [3, 10]⟩]) (
      .cond (.t 72) (.seq (.reg [⟨(some 2), .mv (.c (.sc (.bool false))), none, []⟩]) (
       .ret)) (
      .skip))))))) (
    .reg [⟨(some 25), .mv (.t 5), none, []⟩,
      ⟨(some 26), .bin .add (.t 25) (.c (.sc (.int .i64 1))), none, [0]⟩,
      ⟨(some 5), .mv (.t 26), none, [1, 0, 1]⟩]))
/-- apodixis/apodixislaw35.ModalCorresponds -/
def ann_law35_ModalCorresponds : List Nat := [3]
def code_law35_ModalCorresponds : ACode :=
 .seq (.reg [⟨(some 2), .mv (.c (.sc (.bool false))), none, []⟩]) (
 .seq (.reg [⟨(some 14), .mv (.t 0), none, []⟩,
    ⟨(some 15), .build [(.sl 0 [] .nil)] [(0, 1, (.t 14))], none, [0]⟩,
    ⟨(some 3), .pnew 1, none, []⟩,
    ⟨none, .pstore 1 3 (.t 15), none, [2, 1, 0, 1, 2]⟩]) (
 .seq (.seq (.reg [⟨(some 16), .mv (.t 0), none, []⟩,
     ⟨(some 17), .len .sl (.t 16), none, [0]⟩,
     ⟨(some 18), .bin .gtr (.t 17) (.c (.sc (.int .i64 80))), none, [1]⟩]) (
  .cond (.t 18) (.seq (.reg [⟨(some 19), .call (.c (.fn (.func 11) [] [])) [], none, []⟩,
      ⟨(some 2), .mv (.t 19), none, [0, 0, 0]⟩]) (
   .ret)) (
  .skip))) (
 .seq (.reg [⟨(some 20), .call (.c (.fn (.func 25) [] [])) [], none, []⟩,
    ⟨(some 4), .mv (.t 20), none, [0, 0, 0]⟩]) (
 .seq (.seq (.reg [⟨(some 5), .mv (.c (.sc (.int .i64 0))), none, []⟩]) (
  .block 0 (.loop lp0_law35_ModalCorresponds))) (
 .seq (.reg [⟨(some 73), .call (.c (.fn (.func 11) [] [])) [], none, []⟩,
    ⟨(some 2), .mv (.t 73), none, [0, 0, 0]⟩]) (
 .ret))))))
def res_law35_ModalCorresponds : List ResA := [.t 2]
theorem comp_law35_ModalCorresponds : Tryd.f6.body.bind (compCode PP ann_law35_ModalCorresponds 74) = some code_law35_ModalCorresponds := by kernel_rfl
theorem resc_law35_ModalCorresponds : mapM' (compRes PP) Tryd.f6.results.toList = some res_law35_ModalCorresponds := by kernel_rfl
theorem body_law35_ModalCorresponds : hasBody PP 6 = true := by kernel_rfl
theorem enter_law35_ModalCorresponds {args : List AV} {h : AHeap} {R : AEnd → AHeap → Prop} (hargs : args.length ≤ 74) (hw : codeWp ⟨PP, Gl, 74, ann_law35_ModalCorresponds, h.length, none⟩ code_law35_ModalCorresponds (retPost PP Gl h res_law35_ModalCorresponds R) (initEnv args) h) : ACalls PP Gl 6 args h R :=
  acalls_of_code Tryd.func6 body_law35_ModalCorresponds comp_law35_ModalCorresponds resc_law35_ModalCorresponds hargs (Nat.le_trans hargs (by decide)) (codeWp_sound mixed hw)

def lp1_law35_ModalGenerated : ACode :=
 .seq (.seq (.reg [⟨(some 79), .mv (.t 20), none, []⟩,
            ⟨(some 80), .bin .lss (.t 79) (.c (.sc (.int .i64 2))), none, [0]⟩]) (
         .cond (.t 80) (.skip) (
         .exit 2))) (
        .seq (.block 3 (.dreg [(true, ⟨(some 83), .mv (.t 18), none, []⟩),
            (true, ⟨(some 84), .mv (.t 20), none, []⟩),
            (true, ⟨(some 85), .iaddr 2 (.t 83) (.t 84), none, [0, 1]⟩),
            (true, ⟨(some 86), .faddr 1 .one (.t 85), none, [2]⟩),
            (true, ⟨(some 87), .load .one (.t 86), none, [3]⟩),
            (true, ⟨(some 88), .mv (.t 17), none, []⟩),
            (true, ⟨(some 89), .mv (.t 20), none, []⟩),
            (true, ⟨(some 90), .iaddr 2 (.t 88) (.t 89), none, [5, 6]⟩),
            (true, ⟨(some 91), .faddr 1 .one (.t 90), none, [7]⟩),
            (true, ⟨(some 92), .load .one (.t 91), none, [8]⟩),
            (true, ⟨(some 93), .mv (.t 14), none, []⟩),
            (true, ⟨(some 94), .mv (.t 19), none, []⟩),
            (true, ⟨(some 95), .iaddr 1 (.t 93) (.t 94), none, [10, 11]⟩),
            (true, ⟨(some 96), .load .one (.t 95), none, [12]⟩),
            (true, ⟨(some 97), .conv .u64 (.t 96), none, [13]⟩),
            (true, ⟨(some 98), .bin .shr (.t 92) (.t 97), none, [9, 14]⟩),
            (true, ⟨(some 99), .bin .and (.t 98) (.c (.sc (v64 1#64))), none, [15]⟩),
            (false, ⟨(some 100), .mv (.t 19), none, []⟩),
            (false, ⟨(some 101), .conv .u64 (.t 100), none, [17]⟩),
            (false, ⟨(some 102), .bin .shl (.t 99) (.t 101), none, [16, 18]⟩),
            (false, ⟨(some 103), .bin .or (.t 87) (.t 102), none, [4, 19]⟩),
            (false, ⟨(some 104), .iaddr 2 (.t 83) (.t 84), none, [0, 1, 0, 1, 2, 3, 4, 5, 6, 7, 8, 9, 10, 11, 12, 13, 14, 15, 16, 17, 18, 19, 20]⟩),
            (false, ⟨(some 105), .faddr 1 .one (.t 104), none, [21, 0, 1, 2, 3, 4, 5, 6, 7, 8, 9, 10, 11, 12, 13, 14, 15, 16, 17, 18, 19, 20]⟩),
            (false, ⟨none, .store 1 (.t 105) (.t 103), none, [22, 20, 0, 1, 2, 3, 4, 5, 6, 7, 8, 9, 10, 11, 12, 13, 14, 15, 16, 17, 18, 19, 20]⟩)])) (
        .reg [⟨(some 81), .mv (.t 20), none, []⟩,
          ⟨(some 82), .bin .add (.t 81) (.c (.sc (.int .i64 1))), none, [0]⟩,
          ⟨(some 20), .mv (.t 82), none, [1, 0, 1]⟩]))
def lp0_law35_ModalGenerated : ACode :=
 .seq (.seq (.reg [⟨(some 73), .mv (.t 19), none, []⟩,
        ⟨(some 74), .mv (.t 14), none, []⟩,
        ⟨(some 75), .len .sl (.t 74), none, [1]⟩,
        ⟨(some 76), .bin .lss (.t 73) (.t 75), none, [0, 2]⟩]) (
     .cond (.t 76) (.skip) (
     .exit 0))) (
    .seq (.block 1 (.seq (.reg [⟨(some 20), .mv (.c (.sc (.int .i64 0))), none, []⟩]) (
      .block 2 (.loop lp1_law35_ModalGenerated)))) (
    .reg [⟨(some 77), .mv (.t 19), none, []⟩,
      ⟨(some 78), .bin .add (.t 77) (.c (.sc (.int .i64 1))), none, [0]⟩,
      ⟨(some 19), .mv (.t 78), none, [1, 0, 1]⟩]))
def lp2_law35_ModalGenerated : ACode :=
 .seq (.seq (.reg [⟨(some 125), .mv (.t 15), none, []⟩,
        ⟨(some 126), .bin .eql (.t 125) (.c (.sc (.int .i64 0))), none, [0]⟩,
        ⟨(some 127), .mv (.t 126), none, [1]⟩,
        ⟨(some 128), .mv (.t 24), (some (127, true)), [2]⟩,
        ⟨(some 129), .mv (.t 14), (some (127, true)), [2]⟩,
        ⟨(some 130), .len .sl (.t 129), (some (127, true)), [4, 2]⟩,
        ⟨(some 131), .bin .lss (.t 128) (.t 130), (some (127, true)), [3, 5, 2]⟩,
        ⟨(some 132), .pick (.t 127) (.t 131) (.c (.sc (.bool false))), none, [2, 6]⟩]) (
     .cond (.t 132) (.skip) (
     .exit 4))) (
    .seq (.block 5 (.seq (.reg [⟨(some 135), .mv (.t 21), none, []⟩,
         ⟨(some 136), .mv (.t 14), none, []⟩,
         ⟨(some 137), .mv (.t 24), none, []⟩,
         ⟨(some 138), .iaddr 1 (.t 136) (.t 137), none, [1, 2]⟩,
         ⟨(some 139), .load .one (.t 138), none, [3]⟩,
         ⟨(some 140), .conv .u64 (.t 139), none, [4]⟩,
         ⟨(some 141), .bin .shr (.t 135) (.t 140), none, [0, 5]⟩,
         ⟨(some 142), .bin .and (.t 141) (.c (.sc (v64 1#64))), none, [6]⟩,
         ⟨(some 143), .mv (.t 22), none, []⟩,
         ⟨(some 144), .mv (.t 24), none, []⟩,
         ⟨(some 145), .conv .u64 (.t 144), none, [9]⟩,
         ⟨(some 146), .bin .shr (.t 143) (.t 145), none, [8, 10]⟩,
         ⟨(some 147), .bin .and (.t 146) (.c (.sc (v64 1#64))), none, [11]⟩,
         ⟨(some 148), .bin .neq (.t 142) (.t 147), none, [7, 12]⟩]) (
      .cond (.t 148) (.seq (.reg [⟨(some 10), .mv (.c (.sc (.bool false))), none, []⟩]) (
       .ret)) (
      .skip)))) (
    .reg [⟨(some 133), .mv (.t 24), none, []⟩,
      ⟨(some 134), .bin .add (.t 133) (.c (.sc (.int .i64 1))), none, [0]⟩,
      ⟨(some 24), .mv (.t 134), none, [1, 0, 1]⟩]))
def cp0_law35_ModalGenerated : ACode :=
 .reg [⟨(some 6), .box (.t 1), none, []⟩,
    ⟨(some 10), .mv (.c (.sc (.bool false))), none, []⟩]
def cp1_law35_ModalGenerated : ACode :=
 .reg [⟨(some 34), .mv (.t 0), none, []⟩,
    ⟨(some 35), .build [(.sl 0 [] .nil)] [(0, 1, (.t 34))], none, [0]⟩,
    ⟨(some 11), .pnew 1, none, []⟩,
    ⟨none, .pstore 1 11 (.t 35), none, [2, 1, 0, 1, 2]⟩]
def cp2_law35_ModalGenerated : ACode :=
 .seq (.reg [⟨(some 36), .mv (.t 0), none, []⟩,
     ⟨(some 37), .len .sl (.t 36), none, [0]⟩,
     ⟨(some 38), .bin .gtr (.t 37) (.c (.sc (.int .i64 4))), none, [1]⟩,
     ⟨(some 39), .mv (.t 38), none, [2]⟩,
     ⟨(some 40), .load (.agg 2) (.t 6), (some (39, false)), [3]⟩,
     ⟨(some 41), .call (.c (.fn (.func 10) [] [])) [(.t 40), (.c (.sc (.int .i64 20)))], (some (39, false)), [4, 3, 3]⟩,
     ⟨(some 42), .bin .gtr (.t 41) (.c (.sc (.int .i64 20))), (some (39, false)), [5, 3]⟩,
     ⟨(some 43), .pick (.t 39) (.c (.sc (.bool true))) (.t 42), none, [3, 6]⟩]) (
  .cond (.t 43) (.seq (.reg [⟨(some 44), .call (.c (.fn (.func 11) [] [])) [], none, []⟩,
      ⟨(some 10), .mv (.t 44), none, [0, 0, 0]⟩]) (
   .ret)) (
  .skip))
def cp3_law35_ModalGenerated : ACode :=
 .reg [⟨(some 45), .call (.c (.fn (.func 20) [] [])) [], none, []⟩,
    ⟨(some 12), .mv (.t 45), none, [0, 0, 0]⟩]
def cp4_law35_ModalGenerated : ACode :=
 .reg [⟨(some 47), .load (.agg 1) (.t 11), none, []⟩,
    ⟨(some 48), .mv (.t 2), none, []⟩,
    ⟨(some 49), .call (.c (.fn (.func 27) [] [])) [(.t 47), (.t 48)], none, [0, 1]⟩,
    ⟨(some 46), .mv (.t 49), none, [2]⟩,
    ⟨(some 50), .extract (.t 46) 0, none, [3]⟩,
    ⟨(some 51), .extract (.t 46) 1, none, [3]⟩,
    ⟨(some 52), .extract (.t 46) 2, none, [3]⟩,
    ⟨(some 13), .pnew 1, none, []⟩,
    ⟨none, .pstore 1 13 (.t 50), none, [7, 4, 2, 0, 1, 2, 3, 4, 7]⟩,
    ⟨(some 14), .mv (.t 51), none, [5, 8, 0, 1, 2, 3, 4, 5, 7, 8]⟩,
    ⟨(some 15), .mv (.t 52), none, [6, 9, 0, 1, 2, 3, 4, 5, 6, 7, 8, 9]⟩]
def cp5_law35_ModalGenerated : ACode :=
 .seq (.reg [⟨(some 53), .mv (.t 15), none, []⟩,
     ⟨(some 54), .bin .neq (.t 53) (.c (.sc (.int .i64 0))), none, [0]⟩]) (
  .cond (.t 54) (.seq (.reg [⟨(some 55), .call (.c (.fn (.func 11) [] [])) [], none, []⟩,
      ⟨(some 10), .mv (.t 55), none, [0, 0, 0]⟩]) (
   .ret)) (
  .skip))
def cp6_law35_ModalGenerated : ACode :=
 .reg [⟨(some 56), .mv (.t 0), none, []⟩,
    ⟨(some 57), .len .sl (.t 56), none, [0]⟩,
    ⟨(some 58), .conv .u64 (.t 57), none, [1]⟩,
    ⟨(some 59), .bin .shl (.c (.sc (v64 1#64))) (.t 58), none, [2]⟩,
    ⟨(some 60), .bin .sub (.t 59) (.c (.sc (v64 1#64))), none, [3]⟩,
    ⟨(some 16), .mv (.t 60), none, [4, 0, 1, 2, 3, 4]⟩]
def cp7_law35_ModalGenerated : ACode :=
 .reg [⟨(some 61), .mv (.t 3), none, []⟩,
    ⟨(some 62), .mv (.t 16), none, []⟩,
    ⟨(some 63), .bin .and (.t 61) (.t 62), none, [0, 1]⟩,
    ⟨(some 64), .build [(.sc (.string ⟨#[]⟩)), (.sc (v64 0#64))] [(0, 1, (.c (.sc (.string ⟨#[112]⟩)))), (1, 1, (.t 63))], none, [2]⟩,
    ⟨(some 65), .mv (.t 4), none, []⟩,
    ⟨(some 66), .mv (.t 16), none, []⟩,
    ⟨(some 67), .bin .and (.t 65) (.t 66), none, [4, 5]⟩,
    ⟨(some 68), .build [(.sc (.string ⟨#[]⟩)), (.sc (v64 0#64))] [(0, 1, (.c (.sc (.string ⟨#[113]⟩)))), (1, 1, (.t 67))], none, [6]⟩,
    ⟨(some 69), .bslice 2 2 (.agg [(.sc (.string ⟨#[]⟩)), (.sc (v64 0#64))]) [(0, (.t 64)), (1, (.t 68))], none, [3, 7]⟩,
    ⟨(some 17), .mv (.t 69), none, [8, 0, 1, 2, 3, 4, 5, 6, 7, 8]⟩]
def cp8_law35_ModalGenerated : ACode :=
 .reg [⟨(some 70), .build [(.sc (.string ⟨#[]⟩)), (.sc (v64 0#64))] [(0, 1, (.c (.sc (.string ⟨#[112]⟩))))], none, []⟩,
    ⟨(some 71), .build [(.sc (.string ⟨#[]⟩)), (.sc (v64 0#64))] [(0, 1, (.c (.sc (.string ⟨#[113]⟩))))], none, []⟩,
    ⟨(some 72), .mslice 2 2 (.agg [(.sc (.string ⟨#[]⟩)), (.sc (v64 0#64))]) [(0, (.t 70)), (1, (.t 71))], none, [0, 1]⟩,
    ⟨(some 18), .mv (.t 72), none, [2, 0, 1, 2]⟩]
def cp9_law35_ModalGenerated : ACode :=
 .seq (.reg [⟨(some 19), .mv (.c (.sc (.int .i64 0))), none, []⟩]) (
  .block 0 (.loop lp0_law35_ModalGenerated))
def cp10_law35_ModalGenerated : ACode :=
 .reg [⟨(some 107), .load (.agg 1) (.t 11), none, []⟩,
    ⟨(some 108), .mv (.t 12), none, []⟩,
    ⟨(some 109), .mv (.t 17), none, []⟩,
    ⟨(some 110), .load (.agg 2) (.t 6), none, []⟩,
    ⟨(some 111), .call (.c (.fn (.func 23) [] [])) [(.t 107), (.t 108), (.t 109), (.t 110)], none, [0, 1, 2, 3]⟩,
    ⟨(some 106), .mv (.t 111), none, [4]⟩,
    ⟨(some 112), .extract (.t 106) 0, none, [5]⟩,
    ⟨(some 113), .extract (.t 106) 1, none, [5]⟩,
    ⟨(some 21), .mv (.t 112), none, [6, 4, 0, 1, 2, 3, 4, 5, 6]⟩,
    ⟨(some 15), .mv (.t 113), none, [7, 8, 0, 1, 2, 3, 4, 5, 6, 7, 8]⟩]
def cp11_law35_ModalGenerated : ACode :=
 .reg [⟨(some 115), .load (.agg 1) (.t 13), none, []⟩,
    ⟨(some 116), .mv (.t 12), none, []⟩,
    ⟨(some 117), .mv (.t 18), none, []⟩,
    ⟨(some 118), .load (.agg 2) (.t 6), none, []⟩,
    ⟨(some 119), .call (.c (.fn (.func 23) [] [])) [(.t 115), (.t 116), (.t 117), (.t 118)], none, [0, 1, 2, 3]⟩,
    ⟨(some 114), .mv (.t 119), none, [4]⟩,
    ⟨(some 120), .extract (.t 114) 0, none, [5]⟩,
    ⟨(some 121), .extract (.t 114) 1, none, [5]⟩,
    ⟨(some 22), .mv (.t 120), none, [6, 4, 0, 1, 2, 3, 4, 5, 6]⟩,
    ⟨(some 23), .mv (.t 121), none, [7, 8, 0, 1, 2, 3, 4, 5, 6, 7, 8]⟩]
def cp12_law35_ModalGenerated : ACode :=
 .seq (.reg [⟨(some 122), .mv (.t 15), none, []⟩,
     ⟨(some 123), .mv (.t 23), none, []⟩,
     ⟨(some 124), .bin .neq (.t 122) (.t 123), none, [0, 1]⟩]) (
  .cond (.t 124) (.seq (.reg [⟨(some 10), .mv (.c (.sc (.bool false))), none, []⟩]) (
   .ret)) (
  .skip))
def cp13_law35_ModalGenerated : ACode :=
 .seq (.reg [⟨(some 24), .mv (.c (.sc (.int .i64 0))), none, []⟩]) (
  .block 4 (.loop lp2_law35_ModalGenerated))
def cp14_law35_ModalGenerated : ACode :=
 .reg [⟨(some 150), .load (.agg 1) (.t 11), none, []⟩,
    ⟨(some 151), .mv (.t 12), none, []⟩,
    ⟨(some 152), .load (.agg 2) (.t 6), none, []⟩,
    ⟨(some 153), .call (.c (.fn (.func 18) [] [])) [(.t 150), (.t 151), (.t 152)], none, [0, 1, 2]⟩,
    ⟨(some 149), .mv (.t 153), none, [3]⟩,
    ⟨(some 154), .extract (.t 149) 0, none, [4]⟩,
    ⟨(some 155), .extract (.t 149) 1, none, [4]⟩,
    ⟨(some 156), .extract (.t 149) 2, none, [4]⟩,
    ⟨(some 157), .extract (.t 149) 3, none, [4]⟩,
    ⟨(some 25), .mv (.t 154), none, [5, 3, 0, 1, 2, 3, 4, 5]⟩,
    ⟨(some 26), .mv (.t 155), none, [6, 9, 0, 1, 2, 3, 4, 5, 6, 9]⟩,
    ⟨(some 27), .mv (.t 156), none, [7, 10, 0, 1, 2, 3, 4, 5, 6, 7, 9, 10]⟩,
    ⟨(some 15), .mv (.t 157), none, [8, 11, 0, 1, 2, 3, 4, 5, 6, 7, 8, 9, 10, 11]⟩]
def cp15_law35_ModalGenerated : ACode :=
 .seq (.reg [⟨(some 158), .mv (.t 15), none, []⟩,
     ⟨(some 159), .bin .neq (.t 158) (.c (.sc (.int .i64 0))), none, [0]⟩]) (
  .cond (.t 159) (.seq (.reg [⟨(some 160), .call (.c (.fn (.func 11) [] [])) [], none, []⟩,
      ⟨(some 10), .mv (.t 160), none, [0, 0, 0]⟩]) (
   .ret)) (
  .skip))
def cp16_law35_ModalGenerated : ACode :=
 .seq (.reg [⟨(some 162), .load (.agg 1) (.t 13), none, []⟩,
     ⟨(some 163), .mv (.t 12), none, []⟩,
     ⟨(some 164), .load (.agg 2) (.t 6), none, []⟩,
     ⟨(some 165), .call (.c (.fn (.func 18) [] [])) [(.t 162), (.t 163), (.t 164)], none, [0, 1, 2]⟩,
     ⟨(some 161), .mv (.t 165), none, [3]⟩,
     ⟨(some 166), .extract (.t 161) 0, none, [4]⟩,
     ⟨(some 167), .extract (.t 161) 1, none, [4]⟩,
     ⟨(some 168), .extract (.t 161) 2, none, [4]⟩,
     ⟨(some 169), .extract (.t 161) 3, none, [4]⟩,
     ⟨(some 28), .mv (.t 166), none, [5, 3, 0, 1, 2, 3, 4, 5]⟩,
     ⟨(some 29), .mv (.t 167), none, [6, 9, 0, 1, 2, 3, 4, 5, 6, 9]⟩,
     ⟨(some 30), .mv (.t 168), none, [7, 10, 0, 1, 2, 3, 4, 5, 6, 7, 9, 10]⟩,
     ⟨(some 31), .mv (.t 169), none, [8, 11, 0, 1, 2, 3, 4, 5, 6, 7, 8, 9, 10, 11]⟩]) (
  .seq (.reg [⟨(some 170), .mv (.t 25), none, []⟩,
     ⟨(some 171), .mv (.t 170), none, [0]⟩,
     ⟨(some 172), .mv (.t 31), (some (171, true)), [1]⟩,
     ⟨(some 173), .bin .neq (.t 172) (.c (.sc (.int .i64 0))), (some (171, true)), [2, 1]⟩,
     ⟨(some 174), .mv (.t 173), (some (171, true)), [3, 1, 1]⟩,
     ⟨(some 175), .mv (.t 28), (some (174, false)), [4]⟩,
     ⟨(some 176), .un .not (.t 175), (some (174, false)), [5, 4]⟩,
     ⟨(some 177), .pick (.t 174) (.c (.sc (.bool true))) (.t 176), (some (171, true)), [4, 6, 1]⟩,
     ⟨(some 178), .pick (.t 171) (.t 177) (.c (.sc (.bool false))), none, [1, 7]⟩]) (
  .cond (.t 178) (.seq (.reg [⟨(some 10), .mv (.c (.sc (.bool false))), none, []⟩]) (
   .ret)) (
  .skip)))
def cp17_law35_ModalGenerated : ACode :=
 .seq (.reg [⟨(some 179), .mv (.t 25), none, []⟩,
     ⟨(some 180), .un .not (.t 179), none, [0]⟩]) (
  .cond (.t 180) (.seq (.reg [⟨(some 182), .load (.agg 1) (.t 11), none, []⟩,
      ⟨(some 183), .mv (.t 12), none, []⟩,
      ⟨(some 184), .mv (.t 26), none, []⟩,
      ⟨(some 185), .load (.agg 2) (.t 6), none, []⟩,
      ⟨(some 186), .call (.c (.fn (.func 23) [] [])) [(.t 182), (.t 183), (.t 184), (.t 185)], none, [0, 1, 2, 3]⟩,
      ⟨(some 181), .mv (.t 186), none, [4]⟩,
      ⟨(some 187), .extract (.t 181) 0, none, [5]⟩,
      ⟨(some 188), .extract (.t 181) 1, none, [5]⟩,
      ⟨(some 32), .mv (.t 187), none, [6, 4, 0, 1, 2, 3, 4, 5, 6]⟩,
      ⟨(some 33), .mv (.t 188), none, [7, 8, 0, 1, 2, 3, 4, 5, 6, 7, 8]⟩]) (
   .seq (.reg [⟨(some 189), .mv (.t 33), none, []⟩,
      ⟨(some 190), .bin .eql (.t 189) (.c (.sc (.int .i64 0))), none, [0]⟩,
      ⟨(some 191), .mv (.t 190), none, [1]⟩,
      ⟨(some 192), .mv (.t 32), (some (191, true)), [2]⟩,
      ⟨(some 193), .mv (.t 27), (some (191, true)), [2]⟩,
      ⟨(some 194), .conv .u64 (.t 193), (some (191, true)), [4, 2]⟩,
      ⟨(some 195), .bin .shr (.t 192) (.t 194), (some (191, true)), [3, 5, 2]⟩,
      ⟨(some 196), .bin .and (.t 195) (.c (.sc (v64 1#64))), (some (191, true)), [6, 2]⟩,
      ⟨(some 197), .bin .eql (.t 196) (.c (.sc (v64 0#64))), (some (191, true)), [7, 2]⟩,
      ⟨(some 198), .pick (.t 191) (.t 197) (.c (.sc (.bool false))), none, [2, 8]⟩,
      ⟨(some 199), .mv (.t 198), none, [9, 2]⟩,
      ⟨(some 200), .mv (.t 27), (some (199, true)), [10]⟩,
      ⟨(some 201), .mv (.t 0), (some (199, true)), [10]⟩,
      ⟨(some 202), .len .sl (.t 201), (some (199, true)), [12, 10]⟩,
      ⟨(some 203), .bin .lss (.t 200) (.t 202), (some (199, true)), [11, 13, 10]⟩,
      ⟨(some 204), .pick (.t 199) (.t 203) (.c (.sc (.bool false))), none, [10, 14]⟩,
      ⟨(some 205), .mv (.t 204), none, [15, 10]⟩,
      ⟨(some 206), .call (.c (.fn (.func 11) [] [])) [], (some (205, true)), [16, 16]⟩,
      ⟨(some 207), .pick (.t 205) (.t 206) (.c (.sc (.bool false))), none, [16, 17]⟩,
      ⟨(some 10), .mv (.t 207), none, [18, 17, 0, 1, 2, 3, 4, 5, 6, 7, 8, 9, 10, 11, 12, 13, 14, 15, 16, 17, 18]⟩]) (
   .ret))) (
  .skip))
def cp18_law35_ModalGenerated : ACode :=
 .reg [⟨(some 208), .call (.c (.fn (.func 11) [] [])) [], none, []⟩,
    ⟨(some 10), .mv (.t 208), none, [0, 0, 0]⟩]
def tl19_law35_ModalGenerated : ACode := .ret
def tl18_law35_ModalGenerated : ACode := .seq cp18_law35_ModalGenerated tl19_law35_ModalGenerated
def tl17_law35_ModalGenerated : ACode := .seq cp17_law35_ModalGenerated tl18_law35_ModalGenerated
def tl16_law35_ModalGenerated : ACode := .seq cp16_law35_ModalGenerated tl17_law35_ModalGenerated
def tl15_law35_ModalGenerated : ACode := .seq cp15_law35_ModalGenerated tl16_law35_ModalGenerated
def tl14_law35_ModalGenerated : ACode := .seq cp14_law35_ModalGenerated tl15_law35_ModalGenerated
def tl13_law35_ModalGenerated : ACode := .seq cp13_law35_ModalGenerated tl14_law35_ModalGenerated
def tl12_law35_ModalGenerated : ACode := .seq cp12_law35_ModalGenerated tl13_law35_ModalGenerated
def tl11_law35_ModalGenerated : ACode := .seq cp11_law35_ModalGenerated tl12_law35_ModalGenerated
def tl10_law35_ModalGenerated : ACode := .seq cp10_law35_ModalGenerated tl11_law35_ModalGenerated
def tl9_law35_ModalGenerated : ACode := .seq cp9_law35_ModalGenerated tl10_law35_ModalGenerated
def tl8_law35_ModalGenerated : ACode := .seq cp8_law35_ModalGenerated tl9_law35_ModalGenerated
def tl7_law35_ModalGenerated : ACode := .seq cp7_law35_ModalGenerated tl8_law35_ModalGenerated
def tl6_law35_ModalGenerated : ACode := .seq cp6_law35_ModalGenerated tl7_law35_ModalGenerated
def tl5_law35_ModalGenerated : ACode := .seq cp5_law35_ModalGenerated tl6_law35_ModalGenerated
def tl4_law35_ModalGenerated : ACode := .seq cp4_law35_ModalGenerated tl5_law35_ModalGenerated
def tl3_law35_ModalGenerated : ACode := .seq cp3_law35_ModalGenerated tl4_law35_ModalGenerated
def tl2_law35_ModalGenerated : ACode := .seq cp2_law35_ModalGenerated tl3_law35_ModalGenerated
def tl1_law35_ModalGenerated : ACode := .seq cp1_law35_ModalGenerated tl2_law35_ModalGenerated
def tl0_law35_ModalGenerated : ACode := .seq cp0_law35_ModalGenerated tl1_law35_ModalGenerated
/-- apodixis/apodixislaw35.ModalGenerated -/
def ann_law35_ModalGenerated : List Nat := [6, 11, 13, 72]
def code_law35_ModalGenerated : ACode := tl0_law35_ModalGenerated

def res_law35_ModalGenerated : List ResA := [.t 10]theorem comp_law35_ModalGenerated : Tryd.f7.body.bind (compCode PP ann_law35_ModalGenerated 209) = some code_law35_ModalGenerated := by kernel_rfl
theorem resc_law35_ModalGenerated : mapM' (compRes PP) Tryd.f7.results.toList = some res_law35_ModalGenerated := by kernel_rfl
theorem body_law35_ModalGenerated : hasBody PP 7 = true := by kernel_rfl
theorem enter_law35_ModalGenerated {args : List AV} {h : AHeap} {R : AEnd → AHeap → Prop} (hargs : args.length ≤ 209) (hw : codeWp ⟨PP, Gl, 209, ann_law35_ModalGenerated, h.length, none⟩ code_law35_ModalGenerated (retPost PP Gl h res_law35_ModalGenerated R) (initEnv args) h) : ACalls PP Gl 7 args h R :=
  acalls_of_code Tryd.func7 body_law35_ModalGenerated comp_law35_ModalGenerated resc_law35_ModalGenerated hargs (Nat.le_trans hargs (by decide)) (codeWp_sound mixed hw)

def lp0_law35_ModalFrames : ACode :=
 .seq (.seq (.reg [⟨(some 75), .mv (.t 15), none, []⟩,
        ⟨(some 76), .mv (.t 12), none, []⟩,
        ⟨(some 77), .len .sl (.t 76), none, [1]⟩,
        ⟨(some 78), .bin .lss (.t 75) (.t 77), none, [0, 2]⟩]) (
     .cond (.t 78) (.skip) (
     .exit 0))) (
    .seq (.block 1 (.seq (.dreg [(true, ⟨(some 81), .mv (.t 12), none, []⟩),
         (true, ⟨(some 82), .mv (.t 15), none, []⟩),
         (true, ⟨(some 83), .iaddr 1 (.t 81) (.t 82), none, [0, 1]⟩),
         (true, ⟨(some 84), .load .one (.t 83), none, [2]⟩),
         (true, ⟨(some 85), .mv (.t 14), none, []⟩),
         (false, ⟨(some 86), .mv (.t 15), none, []⟩),
         (false, ⟨(some 87), .iaddr 1 (.t 85) (.t 86), none, [4, 5]⟩),
         (false, ⟨(some 88), .load .one (.t 87), none, [6]⟩),
         (false, ⟨(some 89), .bin .neq (.t 84) (.t 88), none, [3, 7]⟩)]) (
      .cond (.t 89) (.seq (.reg [⟨(some 6), .mv (.c (.sc (.bool false))), none, []⟩]) (
       .ret)) (
      .skip)))) (
    .reg [⟨(some 79), .mv (.t 15), none, []⟩,
      ⟨(some 80), .bin .add (.t 79) (.c (.sc (.int .i64 1))), none, [0]⟩,
      ⟨(some 15), .mv (.t 80), none, [1, 0, 1]⟩]))
/-- apodixis/apodixislaw35.ModalFrames -/
def ann_law35_ModalFrames : List Nat := [3, 11, 13]
def code_law35_ModalFrames : ACode :=
 .seq (.reg [⟨(some 3), .box (.t 0), none, []⟩,
    ⟨(some 6), .mv (.c (.sc (.bool false))), none, []⟩]) (
 .seq (.seq (.reg [⟨(some 16), .faddr 0 .one (.t 3), none, []⟩,
     ⟨(some 17), .load .one (.t 16), none, [0]⟩,
     ⟨(some 18), .len .sl (.t 17), none, [1]⟩,
     ⟨(some 19), .bin .gtr (.t 18) (.c (.sc (.int .i64 80))), none, [2]⟩]) (
  .cond (.t 19) (.seq (.reg [⟨(some 20), .call (.c (.fn (.func 11) [] [])) [], none, []⟩,
      ⟨(some 6), .mv (.t 20), none, [0, 0, 0]⟩]) (
   .ret)) (
  .skip))) (
 .seq (.reg [⟨(some 22), .load (.agg 1) (.t 3), none, []⟩,
    ⟨(some 23), .mv (.t 1), none, []⟩,
    ⟨(some 24), .call (.c (.fn (.func 26) [] [])) [(.t 22), (.t 23)], none, [0, 1]⟩,
    ⟨(some 21), .mv (.t 24), none, [2]⟩,
    ⟨(some 25), .extract (.t 21) 0, none, [3]⟩,
    ⟨(some 26), .extract (.t 21) 1, none, [3]⟩,
    ⟨(some 7), .mv (.t 25), none, [4, 2, 0, 1, 2, 3, 4]⟩,
    ⟨(some 8), .mv (.t 26), none, [5, 6, 0, 1, 2, 3, 4, 5, 6]⟩]) (
 .seq (.reg [⟨(some 28), .load (.agg 1) (.t 3), none, []⟩,
    ⟨(some 29), .call (.c (.fn (.func 14) [] [])) [(.t 28)], none, [0]⟩,
    ⟨(some 30), .mv (.t 1), none, []⟩,
    ⟨(some 31), .call (.c (.fn (.func 28) [] [])) [(.t 29), (.t 30)], none, [1, 2, 1]⟩,
    ⟨(some 27), .mv (.t 31), none, [3]⟩,
    ⟨(some 32), .extract (.t 27) 0, none, [4]⟩,
    ⟨(some 33), .extract (.t 27) 1, none, [4]⟩,
    ⟨(some 9), .mv (.t 32), none, [5, 3, 0, 1, 2, 3, 4, 5]⟩,
    ⟨(some 10), .mv (.t 33), none, [6, 7, 0, 1, 2, 3, 4, 5, 6, 7]⟩]) (
 .seq (.seq (.reg [⟨(some 34), .mv (.t 7), none, []⟩,
     ⟨(some 35), .mv (.t 9), none, []⟩,
     ⟨(some 36), .eqb true (.t 34) (.t 35), none, [0, 1]⟩,
     ⟨(some 37), .mv (.t 36), none, [2]⟩,
     ⟨(some 38), .mv (.t 8), (some (37, false)), [3]⟩,
     ⟨(some 39), .mv (.t 10), (some (37, false)), [3]⟩,
     ⟨(some 40), .bin .neq (.t 38) (.t 39), (some (37, false)), [4, 5, 3]⟩,
     ⟨(some 41), .pick (.t 37) (.c (.sc (.bool true))) (.t 40), none, [3, 6]⟩]) (
  .cond (.t 41) (.seq (.reg [⟨(some 6), .mv (.c (.sc (.bool false))), none, []⟩]) (
   .ret)) (
  .skip))) (
 .seq (.reg [⟨(some 43), .load (.agg 1) (.t 3), none, []⟩,
    ⟨(some 44), .mv (.t 2), none, []⟩,
    ⟨(some 45), .call (.c (.fn (.func 27) [] [])) [(.t 43), (.t 44)], none, [0, 1]⟩,
    ⟨(some 42), .mv (.t 45), none, [2]⟩,
    ⟨(some 46), .extract (.t 42) 0, none, [3]⟩,
    ⟨(some 47), .extract (.t 42) 1, none, [3]⟩,
    ⟨(some 48), .extract (.t 42) 2, none, [3]⟩,
    ⟨(some 11), .pnew 1, none, []⟩,
    ⟨none, .pstore 1 11 (.t 46), none, [7, 4, 2, 0, 1, 2, 3, 4, 7]⟩,
    ⟨(some 12), .mv (.t 47), none, [5, 8, 0, 1, 2, 3, 4, 5, 7, 8]⟩,
    ⟨(some 8), .mv (.t 48), none, [6, 9, 0, 1, 2, 3, 4, 5, 6, 7, 8, 9]⟩]) (
 .seq (.reg [⟨(some 50), .load (.agg 1) (.t 3), none, []⟩,
    ⟨(some 51), .call (.c (.fn (.func 14) [] [])) [(.t 50)], none, [0]⟩,
    ⟨(some 52), .mv (.t 2), none, []⟩,
    ⟨(some 53), .call (.c (.fn (.func 29) [] [])) [(.t 51), (.t 52)], none, [1, 2, 1]⟩,
    ⟨(some 49), .mv (.t 53), none, [3]⟩,
    ⟨(some 54), .extract (.t 49) 0, none, [4]⟩,
    ⟨(some 55), .extract (.t 49) 1, none, [4]⟩,
    ⟨(some 56), .extract (.t 49) 2, none, [4]⟩,
    ⟨(some 13), .pnew 1, none, []⟩,
    ⟨none, .pstore 1 13 (.t 54), none, [8, 5, 3, 0, 1, 2, 3, 4, 5, 8]⟩,
    ⟨(some 14), .mv (.t 55), none, [6, 9, 0, 1, 2, 3, 4, 5, 6, 8, 9]⟩,
    ⟨(some 10), .mv (.t 56), none, [7, 10, 0, 1, 2, 3, 4, 5, 6, 7, 8, 9, 10]⟩]) (
 .seq (.seq (.reg [⟨(some 57), .mv (.t 8), none, []⟩,
     ⟨(some 58), .mv (.t 10), none, []⟩,
     ⟨(some 59), .bin .neq (.t 57) (.t 58), none, [0, 1]⟩,
     ⟨(some 60), .mv (.t 59), none, [2]⟩,
     ⟨(some 61), .faddr 0 .one (.t 11), (some (60, false)), [3]⟩,
     ⟨(some 62), .load .one (.t 61), (some (60, false)), [4, 3]⟩,
     ⟨(some 63), .faddr 0 .one (.t 13), (some (60, false)), [3]⟩,
     ⟨(some 64), .load .one (.t 63), (some (60, false)), [6, 3]⟩,
     ⟨(some 65), .call (.c (.fn (.func 30) [] [])) [(.t 62), (.t 64)], (some (60, false)), [5, 7, 3, 3]⟩,
     ⟨(some 66), .un .not (.t 65), (some (60, false)), [8, 3]⟩,
     ⟨(some 67), .pick (.t 60) (.c (.sc (.bool true))) (.t 66), none, [3, 9]⟩,
     ⟨(some 68), .mv (.t 67), none, [10, 8]⟩,
     ⟨(some 69), .mv (.t 12), (some (68, false)), [11]⟩,
     ⟨(some 70), .len .sl (.t 69), (some (68, false)), [12, 11]⟩,
     ⟨(some 71), .mv (.t 14), (some (68, false)), [11]⟩,
     ⟨(some 72), .len .sl (.t 71), (some (68, false)), [14, 11]⟩,
     ⟨(some 73), .bin .neq (.t 70) (.t 72), (some (68, false)), [13, 15, 11]⟩,
     ⟨(some 74), .pick (.t 68) (.c (.sc (.bool true))) (.t 73), none, [11, 16]⟩]) (
  .cond (.t 74) (.seq (.reg [⟨(some 6), .mv (.c (.sc (.bool false))), none, []⟩]) (
   .ret)) (
  .skip))) (
 .seq (.seq (.reg [⟨(some 15), .mv (.c (.sc (.int .i64 0))), none, []⟩]) (
  .block 0 (.loop lp0_law35_ModalFrames))) (
 .seq (.reg [⟨(some 90), .call (.c (.fn (.func 11) [] [])) [], none, []⟩,
    ⟨(some 6), .mv (.t 90), none, [0, 0, 0]⟩]) (
 .ret))))))))))
def res_law35_ModalFrames : List ResA := [.t 6]
theorem comp_law35_ModalFrames : Tryd.f8.body.bind (compCode PP ann_law35_ModalFrames 91) = some code_law35_ModalFrames := by kernel_rfl
theorem resc_law35_ModalFrames : mapM' (compRes PP) Tryd.f8.results.toList = some res_law35_ModalFrames := by kernel_rfl
theorem body_law35_ModalFrames : hasBody PP 8 = true := by kernel_rfl
theorem enter_law35_ModalFrames {args : List AV} {h : AHeap} {R : AEnd → AHeap → Prop} (hargs : args.length ≤ 91) (hw : codeWp ⟨PP, Gl, 91, ann_law35_ModalFrames, h.length, none⟩ code_law35_ModalFrames (retPost PP Gl h res_law35_ModalFrames R) (initEnv args) h) : ACalls PP Gl 8 args h R :=
  acalls_of_code Tryd.func8 body_law35_ModalFrames comp_law35_ModalFrames resc_law35_ModalFrames hargs (Nat.le_trans hargs (by decide)) (codeWp_sound mixed hw)

/-- apodixis/apodixislaw35.few -/
def ann_law35_few : List Nat := [2]
def code_law35_few : ACode :=
 .seq (.reg [⟨(some 2), .box (.t 0), none, []⟩,
    ⟨(some 4), .mv (.c (.sc (.bool false))), none, []⟩]) (
 .seq (.reg [⟨(some 5), .faddr 0 .one (.t 2), none, []⟩,
    ⟨(some 6), .load .one (.t 5), none, [0]⟩,
    ⟨(some 7), .len .sl (.t 6), none, [1]⟩,
    ⟨(some 8), .bin .leq (.t 7) (.c (.sc (.int .i64 80))), none, [2]⟩,
    ⟨(some 9), .mv (.t 8), none, [3]⟩,
    ⟨(some 10), .mv (.t 1), (some (9, true)), [4]⟩,
    ⟨(some 11), .len .sl (.t 10), (some (9, true)), [5, 4]⟩,
    ⟨(some 12), .bin .leq (.t 11) (.c (.sc (.int .i64 30))), (some (9, true)), [6, 4]⟩,
    ⟨(some 13), .pick (.t 9) (.t 12) (.c (.sc (.bool false))), none, [4, 7]⟩,
    ⟨(some 4), .mv (.t 13), none, [8, 4, 0, 1, 2, 3, 4, 5, 6, 7, 8]⟩]) (
 .ret))
def res_law35_few : List ResA := [.t 4]
theorem comp_law35_few : Tryd.f9.body.bind (compCode PP ann_law35_few 14) = some code_law35_few := by kernel_rfl
theorem resc_law35_few : mapM' (compRes PP) Tryd.f9.results.toList = some res_law35_few := by kernel_rfl
theorem body_law35_few : hasBody PP 9 = true := by kernel_rfl
theorem enter_law35_few {args : List AV} {h : AHeap} {R : AEnd → AHeap → Prop} (hargs : args.length ≤ 14) (hw : codeWp ⟨PP, Gl, 14, ann_law35_few, h.length, none⟩ code_law35_few (retPost PP Gl h res_law35_few R) (initEnv args) h) : ACalls PP Gl 9 args h R :=
  acalls_of_code Tryd.func9 body_law35_few comp_law35_few resc_law35_few hargs (Nat.le_trans hargs (by decide)) (codeWp_sound mixed hw)

def lp0_law17_Nodes : ACode :=
 .seq (.seq (.reg [⟨(some 7), .mv (.t 6), none, []⟩,
        ⟨(some 8), .faddr 1 .one (.t 2), none, []⟩,
        ⟨(some 9), .load .one (.t 8), none, [1]⟩,
        ⟨(some 10), .len .sl (.t 9), none, [2]⟩,
        ⟨(some 11), .bin .lss (.t 7) (.t 10), none, [0, 3]⟩,
        ⟨(some 12), .mv (.t 11), none, [4]⟩,
        ⟨(some 13), .mv (.t 5), (some (12, true)), [5]⟩,
        ⟨(some 14), .mv (.t 1), (some (12, true)), [5]⟩,
        ⟨(some 15), .bin .leq (.t 13) (.t 14), (some (12, true)), [6, 7, 5]⟩,
        ⟨(some 16), .pick (.t 12) (.t 15) (.c (.sc (.bool false))), none, [5, 8]⟩]) (
     .cond (.t 16) (.skip) (
     .exit 0))) (
    .seq (.block 1 (.reg [⟨(some 19), .mv (.t 5), none, []⟩,
        ⟨(some 20), .faddr 1 .one (.t 2), none, []⟩,
        ⟨(some 21), .load .one (.t 20), none, [1]⟩,
        ⟨(some 22), .mv (.t 6), none, []⟩,
        ⟨(some 23), .iaddr 2 (.t 21) (.t 22), none, [2, 3]⟩,
        ⟨(some 24), .load (.agg 2) (.t 23), none, [4]⟩,
        ⟨(some 25), .mv (.t 1), none, []⟩,
        ⟨(some 26), .mv (.t 5), none, []⟩,
        ⟨(some 27), .bin .sub (.t 25) (.t 26), none, [6, 7]⟩,
        ⟨(some 28), .call (.c (.fn (.func 10) [] [])) [(.t 24), (.t 27)], none, [5, 8]⟩,
        ⟨(some 29), .bin .add (.t 19) (.t 28), none, [0, 9]⟩,
        ⟨(some 5), .mv (.t 29), none, [10, 9, 0, 1, 2, 3, 4, 5, 6, 7, 8, 9, 10]⟩])) (
    .reg [⟨(some 17), .mv (.t 6), none, []⟩,
      ⟨(some 18), .bin .add (.t 17) (.c (.sc (.int .i64 1))), none, [0]⟩,
      ⟨(some 6), .mv (.t 18), none, [1, 0, 1]⟩]))
/-- apodixis/apodixislaw17.Nodes -/
def ann_law17_Nodes : List Nat := [2]
def code_law17_Nodes : ACode :=
 .seq (.reg [⟨(some 2), .box (.t 0), none, []⟩,
    ⟨(some 4), .mv (.c (.sc (.int .i64 0))), none, []⟩]) (
 .seq (.reg [⟨(some 5), .mv (.c (.sc (.int .i64 1))), none, []⟩]) (
 .seq (.seq (.reg [⟨(some 6), .mv (.c (.sc (.int .i64 0))), none, []⟩]) (
  .block 0 (.loop lp0_law17_Nodes))) (
 .seq (.reg [⟨(some 30), .mv (.t 5), none, []⟩,
    ⟨(some 4), .mv (.t 30), none, [0, 0]⟩]) (
 .ret))))
def res_law17_Nodes : List ResA := [.t 4]
theorem comp_law17_Nodes : Tryd.f10.body.bind (compCode PP ann_law17_Nodes 31) = some code_law17_Nodes := by kernel_rfl
theorem resc_law17_Nodes : mapM' (compRes PP) Tryd.f10.results.toList = some res_law17_Nodes := by kernel_rfl
theorem body_law17_Nodes : hasBody PP 10 = true := by kernel_rfl
theorem enter_law17_Nodes {args : List AV} {h : AHeap} {R : AEnd → AHeap → Prop} (hargs : args.length ≤ 31) (hw : codeWp ⟨PP, Gl, 31, ann_law17_Nodes, h.length, none⟩ code_law17_Nodes (retPost PP Gl h res_law17_Nodes R) (initEnv args) h) : ACalls PP Gl 10 args h R :=
  acalls_of_code Tryd.func10 body_law17_Nodes comp_law17_Nodes resc_law17_Nodes hargs (Nat.le_trans hargs (by decide)) (codeWp_sound mixed hw)

/-- apodixis/apodixislaw35.awake -/
def ann_law35_awake : List Nat := [1]
def code_law35_awake : ACode :=
 .seq (.reg [⟨(some 0), .mv (.c (.sc (.bool false))), none, []⟩]) (
 .seq (.reg [⟨(some 6), .bslice 1 2 (.sc (v64 0#64)) [(0, (.c (.sc (v64 2#64)))), (1, (.c (.sc (v64 0#64))))], none, []⟩,
    ⟨(some 7), .build [(.sl 0 [] .nil)] [(0, 1, (.t 6))], none, [0]⟩,
    ⟨(some 1), .pnew 1, none, []⟩,
    ⟨none, .pstore 1 1 (.t 7), none, [2, 1, 0, 1, 2]⟩]) (
 .seq (.dreg [(true, ⟨(some 9), .load (.agg 1) (.t 1), none, []⟩),
    (false, ⟨(some 10), .call (.c (.fn (.func 20) [] [])) [], none, []⟩),
    (false, ⟨(some 11), .call (.c (.fn (.func 31) [] [])) [], none, [1]⟩),
    (false, ⟨(some 12), .call (.c (.fn (.func 18) [] [])) [(.t 9), (.t 10), (.t 11)], none, [0, 1, 2, 2]⟩),
    (false, ⟨(some 8), .mv (.t 12), none, [3]⟩),
    (true, ⟨(some 13), .extract (.t 8) 0, none, [4]⟩),
    (true, ⟨(some 14), .extract (.t 8) 1, none, [4]⟩),
    (true, ⟨(some 15), .extract (.t 8) 2, none, [4]⟩),
    (true, ⟨(some 16), .extract (.t 8) 3, none, [4]⟩),
    (false, ⟨(some 2), .mv (.t 13), none, [5, 3, 0, 1, 2, 3, 4, 5]⟩),
    (false, ⟨(some 3), .mv (.t 14), none, [6, 9, 0, 1, 2, 3, 4, 5, 6, 9]⟩),
    (false, ⟨(some 4), .mv (.t 15), none, [7, 10, 0, 1, 2, 3, 4, 5, 6, 7, 9, 10]⟩),
    (false, ⟨(some 5), .mv (.t 16), none, [8, 11, 0, 1, 2, 3, 4, 5, 6, 7, 8, 9, 10, 11]⟩)]) (
 .seq (.reg [⟨(some 17), .mv (.t 2), none, []⟩,
    ⟨(some 18), .un .not (.t 17), none, [0]⟩,
    ⟨(some 19), .mv (.t 18), none, [1]⟩,
    ⟨(some 20), .mv (.t 5), (some (19, true)), [2]⟩,
    ⟨(some 21), .bin .eql (.t 20) (.c (.sc (.int .i64 0))), (some (19, true)), [3, 2]⟩,
    ⟨(some 22), .pick (.t 19) (.t 21) (.c (.sc (.bool false))), none, [2, 4]⟩,
    ⟨(some 23), .mv (.t 22), none, [5, 2]⟩,
    ⟨(some 24), .mv (.t 3), (some (23, true)), [6]⟩,
    ⟨(some 25), .len .sl (.t 24), (some (23, true)), [7, 6]⟩,
    ⟨(some 26), .bin .eql (.t 25) (.c (.sc (.int .i64 1))), (some (23, true)), [8, 6]⟩,
    ⟨(some 27), .pick (.t 23) (.t 26) (.c (.sc (.bool false))), none, [6, 9]⟩,
    ⟨(some 28), .mv (.t 27), none, [10, 6]⟩,
    ⟨(some 29), .mv (.t 3), (some (28, true)), [11]⟩,
    ⟨(some 30), .iaddr 2 (.t 29) (.c (.sc (.int .i64 0))), (some (28, true)), [12, 11]⟩,
    ⟨(some 31), .faddr 1 .one (.t 30), (some (28, true)), [13, 11]⟩,
    ⟨(some 32), .load .one (.t 31), (some (28, true)), [14, 11]⟩,
    ⟨(some 33), .bin .eql (.t 32) (.c (.sc (v64 0#64))), (some (28, true)), [15, 11]⟩,
    ⟨(some 34), .pick (.t 28) (.t 33) (.c (.sc (.bool false))), none, [11, 16]⟩,
    ⟨(some 35), .mv (.t 34), none, [17, 11]⟩,
    ⟨(some 36), .mv (.t 4), (some (35, true)), [18]⟩,
    ⟨(some 37), .bin .eql (.t 36) (.c (.sc (.int .i64 1))), (some (35, true)), [19, 18]⟩,
    ⟨(some 38), .pick (.t 35) (.t 37) (.c (.sc (.bool false))), none, [18, 20]⟩,
    ⟨(some 0), .mv (.t 38), none, [21, 18, 0, 1, 2, 3, 4, 5, 6, 7, 8, 9, 10, 11, 12, 13, 14, 15, 16, 17, 18, 19, 20, 21]⟩]) (
 .ret))))
def res_law35_awake : List ResA := [.t 0]
theorem comp_law35_awake : Tryd.f11.body.bind (compCode PP ann_law35_awake 39) = some code_law35_awake := by kernel_rfl
theorem resc_law35_awake : mapM' (compRes PP) Tryd.f11.results.toList = some res_law35_awake := by kernel_rfl
theorem body_law35_awake : hasBody PP 11 = true := by kernel_rfl
theorem enter_law35_awake {args : List AV} {h : AHeap} {R : AEnd → AHeap → Prop} (hargs : args.length ≤ 39) (hw : codeWp ⟨PP, Gl, 39, ann_law35_awake, h.length, none⟩ code_law35_awake (retPost PP Gl h res_law35_awake R) (initEnv args) h) : ACalls PP Gl 11 args h R :=
  acalls_of_code Tryd.func11 body_law35_awake comp_law35_awake resc_law35_awake hargs (Nat.le_trans hargs (by decide)) (codeWp_sound mixed hw)

def lp0_modal_Follows : ACode :=
 .seq (.reg [⟨(some 35), .bin .lss (.t 34) (.t 33), none, []⟩]) (
    .seq (.cond (.t 35) (.skip) (
     .exit 0)) (
    .seq (.block 1 (.seq (.reg [⟨(some 36), .iaddr 2 (.t 32) (.t 34), none, []⟩,
         ⟨(some 37), .load (.agg 2) (.t 36), none, [0]⟩,
         ⟨(some 14), .pnew 2, none, []⟩,
         ⟨none, .pstore 2 14 (.t 37), none, [2, 1, 0, 1, 2]⟩]) (
      .seq (.reg [⟨(some 38), .mv (.t 12), none, []⟩,
         ⟨(some 39), .load (.agg 2) (.t 14), none, []⟩,
         ⟨(some 40), .call (.c (.fn (.func 34) [] [])) [(.t 38), (.t 39)], none, [0, 1]⟩,
         ⟨(some 15), .mv (.t 40), none, [2, 2, 0, 1, 2]⟩]) (
      .seq (.reg [⟨(some 41), .mv (.t 15), none, []⟩,
         ⟨(some 42), .bin .neq (.t 41) (.c (.sc (.int .i64 0))), none, [0]⟩]) (
      .cond (.t 42) (.seq (.reg [⟨(some 43), .mv (.t 15), none, []⟩,
          ⟨(some 8), .mv (.c (.sc (.bool false))), none, []⟩,
          ⟨(some 9), .mv (.c (.sl 0 [] .nil)), none, [1, 1]⟩,
          ⟨(some 10), .mv (.c (.sc (.int .i64 0))), none, [2, 1, 2]⟩,
          ⟨(some 11), .mv (.t 43), none, [0, 3, 0, 1, 2, 3]⟩]) (
       .ret)) (
      .skip)))))) (
    .reg [⟨(some 44), .bin .add (.t 34) (.c (.sc (.int .i64 1))), none, []⟩,
      ⟨(some 34), .mv (.t 44), none, [0]⟩])))
/-- apodixis/modal.Follows -/
def ann_modal_Follows : List Nat := [4, 7, 14]
def code_modal_Follows : ACode :=
 .seq (.reg [⟨(some 4), .box (.t 0), none, []⟩,
    ⟨(some 7), .box (.t 3), none, []⟩,
    ⟨(some 8), .mv (.c (.sc (.bool false))), none, []⟩,
    ⟨(some 9), .mv (.c (.sl 0 [] .nil)), none, [2]⟩,
    ⟨(some 10), .mv (.c (.sc (.int .i64 0))), none, [3]⟩,
    ⟨(some 11), .mv (.c (.sc (.int .i64 0))), none, [4]⟩]) (
 .seq (.reg [⟨(some 17), .load (.agg 1) (.t 4), none, []⟩,
    ⟨(some 18), .mv (.t 1), none, []⟩,
    ⟨(some 19), .call (.c (.fn (.func 32) [] [])) [(.t 17), (.t 18)], none, [0, 1]⟩,
    ⟨(some 16), .mv (.t 19), none, [2]⟩,
    ⟨(some 20), .extract (.t 16) 0, none, [3]⟩,
    ⟨(some 21), .extract (.t 16) 1, none, [3]⟩,
    ⟨(some 12), .mv (.t 20), none, [4, 2, 0, 1, 2, 3, 4]⟩,
    ⟨(some 11), .mv (.t 21), none, [5, 6, 0, 1, 2, 3, 4, 5, 6]⟩]) (
 .seq (.seq (.reg [⟨(some 22), .mv (.t 11), none, []⟩,
     ⟨(some 23), .bin .neq (.t 22) (.c (.sc (.int .i64 0))), none, [0]⟩]) (
  .cond (.t 23) (.seq (.reg [⟨(some 24), .mv (.t 11), none, []⟩,
      ⟨(some 8), .mv (.c (.sc (.bool false))), none, []⟩,
      ⟨(some 9), .mv (.c (.sl 0 [] .nil)), none, [1, 1]⟩,
      ⟨(some 10), .mv (.c (.sc (.int .i64 0))), none, [2, 1, 2]⟩,
      ⟨(some 11), .mv (.t 24), none, [0, 3, 0, 1, 2, 3]⟩]) (
   .ret)) (
  .skip))) (
 .seq (.seq (.reg [⟨(some 25), .mv (.t 2), none, []⟩,
     ⟨(some 26), .len .sl (.t 25), none, [0]⟩,
     ⟨(some 27), .bin .gtr (.t 26) (.c (.sc (.int .i64 40))), none, [1]⟩]) (
  .cond (.t 27) (.seq (.reg [⟨(some 8), .mv (.c (.sc (.bool false))), none, []⟩,
      ⟨(some 9), .mv (.c (.sl 0 [] .nil)), none, [0, 0]⟩,
      ⟨(some 10), .mv (.c (.sc (.int .i64 0))), none, [1, 0, 1]⟩,
      ⟨(some 11), .mv (.c (.sc (.int .i64 4))), none, [2, 0, 1, 2]⟩]) (
   .ret)) (
  .skip))) (
 .seq (.seq (.dreg [(true, ⟨(some 28), .mv (.t 2), none, []⟩),
     (true, ⟨(some 30), .load (.agg 2) (.t 7), none, []⟩),
     (true, ⟨(some 31), .bslice 2 1 (.agg [(.sc (.string ⟨#[]⟩)), (.sl 0 [] .nil)]) [(0, (.t 30))], none, [2]⟩),
     (true, ⟨(some 34), .mv (.c (.sc (.int .i64 0))), none, []⟩),
     (false, ⟨(some 29), .call (.c (.fn (.func 33) [] [])) [(.t 28)], none, [0]⟩),
     (false, ⟨(some 32), .append 2 40 (.t 29) (.t 31), none, [1, 3, 1]⟩),
     (false, ⟨(some 33), .len .sl (.t 32), none, [4]⟩)]) (
  .block 0 (.loop lp0_modal_Follows))) (
 .seq (.reg [⟨(some 45), .load (.agg 1) (.t 4), none, []⟩,
    ⟨(some 46), .mv (.t 12), none, []⟩,
    ⟨(some 47), .mv (.t 2), none, []⟩,
    ⟨(some 48), .load (.agg 2) (.t 7), none, []⟩,
    ⟨(some 49), .call (.c (.fn (.func 35) [] [])) [(.t 45), (.t 46), (.t 47), (.t 48)], none, [0, 1, 2, 3]⟩,
    ⟨(some 50), .extract (.t 49) 0, none, [4]⟩,
    ⟨(some 51), .extract (.t 49) 1, none, [4]⟩,
    ⟨(some 52), .extract (.t 49) 2, none, [4]⟩,
    ⟨(some 53), .extract (.t 49) 3, none, [4]⟩,
    ⟨(some 8), .mv (.t 50), none, [5, 4, 0, 1, 2, 3, 4, 5, 6, 7, 8]⟩,
    ⟨(some 9), .mv (.t 51), none, [6, 9, 0, 1, 2, 3, 4, 5, 6, 7, 8, 9]⟩,
    ⟨(some 10), .mv (.t 52), none, [7, 10, 0, 1, 2, 3, 4, 5, 6, 7, 8, 9, 10]⟩,
    ⟨(some 11), .mv (.t 53), none, [8, 11, 0, 1, 2, 3, 4, 5, 6, 7, 8, 9, 10, 11]⟩]) (
 .ret))))))
def res_modal_Follows : List ResA := [.t 8, .t 9, .t 10, .t 11]
theorem comp_modal_Follows : Tryd.f12.body.bind (compCode PP ann_modal_Follows 54) = some code_modal_Follows := by kernel_rfl
theorem resc_modal_Follows : mapM' (compRes PP) Tryd.f12.results.toList = some res_modal_Follows := by kernel_rfl
theorem body_modal_Follows : hasBody PP 12 = true := by kernel_rfl
theorem enter_modal_Follows {args : List AV} {h : AHeap} {R : AEnd → AHeap → Prop} (hargs : args.length ≤ 54) (hw : codeWp ⟨PP, Gl, 54, ann_modal_Follows, h.length, none⟩ code_modal_Follows (retPost PP Gl h res_modal_Follows R) (initEnv args) h) : ACalls PP Gl 12 args h R :=
  acalls_of_code Tryd.func12 body_modal_Follows comp_modal_Follows resc_modal_Follows hargs (Nat.le_trans hargs (by decide)) (codeWp_sound mixed hw)

def lp0_ref35_Follows : ACode :=
 .seq (.seq (.reg [⟨(some 33), .mv (.t 14), none, []⟩,
        ⟨(some 34), .mv (.t 2), none, []⟩,
        ⟨(some 35), .len .sl (.t 34), none, [1]⟩,
        ⟨(some 36), .bin .lss (.t 33) (.t 35), none, [0, 2]⟩]) (
     .cond (.t 36) (.skip) (
     .exit 0))) (
    .seq (.block 1 (.seq (.seq (.reg [⟨(some 39), .mv (.t 1), none, []⟩,
          ⟨(some 40), .mv (.t 2), none, []⟩,
          ⟨(some 41), .mv (.t 14), none, []⟩,
          ⟨(some 42), .iaddr 2 (.t 40) (.t 41), none, [1, 2]⟩,
          ⟨(some 43), .load (.agg 2) (.t 42), none, [3]⟩,
          ⟨(some 44), .call (.c (.fn (.func 37) [] [])) [(.t 39), (.t 43)], none, [0, 4]⟩,
          ⟨(some 15), .mv (.t 44), none, [5, 5, 0, 1, 2, 3, 4, 5]⟩]) (
       .seq (.reg [⟨(some 45), .mv (.t 15), none, []⟩,
          ⟨(some 46), .bin .neq (.t 45) (.c (.sc (.int .i64 0))), none, [0]⟩]) (
       .cond (.t 46) (.seq (.reg [⟨(some 47), .mv (.t 15), none, []⟩,
           ⟨(some 8), .mv (.c (.sc (.bool false))), none, []⟩,
           ⟨(some 9), .mv (.c (.sl 0 [] .nil)), none, [1, 1]⟩,
           ⟨(some 10), .mv (.c (.sc (.int .i64 0))), none, [2, 1, 2]⟩,
           ⟨(some 11), .mv (.t 47), none, [0, 3, 0, 1, 2, 3]⟩]) (
        .ret)) (
       .skip)))) (
      .reg [⟨(some 48), .mv (.t 1), none, []⟩,
        ⟨(some 49), .mv (.t 2), none, []⟩,
        ⟨(some 50), .mv (.t 14), none, []⟩,
        ⟨(some 51), .iaddr 2 (.t 49) (.t 50), none, [1, 2]⟩,
        ⟨(some 52), .load (.agg 2) (.t 51), none, [3]⟩,
        ⟨(some 53), .mv (.t 13), none, []⟩,
        ⟨(some 54), .call (.c (.fn (.func 38) [] [])) [(.t 48), (.t 52), (.t 53)], none, [0, 4, 5]⟩,
        ⟨(some 13), .mv (.t 54), none, [6, 6, 0, 1, 2, 3, 4, 5, 6]⟩]))) (
    .reg [⟨(some 37), .mv (.t 14), none, []⟩,
      ⟨(some 38), .bin .add (.t 37) (.c (.sc (.int .i64 1))), none, [0]⟩,
      ⟨(some 14), .mv (.t 38), none, [1, 0, 1]⟩]))
def lp2_ref35_Follows : ACode :=
 .seq (.seq (.reg [⟨(some 83), .mv (.t 20), none, []⟩,
             ⟨(some 84), .mv (.t 13), none, []⟩,
             ⟨(some 85), .len .sl (.t 84), none, [1]⟩,
             ⟨(some 86), .bin .lss (.t 83) (.t 85), none, [0, 2]⟩]) (
          .cond (.t 86) (.skip) (
          .exit 4))) (
         .seq (.block 5 (.dreg [(true, ⟨(some 89), .mv (.t 19), none, []⟩),
             (true, ⟨(some 90), .mv (.t 13), none, []⟩),
             (true, ⟨(some 91), .mv (.t 20), none, []⟩),
             (true, ⟨(some 92), .iaddr 1 (.t 90) (.t 91), none, [1, 2]⟩),
             (true, ⟨(some 93), .load .one (.t 92), none, [3]⟩),
             (true, ⟨(some 94), .mv (.t 18), none, []⟩),
             (true, ⟨(some 95), .mv (.t 17), none, []⟩),
             (true, ⟨(some 96), .mv (.t 20), none, []⟩),
             (true, ⟨(some 97), .bin .mul (.t 95) (.t 96), none, [6, 7]⟩),
             (true, ⟨(some 98), .conv .u64 (.t 97), none, [8]⟩),
             (true, ⟨(some 99), .bin .shr (.t 94) (.t 98), none, [5, 9]⟩),
             (false, ⟨(some 100), .load (.agg 1) (.t 4), none, []⟩),
             (false, ⟨(some 101), .call (.c (.fn (.func 39) [] [])) [(.t 100)], none, [11]⟩),
             (false, ⟨(some 102), .bin .and (.t 99) (.t 101), none, [10, 12]⟩),
             (false, ⟨(some 103), .build [(.sc (.string ⟨#[]⟩)), (.sc (v64 0#64))] [(0, 1, (.t 93)), (1, 1, (.t 102))], none, [4, 13]⟩),
             (false, ⟨(some 104), .bslice 2 1 (.agg [(.sc (.string ⟨#[]⟩)), (.sc (v64 0#64))]) [(0, (.t 103))], none, [14]⟩),
             (false, ⟨(some 105), .append 2 24 (.t 89) (.t 104), none, [0, 15, 12]⟩),
             (false, ⟨(some 19), .mv (.t 105), none, [16, 16, 0, 1, 2, 3, 4, 5, 6, 7, 8, 9, 10, 11, 12, 13, 14, 15, 16]⟩)])) (
         .reg [⟨(some 87), .mv (.t 20), none, []⟩,
           ⟨(some 88), .bin .add (.t 87) (.c (.sc (.int .i64 1))), none, [0]⟩,
           ⟨(some 20), .mv (.t 88), none, [1, 0, 1]⟩]))
def lp3_ref35_Follows : ACode :=
 .seq (.seq (.reg [⟨(some 106), .mv (.t 22), none, []⟩,
             ⟨(some 107), .mv (.t 2), none, []⟩,
             ⟨(some 108), .len .sl (.t 107), none, [1]⟩,
             ⟨(some 109), .bin .lss (.t 106) (.t 108), none, [0, 2]⟩]) (
          .cond (.t 109) (.skip) (
          .exit 6))) (
         .seq (.block 7 (.dreg [(false, ⟨(some 112), .mv (.t 21), none, []⟩),
             (false, ⟨(some 113), .mv (.t 112), none, [0]⟩),
             (true, ⟨(some 114), .load (.agg 1) (.t 4), (some (113, true)), [1]⟩),
             (true, ⟨(some 115), .mv (.t 1), (some (113, true)), [1]⟩),
             (true, ⟨(some 116), .mv (.t 19), (some (113, true)), [1]⟩),
             (true, ⟨(some 117), .mv (.t 2), (some (113, true)), [1]⟩),
             (true, ⟨(some 118), .mv (.t 22), (some (113, true)), [1]⟩),
             (true, ⟨(some 119), .iaddr 2 (.t 117) (.t 118), (some (113, true)), [5, 6, 1]⟩),
             (true, ⟨(some 120), .load (.agg 2) (.t 119), (some (113, true)), [7, 1]⟩),
             (true, ⟨(some 122), .load (.agg 1) (.t 4), (some (113, true)), [1]⟩),
             (false, ⟨(some 121), .call (.c (.fn (.func 40) [] [])) [(.t 114), (.t 115), (.t 116), (.t 120)], (some (113, true)), [2, 3, 4, 8, 1, 1]⟩),
             (false, ⟨(some 123), .call (.c (.fn (.func 39) [] [])) [(.t 122)], (some (113, true)), [10, 9, 1]⟩),
             (false, ⟨(some 124), .bin .eql (.t 121) (.t 123), (some (113, true)), [9, 11, 1]⟩),
             (false, ⟨(some 125), .pick (.t 113) (.t 124) (.c (.sc (.bool false))), none, [1, 12]⟩),
             (false, ⟨(some 21), .mv (.t 125), none, [13, 11, 0, 1, 2, 3, 4, 5, 6, 7, 8, 9, 10, 11, 12, 13]⟩)])) (
         .reg [⟨(some 110), .mv (.t 22), none, []⟩,
           ⟨(some 111), .bin .add (.t 110) (.c (.sc (.int .i64 1))), none, [0]⟩,
           ⟨(some 22), .mv (.t 111), none, [1, 0, 1]⟩]))
def lp1_ref35_Follows : ACode :=
 .seq (.seq (.reg [⟨(some 73), .mv (.t 18), none, []⟩,
        ⟨(some 74), .mv (.t 17), none, []⟩,
        ⟨(some 75), .mv (.t 13), none, []⟩,
        ⟨(some 76), .len .sl (.t 75), none, [2]⟩,
        ⟨(some 77), .bin .mul (.t 74) (.t 76), none, [1, 3]⟩,
        ⟨(some 78), .conv .u64 (.t 77), none, [4]⟩,
        ⟨(some 79), .bin .shl (.c (.sc (v64 1#64))) (.t 78), none, [5]⟩,
        ⟨(some 80), .bin .lss (.t 73) (.t 79), none, [0, 6]⟩]) (
     .cond (.t 80) (.skip) (
     .exit 2))) (
    .seq (.block 3 (.seq (.reg [⟨(some 19), .mv (.c (.sl 0 [] .nil)), none, []⟩]) (
      .seq (.seq (.reg [⟨(some 20), .mv (.c (.sc (.int .i64 0))), none, []⟩]) (
       .block 4 (.loop lp2_ref35_Follows))) (
      .seq (.reg [⟨(some 21), .mv (.c (.sc (.bool true))), none, []⟩]) (
      .seq (.seq (.reg [⟨(some 22), .mv (.c (.sc (.int .i64 0))), none, []⟩]) (
       .block 6 (.loop lp3_ref35_Follows))) (
      .seq (.seq (.reg [⟨(some 126), .mv (.t 21), none, []⟩,
          ⟨(some 127), .un .not (.t 126), none, [0]⟩]) (
       .cond (.t 127) (.exit 3) (
       .skip))) (
      .seq (.reg [⟨(some 128), .load (.agg 1) (.t 4), none, []⟩,
         ⟨(some 129), .mv (.t 1), none, []⟩,
         ⟨(some 130), .mv (.t 19), none, []⟩,
         ⟨(some 131), .load (.agg 2) (.t 7), none, []⟩,
         ⟨(some 132), .call (.c (.fn (.func 40) [] [])) [(.t 128), (.t 129), (.t 130), (.t 131)], none, [0, 1, 2, 3]⟩,
         ⟨(some 23), .mv (.t 132), none, [4, 4, 0, 1, 2, 3, 4]⟩]) (
      .seq (.reg [⟨(some 133), .mv (.t 23), none, []⟩,
         ⟨(some 134), .load (.agg 1) (.t 4), none, []⟩,
         ⟨(some 135), .call (.c (.fn (.func 39) [] [])) [(.t 134)], none, [1]⟩,
         ⟨(some 136), .bin .neq (.t 133) (.t 135), none, [0, 2]⟩]) (
      .cond (.t 136) (.seq (.reg [⟨(some 137), .mv (.t 19), none, []⟩,
          ⟨(some 138), .load (.agg 1) (.t 4), none, []⟩,
          ⟨(some 139), .mv (.t 23), none, []⟩,
          ⟨(some 140), .call (.c (.fn (.func 41) [] [])) [(.t 138), (.t 139)], none, [1, 2]⟩,
          ⟨(some 8), .mv (.c (.sc (.bool false))), none, [3]⟩,
          ⟨(some 9), .mv (.t 137), none, [0, 4, 0, 4]⟩,
          ⟨(some 10), .mv (.t 140), none, [3, 5, 0, 1, 2, 3, 4, 5]⟩,
          ⟨(some 11), .mv (.c (.sc (.int .i64 0))), none, [6, 0, 1, 2, 3, 4, 5, 6]⟩]) (
       .ret)) (
      .skip)))))))))) (
    .reg [⟨(some 81), .mv (.t 18), none, []⟩,
      ⟨(some 82), .bin .add (.t 81) (.c (.sc (v64 1#64))), none, [0]⟩,
      ⟨(some 18), .mv (.t 82), none, [1, 0, 1]⟩]))
/-- apodixis/apodixisref35.Follows -/
def ann_ref35_Follows : List Nat := [4, 7]
def code_ref35_Follows : ACode :=
 .seq (.reg [⟨(some 4), .box (.t 0), none, []⟩,
    ⟨(some 7), .box (.t 3), none, []⟩,
    ⟨(some 8), .mv (.c (.sc (.bool false))), none, []⟩,
    ⟨(some 9), .mv (.c (.sl 0 [] .nil)), none, [2]⟩,
    ⟨(some 10), .mv (.c (.sc (.int .i64 0))), none, [3]⟩,
    ⟨(some 11), .mv (.c (.sc (.int .i64 0))), none, [4]⟩]) (
 .seq (.seq (.reg [⟨(some 24), .load (.agg 1) (.t 4), none, []⟩,
     ⟨(some 25), .mv (.t 1), none, []⟩,
     ⟨(some 26), .call (.c (.fn (.func 36) [] [])) [(.t 24), (.t 25)], none, [0, 1]⟩,
     ⟨(some 12), .mv (.t 26), none, [2, 2, 0, 1, 2]⟩]) (
  .seq (.reg [⟨(some 27), .mv (.t 12), none, []⟩,
     ⟨(some 28), .bin .neq (.t 27) (.c (.sc (.int .i64 0))), none, [0]⟩]) (
  .cond (.t 28) (.seq (.reg [⟨(some 29), .mv (.t 12), none, []⟩,
      ⟨(some 8), .mv (.c (.sc (.bool false))), none, []⟩,
      ⟨(some 9), .mv (.c (.sl 0 [] .nil)), none, [1, 1]⟩,
      ⟨(some 10), .mv (.c (.sc (.int .i64 0))), none, [2, 1, 2]⟩,
      ⟨(some 11), .mv (.t 29), none, [0, 3, 0, 1, 2, 3]⟩]) (
   .ret)) (
  .skip)))) (
 .seq (.seq (.reg [⟨(some 30), .mv (.t 2), none, []⟩,
     ⟨(some 31), .len .sl (.t 30), none, [0]⟩,
     ⟨(some 32), .bin .gtr (.t 31) (.c (.sc (.int .i64 40))), none, [1]⟩]) (
  .cond (.t 32) (.seq (.reg [⟨(some 8), .mv (.c (.sc (.bool false))), none, []⟩,
      ⟨(some 9), .mv (.c (.sl 0 [] .nil)), none, [0, 0]⟩,
      ⟨(some 10), .mv (.c (.sc (.int .i64 0))), none, [1, 0, 1]⟩,
      ⟨(some 11), .mv (.c (.sc (.int .i64 4))), none, [2, 0, 1, 2]⟩]) (
   .ret)) (
  .skip))) (
 .seq (.reg [⟨(some 13), .mv (.c (.sl 0 [] .nil)), none, []⟩]) (
 .seq (.seq (.reg [⟨(some 14), .mv (.c (.sc (.int .i64 0))), none, []⟩]) (
  .block 0 (.loop lp0_ref35_Follows))) (
 .seq (.seq (.reg [⟨(some 55), .mv (.t 1), none, []⟩,
     ⟨(some 56), .load (.agg 2) (.t 7), none, []⟩,
     ⟨(some 57), .call (.c (.fn (.func 37) [] [])) [(.t 55), (.t 56)], none, [0, 1]⟩,
     ⟨(some 16), .mv (.t 57), none, [2, 2, 0, 1, 2]⟩]) (
  .seq (.reg [⟨(some 58), .mv (.t 16), none, []⟩,
     ⟨(some 59), .bin .neq (.t 58) (.c (.sc (.int .i64 0))), none, [0]⟩]) (
  .cond (.t 59) (.seq (.reg [⟨(some 60), .mv (.t 16), none, []⟩,
      ⟨(some 8), .mv (.c (.sc (.bool false))), none, []⟩,
      ⟨(some 9), .mv (.c (.sl 0 [] .nil)), none, [1, 1]⟩,
      ⟨(some 10), .mv (.c (.sc (.int .i64 0))), none, [2, 1, 2]⟩,
      ⟨(some 11), .mv (.t 60), none, [0, 3, 0, 1, 2, 3]⟩]) (
   .ret)) (
  .skip)))) (
 .seq (.reg [⟨(some 61), .mv (.t 1), none, []⟩,
    ⟨(some 62), .load (.agg 2) (.t 7), none, []⟩,
    ⟨(some 63), .mv (.t 13), none, []⟩,
    ⟨(some 64), .call (.c (.fn (.func 38) [] [])) [(.t 61), (.t 62), (.t 63)], none, [0, 1, 2]⟩,
    ⟨(some 13), .mv (.t 64), none, [3, 3, 0, 1, 2, 3]⟩]) (
 .seq (.reg [⟨(some 65), .faddr 0 .one (.t 4), none, []⟩,
    ⟨(some 66), .load .one (.t 65), none, [0]⟩,
    ⟨(some 67), .len .sl (.t 66), none, [1]⟩,
    ⟨(some 17), .mv (.t 67), none, [2, 0, 1, 2]⟩]) (
 .seq (.seq (.reg [⟨(some 68), .mv (.t 17), none, []⟩,
     ⟨(some 69), .mv (.t 13), none, []⟩,
     ⟨(some 70), .len .sl (.t 69), none, [1]⟩,
     ⟨(some 71), .bin .mul (.t 68) (.t 70), none, [0, 2]⟩,
     ⟨(some 72), .bin .gtr (.t 71) (.c (.sc (.int .i64 12))), none, [3]⟩]) (
  .cond (.t 72) (.seq (.reg [⟨(some 8), .mv (.c (.sc (.bool false))), none, []⟩,
      ⟨(some 9), .mv (.c (.sl 0 [] .nil)), none, [0, 0]⟩,
      ⟨(some 10), .mv (.c (.sc (.int .i64 0))), none, [1, 0, 1]⟩,
      ⟨(some 11), .mv (.c (.sc (.int .i64 15))), none, [2, 0, 1, 2]⟩]) (
   .ret)) (
  .skip))) (
 .seq (.seq (.reg [⟨(some 18), .mv (.c (.sc (v64 0#64))), none, []⟩]) (
  .block 2 (.loop lp1_ref35_Follows))) (
 .seq (.reg [⟨(some 8), .mv (.c (.sc (.bool true))), none, []⟩,
    ⟨(some 9), .mv (.c (.sl 0 [] .nil)), none, [0, 0]⟩,
    ⟨(some 10), .mv (.c (.sc (.int .i64 0))), none, [1, 0, 1]⟩,
    ⟨(some 11), .mv (.c (.sc (.int .i64 0))), none, [2, 0, 1, 2]⟩]) (
 .ret)))))))))))
def res_ref35_Follows : List ResA := [.t 8, .t 9, .t 10, .t 11]
theorem comp_ref35_Follows : Tryd.f13.body.bind (compCode PP ann_ref35_Follows 141) = some code_ref35_Follows := by kernel_rfl
theorem resc_ref35_Follows : mapM' (compRes PP) Tryd.f13.results.toList = some res_ref35_Follows := by kernel_rfl
theorem body_ref35_Follows : hasBody PP 13 = true := by kernel_rfl
theorem enter_ref35_Follows {args : List AV} {h : AHeap} {R : AEnd → AHeap → Prop} (hargs : args.length ≤ 141) (hw : codeWp ⟨PP, Gl, 141, ann_ref35_Follows, h.length, none⟩ code_ref35_Follows (retPost PP Gl h res_ref35_Follows R) (initEnv args) h) : ACalls PP Gl 13 args h R :=
  acalls_of_code Tryd.func13 body_ref35_Follows comp_ref35_Follows resc_ref35_Follows hargs (Nat.le_trans hargs (by decide)) (codeWp_sound mixed hw)

/-- apodixis/apodixislaw35.Frame -/
def ann_law35_Frame : List Nat := [1, 2]
def code_law35_Frame : ACode :=
 .seq (.reg [⟨(some 1), .box (.t 0), none, []⟩,
    ⟨(some 2), .pnew 1, none, []⟩]) (
 .seq (.reg [⟨(some 3), .faddr 0 .one (.t 1), none, []⟩,
    ⟨(some 4), .load .one (.t 3), none, [0]⟩,
    ⟨(some 5), .build [(.sl 0 [] .nil)] [(0, 1, (.t 4))], none, [1]⟩,
    ⟨none, .pstore 1 2 (.t 5), none, [2, 0, 1, 2]⟩]) (
 .ret))
def res_law35_Frame : List ResA := [.cell 2 (.agg 1)]
theorem comp_law35_Frame : Tryd.f14.body.bind (compCode PP ann_law35_Frame 6) = some code_law35_Frame := by kernel_rfl
theorem resc_law35_Frame : mapM' (compRes PP) Tryd.f14.results.toList = some res_law35_Frame := by kernel_rfl
theorem body_law35_Frame : hasBody PP 14 = true := by kernel_rfl
theorem enter_law35_Frame {args : List AV} {h : AHeap} {R : AEnd → AHeap → Prop} (hargs : args.length ≤ 6) (hw : codeWp ⟨PP, Gl, 6, ann_law35_Frame, h.length, none⟩ code_law35_Frame (retPost PP Gl h res_law35_Frame R) (initEnv args) h) : ACalls PP Gl 14 args h R :=
  acalls_of_code Tryd.func14 body_law35_Frame comp_law35_Frame resc_law35_Frame hargs (Nat.le_trans hargs (by decide)) (codeWp_sound mixed hw)

def lp0_law35_Roles : ACode :=
 .seq (.seq (.reg [⟨(some 5), .mv (.t 4), none, []⟩,
        ⟨(some 6), .mv (.t 0), none, []⟩,
        ⟨(some 7), .len .sl (.t 6), none, [1]⟩,
        ⟨(some 8), .bin .lss (.t 5) (.t 7), none, [0, 2]⟩]) (
     .cond (.t 8) (.skip) (
     .exit 0))) (
    .seq (.block 1 (.dreg [(true, ⟨(some 11), .mv (.t 3), none, []⟩),
        (true, ⟨(some 12), .mv (.t 0), none, []⟩),
        (true, ⟨(some 13), .mv (.t 4), none, []⟩),
        (true, ⟨(some 14), .iaddr 2 (.t 12) (.t 13), none, [1, 2]⟩),
        (true, ⟨(some 15), .faddr 0 .one (.t 14), none, [3]⟩),
        (true, ⟨(some 16), .load .one (.t 15), none, [4]⟩),
        (true, ⟨(some 17), .mv (.t 0), none, []⟩),
        (false, ⟨(some 18), .mv (.t 4), none, []⟩),
        (false, ⟨(some 19), .iaddr 2 (.t 17) (.t 18), none, [6, 7]⟩),
        (false, ⟨(some 20), .faddr 1 .one (.t 19), none, [8]⟩),
        (false, ⟨(some 21), .load .one (.t 20), none, [9]⟩),
        (false, ⟨(some 22), .build [(.sc (.string ⟨#[]⟩)), (.sc (.int .i64 0))] [(0, 1, (.t 16)), (1, 1, (.t 21))], none, [5, 10]⟩),
        (false, ⟨(some 23), .bslice 2 1 (.agg [(.sc (.string ⟨#[]⟩)), (.sc (.int .i64 0))]) [(0, (.t 22))], none, [11]⟩),
        (false, ⟨(some 24), .append 2 24 (.t 11) (.t 23), none, [0, 12]⟩),
        (false, ⟨(some 3), .mv (.t 24), none, [13, 13, 0, 1, 2, 3, 4, 5, 6, 7, 8, 9, 10, 11, 12, 13]⟩)])) (
    .reg [⟨(some 9), .mv (.t 4), none, []⟩,
      ⟨(some 10), .bin .add (.t 9) (.c (.sc (.int .i64 1))), none, [0]⟩,
      ⟨(some 4), .mv (.t 10), none, [1, 0, 1]⟩]))
/-- apodixis/apodixislaw35.Roles -/
def ann_law35_Roles : List Nat := []
def code_law35_Roles : ACode :=
 .seq (.reg [⟨(some 2), .mv (.c (.sl 0 [] .nil)), none, []⟩]) (
 .seq (.reg [⟨(some 3), .mv (.c (.sl 0 [] .nil)), none, []⟩]) (
 .seq (.seq (.reg [⟨(some 4), .mv (.c (.sc (.int .i64 0))), none, []⟩]) (
  .block 0 (.loop lp0_law35_Roles))) (
 .seq (.reg [⟨(some 25), .mv (.t 3), none, []⟩,
    ⟨(some 2), .mv (.t 25), none, [0, 0]⟩]) (
 .ret))))
def res_law35_Roles : List ResA := [.t 2]
theorem comp_law35_Roles : Tryd.f15.body.bind (compCode PP ann_law35_Roles 26) = some code_law35_Roles := by kernel_rfl
theorem resc_law35_Roles : mapM' (compRes PP) Tryd.f15.results.toList = some res_law35_Roles := by kernel_rfl
theorem body_law35_Roles : hasBody PP 15 = true := by kernel_rfl
theorem enter_law35_Roles {args : List AV} {h : AHeap} {R : AEnd → AHeap → Prop} (hargs : args.length ≤ 26) (hw : codeWp ⟨PP, Gl, 26, ann_law35_Roles, h.length, none⟩ code_law35_Roles (retPost PP Gl h res_law35_Roles R) (initEnv args) h) : ACalls PP Gl 15 args h R :=
  acalls_of_code Tryd.func15 body_law35_Roles comp_law35_Roles resc_law35_Roles hargs (Nat.le_trans hargs (by decide)) (codeWp_sound mixed hw)

def lp0_law35_sameModels : ACode :=
 .seq (.seq (.reg [⟨(some 11), .mv (.t 5), none, []⟩,
        ⟨(some 12), .mv (.t 0), none, []⟩,
        ⟨(some 13), .len .sl (.t 12), none, [1]⟩,
        ⟨(some 14), .bin .lss (.t 11) (.t 13), none, [0, 2]⟩]) (
     .cond (.t 14) (.skip) (
     .exit 0))) (
    .seq (.block 1 (.seq (.dreg [(true, ⟨(some 17), .mv (.t 0), none, []⟩),
         (true, ⟨(some 18), .mv (.t 5), none, []⟩),
         (true, ⟨(some 19), .iaddr 2 (.t 17) (.t 18), none, [0, 1]⟩),
         (true, ⟨(some 20), .load (.agg 2) (.t 19), none, [2]⟩),
         (true, ⟨(some 21), .mv (.t 1), none, []⟩),
         (false, ⟨(some 22), .mv (.t 5), none, []⟩),
         (false, ⟨(some 23), .iaddr 2 (.t 21) (.t 22), none, [4, 5]⟩),
         (false, ⟨(some 24), .load (.agg 2) (.t 23), none, [6]⟩),
         (false, ⟨(some 25), .eqagg [1, 0] true (.t 20) (.t 24), none, [3, 7]⟩)]) (
      .cond (.t 25) (.seq (.reg [⟨(some 4), .mv (.c (.sc (.bool false))), none, []⟩]) (
       .ret)) (
      .skip)))) (
    .reg [⟨(some 15), .mv (.t 5), none, []⟩,
      ⟨(some 16), .bin .add (.t 15) (.c (.sc (.int .i64 1))), none, [0]⟩,
      ⟨(some 5), .mv (.t 16), none, [1, 0, 1]⟩]))
/-- apodixis/apodixislaw35.sameModels -/
def ann_law35_sameModels : List Nat := []
def code_law35_sameModels : ACode :=
 .seq (.reg [⟨(some 4), .mv (.c (.sc (.bool false))), none, []⟩]) (
 .seq (.seq (.reg [⟨(some 6), .mv (.t 0), none, []⟩,
     ⟨(some 7), .len .sl (.t 6), none, [0]⟩,
     ⟨(some 8), .mv (.t 1), none, []⟩,
     ⟨(some 9), .len .sl (.t 8), none, [2]⟩,
     ⟨(some 10), .bin .neq (.t 7) (.t 9), none, [1, 3]⟩]) (
  .cond (.t 10) (.seq (.reg [⟨(some 4), .mv (.c (.sc (.bool false))), none, []⟩]) (
   .ret)) (
  .skip))) (
 .seq (.seq (.reg [⟨(some 5), .mv (.c (.sc (.int .i64 0))), none, []⟩]) (
  .block 0 (.loop lp0_law35_sameModels))) (
 .seq (.reg [⟨(some 4), .mv (.c (.sc (.bool true))), none, []⟩]) (
 .ret))))
def res_law35_sameModels : List ResA := [.t 4]
theorem comp_law35_sameModels : Tryd.f16.body.bind (compCode PP ann_law35_sameModels 26) = some code_law35_sameModels := by kernel_rfl
theorem resc_law35_sameModels : mapM' (compRes PP) Tryd.f16.results.toList = some res_law35_sameModels := by kernel_rfl
theorem body_law35_sameModels : hasBody PP 16 = true := by kernel_rfl
theorem enter_law35_sameModels {args : List AV} {h : AHeap} {R : AEnd → AHeap → Prop} (hargs : args.length ≤ 26) (hw : codeWp ⟨PP, Gl, 26, ann_law35_sameModels, h.length, none⟩ code_law35_sameModels (retPost PP Gl h res_law35_sameModels R) (initEnv args) h) : ACalls PP Gl 16 args h R :=
  acalls_of_code Tryd.func16 body_law35_sameModels comp_law35_sameModels resc_law35_sameModels hargs (Nat.le_trans hargs (by decide)) (codeWp_sound mixed hw)

def lp0_law35_models : ACode :=
 .seq (.seq (.reg [⟨(some 5), .mv (.t 4), none, []⟩,
        ⟨(some 6), .mv (.t 0), none, []⟩,
        ⟨(some 7), .len .sl (.t 6), none, [1]⟩,
        ⟨(some 8), .bin .lss (.t 5) (.t 7), none, [0, 2]⟩]) (
     .cond (.t 8) (.skip) (
     .exit 0))) (
    .seq (.block 1 (.dreg [(true, ⟨(some 11), .mv (.t 3), none, []⟩),
        (true, ⟨(some 12), .mv (.t 0), none, []⟩),
        (true, ⟨(some 13), .mv (.t 4), none, []⟩),
        (true, ⟨(some 14), .iaddr 2 (.t 12) (.t 13), none, [1, 2]⟩),
        (true, ⟨(some 15), .faddr 0 .one (.t 14), none, [3]⟩),
        (true, ⟨(some 16), .load .one (.t 15), none, [4]⟩),
        (true, ⟨(some 17), .mv (.t 0), none, []⟩),
        (false, ⟨(some 18), .mv (.t 4), none, []⟩),
        (false, ⟨(some 19), .iaddr 2 (.t 17) (.t 18), none, [6, 7]⟩),
        (false, ⟨(some 20), .faddr 1 .one (.t 19), none, [8]⟩),
        (false, ⟨(some 21), .load .one (.t 20), none, [9]⟩),
        (false, ⟨(some 22), .build [(.sc (.string ⟨#[]⟩)), (.sc (v64 0#64))] [(0, 1, (.t 16)), (1, 1, (.t 21))], none, [5, 10]⟩),
        (false, ⟨(some 23), .bslice 2 1 (.agg [(.sc (.string ⟨#[]⟩)), (.sc (v64 0#64))]) [(0, (.t 22))], none, [11]⟩),
        (false, ⟨(some 24), .append 2 24 (.t 11) (.t 23), none, [0, 12]⟩),
        (false, ⟨(some 3), .mv (.t 24), none, [13, 13, 0, 1, 2, 3, 4, 5, 6, 7, 8, 9, 10, 11, 12, 13]⟩)])) (
    .reg [⟨(some 9), .mv (.t 4), none, []⟩,
      ⟨(some 10), .bin .add (.t 9) (.c (.sc (.int .i64 1))), none, [0]⟩,
      ⟨(some 4), .mv (.t 10), none, [1, 0, 1]⟩]))
/-- apodixis/apodixislaw35.models -/
def ann_law35_models : List Nat := []
def code_law35_models : ACode :=
 .seq (.reg [⟨(some 2), .mv (.c (.sl 0 [] .nil)), none, []⟩]) (
 .seq (.reg [⟨(some 3), .mv (.c (.sl 0 [] .nil)), none, []⟩]) (
 .seq (.seq (.reg [⟨(some 4), .mv (.c (.sc (.int .i64 0))), none, []⟩]) (
  .block 0 (.loop lp0_law35_models))) (
 .seq (.reg [⟨(some 25), .mv (.t 3), none, []⟩,
    ⟨(some 2), .mv (.t 25), none, [0, 0]⟩]) (
 .ret))))
def res_law35_models : List ResA := [.t 2]
theorem comp_law35_models : Tryd.f17.body.bind (compCode PP ann_law35_models 26) = some code_law35_models := by kernel_rfl
theorem resc_law35_models : mapM' (compRes PP) Tryd.f17.results.toList = some res_law35_models := by kernel_rfl
theorem body_law35_models : hasBody PP 17 = true := by kernel_rfl
theorem enter_law35_models {args : List AV} {h : AHeap} {R : AEnd → AHeap → Prop} (hargs : args.length ≤ 26) (hw : codeWp ⟨PP, Gl, 26, ann_law35_models, h.length, none⟩ code_law35_models (retPost PP Gl h res_law35_models R) (initEnv args) h) : ACalls PP Gl 17 args h R :=
  acalls_of_code Tryd.func17 body_law35_models comp_law35_models resc_law35_models hargs (Nat.le_trans hargs (by decide)) (codeWp_sound mixed hw)

/-- apodixis/modal.Valid -/
def ann_modal_Valid : List Nat := [3, 5]
def code_modal_Valid : ACode :=
 .seq (.reg [⟨(some 3), .box (.t 0), none, []⟩,
    ⟨(some 5), .box (.t 2), none, []⟩,
    ⟨(some 6), .mv (.c (.sc (.bool false))), none, []⟩,
    ⟨(some 7), .mv (.c (.sl 0 [] .nil)), none, [2]⟩,
    ⟨(some 8), .mv (.c (.sc (.int .i64 0))), none, [3]⟩,
    ⟨(some 9), .mv (.c (.sc (.int .i64 0))), none, [4]⟩]) (
 .seq (.reg [⟨(some 10), .load (.agg 1) (.t 3), none, []⟩,
    ⟨(some 11), .mv (.t 1), none, []⟩,
    ⟨(some 12), .load (.agg 2) (.t 5), none, []⟩,
    ⟨(some 13), .call (.c (.fn (.func 12) [] [])) [(.t 10), (.t 11), (.c (.sl 0 [] .nil)), (.t 12)], none, [0, 1, 2]⟩,
    ⟨(some 14), .extract (.t 13) 0, none, [3]⟩,
    ⟨(some 15), .extract (.t 13) 1, none, [3]⟩,
    ⟨(some 16), .extract (.t 13) 2, none, [3]⟩,
    ⟨(some 17), .extract (.t 13) 3, none, [3]⟩,
    ⟨(some 6), .mv (.t 14), none, [4, 3, 0, 1, 2, 3, 4, 5, 6, 7]⟩,
    ⟨(some 7), .mv (.t 15), none, [5, 8, 0, 1, 2, 3, 4, 5, 6, 7, 8]⟩,
    ⟨(some 8), .mv (.t 16), none, [6, 9, 0, 1, 2, 3, 4, 5, 6, 7, 8, 9]⟩,
    ⟨(some 9), .mv (.t 17), none, [7, 10, 0, 1, 2, 3, 4, 5, 6, 7, 8, 9, 10]⟩]) (
 .ret))
def res_modal_Valid : List ResA := [.t 6, .t 7, .t 8, .t 9]
theorem comp_modal_Valid : Tryd.f18.body.bind (compCode PP ann_modal_Valid 18) = some code_modal_Valid := by kernel_rfl
theorem resc_modal_Valid : mapM' (compRes PP) Tryd.f18.results.toList = some res_modal_Valid := by kernel_rfl
theorem body_modal_Valid : hasBody PP 18 = true := by kernel_rfl
theorem enter_modal_Valid {args : List AV} {h : AHeap} {R : AEnd → AHeap → Prop} (hargs : args.length ≤ 18) (hw : codeWp ⟨PP, Gl, 18, ann_modal_Valid, h.length, none⟩ code_modal_Valid (retPost PP Gl h res_modal_Valid R) (initEnv args) h) : ACalls PP Gl 18 args h R :=
  acalls_of_code Tryd.func18 body_modal_Valid comp_modal_Valid resc_modal_Valid hargs (Nat.le_trans hargs (by decide)) (codeWp_sound mixed hw)

/-- apodixis/apodixisref35.Valid -/
def ann_ref35_Valid : List Nat := [3, 5]
def code_ref35_Valid : ACode :=
 .seq (.reg [⟨(some 3), .box (.t 0), none, []⟩,
    ⟨(some 5), .box (.t 2), none, []⟩,
    ⟨(some 6), .mv (.c (.sc (.bool false))), none, []⟩,
    ⟨(some 7), .mv (.c (.sl 0 [] .nil)), none, [2]⟩,
    ⟨(some 8), .mv (.c (.sc (.int .i64 0))), none, [3]⟩,
    ⟨(some 9), .mv (.c (.sc (.int .i64 0))), none, [4]⟩]) (
 .seq (.reg [⟨(some 10), .load (.agg 1) (.t 3), none, []⟩,
    ⟨(some 11), .mv (.t 1), none, []⟩,
    ⟨(some 12), .load (.agg 2) (.t 5), none, []⟩,
    ⟨(some 13), .call (.c (.fn (.func 13) [] [])) [(.t 10), (.t 11), (.c (.sl 0 [] .nil)), (.t 12)], none, [0, 1, 2]⟩,
    ⟨(some 14), .extract (.t 13) 0, none, [3]⟩,
    ⟨(some 15), .extract (.t 13) 1, none, [3]⟩,
    ⟨(some 16), .extract (.t 13) 2, none, [3]⟩,
    ⟨(some 17), .extract (.t 13) 3, none, [3]⟩,
    ⟨(some 6), .mv (.t 14), none, [4, 3, 0, 1, 2, 3, 4, 5, 6, 7]⟩,
    ⟨(some 7), .mv (.t 15), none, [5, 8, 0, 1, 2, 3, 4, 5, 6, 7, 8]⟩,
    ⟨(some 8), .mv (.t 16), none, [6, 9, 0, 1, 2, 3, 4, 5, 6, 7, 8, 9]⟩,
    ⟨(some 9), .mv (.t 17), none, [7, 10, 0, 1, 2, 3, 4, 5, 6, 7, 8, 9, 10]⟩]) (
 .ret))
def res_ref35_Valid : List ResA := [.t 6, .t 7, .t 8, .t 9]
theorem comp_ref35_Valid : Tryd.f19.body.bind (compCode PP ann_ref35_Valid 18) = some code_ref35_Valid := by kernel_rfl
theorem resc_ref35_Valid : mapM' (compRes PP) Tryd.f19.results.toList = some res_ref35_Valid := by kernel_rfl
theorem body_ref35_Valid : hasBody PP 19 = true := by kernel_rfl
theorem enter_ref35_Valid {args : List AV} {h : AHeap} {R : AEnd → AHeap → Prop} (hargs : args.length ≤ 18) (hw : codeWp ⟨PP, Gl, 18, ann_ref35_Valid, h.length, none⟩ code_ref35_Valid (retPost PP Gl h res_ref35_Valid R) (initEnv args) h) : ACalls PP Gl 19 args h R :=
  acalls_of_code Tryd.func19 body_ref35_Valid comp_ref35_Valid resc_ref35_Valid hargs (Nat.le_trans hargs (by decide)) (codeWp_sound mixed hw)

/-- apodixis/apodixislaw35.roles -/
def ann_law35_roles : List Nat := []
def code_law35_roles : ACode :=
 .seq (.reg [⟨(some 0), .mv (.c (.sl 0 [] .nil)), none, []⟩]) (
 .seq (.reg [⟨(some 1), .build [(.sc (.string ⟨#[]⟩)), (.sc (.int .i64 0))] [(0, 1, (.c (.sc (.string ⟨#[110, 111, 116]⟩)))), (1, 1, (.c (.sc (.int .i64 1))))], none, []⟩,
    ⟨(some 2), .build [(.sc (.string ⟨#[]⟩)), (.sc (.int .i64 0))] [(0, 1, (.c (.sc (.string ⟨#[105, 109, 112]⟩)))), (1, 1, (.c (.sc (.int .i64 2))))], none, []⟩,
    ⟨(some 3), .build [(.sc (.string ⟨#[]⟩)), (.sc (.int .i64 0))] [(0, 1, (.c (.sc (.string ⟨#[98, 111, 120]⟩)))), (1, 1, (.c (.sc (.int .i64 8))))], none, []⟩,
    ⟨(some 4), .build [(.sc (.string ⟨#[]⟩)), (.sc (.int .i64 0))] [(0, 1, (.c (.sc (.string ⟨#[100, 105, 97]⟩)))), (1, 1, (.c (.sc (.int .i64 9))))], none, []⟩,
    ⟨(some 5), .bslice 2 4 (.agg [(.sc (.string ⟨#[]⟩)), (.sc (.int .i64 0))]) [(0, (.t 1)), (1, (.t 2)), (2, (.t 3)), (3, (.t 4))], none, [0, 1, 2, 3]⟩,
    ⟨(some 0), .mv (.t 5), none, [4, 0, 1, 2, 3, 4]⟩]) (
 .ret))
def res_law35_roles : List ResA := [.t 0]
theorem comp_law35_roles : Tryd.f20.body.bind (compCode PP ann_law35_roles 6) = some code_law35_roles := by kernel_rfl
theorem resc_law35_roles : mapM' (compRes PP) Tryd.f20.results.toList = some res_law35_roles := by kernel_rfl
theorem body_law35_roles : hasBody PP 20 = true := by kernel_rfl
theorem enter_law35_roles {args : List AV} {h : AHeap} {R : AEnd → AHeap → Prop} (hargs : args.length ≤ 6) (hw : codeWp ⟨PP, Gl, 6, ann_law35_roles, h.length, none⟩ code_law35_roles (retPost PP Gl h res_law35_roles R) (initEnv args) h) : ACalls PP Gl 20 args h R :=
  acalls_of_code Tryd.func20 body_law35_roles comp_law35_roles resc_law35_roles hargs (Nat.le_trans hargs (by decide)) (codeWp_sound mixed hw)

/-- apodixis/apodixislaw35.tree -/
def ann_law35_tree : List Nat := [4]
def code_law35_tree : ACode :=
 .seq (.reg [⟨(some 4), .pnew 2, none, []⟩]) (
 .seq (.reg [⟨(some 5), .mv (.t 0), none, []⟩,
    ⟨(some 6), .mv (.t 1), none, []⟩,
    ⟨(some 7), .build [(.sc (.string ⟨#[]⟩)), (.sl 0 [] .nil)] [(0, 1, (.t 5)), (1, 1, (.t 6))], none, [0, 1]⟩,
    ⟨none, .pstore 2 4 (.t 7), none, [2, 0, 1, 2]⟩]) (
 .ret))
def res_law35_tree : List ResA := [.cell 4 (.agg 2)]
theorem comp_law35_tree : Tryd.f21.body.bind (compCode PP ann_law35_tree 8) = some code_law35_tree := by kernel_rfl
theorem resc_law35_tree : mapM' (compRes PP) Tryd.f21.results.toList = some res_law35_tree := by kernel_rfl
theorem body_law35_tree : hasBody PP 21 = true := by kernel_rfl
theorem enter_law35_tree {args : List AV} {h : AHeap} {R : AEnd → AHeap → Prop} (hargs : args.length ≤ 8) (hw : codeWp ⟨PP, Gl, 8, ann_law35_tree, h.length, none⟩ code_law35_tree (retPost PP Gl h res_law35_tree R) (initEnv args) h) : ACalls PP Gl 21 args h R :=
  acalls_of_code Tryd.func21 body_law35_tree comp_law35_tree resc_law35_tree hargs (Nat.le_trans hargs (by decide)) (codeWp_sound mixed hw)

def lp0_law35_swapped : ACode :=
 .seq (.seq (.reg [⟨(some 20), .mv (.t 6), none, []⟩,
        ⟨(some 21), .faddr 1 .one (.t 2), none, []⟩,
        ⟨(some 22), .load .one (.t 21), none, [1]⟩,
        ⟨(some 23), .len .sl (.t 22), none, [2]⟩,
        ⟨(some 24), .bin .lss (.t 20) (.t 23), none, [0, 3]⟩]) (
     .cond (.t 24) (.skip) (
     .exit 0))) (
    .seq (.block 1 (.dreg [(true, ⟨(some 27), .faddr 1 .one (.t 5), none, []⟩),
        (true, ⟨(some 28), .load .one (.t 27), none, [0]⟩),
        (true, ⟨(some 29), .faddr 1 .one (.t 2), none, []⟩),
        (true, ⟨(some 30), .load .one (.t 29), none, [2]⟩),
        (true, ⟨(some 31), .mv (.t 6), none, []⟩),
        (true, ⟨(some 32), .iaddr 2 (.t 30) (.t 31), none, [3, 4]⟩),
        (true, ⟨(some 33), .load (.agg 2) (.t 32), none, [5]⟩),
        (false, ⟨(some 34), .load (.agg 2) (.t 3), none, []⟩),
        (false, ⟨(some 35), .call (.c (.fn (.func 22) [] [])) [(.t 33), (.t 34)], none, [6, 7]⟩),
        (false, ⟨(some 36), .bslice 2 1 (.agg [(.sc (.string ⟨#[]⟩)), (.sl 0 [] .nil)]) [(0, (.t 35))], none, [8]⟩),
        (false, ⟨(some 37), .append 2 40 (.t 28) (.t 36), none, [1, 9, 8]⟩),
        (false, ⟨(some 38), .faddr 1 .one (.t 5), none, [0, 1, 2, 3, 4, 5, 6, 7, 8, 9, 10]⟩),
        (false, ⟨none, .store 1 (.t 38) (.t 37), none, [11, 10, 10, 0, 1, 2, 3, 4, 5, 6, 7, 8, 9, 10]⟩)])) (
    .reg [⟨(some 25), .mv (.t 6), none, []⟩,
      ⟨(some 26), .bin .add (.t 25) (.c (.sc (.int .i64 1))), none, [0]⟩,
      ⟨(some 6), .mv (.t 26), none, [1, 0, 1]⟩]))
/-- apodixis/apodixislaw35.swapped -/
def ann_law35_swapped : List Nat := [2, 3]
def code_law35_swapped : ACode :=
 .seq (.reg [⟨(some 2), .box (.t 0), none, []⟩,
    ⟨(some 3), .box (.t 1), none, []⟩,
    ⟨(some 4), .new [(.sc (.string ⟨#[]⟩)), (.sl 0 [] .nil)], none, []⟩]) (
 .seq (.seq (.reg [⟨(some 7), .faddr 0 .one (.t 2), none, []⟩,
     ⟨(some 8), .load .one (.t 7), none, [0]⟩,
     ⟨(some 9), .bin .eql (.t 8) (.c (.sc (.string ⟨#[112]⟩))), none, [1]⟩,
     ⟨(some 10), .mv (.t 9), none, [2]⟩,
     ⟨(some 11), .faddr 1 .one (.t 2), (some (10, true)), [3]⟩,
     ⟨(some 12), .load .one (.t 11), (some (10, true)), [4, 3]⟩,
     ⟨(some 13), .len .sl (.t 12), (some (10, true)), [5, 3]⟩,
     ⟨(some 14), .bin .eql (.t 13) (.c (.sc (.int .i64 0))), (some (10, true)), [6, 3]⟩,
     ⟨(some 15), .pick (.t 10) (.t 14) (.c (.sc (.bool false))), none, [3, 7]⟩]) (
  .cond (.t 15) (.seq (.reg [⟨(some 16), .load (.agg 2) (.t 3), none, []⟩,
      ⟨none, .store 2 (.t 4) (.t 16), none, [0, 0]⟩]) (
   .ret)) (
  .skip))) (
 .seq (.reg [⟨(some 17), .faddr 0 .one (.t 2), none, []⟩,
    ⟨(some 18), .load .one (.t 17), none, [0]⟩,
    ⟨(some 19), .build [(.sc (.string ⟨#[]⟩)), (.sl 0 [] .nil)] [(0, 1, (.t 18))], none, [1]⟩,
    ⟨(some 5), .new [(.sc (.string ⟨#[]⟩)), (.sl 0 [] .nil)], none, []⟩,
    ⟨none, .store 2 (.t 5) (.t 19), none, [3, 2, 0, 1, 2, 3]⟩]) (
 .seq (.seq (.reg [⟨(some 6), .mv (.c (.sc (.int .i64 0))), none, []⟩]) (
  .block 0 (.loop lp0_law35_swapped))) (
 .seq (.reg [⟨(some 39), .load (.agg 2) (.t 5), none, []⟩,
    ⟨none, .store 2 (.t 4) (.t 39), none, [0, 0]⟩]) (
 .ret)))))
def res_law35_swapped : List ResA := [.cell 4 (.agg 2)]
theorem comp_law35_swapped : Tryd.f22.body.bind (compCode PP ann_law35_swapped 40) = some code_law35_swapped := by kernel_rfl
theorem resc_law35_swapped : mapM' (compRes PP) Tryd.f22.results.toList = some res_law35_swapped := by kernel_rfl
theorem body_law35_swapped : hasBody PP 22 = true := by kernel_rfl
theorem enter_law35_swapped {args : List AV} {h : AHeap} {R : AEnd → AHeap → Prop} (hargs : args.length ≤ 40) (hw : codeWp ⟨PP, Gl, 40, ann_law35_swapped, h.length, none⟩ code_law35_swapped (retPost PP Gl h res_law35_swapped R) (initEnv args) h) : ACalls PP Gl 22 args h R :=
  acalls_of_code Tryd.func22 body_law35_swapped comp_law35_swapped resc_law35_swapped hargs (Nat.le_trans hargs (by decide)) (codeWp_sound mixed hw)

def lp0_modal_Holds : ACode :=
 .seq (.reg [⟨(some 44), .bin .lss (.t 43) (.t 42), none, []⟩]) (
    .seq (.cond (.t 44) (.skip) (
     .exit 0)) (
    .seq (.block 1 (.seq (.reg [⟨(some 45), .iaddr 2 (.t 41) (.t 43), none, []⟩,
         ⟨(some 46), .load (.agg 2) (.t 45), none, [0]⟩,
         ⟨(some 15), .pnew 2, none, []⟩,
         ⟨none, .pstore 2 15 (.t 46), none, [2, 1, 0, 1, 2]⟩]) (
      .seq (.seq (.reg [⟨(some 48), .faddr 2 .one (.t 13), none, []⟩,
          ⟨(some 49), .load .one (.t 48), none, [0]⟩,
          ⟨(some 50), .faddr 0 .one (.t 15), none, []⟩,
          ⟨(some 51), .load .one (.t 50), none, [2]⟩,
          ⟨(some 52), .lookup true (.sc (v64 0#64)) true (.t 49) (.t 51), none, [1, 3]⟩,
          ⟨(some 47), .mv (.t 52), none, [4]⟩,
          ⟨(some 53), .extract (.t 47) 0, none, [5]⟩,
          ⟨(some 54), .extract (.t 47) 1, none, [5]⟩,
          ⟨(some 16), .mv (.t 53), none, [6, 0, 1, 2, 3, 4, 5, 6]⟩,
          ⟨(some 17), .mv (.t 54), none, [7, 8, 0, 1, 2, 3, 4, 5, 6, 7, 8]⟩]) (
       .seq (.reg [⟨(some 55), .mv (.t 17), none, []⟩]) (
       .cond (.t 55) (.seq (.reg [⟨(some 8), .mv (.c (.sc (v64 0#64))), none, []⟩,
           ⟨(some 9), .mv (.c (.sc (.int .i64 6))), none, [0, 0]⟩]) (
        .ret)) (
       .skip)))) (
      .seq (.seq (.dreg [(true, ⟨(some 56), .faddr 1 .one (.t 15), none, []⟩),
          (true, ⟨(some 57), .load .one (.t 56), none, [0]⟩),
          (false, ⟨(some 58), .load (.agg 1) (.t 4), none, []⟩),
          (false, ⟨(some 59), .call (.c (.fn (.func 42) [] [])) [(.t 58)], none, [2]⟩),
          (false, ⟨(some 60), .bin .andNot (.t 57) (.t 59), none, [1, 3]⟩),
          (false, ⟨(some 61), .bin .neq (.t 60) (.c (.sc (v64 0#64))), none, [4]⟩)]) (
       .cond (.t 61) (.seq (.reg [⟨(some 8), .mv (.c (.sc (v64 0#64))), none, []⟩,
           ⟨(some 9), .mv (.c (.sc (.int .i64 3))), none, [0, 0]⟩]) (
        .ret)) (
       .skip))) (
      .reg [⟨(some 62), .faddr 2 .one (.t 13), none, []⟩,
        ⟨(some 63), .load .one (.t 62), none, [0]⟩,
        ⟨(some 64), .faddr 0 .one (.t 15), none, []⟩,
        ⟨(some 65), .load .one (.t 64), none, [2]⟩,
        ⟨(some 66), .faddr 1 .one (.t 15), none, []⟩,
        ⟨(some 67), .load .one (.t 66), none, [4]⟩,
        ⟨none, .mapUpd true (.t 63) (.t 65) (.t 67), none, [1, 3, 5, 0, 1, 2, 3, 4, 5]⟩]))))) (
    .reg [⟨(some 68), .bin .add (.t 43) (.c (.sc (.int .i64 1))), none, []⟩,
      ⟨(some 43), .mv (.t 68), none, [0]⟩])))
def lp1_modal_Holds : ACode :=
 .seq (.reg [⟨(some 75), .bin .lss (.t 74) (.t 73), none, []⟩]) (
    .seq (.cond (.t 75) (.skip) (
     .exit 2)) (
    .seq (.block 3 (.seq (.reg [⟨(some 76), .iaddr 1 (.t 72) (.t 74), none, []⟩,
         ⟨(some 77), .load .one (.t 76), none, [0]⟩,
         ⟨(some 19), .mv (.t 77), none, [1, 0, 1]⟩]) (
      .seq (.reg [⟨(some 79), .faddr 2 .one (.t 13), none, []⟩,
         ⟨(some 80), .load .one (.t 79), none, [0]⟩,
         ⟨(some 81), .mv (.t 19), none, []⟩,
         ⟨(some 82), .lookup true (.sc (v64 0#64)) true (.t 80) (.t 81), none, [1, 2]⟩,
         ⟨(some 78), .mv (.t 82), none, [3]⟩,
         ⟨(some 83), .extract (.t 78) 0, none, [4]⟩,
         ⟨(some 84), .extract (.t 78) 1, none, [4]⟩,
         ⟨(some 20), .mv (.t 83), none, [5, 0, 1, 2, 3, 4, 5]⟩,
         ⟨(some 21), .mv (.t 84), none, [6, 7, 0, 1, 2, 3, 4, 5, 6, 7]⟩]) (
      .seq (.reg [⟨(some 85), .mv (.t 21), none, []⟩,
         ⟨(some 86), .un .not (.t 85), none, [0]⟩]) (
      .cond (.t 86) (.seq (.reg [⟨(some 8), .mv (.c (.sc (v64 0#64))), none, []⟩,
          ⟨(some 9), .mv (.c (.sc (.int .i64 5))), none, [0, 0]⟩]) (
       .ret)) (
      .skip)))))) (
    .reg [⟨(some 87), .bin .add (.t 74) (.c (.sc (.int .i64 1))), none, []⟩,
      ⟨(some 74), .mv (.t 87), none, [0]⟩])))
/-- apodixis/modal.Holds -/
def ann_modal_Holds : List Nat := [4, 7, 13, 15]
def code_modal_Holds : ACode :=
 .seq (.reg [⟨(some 4), .box (.t 0), none, []⟩,
    ⟨(some 7), .box (.t 3), none, []⟩,
    ⟨(some 8), .mv (.c (.sc (v64 0#64))), none, []⟩,
    ⟨(some 9), .mv (.c (.sc (.int .i64 0))), none, [2]⟩]) (
 .seq (.reg [⟨(some 23), .load (.agg 1) (.t 4), none, []⟩,
    ⟨(some 24), .mv (.t 1), none, []⟩,
    ⟨(some 25), .call (.c (.fn (.func 32) [] [])) [(.t 23), (.t 24)], none, [0, 1]⟩,
    ⟨(some 22), .mv (.t 25), none, [2]⟩,
    ⟨(some 26), .extract (.t 22) 0, none, [3]⟩,
    ⟨(some 27), .extract (.t 22) 1, none, [3]⟩,
    ⟨(some 10), .mv (.t 26), none, [4, 2, 0, 1, 2, 3, 4]⟩,
    ⟨(some 11), .mv (.t 27), none, [5, 6, 0, 1, 2, 3, 4, 5, 6]⟩]) (
 .seq (.seq (.reg [⟨(some 28), .mv (.t 11), none, []⟩,
     ⟨(some 29), .bin .neq (.t 28) (.c (.sc (.int .i64 0))), none, [0]⟩]) (
  .cond (.t 29) (.seq (.reg [⟨(some 30), .mv (.t 11), none, []⟩,
      ⟨(some 8), .mv (.c (.sc (v64 0#64))), none, []⟩,
      ⟨(some 9), .mv (.t 30), none, [0, 1, 0, 1]⟩]) (
   .ret)) (
  .skip))) (
 .seq (.seq (.reg [⟨(some 31), .mv (.t 10), none, []⟩,
     ⟨(some 32), .load (.agg 2) (.t 7), none, []⟩,
     ⟨(some 33), .call (.c (.fn (.func 34) [] [])) [(.t 31), (.t 32)], none, [0, 1]⟩,
     ⟨(some 12), .mv (.t 33), none, [2, 2, 0, 1, 2]⟩]) (
  .seq (.reg [⟨(some 34), .mv (.t 12), none, []⟩,
     ⟨(some 35), .bin .neq (.t 34) (.c (.sc (.int .i64 0))), none, [0]⟩]) (
  .cond (.t 35) (.seq (.reg [⟨(some 36), .mv (.t 12), none, []⟩,
      ⟨(some 8), .mv (.c (.sc (v64 0#64))), none, []⟩,
      ⟨(some 9), .mv (.t 36), none, [0, 1, 0, 1]⟩]) (
   .ret)) (
  .skip)))) (
 .seq (.reg [⟨(some 37), .load (.agg 1) (.t 4), none, []⟩,
    ⟨(some 38), .mv (.t 10), none, []⟩,
    ⟨(some 39), .mkMap, none, []⟩,
    ⟨(some 40), .build [(.sl 0 [] .nil), (.sc (.map none)), (.sc (.map none))] [(0, 1, (.t 37)), (1, 1, (.t 38)), (2, 1, (.t 39))], none, [0, 1, 2]⟩,
    ⟨(some 13), .pnew 3, none, []⟩,
    ⟨none, .pstore 3 13 (.t 40), none, [4, 3, 0, 1, 2, 3, 4]⟩]) (
 .seq (.seq (.reg [⟨(some 41), .mv (.t 2), none, []⟩,
     ⟨(some 42), .len .sl (.t 41), none, [0]⟩,
     ⟨(some 43), .mv (.c (.sc (.int .i64 0))), none, []⟩]) (
  .block 0 (.loop lp0_modal_Holds))) (
 .seq (.seq (.reg [⟨(some 69), .mv (.t 10), none, []⟩,
     ⟨(some 70), .load (.agg 2) (.t 7), none, []⟩,
     ⟨(some 71), .bslice 2 1 (.agg [(.sc (.string ⟨#[]⟩)), (.sl 0 [] .nil)]) [(0, (.t 70))], none, [1]⟩,
     ⟨(some 72), .call (.c (.fn (.func 43) [] [])) [(.t 69), (.t 71)], none, [0, 2]⟩,
     ⟨(some 73), .len .sl (.t 72), none, [3]⟩,
     ⟨(some 74), .mv (.c (.sc (.int .i64 0))), none, []⟩]) (
  .block 2 (.loop lp1_modal_Holds))) (
 .seq (.reg [⟨(some 88), .load (.agg 3) (.t 13), none, []⟩,
    ⟨(some 89), .load (.agg 2) (.t 7), none, []⟩,
    ⟨(some 90), .call (.c (.fn (.func 44) [] [])) [(.t 88), (.t 89)], none, [0, 1]⟩,
    ⟨(some 8), .mv (.t 90), none, [2, 2, 0, 1, 2]⟩,
    ⟨(some 9), .mv (.c (.sc (.int .i64 0))), none, [3, 0, 1, 2, 3]⟩]) (
 .ret))))))))
def res_modal_Holds : List ResA := [.t 8, .t 9]
theorem comp_modal_Holds : Tryd.f23.body.bind (compCode PP ann_modal_Holds 91) = some code_modal_Holds := by kernel_rfl
theorem resc_modal_Holds : mapM' (compRes PP) Tryd.f23.results.toList = some res_modal_Holds := by kernel_rfl
theorem body_modal_Holds : hasBody PP 23 = true := by kernel_rfl
theorem enter_modal_Holds {args : List AV} {h : AHeap} {R : AEnd → AHeap → Prop} (hargs : args.length ≤ 91) (hw : codeWp ⟨PP, Gl, 91, ann_modal_Holds, h.length, none⟩ code_modal_Holds (retPost PP Gl h res_modal_Holds R) (initEnv args) h) : ACalls PP Gl 23 args h R :=
  acalls_of_code Tryd.func23 body_modal_Holds comp_modal_Holds resc_modal_Holds hargs (Nat.le_trans hargs (by decide)) (codeWp_sound mixed hw)

def lp1_ref35_Holds : ACode :=
 .seq (.seq (.reg [⟨(some 36), .mv (.t 13), none, []⟩,
             ⟨(some 37), .mv (.t 12), none, []⟩,
             ⟨(some 38), .bin .lss (.t 36) (.t 37), none, [0, 1]⟩]) (
          .cond (.t 38) (.skip) (
          .exit 2))) (
         .seq (.block 3 (.seq (.dreg [(true, ⟨(some 41), .mv (.t 2), none, []⟩),
              (true, ⟨(some 42), .mv (.t 13), none, []⟩),
              (true, ⟨(some 43), .iaddr 2 (.t 41) (.t 42), none, [0, 1]⟩),
              (true, ⟨(some 44), .faddr 0 .one (.t 43), none, [2]⟩),
              (true, ⟨(some 45), .load .one (.t 44), none, [3]⟩),
              (true, ⟨(some 46), .mv (.t 2), none, []⟩),
              (false, ⟨(some 47), .mv (.t 12), none, []⟩),
              (false, ⟨(some 48), .iaddr 2 (.t 46) (.t 47), none, [5, 6]⟩),
              (false, ⟨(some 49), .faddr 0 .one (.t 48), none, [7]⟩),
              (false, ⟨(some 50), .load .one (.t 49), none, [8]⟩),
              (false, ⟨(some 51), .bin .eql (.t 45) (.t 50), none, [4, 9]⟩)]) (
           .cond (.t 51) (.seq (.reg [⟨(some 8), .mv (.c (.sc (v64 0#64))), none, []⟩,
               ⟨(some 9), .mv (.c (.sc (.int .i64 6))), none, [0, 0]⟩]) (
            .ret)) (
           .skip)))) (
         .reg [⟨(some 39), .mv (.t 13), none, []⟩,
           ⟨(some 40), .bin .add (.t 39) (.c (.sc (.int .i64 1))), none, [0]⟩,
           ⟨(some 13), .mv (.t 40), none, [1, 0, 1]⟩]))
def lp0_ref35_Holds : ACode :=
 .seq (.seq (.reg [⟨(some 30), .mv (.t 12), none, []⟩,
        ⟨(some 31), .mv (.t 2), none, []⟩,
        ⟨(some 32), .len .sl (.t 31), none, [1]⟩,
        ⟨(some 33), .bin .lss (.t 30) (.t 32), none, [0, 2]⟩]) (
     .cond (.t 33) (.skip) (
     .exit 0))) (
    .seq (.block 1 (.seq (.seq (.reg [⟨(some 13), .mv (.c (.sc (.int .i64 0))), none, []⟩]) (
       .block 2 (.loop lp1_ref35_Holds))) (
      .seq (.dreg [(true, ⟨(some 52), .mv (.t 2), none, []⟩),
         (true, ⟨(some 53), .mv (.t 12), none, []⟩),
         (true, ⟨(some 54), .iaddr 2 (.t 52) (.t 53), none, [0, 1]⟩),
         (true, ⟨(some 55), .faddr 1 .one (.t 54), none, [2]⟩),
         (true, ⟨(some 56), .load .one (.t 55), none, [3]⟩),
         (false, ⟨(some 57), .load (.agg 1) (.t 4), none, []⟩),
         (false, ⟨(some 58), .call (.c (.fn (.func 39) [] [])) [(.t 57)], none, [5]⟩),
         (false, ⟨(some 59), .bin .andNot (.t 56) (.t 58), none, [4, 6]⟩),
         (false, ⟨(some 60), .bin .neq (.t 59) (.c (.sc (v64 0#64))), none, [7]⟩)]) (
      .cond (.t 60) (.seq (.reg [⟨(some 8), .mv (.c (.sc (v64 0#64))), none, []⟩,
          ⟨(some 9), .mv (.c (.sc (.int .i64 3))), none, [0, 0]⟩]) (
       .ret)) (
      .skip))))) (
    .reg [⟨(some 34), .mv (.t 12), none, []⟩,
      ⟨(some 35), .bin .add (.t 34) (.c (.sc (.int .i64 1))), none, [0]⟩,
      ⟨(some 12), .mv (.t 35), none, [1, 0, 1]⟩]))
def lp3_ref35_Holds : ACode :=
 .seq (.seq (.reg [⟨(some 70), .mv (.t 17), none, []⟩,
             ⟨(some 71), .mv (.t 2), none, []⟩,
             ⟨(some 72), .len .sl (.t 71), none, [1]⟩,
             ⟨(some 73), .bin .lss (.t 70) (.t 72), none, [0, 2]⟩]) (
          .cond (.t 73) (.skip) (
          .exit 6))) (
         .seq (.block 7 (.dreg [(false, ⟨(some 76), .mv (.t 16), none, []⟩),
             (false, ⟨(some 77), .mv (.t 76), none, [0]⟩),
             (true, ⟨(some 78), .mv (.t 2), (some (77, false)), [1]⟩),
             (true, ⟨(some 79), .mv (.t 17), (some (77, false)), [1]⟩),
             (true, ⟨(some 80), .iaddr 2 (.t 78) (.t 79), (some (77, false)), [2, 3, 1]⟩),
             (true, ⟨(some 81), .faddr 0 .one (.t 80), (some (77, false)), [4, 1]⟩),
             (true, ⟨(some 82), .load .one (.t 81), (some (77, false)), [5, 1]⟩),
             (true, ⟨(some 83), .mv (.t 14), (some (77, false)), [1]⟩),
             (false, ⟨(some 84), .mv (.t 15), (some (77, false)), [1]⟩),
             (false, ⟨(some 85), .iaddr 1 (.t 83) (.t 84), (some (77, false)), [7, 8, 1]⟩),
             (false, ⟨(some 86), .load .one (.t 85), (some (77, false)), [9, 1]⟩),
             (false, ⟨(some 87), .bin .eql (.t 82) (.t 86), (some (77, false)), [6, 10, 1]⟩),
             (false, ⟨(some 88), .pick (.t 77) (.c (.sc (.bool true))) (.t 87), none, [1, 11]⟩),
             (false, ⟨(some 16), .mv (.t 88), none, [12, 1, 0, 1, 2, 3, 4, 5, 6, 7, 8, 9, 10, 11, 12]⟩)])) (
         .reg [⟨(some 74), .mv (.t 17), none, []⟩,
           ⟨(some 75), .bin .add (.t 74) (.c (.sc (.int .i64 1))), none, [0]⟩,
           ⟨(some 17), .mv (.t 75), none, [1, 0, 1]⟩]))
def lp2_ref35_Holds : ACode :=
 .seq (.seq (.reg [⟨(some 64), .mv (.t 15), none, []⟩,
        ⟨(some 65), .mv (.t 14), none, []⟩,
        ⟨(some 66), .len .sl (.t 65), none, [1]⟩,
        ⟨(some 67), .bin .lss (.t 64) (.t 66), none, [0, 2]⟩]) (
     .cond (.t 67) (.skip) (
     .exit 4))) (
    .seq (.block 5 (.seq (.reg [⟨(some 16), .mv (.c (.sc (.bool false))), none, []⟩]) (
      .seq (.seq (.reg [⟨(some 17), .mv (.c (.sc (.int .i64 0))), none, []⟩]) (
       .block 6 (.loop lp3_ref35_Holds))) (
      .seq (.reg [⟨(some 89), .mv (.t 16), none, []⟩,
         ⟨(some 90), .un .not (.t 89), none, [0]⟩]) (
      .cond (.t 90) (.seq (.reg [⟨(some 8), .mv (.c (.sc (v64 0#64))), none, []⟩,
          ⟨(some 9), .mv (.c (.sc (.int .i64 5))), none, [0, 0]⟩]) (
       .ret)) (
      .skip)))))) (
    .reg [⟨(some 68), .mv (.t 15), none, []⟩,
      ⟨(some 69), .bin .add (.t 68) (.c (.sc (.int .i64 1))), none, [0]⟩,
      ⟨(some 15), .mv (.t 69), none, [1, 0, 1]⟩]))
/-- apodixis/apodixisref35.Holds -/
def ann_ref35_Holds : List Nat := [4, 7]
def code_ref35_Holds : ACode :=
 .seq (.reg [⟨(some 4), .box (.t 0), none, []⟩,
    ⟨(some 7), .box (.t 3), none, []⟩,
    ⟨(some 8), .mv (.c (.sc (v64 0#64))), none, []⟩,
    ⟨(some 9), .mv (.c (.sc (.int .i64 0))), none, [2]⟩]) (
 .seq (.seq (.reg [⟨(some 18), .load (.agg 1) (.t 4), none, []⟩,
     ⟨(some 19), .mv (.t 1), none, []⟩,
     ⟨(some 20), .call (.c (.fn (.func 36) [] [])) [(.t 18), (.t 19)], none, [0, 1]⟩,
     ⟨(some 10), .mv (.t 20), none, [2, 2, 0, 1, 2]⟩]) (
  .seq (.reg [⟨(some 21), .mv (.t 10), none, []⟩,
     ⟨(some 22), .bin .neq (.t 21) (.c (.sc (.int .i64 0))), none, [0]⟩]) (
  .cond (.t 22) (.seq (.reg [⟨(some 23), .mv (.t 10), none, []⟩,
      ⟨(some 8), .mv (.c (.sc (v64 0#64))), none, []⟩,
      ⟨(some 9), .mv (.t 23), none, [0, 1, 0, 1]⟩]) (
   .ret)) (
  .skip)))) (
 .seq (.seq (.reg [⟨(some 24), .mv (.t 1), none, []⟩,
     ⟨(some 25), .load (.agg 2) (.t 7), none, []⟩,
     ⟨(some 26), .call (.c (.fn (.func 37) [] [])) [(.t 24), (.t 25)], none, [0, 1]⟩,
     ⟨(some 11), .mv (.t 26), none, [2, 2, 0, 1, 2]⟩]) (
  .seq (.reg [⟨(some 27), .mv (.t 11), none, []⟩,
     ⟨(some 28), .bin .neq (.t 27) (.c (.sc (.int .i64 0))), none, [0]⟩]) (
  .cond (.t 28) (.seq (.reg [⟨(some 29), .mv (.t 11), none, []⟩,
      ⟨(some 8), .mv (.c (.sc (v64 0#64))), none, []⟩,
      ⟨(some 9), .mv (.t 29), none, [0, 1, 0, 1]⟩]) (
   .ret)) (
  .skip)))) (
 .seq (.seq (.reg [⟨(some 12), .mv (.c (.sc (.int .i64 0))), none, []⟩]) (
  .block 0 (.loop lp0_ref35_Holds))) (
 .seq (.reg [⟨(some 61), .mv (.t 1), none, []⟩,
    ⟨(some 62), .load (.agg 2) (.t 7), none, []⟩,
    ⟨(some 63), .call (.c (.fn (.func 38) [] [])) [(.t 61), (.t 62), (.c (.sl 0 [] .nil))], none, [0, 1]⟩,
    ⟨(some 14), .mv (.t 63), none, [2, 2, 0, 1, 2]⟩]) (
 .seq (.seq (.reg [⟨(some 15), .mv (.c (.sc (.int .i64 0))), none, []⟩]) (
  .block 4 (.loop lp2_ref35_Holds))) (
 .seq (.reg [⟨(some 91), .load (.agg 1) (.t 4), none, []⟩,
    ⟨(some 92), .mv (.t 1), none, []⟩,
    ⟨(some 93), .mv (.t 2), none, []⟩,
    ⟨(some 94), .load (.agg 2) (.t 7), none, []⟩,
    ⟨(some 95), .call (.c (.fn (.func 40) [] [])) [(.t 91), (.t 92), (.t 93), (.t 94)], none, [0, 1, 2, 3]⟩,
    ⟨(some 8), .mv (.t 95), none, [4, 4, 0, 1, 2, 3, 4]⟩,
    ⟨(some 9), .mv (.c (.sc (.int .i64 0))), none, [5, 0, 1, 2, 3, 4, 5]⟩]) (
 .ret)))))))
def res_ref35_Holds : List ResA := [.t 8, .t 9]
theorem comp_ref35_Holds : Tryd.f24.body.bind (compCode PP ann_ref35_Holds 96) = some code_ref35_Holds := by kernel_rfl
theorem resc_ref35_Holds : mapM' (compRes PP) Tryd.f24.results.toList = some res_ref35_Holds := by kernel_rfl
theorem body_ref35_Holds : hasBody PP 24 = true := by kernel_rfl
theorem enter_ref35_Holds {args : List AV} {h : AHeap} {R : AEnd → AHeap → Prop} (hargs : args.length ≤ 96) (hw : codeWp ⟨PP, Gl, 96, ann_ref35_Holds, h.length, none⟩ code_ref35_Holds (retPost PP Gl h res_ref35_Holds R) (initEnv args) h) : ACalls PP Gl 24 args h R :=
  acalls_of_code Tryd.func24 body_ref35_Holds comp_ref35_Holds resc_ref35_Holds hargs (Nat.le_trans hargs (by decide)) (codeWp_sound mixed hw)

/-- apodixis/apodixislaw35.schemas -/
def ann_law35_schemas : List Nat := [1, 2, 3]
def code_law35_schemas : ACode :=
 .seq (.reg [⟨(some 0), .mv (.c (.sl 0 [] .nil)), none, []⟩]) (
 .seq (.reg [⟨(some 4), .call (.c (.fn (.func 21) [] [])) [(.c (.sc (.string ⟨#[112]⟩))), (.c (.sl 0 [] .nil))], none, []⟩,
    ⟨(some 1), .pnew 2, none, []⟩,
    ⟨none, .pstore 2 1 (.t 4), none, [1, 0, 0, 0, 1]⟩]) (
 .seq (.reg [⟨(some 5), .load (.agg 2) (.t 1), none, []⟩,
    ⟨(some 6), .bslice 2 1 (.agg [(.sc (.string ⟨#[]⟩)), (.sl 0 [] .nil)]) [(0, (.t 5))], none, [0]⟩,
    ⟨(some 7), .call (.c (.fn (.func 21) [] [])) [(.c (.sc (.string ⟨#[98, 111, 120]⟩))), (.t 6)], none, [1]⟩,
    ⟨(some 2), .pnew 2, none, []⟩,
    ⟨none, .pstore 2 2 (.t 7), none, [3, 2, 2, 0, 1, 2, 3]⟩]) (
 .seq (.reg [⟨(some 8), .load (.agg 2) (.t 1), none, []⟩,
    ⟨(some 9), .bslice 2 1 (.agg [(.sc (.string ⟨#[]⟩)), (.sl 0 [] .nil)]) [(0, (.t 8))], none, [0]⟩,
    ⟨(some 10), .call (.c (.fn (.func 21) [] [])) [(.c (.sc (.string ⟨#[100, 105, 97]⟩))), (.t 9)], none, [1]⟩,
    ⟨(some 3), .pnew 2, none, []⟩,
    ⟨none, .pstore 2 3 (.t 10), none, [3, 2, 2, 0, 1, 2, 3]⟩]) (
 .seq (.dreg [(true, ⟨(some 12), .load (.agg 2) (.t 2), none, []⟩),
    (true, ⟨(some 13), .load (.agg 2) (.t 2), none, []⟩),
    (true, ⟨(some 14), .bslice 2 1 (.agg [(.sc (.string ⟨#[]⟩)), (.sl 0 [] .nil)]) [(0, (.t 13))], none, [2]⟩),
    (true, ⟨(some 18), .load (.agg 2) (.t 1), none, []⟩),
    (true, ⟨(some 19), .load (.agg 2) (.t 3), none, []⟩),
    (true, ⟨(some 20), .bslice 2 1 (.agg [(.sc (.string ⟨#[]⟩)), (.sl 0 [] .nil)]) [(0, (.t 19))], none, [8]⟩),
    (true, ⟨(some 24), .load (.agg 2) (.t 2), none, []⟩),
    (true, ⟨(some 25), .load (.agg 2) (.t 3), none, []⟩),
    (true, ⟨(some 26), .bslice 2 2 (.agg [(.sc (.string ⟨#[]⟩)), (.sl 0 [] .nil)]) [(0, (.t 24)), (1, (.t 25))], none, [13, 14]⟩),
    (true, ⟨(some 28), .load (.agg 2) (.t 3), none, []⟩),
    (true, ⟨(some 29), .load (.agg 2) (.t 3), none, []⟩),
    (true, ⟨(some 30), .bslice 2 1 (.agg [(.sc (.string ⟨#[]⟩)), (.sl 0 [] .nil)]) [(0, (.t 29))], none, [18]⟩),
    (true, ⟨(some 34), .load (.agg 2) (.t 2), none, []⟩),
    (true, ⟨(some 35), .load (.agg 2) (.t 1), none, []⟩),
    (true, ⟨(some 36), .bslice 2 2 (.agg [(.sc (.string ⟨#[]⟩)), (.sl 0 [] .nil)]) [(0, (.t 34)), (1, (.t 35))], none, [23, 24]⟩),
    (true, ⟨(some 40), .load (.agg 2) (.t 2), none, []⟩),
    (false, ⟨(some 11), .call (.c (.fn (.func 31) [] [])) [], none, []⟩),
    (false, ⟨(some 15), .call (.c (.fn (.func 21) [] [])) [(.c (.sc (.string ⟨#[98, 111, 120]⟩))), (.t 14)], none, [3, 0]⟩),
    (false, ⟨(some 16), .bslice 2 2 (.agg [(.sc (.string ⟨#[]⟩)), (.sl 0 [] .nil)]) [(0, (.t 12)), (1, (.t 15))], none, [1, 4]⟩),
    (false, ⟨(some 17), .call (.c (.fn (.func 21) [] [])) [(.c (.sc (.string ⟨#[105, 109, 112]⟩))), (.t 16)], none, [5, 4]⟩),
    (false, ⟨(some 21), .call (.c (.fn (.func 21) [] [])) [(.c (.sc (.string ⟨#[98, 111, 120]⟩))), (.t 20)], none, [9, 6]⟩),
    (false, ⟨(some 22), .bslice 2 2 (.agg [(.sc (.string ⟨#[]⟩)), (.sl 0 [] .nil)]) [(0, (.t 18)), (1, (.t 21))], none, [7, 10]⟩),
    (false, ⟨(some 23), .call (.c (.fn (.func 21) [] [])) [(.c (.sc (.string ⟨#[105, 109, 112]⟩))), (.t 22)], none, [11, 10]⟩),
    (false, ⟨(some 27), .call (.c (.fn (.func 21) [] [])) [(.c (.sc (.string ⟨#[105, 109, 112]⟩))), (.t 26)], none, [15, 12]⟩),
    (false, ⟨(some 31), .call (.c (.fn (.func 21) [] [])) [(.c (.sc (.string ⟨#[98, 111, 120]⟩))), (.t 30)], none, [19, 16]⟩),
    (false, ⟨(some 32), .bslice 2 2 (.agg [(.sc (.string ⟨#[]⟩)), (.sl 0 [] .nil)]) [(0, (.t 28)), (1, (.t 31))], none, [17, 20]⟩),
    (false, ⟨(some 33), .call (.c (.fn (.func 21) [] [])) [(.c (.sc (.string ⟨#[105, 109, 112]⟩))), (.t 32)], none, [21, 20]⟩),
    (false, ⟨(some 37), .call (.c (.fn (.func 21) [] [])) [(.c (.sc (.string ⟨#[105, 109, 112]⟩))), (.t 36)], none, [25, 22]⟩),
    (false, ⟨(some 38), .bslice 2 1 (.agg [(.sc (.string ⟨#[]⟩)), (.sl 0 [] .nil)]) [(0, (.t 37))], none, [26]⟩),
    (false, ⟨(some 39), .call (.c (.fn (.func 21) [] [])) [(.c (.sc (.string ⟨#[98, 111, 120]⟩))), (.t 38)], none, [27, 26]⟩),
    (false, ⟨(some 41), .bslice 2 2 (.agg [(.sc (.string ⟨#[]⟩)), (.sl 0 [] .nil)]) [(0, (.t 39)), (1, (.t 40))], none, [28, 29]⟩),
    (false, ⟨(some 42), .call (.c (.fn (.func 21) [] [])) [(.c (.sc (.string ⟨#[105, 109, 112]⟩))), (.t 41)], none, [30, 28]⟩),
    (false, ⟨(some 43), .bslice 2 6 (.agg [(.sc (.string ⟨#[]⟩)), (.sl 0 [] .nil)]) [(0, (.t 11)), (1, (.t 17)), (2, (.t 23)), (3, (.t 27)), (4, (.t 33)), (5, (.t 42))], none, [0, 6, 12, 16, 22, 31]⟩),
    (false, ⟨(some 0), .mv (.t 43), none, [32, 31, 0, 1, 2, 3, 4, 5, 6, 7, 8, 9, 10, 11, 12, 13, 14, 15, 16, 17, 18, 19, 20, 21, 22, 23, 24, 25, 26, 27, 28, 29, 30, 31, 32]⟩)]) (
 .ret)))))
def res_law35_schemas : List ResA := [.t 0]
theorem comp_law35_schemas : Tryd.f25.body.bind (compCode PP ann_law35_schemas 44) = some code_law35_schemas := by kernel_rfl
theorem resc_law35_schemas : mapM' (compRes PP) Tryd.f25.results.toList = some res_law35_schemas := by kernel_rfl
theorem body_law35_schemas : hasBody PP 25 = true := by kernel_rfl
theorem enter_law35_schemas {args : List AV} {h : AHeap} {R : AEnd → AHeap → Prop} (hargs : args.length ≤ 44) (hw : codeWp ⟨PP, Gl, 44, ann_law35_schemas, h.length, none⟩ code_law35_schemas (retPost PP Gl h res_law35_schemas R) (initEnv args) h) : ACalls PP Gl 25 args h R :=
  acalls_of_code Tryd.func25 body_law35_schemas comp_law35_schemas resc_law35_schemas hargs (Nat.le_trans hargs (by decide)) (codeWp_sound mixed hw)

def lp1_modal_Is : ACode :=
 .seq (.reg [⟨(some 56), .bin .lss (.t 55) (.t 54), none, []⟩]) (
        .seq (.cond (.t 56) (.skip) (
         .exit 3)) (
        .seq (.block 4 (.seq (.reg [⟨(some 57), .mv (.t 55), none, []⟩,
             ⟨(some 10), .mv (.t 57), none, [0, 0]⟩]) (
          .seq (.seq (.reg [⟨(some 58), .mv (.t 8), none, []⟩,
              ⟨(some 59), .mv (.t 9), none, []⟩,
              ⟨(some 60), .mv (.t 10), none, []⟩,
              ⟨(some 61), .call (.t 58) [(.t 59), (.t 60)], none, [0, 1, 2]⟩,
              ⟨(some 62), .un .not (.t 61), none, [3]⟩]) (
           .cond (.t 62) (.exit 4) (
           .skip))) (
          .seq (.dreg [(false, ⟨(some 63), .mv (.t 1), none, []⟩),
             (false, ⟨(some 64), .bin .eql (.t 63) (.c (.sc (.int .i64 2))), none, [0]⟩),
             (false, ⟨(some 65), .mv (.t 64), none, [1]⟩),
             (true, ⟨(some 66), .mv (.t 10), (some (65, true)), [2]⟩),
             (true, ⟨(some 67), .iaddrA 6 .one (.t 6) (.t 66), (some (65, true)), [3, 2]⟩),
             (true, ⟨(some 68), .load .one (.t 67), (some (65, true)), [4, 2]⟩),
             (false, ⟨(some 69), .mv (.t 9), (some (65, true)), [2]⟩),
             (false, ⟨(some 70), .iaddrA 6 .one (.t 6) (.t 69), (some (65, true)), [6, 2]⟩),
             (false, ⟨(some 71), .load .one (.t 70), (some (65, true)), [7, 2]⟩),
             (false, ⟨(some 72), .bin .andNot (.t 68) (.t 71), (some (65, true)), [5, 8, 2]⟩),
             (false, ⟨(some 73), .bin .neq (.t 72) (.c (.sc (v64 0#64))), (some (65, true)), [9, 2]⟩),
             (false, ⟨(some 74), .pick (.t 65) (.t 73) (.c (.sc (.bool false))), none, [2, 10]⟩),
             (false, ⟨(some 75), .mv (.t 74), none, [11, 2]⟩),
             (false, ⟨(some 76), .mv (.t 1), (some (75, false)), [12]⟩),
             (false, ⟨(some 77), .bin .eql (.t 76) (.c (.sc (.int .i64 3))), (some (75, false)), [13, 12]⟩),
             (false, ⟨(some 78), .mv (.t 77), (some (75, false)), [14, 12, 12]⟩),
             (true, ⟨(some 79), .mv (.t 8), (some (78, true)), [15]⟩),
             (true, ⟨(some 80), .mv (.t 10), (some (78, true)), [15]⟩),
             (false, ⟨(some 81), .mv (.t 9), (some (78, true)), [15]⟩),
             (false, ⟨(some 82), .call (.t 79) [(.t 80), (.t 81)], (some (78, true)), [16, 17, 18, 15, 15]⟩),
             (false, ⟨(some 83), .un .not (.t 82), (some (78, true)), [19, 15]⟩),
             (false, ⟨(some 84), .pick (.t 78) (.t 83) (.c (.sc (.bool false))), (some (75, false)), [15, 20, 12]⟩),
             (false, ⟨(some 85), .pick (.t 75) (.c (.sc (.bool true))) (.t 84), none, [12, 21]⟩),
             (false, ⟨(some 86), .mv (.t 85), none, [22, 19]⟩),
             (false, ⟨(some 87), .mv (.t 1), (some (86, false)), [23]⟩),
             (false, ⟨(some 88), .bin .eql (.t 87) (.c (.sc (.int .i64 5))), (some (86, false)), [24, 23]⟩),
             (false, ⟨(some 89), .mv (.t 88), (some (86, false)), [25, 23, 23]⟩),
             (true, ⟨(some 90), .mv (.t 9), (some (89, true)), [26]⟩),
             (true, ⟨(some 91), .iaddrA 6 .one (.t 6) (.t 90), (some (89, true)), [27, 26]⟩),
             (true, ⟨(some 92), .load .one (.t 91), (some (89, true)), [28, 26]⟩),
             (false, ⟨(some 93), .mv (.t 10), (some (89, true)), [26]⟩),
             (false, ⟨(some 94), .iaddrA 6 .one (.t 6) (.t 93), (some (89, true)), [30, 26]⟩),
             (false, ⟨(some 95), .load .one (.t 94), (some (89, true)), [31, 26]⟩),
             (false, ⟨(some 96), .bin .andNot (.t 92) (.t 95), (some (89, true)), [29, 32, 26]⟩),
             (false, ⟨(some 97), .bin .neq (.t 96) (.c (.sc (v64 0#64))), (some (89, true)), [33, 26]⟩),
             (false, ⟨(some 98), .pick (.t 89) (.t 97) (.c (.sc (.bool false))), (some (86, false)), [26, 34, 23]⟩),
             (false, ⟨(some 99), .pick (.t 86) (.c (.sc (.bool true))) (.t 98), none, [23, 35]⟩)]) (
          .cond (.t 99) (.seq (.reg [⟨(some 4), .mv (.c (.sc (.bool false))), none, []⟩,
              ⟨(some 5), .mv (.c (.sc (.int .i64 0))), none, [0, 0]⟩]) (
           .ret)) (
          .skip)))))) (
        .reg [⟨(some 100), .bin .add (.t 55) (.c (.sc (.int .i64 1))), none, []⟩,
          ⟨(some 55), .mv (.t 100), none, [0]⟩])))
def lp0_modal_Is : ACode :=
 .seq (.reg [⟨(some 28), .bin .lss (.t 27) (.t 26), none, []⟩]) (
    .seq (.cond (.t 28) (.skip) (
     .exit 0)) (
    .seq (.block 1 (.seq (.reg [⟨(some 29), .mv (.t 27), none, []⟩,
         ⟨(some 9), .mv (.t 29), none, [0, 0]⟩]) (
      .seq (.seq (.reg [⟨(some 30), .mv (.t 1), none, []⟩]) (
       .block 2 (.seq (.reg [⟨(some 32), .bin .eql (.t 30) (.c (.sc (.int .i64 1))), none, []⟩,
           ⟨(some 31), .mv (.t 32), none, [0]⟩]) (
        .cond (.t 31) (.seq (.reg [⟨(some 33), .mv (.t 8), none, []⟩,
            ⟨(some 34), .mv (.t 9), none, []⟩,
            ⟨(some 35), .mv (.t 9), none, []⟩,
            ⟨(some 36), .call (.t 33) [(.t 34), (.t 35)], none, [0, 1, 2]⟩,
            ⟨(some 37), .un .not (.t 36), none, [3]⟩]) (
         .cond (.t 37) (.seq (.reg [⟨(some 4), .mv (.c (.sc (.bool false))), none, []⟩,
             ⟨(some 5), .mv (.c (.sc (.int .i64 0))), none, [0, 0]⟩]) (
          .ret)) (
         .skip))) (
        .seq (.reg [⟨(some 39), .bin .eql (.t 30) (.c (.sc (.int .i64 4))), none, []⟩,
            ⟨(some 38), .mv (.t 39), none, [0]⟩]) (
         .cond (.t 38) (.seq (.reg [⟨(some 40), .mv (.t 9), none, []⟩,
             ⟨(some 41), .iaddrA 6 .one (.t 6) (.t 40), none, [0]⟩,
             ⟨(some 42), .load .one (.t 41), none, [1]⟩,
             ⟨(some 43), .bin .eql (.t 42) (.c (.sc (v64 0#64))), none, [2]⟩]) (
          .cond (.t 43) (.seq (.reg [⟨(some 4), .mv (.c (.sc (.bool false))), none, []⟩,
              ⟨(some 5), .mv (.c (.sc (.int .i64 0))), none, [0, 0]⟩]) (
           .ret)) (
          .skip))) (
         .seq (.reg [⟨(some 45), .bin .eql (.t 30) (.c (.sc (.int .i64 6))), none, []⟩,
             ⟨(some 44), .mv (.t 45), none, [0]⟩]) (
          .cond (.t 44) (.seq (.dreg [(true, ⟨(some 46), .load (.agg 1) (.t 2), none, []⟩),
              (true, ⟨(some 47), .mv (.t 9), none, []⟩),
              (true, ⟨(some 48), .bin .shl (.c (.sc (v64 1#64))) (.t 47), none, [1]⟩),
              (true, ⟨(some 50), .mv (.t 9), none, []⟩),
              (false, ⟨(some 49), .call (.c (.fn (.func 48) [] [])) [(.t 46), (.t 48)], none, [0, 2]⟩),
              (false, ⟨(some 51), .bin .shr (.t 49) (.t 50), none, [3, 4]⟩),
              (false, ⟨(some 52), .bin .and (.t 51) (.c (.sc (v64 1#64))), none, [5]⟩),
              (false, ⟨(some 53), .bin .eql (.t 52) (.c (.sc (v64 1#64))), none, [6]⟩)]) (
           .cond (.t 53) (.seq (.reg [⟨(some 4), .mv (.c (.sc (.bool false))), none, []⟩,
               ⟨(some 5), .mv (.c (.sc (.int .i64 0))), none, [0, 0]⟩]) (
            .ret)) (
           .skip))) (
          .skip))))))))) (
      .seq (.reg [⟨(some 54), .mv (.t 7), none, []⟩,
         ⟨(some 55), .mv (.c (.sc (.int .i64 0))), none, []⟩]) (
      .block 3 (.loop lp1_modal_Is)))))) (
    .reg [⟨(some 101), .bin .add (.t 27) (.c (.sc (.int .i64 1))), none, []⟩,
      ⟨(some 27), .mv (.t 101), none, [0]⟩])))
/-- apodixis/modal.Is -/
def ann_modal_Is : List Nat := [2, 6]
def code_modal_Is : ACode :=
 .seq (.reg [⟨(some 2), .box (.t 0), none, []⟩,
    ⟨(some 4), .mv (.c (.sc (.bool false))), none, []⟩,
    ⟨(some 5), .mv (.c (.sc (.int .i64 0))), none, [1]⟩]) (
 .seq (.seq (.reg [⟨(some 11), .load (.agg 1) (.t 2), none, []⟩,
     ⟨(some 12), .call (.c (.fn (.func 45) [] [])) [(.t 11)], none, [0]⟩,
     ⟨(some 13), .un .not (.t 12), none, [1]⟩]) (
  .cond (.t 13) (.seq (.reg [⟨(some 4), .mv (.c (.sc (.bool false))), none, []⟩,
      ⟨(some 5), .mv (.c (.sc (.int .i64 371))), none, [0, 0]⟩]) (
   .ret)) (
  .skip))) (
 .seq (.seq (.reg [⟨(some 14), .mv (.t 1), none, []⟩,
     ⟨(some 15), .bin .lss (.t 14) (.c (.sc (.int .i64 1))), none, [0]⟩,
     ⟨(some 16), .mv (.t 15), none, [1]⟩,
     ⟨(some 17), .mv (.t 1), (some (16, false)), [2]⟩,
     ⟨(some 18), .bin .gtr (.t 17) (.c (.sc (.int .i64 6))), (some (16, false)), [3, 2]⟩,
     ⟨(some 19), .pick (.t 16) (.c (.sc (.bool true))) (.t 18), none, [2, 4]⟩]) (
  .cond (.t 19) (.seq (.reg [⟨(some 4), .mv (.c (.sc (.bool false))), none, []⟩,
      ⟨(some 5), .mv (.c (.sc (.int .i64 1))), none, [0, 0]⟩]) (
   .ret)) (
  .skip))) (
 .seq (.dreg [(true, ⟨(some 20), .load (.agg 1) (.t 2), none, []⟩),
    (true, ⟨(some 22), .faddr 0 .one (.t 2), none, []⟩),
    (true, ⟨(some 23), .load .one (.t 22), none, [2]⟩),
    (true, ⟨(some 24), .len .sl (.t 23), none, [3]⟩),
    (true, ⟨(some 6), .pnew 6, none, []⟩),
    (false, ⟨(some 21), .call (.c (.fn (.func 46) [] [])) [(.t 20)], none, [0]⟩),
    (false, ⟨none, .pstore 6 6 (.t 21), none, [5, 1, 1, 0, 1, 5]⟩),
    (false, ⟨(some 7), .mv (.t 24), none, [4, 6, 0, 1, 2, 3, 4, 5, 6]⟩)]) (
 .seq (.reg [⟨(some 25), .mkFunc (.func 47) [] [(.t 6)], none, []⟩,
    ⟨(some 8), .mv (.t 25), none, [0, 0]⟩]) (
 .seq (.seq (.reg [⟨(some 26), .mv (.t 7), none, []⟩,
     ⟨(some 27), .mv (.c (.sc (.int .i64 0))), none, []⟩]) (
  .block 0 (.loop lp0_modal_Is))) (
 .seq (.reg [⟨(some 4), .mv (.c (.sc (.bool true))), none, []⟩,
    ⟨(some 5), .mv (.c (.sc (.int .i64 0))), none, [0, 0]⟩]) (
 .ret)))))))
def res_modal_Is : List ResA := [.t 4, .t 5]
theorem comp_modal_Is : Tryd.f26.body.bind (compCode PP ann_modal_Is 102) = some code_modal_Is := by kernel_rfl
theorem resc_modal_Is : mapM' (compRes PP) Tryd.f26.results.toList = some res_modal_Is := by kernel_rfl
theorem body_modal_Is : hasBody PP 26 = true := by kernel_rfl
theorem enter_modal_Is {args : List AV} {h : AHeap} {R : AEnd → AHeap → Prop} (hargs : args.length ≤ 102) (hw : codeWp ⟨PP, Gl, 102, ann_modal_Is, h.length, none⟩ code_modal_Is (retPost PP Gl h res_modal_Is R) (initEnv args) h) : ACalls PP Gl 26 args h R :=
  acalls_of_code Tryd.func26 body_modal_Is comp_modal_Is resc_modal_Is hargs (Nat.le_trans hargs (by decide)) (codeWp_sound mixed hw)

def lp0_modal_Generated : ACode :=
 .seq (.reg [⟨(some 41), .bin .lss (.t 40) (.t 39), none, []⟩]) (
    .seq (.cond (.t 41) (.skip) (
     .exit 0)) (
    .seq (.block 1 (.seq (.reg [⟨(some 42), .mv (.t 40), none, []⟩,
         ⟨(some 9), .mv (.t 42), none, [0, 0]⟩]) (
      .seq (.reg [⟨(some 43), .mv (.t 7), none, []⟩,
         ⟨(some 44), .mv (.t 9), none, []⟩,
         ⟨(some 45), .bin .shr (.t 43) (.t 44), none, [0, 1]⟩,
         ⟨(some 46), .bin .and (.t 45) (.c (.sc (v64 1#64))), none, [2]⟩,
         ⟨(some 47), .bin .eql (.t 46) (.c (.sc (v64 1#64))), none, [3]⟩]) (
      .cond (.t 47) (.reg [⟨(some 48), .mv (.t 8), none, []⟩,
         ⟨(some 49), .mv (.t 9), none, []⟩,
         ⟨(some 50), .bslice 1 1 (.sc (.int .i64 0)) [(0, (.t 49))], none, [1]⟩,
         ⟨(some 51), .append 1 8 (.t 48) (.t 50), none, [0, 2]⟩,
         ⟨(some 8), .mv (.t 51), none, [3, 3, 0, 1, 2, 3]⟩]) (
      .skip))))) (
    .reg [⟨(some 52), .bin .add (.t 40) (.c (.sc (.int .i64 1))), none, []⟩,
      ⟨(some 40), .mv (.t 52), none, [0]⟩])))
def lp2_modal_Generated : ACode :=
 .seq (.reg [⟨(some 62), .bin .lss (.t 61) (.t 60), none, []⟩]) (
         .seq (.cond (.t 62) (.skip) (
          .exit 4)) (
         .seq (.block 5 (.seq (.reg [⟨(some 63), .mv (.t 61), none, []⟩,
              ⟨(some 64), .iaddr 1 (.t 59) (.t 61), none, []⟩,
              ⟨(some 65), .load .one (.t 64), none, [1]⟩,
              ⟨(some 14), .mv (.t 63), none, [0, 0, 1, 2]⟩,
              ⟨(some 15), .mv (.t 65), none, [2, 3, 0, 1, 2, 3]⟩]) (
           .reg [⟨(some 66), .mv (.t 13), none, []⟩,
             ⟨(some 67), .faddr 0 .one (.t 2), none, []⟩,
             ⟨(some 68), .load .one (.t 67), none, [1]⟩,
             ⟨(some 69), .mv (.t 12), none, []⟩,
             ⟨(some 70), .iaddr 1 (.t 68) (.t 69), none, [2, 3]⟩,
             ⟨(some 71), .load .one (.t 70), none, [4]⟩,
             ⟨(some 72), .mv (.t 15), none, []⟩,
             ⟨(some 73), .bin .shr (.t 71) (.t 72), none, [5, 6]⟩,
             ⟨(some 74), .bin .and (.t 73) (.c (.sc (v64 1#64))), none, [7]⟩,
             ⟨(some 75), .mv (.t 14), none, []⟩,
             ⟨(some 76), .bin .shl (.t 74) (.t 75), none, [8, 9]⟩,
             ⟨(some 77), .bin .or (.t 66) (.t 76), none, [0, 10]⟩,
             ⟨(some 13), .mv (.t 77), none, [11, 0, 1, 2, 3, 4, 5, 6, 7, 8, 9, 10, 11]⟩]))) (
         .reg [⟨(some 78), .bin .add (.t 61) (.c (.sc (.int .i64 1))), none, []⟩,
           ⟨(some 61), .mv (.t 78), none, [0]⟩])))
def lp1_modal_Generated : ACode :=
 .seq (.reg [⟨(some 56), .bin .lss (.t 55) (.t 54), none, []⟩]) (
    .seq (.cond (.t 56) (.skip) (
     .exit 2)) (
    .seq (.block 3 (.seq (.reg [⟨(some 57), .iaddr 1 (.t 53) (.t 55), none, []⟩,
         ⟨(some 58), .load .one (.t 57), none, [0]⟩,
         ⟨(some 12), .mv (.t 58), none, [1, 0, 1]⟩]) (
      .seq (.reg [⟨(some 13), .mv (.c (.sc (v64 0#64))), none, []⟩]) (
      .seq (.seq (.reg [⟨(some 59), .mv (.t 8), none, []⟩,
          ⟨(some 60), .len .sl (.t 59), none, [0]⟩,
          ⟨(some 61), .mv (.c (.sc (.int .i64 0))), none, []⟩]) (
       .block 4 (.loop lp2_modal_Generated))) (
      .reg [⟨(some 79), .faddr 0 .one (.t 10), none, []⟩,
        ⟨(some 80), .load .one (.t 79), none, [0]⟩,
        ⟨(some 81), .mv (.t 13), none, []⟩,
        ⟨(some 82), .bslice 1 1 (.sc (v64 0#64)) [(0, (.t 81))], none, [2]⟩,
        ⟨(some 83), .append 1 8 (.t 80) (.t 82), none, [1, 3]⟩,
        ⟨(some 84), .faddr 0 .one (.t 10), none, [0, 1, 2, 3, 4]⟩,
        ⟨none, .store 1 (.t 84) (.t 83), none, [5, 4, 4, 0, 1, 2, 3, 4]⟩]))))) (
    .reg [⟨(some 85), .bin .add (.t 55) (.c (.sc (.int .i64 1))), none, []⟩,
      ⟨(some 55), .mv (.t 85), none, [0]⟩])))
/-- apodixis/modal.Generated -/
def ann_modal_Generated : List Nat := [2]
def code_modal_Generated : ACode :=
 .seq (.reg [⟨(some 2), .box (.t 0), none, []⟩,
    ⟨(some 4), .new [(.sl 0 [] .nil)], none, []⟩,
    ⟨(some 5), .mv (.c (.sl 0 [] .nil)), none, []⟩,
    ⟨(some 6), .mv (.c (.sc (.int .i64 0))), none, [2]⟩]) (
 .seq (.seq (.reg [⟨(some 16), .load (.agg 1) (.t 2), none, []⟩,
     ⟨(some 17), .call (.c (.fn (.func 45) [] [])) [(.t 16)], none, [0]⟩,
     ⟨(some 18), .un .not (.t 17), none, [1]⟩]) (
  .cond (.t 18) (.seq (.reg [⟨(some 19), .build [(.sl 0 [] .nil)] [], none, []⟩,
      ⟨none, .store 1 (.t 4) (.t 19), none, [0, 0]⟩,
      ⟨(some 5), .mv (.c (.sl 0 [] .nil)), none, [1, 0, 1]⟩,
      ⟨(some 6), .mv (.c (.sc (.int .i64 371))), none, [2, 0, 1, 2]⟩]) (
   .ret)) (
  .skip))) (
 .seq (.seq (.reg [⟨(some 20), .mv (.t 1), none, []⟩,
     ⟨(some 21), .bin .lss (.t 20) (.c (.sc (.int .i64 0))), none, [0]⟩,
     ⟨(some 22), .mv (.t 21), none, [1]⟩,
     ⟨(some 23), .mv (.t 1), (some (22, false)), [2]⟩,
     ⟨(some 24), .faddr 0 .one (.t 2), (some (22, false)), [2]⟩,
     ⟨(some 25), .load .one (.t 24), (some (22, false)), [4, 2]⟩,
     ⟨(some 26), .len .sl (.t 25), (some (22, false)), [5, 2]⟩,
     ⟨(some 27), .bin .geq (.t 23) (.t 26), (some (22, false)), [3, 6, 2]⟩,
     ⟨(some 28), .pick (.t 22) (.c (.sc (.bool true))) (.t 27), none, [2, 7]⟩]) (
  .cond (.t 28) (.seq (.reg [⟨(some 29), .build [(.sl 0 [] .nil)] [], none, []⟩,
      ⟨none, .store 1 (.t 4) (.t 29), none, [0, 0]⟩,
      ⟨(some 5), .mv (.c (.sl 0 [] .nil)), none, [1, 0, 1]⟩,
      ⟨(some 6), .mv (.c (.sc (.int .i64 5))), none, [2, 0, 1, 2]⟩]) (
   .ret)) (
  .skip))) (
 .seq (.dreg [(true, ⟨(some 30), .load (.agg 1) (.t 2), none, []⟩),
    (true, ⟨(some 31), .mv (.t 1), none, []⟩),
    (true, ⟨(some 32), .bin .shl (.c (.sc (v64 1#64))) (.t 31), none, [1]⟩),
    (true, ⟨(some 34), .mv (.t 1), none, []⟩),
    (true, ⟨(some 35), .bin .shl (.c (.sc (v64 1#64))) (.t 34), none, [4]⟩),
    (false, ⟨(some 33), .call (.c (.fn (.func 48) [] [])) [(.t 30), (.t 32)], none, [0, 2]⟩),
    (false, ⟨(some 36), .bin .or (.t 33) (.t 35), none, [3, 5]⟩),
    (false, ⟨(some 7), .mv (.t 36), none, [6, 3, 0, 1, 2, 3, 4, 5, 6]⟩)]) (
 .seq (.reg [⟨(some 8), .mv (.c (.sl 0 [] .nil)), none, []⟩]) (
 .seq (.seq (.reg [⟨(some 37), .faddr 0 .one (.t 2), none, []⟩,
     ⟨(some 38), .load .one (.t 37), none, [0]⟩,
     ⟨(some 39), .len .sl (.t 38), none, [1]⟩,
     ⟨(some 40), .mv (.c (.sc (.int .i64 0))), none, []⟩]) (
  .block 0 (.loop lp0_modal_Generated))) (
 .seq (.reg [⟨(some 10), .new [(.sl 0 [] .nil)], none, []⟩]) (
 .seq (.seq (.reg [⟨(some 53), .mv (.t 8), none, []⟩,
     ⟨(some 54), .len .sl (.t 53), none, [0]⟩,
     ⟨(some 55), .mv (.c (.sc (.int .i64 0))), none, []⟩]) (
  .block 2 (.loop lp1_modal_Generated))) (
 .seq (.reg [⟨(some 86), .load (.agg 1) (.t 10), none, []⟩,
    ⟨(some 87), .mv (.t 8), none, []⟩,
    ⟨none, .store 1 (.t 4) (.t 86), none, [0, 0]⟩,
    ⟨(some 5), .mv (.t 87), none, [1, 2, 0, 1, 2]⟩,
    ⟨(some 6), .mv (.c (.sc (.int .i64 0))), none, [3, 0, 1, 2, 3]⟩]) (
 .ret)))))))))
def res_modal_Generated : List ResA := [.cell 4 (.agg 1), .t 5, .t 6]
theorem comp_modal_Generated : Tryd.f27.body.bind (compCode PP ann_modal_Generated 88) = some code_modal_Generated := by kernel_rfl
theorem resc_modal_Generated : mapM' (compRes PP) Tryd.f27.results.toList = some res_modal_Generated := by kernel_rfl
theorem body_modal_Generated : hasBody PP 27 = true := by kernel_rfl
theorem enter_modal_Generated {args : List AV} {h : AHeap} {R : AEnd → AHeap → Prop} (hargs : args.length ≤ 88) (hw : codeWp ⟨PP, Gl, 88, ann_modal_Generated, h.length, none⟩ code_modal_Generated (retPost PP Gl h res_modal_Generated R) (initEnv args) h) : ACalls PP Gl 27 args h R :=
  acalls_of_code Tryd.func27 body_modal_Generated comp_modal_Generated resc_modal_Generated hargs (Nat.le_trans hargs (by decide)) (codeWp_sound mixed hw)

def lp2_ref35_Is : ACode :=
 .seq (.seq (.reg [⟨(some 82), .mv (.t 9), none, []⟩,
                ⟨(some 83), .mv (.t 6), none, []⟩,
                ⟨(some 84), .bin .lss (.t 82) (.t 83), none, [0, 1]⟩]) (
             .cond (.t 84) (.skip) (
             .exit 4))) (
            .seq (.block 5 (.seq (.reg [⟨(some 87), .mv (.t 1), none, []⟩,
                 ⟨(some 88), .bin .eql (.t 87) (.c (.sc (.int .i64 2))), none, [0]⟩,
                 ⟨(some 89), .mv (.t 88), none, [1]⟩,
                 ⟨(some 90), .load (.agg 1) (.t 2), (some (89, true)), [2]⟩,
                 ⟨(some 91), .mv (.t 7), (some (89, true)), [2]⟩,
                 ⟨(some 92), .mv (.t 8), (some (89, true)), [2]⟩,
                 ⟨(some 93), .call (.c (.fn (.func 50) [] [])) [(.t 90), (.t 91), (.t 92)], (some (89, true)), [3, 4, 5, 2, 2]⟩,
                 ⟨(some 94), .pick (.t 89) (.t 93) (.c (.sc (.bool false))), none, [2, 6]⟩,
                 ⟨(some 95), .mv (.t 94), none, [7, 6]⟩,
                 ⟨(some 96), .load (.agg 1) (.t 2), (some (95, true)), [8]⟩,
                 ⟨(some 97), .mv (.t 8), (some (95, true)), [8]⟩,
                 ⟨(some 98), .mv (.t 9), (some (95, true)), [8]⟩,
                 ⟨(some 99), .call (.c (.fn (.func 50) [] [])) [(.t 96), (.t 97), (.t 98)], (some (95, true)), [9, 10, 11, 8, 8]⟩,
                 ⟨(some 100), .pick (.t 95) (.t 99) (.c (.sc (.bool false))), none, [8, 12]⟩,
                 ⟨(some 101), .mv (.t 100), none, [13, 12]⟩,
                 ⟨(some 102), .load (.agg 1) (.t 2), (some (101, true)), [14]⟩,
                 ⟨(some 103), .mv (.t 7), (some (101, true)), [14]⟩,
                 ⟨(some 104), .mv (.t 9), (some (101, true)), [14]⟩,
                 ⟨(some 105), .call (.c (.fn (.func 50) [] [])) [(.t 102), (.t 103), (.t 104)], (some (101, true)), [15, 16, 17, 14, 14]⟩,
                 ⟨(some 106), .un .not (.t 105), (some (101, true)), [18, 14]⟩,
                 ⟨(some 107), .pick (.t 101) (.t 106) (.c (.sc (.bool false))), none, [14, 19]⟩,
                 ⟨(some 108), .mv (.t 107), none, [20, 18]⟩,
                 ⟨(some 109), .mv (.t 1), (some (108, false)), [21]⟩,
                 ⟨(some 110), .bin .eql (.t 109) (.c (.sc (.int .i64 5))), (some (108, false)), [22, 21]⟩,
                 ⟨(some 111), .mv (.t 110), (some (108, false)), [23, 21, 21]⟩,
                 ⟨(some 112), .load (.agg 1) (.t 2), (some (111, true)), [24]⟩,
                 ⟨(some 113), .mv (.t 7), (some (111, true)), [24]⟩,
                 ⟨(some 114), .mv (.t 8), (some (111, true)), [24]⟩,
                 ⟨(some 115), .call (.c (.fn (.func 50) [] [])) [(.t 112), (.t 113), (.t 114)], (some (111, true)), [25, 26, 27, 24, 24]⟩,
                 ⟨(some 116), .pick (.t 111) (.t 115) (.c (.sc (.bool false))), (some (108, false)), [24, 28, 21]⟩,
                 ⟨(some 117), .mv (.t 116), (some (108, false)), [29, 28, 21]⟩,
                 ⟨(some 118), .load (.agg 1) (.t 2), (some (117, true)), [30]⟩,
                 ⟨(some 119), .mv (.t 7), (some (117, true)), [30]⟩,
                 ⟨(some 120), .mv (.t 9), (some (117, true)), [30]⟩,
                 ⟨(some 121), .call (.c (.fn (.func 50) [] [])) [(.t 118), (.t 119), (.t 120)], (some (117, true)), [31, 32, 33, 30, 30]⟩,
                 ⟨(some 122), .pick (.t 117) (.t 121) (.c (.sc (.bool false))), (some (108, false)), [30, 34, 21]⟩,
                 ⟨(some 123), .mv (.t 122), (some (108, false)), [35, 34, 21]⟩,
                 ⟨(some 124), .load (.agg 1) (.t 2), (some (123, true)), [36]⟩,
                 ⟨(some 125), .mv (.t 8), (some (123, true)), [36]⟩,
                 ⟨(some 126), .mv (.t 9), (some (123, true)), [36]⟩,
                 ⟨(some 127), .call (.c (.fn (.func 50) [] [])) [(.t 124), (.t 125), (.t 126)], (some (123, true)), [37, 38, 39, 36, 36]⟩,
                 ⟨(some 128), .un .not (.t 127), (some (123, true)), [40, 36]⟩,
                 ⟨(some 129), .pick (.t 123) (.t 128) (.c (.sc (.bool false))), (some (108, false)), [36, 41, 21]⟩,
                 ⟨(some 130), .pick (.t 108) (.c (.sc (.bool true))) (.t 129), none, [21, 42]⟩]) (
              .cond (.t 130) (.seq (.reg [⟨(some 4), .mv (.c (.sc (.bool false))), none, []⟩,
                  ⟨(some 5), .mv (.c (.sc (.int .i64 0))), none, [0, 0]⟩]) (
               .ret)) (
              .skip)))) (
            .reg [⟨(some 85), .mv (.t 9), none, []⟩,
              ⟨(some 86), .bin .add (.t 85) (.c (.sc (.int .i64 1))), none, [0]⟩,
              ⟨(some 9), .mv (.t 86), none, [1, 0, 1]⟩]))
def lp1_ref35_Is : ACode :=
 .seq (.seq (.reg [⟨(some 62), .mv (.t 8), none, []⟩,
            ⟨(some 63), .mv (.t 6), none, []⟩,
            ⟨(some 64), .bin .lss (.t 62) (.t 63), none, [0, 1]⟩]) (
         .cond (.t 64) (.skip) (
         .exit 2))) (
        .seq (.block 3 (.seq (.seq (.reg [⟨(some 67), .mv (.t 1), none, []⟩,
              ⟨(some 68), .bin .eql (.t 67) (.c (.sc (.int .i64 3))), none, [0]⟩,
              ⟨(some 69), .mv (.t 68), none, [1]⟩,
              ⟨(some 70), .load (.agg 1) (.t 2), (some (69, true)), [2]⟩,
              ⟨(some 71), .mv (.t 7), (some (69, true)), [2]⟩,
              ⟨(some 72), .mv (.t 8), (some (69, true)), [2]⟩,
              ⟨(some 73), .call (.c (.fn (.func 50) [] [])) [(.t 70), (.t 71), (.t 72)], (some (69, true)), [3, 4, 5, 2, 2]⟩,
              ⟨(some 74), .pick (.t 69) (.t 73) (.c (.sc (.bool false))), none, [2, 6]⟩,
              ⟨(some 75), .mv (.t 74), none, [7, 6]⟩,
              ⟨(some 76), .load (.agg 1) (.t 2), (some (75, true)), [8]⟩,
              ⟨(some 77), .mv (.t 8), (some (75, true)), [8]⟩,
              ⟨(some 78), .mv (.t 7), (some (75, true)), [8]⟩,
              ⟨(some 79), .call (.c (.fn (.func 50) [] [])) [(.t 76), (.t 77), (.t 78)], (some (75, true)), [9, 10, 11, 8, 8]⟩,
              ⟨(some 80), .un .not (.t 79), (some (75, true)), [12, 8]⟩,
              ⟨(some 81), .pick (.t 75) (.t 80) (.c (.sc (.bool false))), none, [8, 13]⟩]) (
           .cond (.t 81) (.seq (.reg [⟨(some 4), .mv (.c (.sc (.bool false))), none, []⟩,
               ⟨(some 5), .mv (.c (.sc (.int .i64 0))), none, [0, 0]⟩]) (
            .ret)) (
           .skip))) (
          .seq (.reg [⟨(some 9), .mv (.c (.sc (.int .i64 0))), none, []⟩]) (
          .block 4 (.loop lp2_ref35_Is))))) (
        .reg [⟨(some 65), .mv (.t 8), none, []⟩,
          ⟨(some 66), .bin .add (.t 65) (.c (.sc (.int .i64 1))), none, [0]⟩,
          ⟨(some 8), .mv (.t 66), none, [1, 0, 1]⟩]))
def lp0_ref35_Is : ACode :=
 .seq (.seq (.reg [⟨(some 22), .mv (.t 7), none, []⟩,
        ⟨(some 23), .mv (.t 6), none, []⟩,
        ⟨(some 24), .bin .lss (.t 22) (.t 23), none, [0, 1]⟩]) (
     .cond (.t 24) (.skip) (
     .exit 0))) (
    .seq (.block 1 (.seq (.seq (.reg [⟨(some 27), .mv (.t 1), none, []⟩,
          ⟨(some 28), .bin .eql (.t 27) (.c (.sc (.int .i64 1))), none, [0]⟩,
          ⟨(some 29), .mv (.t 28), none, [1]⟩,
          ⟨(some 30), .load (.agg 1) (.t 2), (some (29, true)), [2]⟩,
          ⟨(some 31), .mv (.t 7), (some (29, true)), [2]⟩,
          ⟨(some 32), .mv (.t 7), (some (29, true)), [2]⟩,
          ⟨(some 33), .call (.c (.fn (.func 50) [] [])) [(.t 30), (.t 31), (.t 32)], (some (29, true)), [3, 4, 5, 2, 2]⟩,
          ⟨(some 34), .un .not (.t 33), (some (29, true)), [6, 2]⟩,
          ⟨(some 35), .pick (.t 29) (.t 34) (.c (.sc (.bool false))), none, [2, 7]⟩,
          ⟨(some 36), .mv (.t 35), none, [8, 6]⟩,
          ⟨(some 37), .mv (.t 1), (some (36, false)), [9]⟩,
          ⟨(some 38), .bin .eql (.t 37) (.c (.sc (.int .i64 4))), (some (36, false)), [10, 9]⟩,
          ⟨(some 39), .mv (.t 38), (some (36, false)), [11, 9, 9]⟩,
          ⟨(some 40), .faddr 0 .one (.t 2), (some (39, true)), [12]⟩,
          ⟨(some 41), .load .one (.t 40), (some (39, true)), [13, 12]⟩,
          ⟨(some 42), .mv (.t 7), (some (39, true)), [12]⟩,
          ⟨(some 43), .iaddr 1 (.t 41) (.t 42), (some (39, true)), [14, 15, 12]⟩,
          ⟨(some 44), .load .one (.t 43), (some (39, true)), [16, 12]⟩,
          ⟨(some 45), .bin .eql (.t 44) (.c (.sc (v64 0#64))), (some (39, true)), [17, 12]⟩,
          ⟨(some 46), .pick (.t 39) (.t 45) (.c (.sc (.bool false))), (some (36, false)), [12, 18, 9]⟩,
          ⟨(some 47), .pick (.t 36) (.c (.sc (.bool true))) (.t 46), none, [9, 19]⟩,
          ⟨(some 48), .mv (.t 47), none, [20, 12]⟩,
          ⟨(some 49), .mv (.t 1), (some (48, false)), [21]⟩,
          ⟨(some 50), .bin .eql (.t 49) (.c (.sc (.int .i64 6))), (some (48, false)), [22, 21]⟩,
          ⟨(some 51), .mv (.t 50), (some (48, false)), [23, 21, 21]⟩,
          ⟨(some 52), .load (.agg 1) (.t 2), (some (51, true)), [24]⟩,
          ⟨(some 53), .mv (.t 7), (some (51, true)), [24]⟩,
          ⟨(some 54), .call (.c (.fn (.func 51) [] [])) [(.t 52), (.t 53)], (some (51, true)), [25, 26, 24, 24]⟩,
          ⟨(some 55), .mv (.t 7), (some (51, true)), [24]⟩,
          ⟨(some 56), .conv .u64 (.t 55), (some (51, true)), [28, 24]⟩,
          ⟨(some 57), .bin .shr (.t 54) (.t 56), (some (51, true)), [27, 29, 24]⟩,
          ⟨(some 58), .bin .and (.t 57) (.c (.sc (v64 1#64))), (some (51, true)), [30, 24]⟩,
          ⟨(some 59), .bin .eql (.t 58) (.c (.sc (v64 1#64))), (some (51, true)), [31, 24]⟩,
          ⟨(some 60), .pick (.t 51) (.t 59) (.c (.sc (.bool false))), (some (48, false)), [24, 32, 21]⟩,
          ⟨(some 61), .pick (.t 48) (.c (.sc (.bool true))) (.t 60), none, [21, 33]⟩]) (
       .cond (.t 61) (.seq (.reg [⟨(some 4), .mv (.c (.sc (.bool false))), none, []⟩,
           ⟨(some 5), .mv (.c (.sc (.int .i64 0))), none, [0, 0]⟩]) (
        .ret)) (
       .skip))) (
      .seq (.reg [⟨(some 8), .mv (.c (.sc (.int .i64 0))), none, []⟩]) (
      .block 2 (.loop lp1_ref35_Is))))) (
    .reg [⟨(some 25), .mv (.t 7), none, []⟩,
      ⟨(some 26), .bin .add (.t 25) (.c (.sc (.int .i64 1))), none, [0]⟩,
      ⟨(some 7), .mv (.t 26), none, [1, 0, 1]⟩]))
/-- apodixis/apodixisref35.Is -/
def ann_ref35_Is : List Nat := [2]
def code_ref35_Is : ACode :=
 .seq (.reg [⟨(some 2), .box (.t 0), none, []⟩,
    ⟨(some 4), .mv (.c (.sc (.bool false))), none, []⟩,
    ⟨(some 5), .mv (.c (.sc (.int .i64 0))), none, [1]⟩]) (
 .seq (.seq (.reg [⟨(some 10), .load (.agg 1) (.t 2), none, []⟩,
     ⟨(some 11), .call (.c (.fn (.func 49) [] [])) [(.t 10)], none, [0]⟩,
     ⟨(some 12), .un .not (.t 11), none, [1]⟩]) (
  .cond (.t 12) (.seq (.reg [⟨(some 4), .mv (.c (.sc (.bool false))), none, []⟩,
      ⟨(some 5), .mv (.c (.sc (.int .i64 371))), none, [0, 0]⟩]) (
   .ret)) (
  .skip))) (
 .seq (.seq (.reg [⟨(some 13), .mv (.t 1), none, []⟩,
     ⟨(some 14), .bin .lss (.t 13) (.c (.sc (.int .i64 1))), none, [0]⟩,
     ⟨(some 15), .mv (.t 14), none, [1]⟩,
     ⟨(some 16), .mv (.t 1), (some (15, false)), [2]⟩,
     ⟨(some 17), .bin .gtr (.t 16) (.c (.sc (.int .i64 6))), (some (15, false)), [3, 2]⟩,
     ⟨(some 18), .pick (.t 15) (.c (.sc (.bool true))) (.t 17), none, [2, 4]⟩]) (
  .cond (.t 18) (.seq (.reg [⟨(some 4), .mv (.c (.sc (.bool false))), none, []⟩,
      ⟨(some 5), .mv (.c (.sc (.int .i64 1))), none, [0, 0]⟩]) (
   .ret)) (
  .skip))) (
 .seq (.reg [⟨(some 19), .faddr 0 .one (.t 2), none, []⟩,
    ⟨(some 20), .load .one (.t 19), none, [0]⟩,
    ⟨(some 21), .len .sl (.t 20), none, [1]⟩,
    ⟨(some 6), .mv (.t 21), none, [2, 0, 1, 2]⟩]) (
 .seq (.seq (.reg [⟨(some 7), .mv (.c (.sc (.int .i64 0))), none, []⟩]) (
  .block 0 (.loop lp0_ref35_Is))) (
 .seq (.reg [⟨(some 4), .mv (.c (.sc (.bool true))), none, []⟩,
    ⟨(some 5), .mv (.c (.sc (.int .i64 0))), none, [0, 0]⟩]) (
 .ret))))))
def res_ref35_Is : List ResA := [.t 4, .t 5]
theorem comp_ref35_Is : Tryd.f28.body.bind (compCode PP ann_ref35_Is 131) = some code_ref35_Is := by kernel_rfl
theorem resc_ref35_Is : mapM' (compRes PP) Tryd.f28.results.toList = some res_ref35_Is := by kernel_rfl
theorem body_ref35_Is : hasBody PP 28 = true := by kernel_rfl
theorem enter_ref35_Is {args : List AV} {h : AHeap} {R : AEnd → AHeap → Prop} (hargs : args.length ≤ 131) (hw : codeWp ⟨PP, Gl, 131, ann_ref35_Is, h.length, none⟩ code_ref35_Is (retPost PP Gl h res_ref35_Is R) (initEnv args) h) : ACalls PP Gl 28 args h R :=
  acalls_of_code Tryd.func28 body_ref35_Is comp_ref35_Is resc_ref35_Is hargs (Nat.le_trans hargs (by decide)) (codeWp_sound mixed hw)

def lp0_ref35_Generated : ACode :=
 .seq (.seq (.reg [⟨(some 35), .mv (.t 9), none, []⟩,
        ⟨(some 36), .faddr 0 .one (.t 2), none, []⟩,
        ⟨(some 37), .load .one (.t 36), none, [1]⟩,
        ⟨(some 38), .len .sl (.t 37), none, [2]⟩,
        ⟨(some 39), .bin .lss (.t 35) (.t 38), none, [0, 3]⟩]) (
     .cond (.t 39) (.skip) (
     .exit 0))) (
    .seq (.block 1 (.seq (.reg [⟨(some 42), .mv (.t 7), none, []⟩,
         ⟨(some 43), .mv (.t 9), none, []⟩,
         ⟨(some 44), .conv .u64 (.t 43), none, [1]⟩,
         ⟨(some 45), .bin .shr (.t 42) (.t 44), none, [0, 2]⟩,
         ⟨(some 46), .bin .and (.t 45) (.c (.sc (v64 1#64))), none, [3]⟩,
         ⟨(some 47), .bin .eql (.t 46) (.c (.sc (v64 1#64))), none, [4]⟩]) (
      .cond (.t 47) (.reg [⟨(some 48), .mv (.t 8), none, []⟩,
         ⟨(some 49), .mv (.t 9), none, []⟩,
         ⟨(some 50), .bslice 1 1 (.sc (.int .i64 0)) [(0, (.t 49))], none, [1]⟩,
         ⟨(some 51), .append 1 8 (.t 48) (.t 50), none, [0, 2]⟩,
         ⟨(some 8), .mv (.t 51), none, [3, 3, 0, 1, 2, 3]⟩]) (
      .skip)))) (
    .reg [⟨(some 40), .mv (.t 9), none, []⟩,
      ⟨(some 41), .bin .add (.t 40) (.c (.sc (.int .i64 1))), none, [0]⟩,
      ⟨(some 9), .mv (.t 41), none, [1, 0, 1]⟩]))
def lp2_ref35_Generated : ACode :=
 .seq (.seq (.reg [⟨(some 58), .mv (.t 13), none, []⟩,
             ⟨(some 59), .mv (.t 8), none, []⟩,
             ⟨(some 60), .len .sl (.t 59), none, [1]⟩,
             ⟨(some 61), .bin .lss (.t 58) (.t 60), none, [0, 2]⟩]) (
          .cond (.t 61) (.skip) (
          .exit 4))) (
         .seq (.block 5 (.seq (.dreg [(true, ⟨(some 64), .load (.agg 1) (.t 2), none, []⟩),
              (true, ⟨(some 65), .mv (.t 8), none, []⟩),
              (true, ⟨(some 66), .mv (.t 11), none, []⟩),
              (true, ⟨(some 67), .iaddr 1 (.t 65) (.t 66), none, [1, 2]⟩),
              (true, ⟨(some 68), .load .one (.t 67), none, [3]⟩),
              (true, ⟨(some 69), .mv (.t 8), none, []⟩),
              (false, ⟨(some 70), .mv (.t 13), none, []⟩),
              (false, ⟨(some 71), .iaddr 1 (.t 69) (.t 70), none, [5, 6]⟩),
              (false, ⟨(some 72), .load .one (.t 71), none, [7]⟩),
              (false, ⟨(some 73), .call (.c (.fn (.func 50) [] [])) [(.t 64), (.t 68), (.t 72)], none, [0, 4, 8]⟩)]) (
           .cond (.t 73) (.reg [⟨(some 74), .mv (.t 12), none, []⟩,
              ⟨(some 75), .mv (.t 13), none, []⟩,
              ⟨(some 76), .conv .u64 (.t 75), none, [1]⟩,
              ⟨(some 77), .bin .shl (.c (.sc (v64 1#64))) (.t 76), none, [2]⟩,
              ⟨(some 78), .bin .or (.t 74) (.t 77), none, [0, 3]⟩,
              ⟨(some 12), .mv (.t 78), none, [4, 0, 1, 2, 3, 4]⟩]) (
           .skip)))) (
         .reg [⟨(some 62), .mv (.t 13), none, []⟩,
           ⟨(some 63), .bin .add (.t 62) (.c (.sc (.int .i64 1))), none, [0]⟩,
           ⟨(some 13), .mv (.t 63), none, [1, 0, 1]⟩]))
def lp1_ref35_Generated : ACode :=
 .seq (.seq (.reg [⟨(some 52), .mv (.t 11), none, []⟩,
        ⟨(some 53), .mv (.t 8), none, []⟩,
        ⟨(some 54), .len .sl (.t 53), none, [1]⟩,
        ⟨(some 55), .bin .lss (.t 52) (.t 54), none, [0, 2]⟩]) (
     .cond (.t 55) (.skip) (
     .exit 2))) (
    .seq (.block 3 (.seq (.reg [⟨(some 12), .mv (.c (.sc (v64 0#64))), none, []⟩]) (
      .seq (.seq (.reg [⟨(some 13), .mv (.c (.sc (.int .i64 0))), none, []⟩]) (
       .block 4 (.loop lp2_ref35_Generated))) (
      .reg [⟨(some 79), .faddr 0 .one (.t 10), none, []⟩,
        ⟨(some 80), .load .one (.t 79), none, [0]⟩,
        ⟨(some 81), .mv (.t 12), none, []⟩,
        ⟨(some 82), .bslice 1 1 (.sc (v64 0#64)) [(0, (.t 81))], none, [2]⟩,
        ⟨(some 83), .append 1 8 (.t 80) (.t 82), none, [1, 3]⟩,
        ⟨(some 84), .faddr 0 .one (.t 10), none, [0, 1, 2, 3, 4]⟩,
        ⟨none, .store 1 (.t 84) (.t 83), none, [5, 4, 4, 0, 1, 2, 3, 4]⟩])))) (
    .reg [⟨(some 56), .mv (.t 11), none, []⟩,
      ⟨(some 57), .bin .add (.t 56) (.c (.sc (.int .i64 1))), none, [0]⟩,
      ⟨(some 11), .mv (.t 57), none, [1, 0, 1]⟩]))
/-- apodixis/apodixisref35.Generated -/
def ann_ref35_Generated : List Nat := [2]
def code_ref35_Generated : ACode :=
 .seq (.reg [⟨(some 2), .box (.t 0), none, []⟩,
    ⟨(some 4), .new [(.sl 0 [] .nil)], none, []⟩,
    ⟨(some 5), .mv (.c (.sl 0 [] .nil)), none, []⟩,
    ⟨(some 6), .mv (.c (.sc (.int .i64 0))), none, [2]⟩]) (
 .seq (.seq (.reg [⟨(some 14), .load (.agg 1) (.t 2), none, []⟩,
     ⟨(some 15), .call (.c (.fn (.func 49) [] [])) [(.t 14)], none, [0]⟩,
     ⟨(some 16), .un .not (.t 15), none, [1]⟩]) (
  .cond (.t 16) (.seq (.reg [⟨(some 17), .build [(.sl 0 [] .nil)] [], none, []⟩,
      ⟨none, .store 1 (.t 4) (.t 17), none, [0, 0]⟩,
      ⟨(some 5), .mv (.c (.sl 0 [] .nil)), none, [1, 0, 1]⟩,
      ⟨(some 6), .mv (.c (.sc (.int .i64 371))), none, [2, 0, 1, 2]⟩]) (
   .ret)) (
  .skip))) (
 .seq (.seq (.reg [⟨(some 18), .mv (.t 1), none, []⟩,
     ⟨(some 19), .bin .lss (.t 18) (.c (.sc (.int .i64 0))), none, [0]⟩,
     ⟨(some 20), .mv (.t 19), none, [1]⟩,
     ⟨(some 21), .mv (.t 1), (some (20, false)), [2]⟩,
     ⟨(some 22), .faddr 0 .one (.t 2), (some (20, false)), [2]⟩,
     ⟨(some 23), .load .one (.t 22), (some (20, false)), [4, 2]⟩,
     ⟨(some 24), .len .sl (.t 23), (some (20, false)), [5, 2]⟩,
     ⟨(some 25), .bin .geq (.t 21) (.t 24), (some (20, false)), [3, 6, 2]⟩,
     ⟨(some 26), .pick (.t 20) (.c (.sc (.bool true))) (.t 25), none, [2, 7]⟩]) (
  .cond (.t 26) (.seq (.reg [⟨(some 27), .build [(.sl 0 [] .nil)] [], none, []⟩,
      ⟨none, .store 1 (.t 4) (.t 27), none, [0, 0]⟩,
      ⟨(some 5), .mv (.c (.sl 0 [] .nil)), none, [1, 0, 1]⟩,
      ⟨(some 6), .mv (.c (.sc (.int .i64 5))), none, [2, 0, 1, 2]⟩]) (
   .ret)) (
  .skip))) (
 .seq (.reg [⟨(some 28), .load (.agg 1) (.t 2), none, []⟩,
    ⟨(some 29), .mv (.t 1), none, []⟩,
    ⟨(some 30), .call (.c (.fn (.func 51) [] [])) [(.t 28), (.t 29)], none, [0, 1]⟩,
    ⟨(some 31), .mv (.t 1), none, []⟩,
    ⟨(some 32), .conv .u64 (.t 31), none, [3]⟩,
    ⟨(some 33), .bin .shl (.c (.sc (v64 1#64))) (.t 32), none, [4]⟩,
    ⟨(some 34), .bin .or (.t 30) (.t 33), none, [2, 5]⟩,
    ⟨(some 7), .mv (.t 34), none, [6, 2, 0, 1, 2, 3, 4, 5, 6]⟩]) (
 .seq (.reg [⟨(some 8), .mv (.c (.sl 0 [] .nil)), none, []⟩]) (
 .seq (.seq (.reg [⟨(some 9), .mv (.c (.sc (.int .i64 0))), none, []⟩]) (
  .block 0 (.loop lp0_ref35_Generated))) (
 .seq (.reg [⟨(some 10), .new [(.sl 0 [] .nil)], none, []⟩]) (
 .seq (.seq (.reg [⟨(some 11), .mv (.c (.sc (.int .i64 0))), none, []⟩]) (
  .block 2 (.loop lp1_ref35_Generated))) (
 .seq (.reg [⟨(some 85), .load (.agg 1) (.t 10), none, []⟩,
    ⟨(some 86), .mv (.t 8), none, []⟩,
    ⟨none, .store 1 (.t 4) (.t 85), none, [0, 0]⟩,
    ⟨(some 5), .mv (.t 86), none, [1, 2, 0, 1, 2]⟩,
    ⟨(some 6), .mv (.c (.sc (.int .i64 0))), none, [3, 0, 1, 2, 3]⟩]) (
 .ret)))))))))
def res_ref35_Generated : List ResA := [.cell 4 (.agg 1), .t 5, .t 6]
theorem comp_ref35_Generated : Tryd.f29.body.bind (compCode PP ann_ref35_Generated 87) = some code_ref35_Generated := by kernel_rfl
theorem resc_ref35_Generated : mapM' (compRes PP) Tryd.f29.results.toList = some res_ref35_Generated := by kernel_rfl
theorem body_ref35_Generated : hasBody PP 29 = true := by kernel_rfl
theorem enter_ref35_Generated {args : List AV} {h : AHeap} {R : AEnd → AHeap → Prop} (hargs : args.length ≤ 87) (hw : codeWp ⟨PP, Gl, 87, ann_ref35_Generated, h.length, none⟩ code_ref35_Generated (retPost PP Gl h res_ref35_Generated R) (initEnv args) h) : ACalls PP Gl 29 args h R :=
  acalls_of_code Tryd.func29 body_ref35_Generated comp_ref35_Generated resc_ref35_Generated hargs (Nat.le_trans hargs (by decide)) (codeWp_sound mixed hw)

def lp0_law35_sameSees : ACode :=
 .seq (.seq (.reg [⟨(some 11), .mv (.t 5), none, []⟩,
        ⟨(some 12), .mv (.t 0), none, []⟩,
        ⟨(some 13), .len .sl (.t 12), none, [1]⟩,
        ⟨(some 14), .bin .lss (.t 11) (.t 13), none, [0, 2]⟩]) (
     .cond (.t 14) (.skip) (
     .exit 0))) (
    .seq (.block 1 (.seq (.dreg [(true, ⟨(some 17), .mv (.t 0), none, []⟩),
         (true, ⟨(some 18), .mv (.t 5), none, []⟩),
         (true, ⟨(some 19), .iaddr 1 (.t 17) (.t 18), none, [0, 1]⟩),
         (true, ⟨(some 20), .load .one (.t 19), none, [2]⟩),
         (true, ⟨(some 21), .mv (.t 1), none, []⟩),
         (false, ⟨(some 22), .mv (.t 5), none, []⟩),
         (false, ⟨(some 23), .iaddr 1 (.t 21) (.t 22), none, [4, 5]⟩),
         (false, ⟨(some 24), .load .one (.t 23), none, [6]⟩),
         (false, ⟨(some 25), .bin .neq (.t 20) (.t 24), none, [3, 7]⟩)]) (
      .cond (.t 25) (.seq (.reg [⟨(some 4), .mv (.c (.sc (.bool false))), none, []⟩]) (
       .ret)) (
      .skip)))) (
    .reg [⟨(some 15), .mv (.t 5), none, []⟩,
      ⟨(some 16), .bin .add (.t 15) (.c (.sc (.int .i64 1))), none, [0]⟩,
      ⟨(some 5), .mv (.t 16), none, [1, 0, 1]⟩]))
/-- apodixis/apodixislaw35.sameSees -/
def ann_law35_sameSees : List Nat := []
def code_law35_sameSees : ACode :=
 .seq (.reg [⟨(some 4), .mv (.c (.sc (.bool false))), none, []⟩]) (
 .seq (.seq (.reg [⟨(some 6), .mv (.t 0), none, []⟩,
     ⟨(some 7), .len .sl (.t 6), none, [0]⟩,
     ⟨(some 8), .mv (.t 1), none, []⟩,
     ⟨(some 9), .len .sl (.t 8), none, [2]⟩,
     ⟨(some 10), .bin .neq (.t 7) (.t 9), none, [1, 3]⟩]) (
  .cond (.t 10) (.seq (.reg [⟨(some 4), .mv (.c (.sc (.bool false))), none, []⟩]) (
   .ret)) (
  .skip))) (
 .seq (.seq (.reg [⟨(some 5), .mv (.c (.sc (.int .i64 0))), none, []⟩]) (
  .block 0 (.loop lp0_law35_sameSees))) (
 .seq (.reg [⟨(some 4), .mv (.c (.sc (.bool true))), none, []⟩]) (
 .ret))))
def res_law35_sameSees : List ResA := [.t 4]
theorem comp_law35_sameSees : Tryd.f30.body.bind (compCode PP ann_law35_sameSees 26) = some code_law35_sameSees := by kernel_rfl
theorem resc_law35_sameSees : mapM' (compRes PP) Tryd.f30.results.toList = some res_law35_sameSees := by kernel_rfl
theorem body_law35_sameSees : hasBody PP 30 = true := by kernel_rfl
theorem enter_law35_sameSees {args : List AV} {h : AHeap} {R : AEnd → AHeap → Prop} (hargs : args.length ≤ 26) (hw : codeWp ⟨PP, Gl, 26, ann_law35_sameSees, h.length, none⟩ code_law35_sameSees (retPost PP Gl h res_law35_sameSees R) (initEnv args) h) : ACalls PP Gl 30 args h R :=
  acalls_of_code Tryd.func30 body_law35_sameSees comp_law35_sameSees resc_law35_sameSees hargs (Nat.le_trans hargs (by decide)) (codeWp_sound mixed hw)

/-- apodixis/apodixislaw35.reflexive -/
def ann_law35_reflexive : List Nat := [0]
def code_law35_reflexive : ACode :=
 .seq (.reg [⟨(some 0), .pnew 2, none, []⟩]) (
 .seq (.reg [⟨(some 1), .call (.c (.fn (.func 21) [] [])) [(.c (.sc (.string ⟨#[112]⟩))), (.c (.sl 0 [] .nil))], none, []⟩,
    ⟨(some 2), .bslice 2 1 (.agg [(.sc (.string ⟨#[]⟩)), (.sl 0 [] .nil)]) [(0, (.t 1))], none, [0]⟩,
    ⟨(some 3), .call (.c (.fn (.func 21) [] [])) [(.c (.sc (.string ⟨#[98, 111, 120]⟩))), (.t 2)], none, [1, 0]⟩,
    ⟨(some 4), .call (.c (.fn (.func 21) [] [])) [(.c (.sc (.string ⟨#[112]⟩))), (.c (.sl 0 [] .nil))], none, [2]⟩,
    ⟨(some 5), .bslice 2 2 (.agg [(.sc (.string ⟨#[]⟩)), (.sl 0 [] .nil)]) [(0, (.t 3)), (1, (.t 4))], none, [2, 3]⟩,
    ⟨(some 6), .call (.c (.fn (.func 21) [] [])) [(.c (.sc (.string ⟨#[105, 109, 112]⟩))), (.t 5)], none, [4, 3]⟩,
    ⟨none, .pstore 2 0 (.t 6), none, [5, 5, 0, 1, 2, 3, 4, 5]⟩]) (
 .ret))
def res_law35_reflexive : List ResA := [.cell 0 (.agg 2)]
theorem comp_law35_reflexive : Tryd.f31.body.bind (compCode PP ann_law35_reflexive 7) = some code_law35_reflexive := by kernel_rfl
theorem resc_law35_reflexive : mapM' (compRes PP) Tryd.f31.results.toList = some res_law35_reflexive := by kernel_rfl
theorem body_law35_reflexive : hasBody PP 31 = true := by kernel_rfl
theorem enter_law35_reflexive {args : List AV} {h : AHeap} {R : AEnd → AHeap → Prop} (hargs : args.length ≤ 7) (hw : codeWp ⟨PP, Gl, 7, ann_law35_reflexive, h.length, none⟩ code_law35_reflexive (retPost PP Gl h res_law35_reflexive R) (initEnv args) h) : ACalls PP Gl 31 args h R :=
  acalls_of_code Tryd.func31 body_law35_reflexive comp_law35_reflexive resc_law35_reflexive hargs (Nat.le_trans hargs (by decide)) (codeWp_sound mixed hw)

/-- apodixis/modal.started -/
def ann_modal_started : List Nat := [2]
def code_modal_started : ACode :=
 .seq (.reg [⟨(some 2), .box (.t 0), none, []⟩,
    ⟨(some 4), .mv (.c (.sc (.map none))), none, []⟩,
    ⟨(some 5), .mv (.c (.sc (.int .i64 0))), none, [1]⟩]) (
 .seq (.seq (.reg [⟨(some 8), .load (.agg 1) (.t 2), none, []⟩,
     ⟨(some 9), .call (.c (.fn (.func 45) [] [])) [(.t 8)], none, [0]⟩,
     ⟨(some 10), .un .not (.t 9), none, [1]⟩]) (
  .cond (.t 10) (.seq (.reg [⟨(some 4), .mv (.c (.sc (.map none))), none, []⟩,
      ⟨(some 5), .mv (.c (.sc (.int .i64 371))), none, [0, 0]⟩]) (
   .ret)) (
  .skip))) (
 .seq (.reg [⟨(some 12), .mv (.t 1), none, []⟩,
    ⟨(some 13), .call (.c (.fn (.func 52) [] [])) [(.t 12)], none, [0]⟩,
    ⟨(some 11), .mv (.t 13), none, [1]⟩,
    ⟨(some 14), .extract (.t 11) 0, none, [2]⟩,
    ⟨(some 15), .extract (.t 11) 1, none, [2]⟩,
    ⟨(some 6), .mv (.t 14), none, [3, 1, 0, 1, 2, 3]⟩,
    ⟨(some 7), .mv (.t 15), none, [4, 5, 0, 1, 2, 3, 4, 5]⟩]) (
 .seq (.seq (.reg [⟨(some 16), .mv (.t 7), none, []⟩,
     ⟨(some 17), .un .not (.t 16), none, [0]⟩]) (
  .cond (.t 17) (.seq (.reg [⟨(some 4), .mv (.c (.sc (.map none))), none, []⟩,
      ⟨(some 5), .mv (.c (.sc (.int .i64 370))), none, [0, 0]⟩]) (
   .ret)) (
  .skip))) (
 .seq (.reg [⟨(some 18), .mv (.t 6), none, []⟩,
    ⟨(some 4), .mv (.t 18), none, [0, 0]⟩,
    ⟨(some 5), .mv (.c (.sc (.int .i64 0))), none, [1, 0, 1]⟩]) (
 .ret)))))
def res_modal_started : List ResA := [.t 4, .t 5]
theorem comp_modal_started : Tryd.f32.body.bind (compCode PP ann_modal_started 19) = some code_modal_started := by kernel_rfl
theorem resc_modal_started : mapM' (compRes PP) Tryd.f32.results.toList = some res_modal_started := by kernel_rfl
theorem body_modal_started : hasBody PP 32 = true := by kernel_rfl
theorem enter_modal_started {args : List AV} {h : AHeap} {R : AEnd → AHeap → Prop} (hargs : args.length ≤ 19) (hw : codeWp ⟨PP, Gl, 19, ann_modal_started, h.length, none⟩ code_modal_started (retPost PP Gl h res_modal_started R) (initEnv args) h) : ACalls PP Gl 32 args h R :=
  acalls_of_code Tryd.func32 body_modal_started comp_modal_started resc_modal_started hargs (Nat.le_trans hargs (by decide)) (codeWp_sound mixed hw)

/-- slices.Clone[[]apodixis/api.Tree,apodixis/api.Tree] -/
def ann_slices_Clone_api_Tree_api_Tree : List Nat := []
def code_slices_Clone_api_Tree_api_Tree : ACode :=
 .seq (.reg [⟨(some 2), .mv (.c (.sl 0 [] .nil)), none, []⟩]) (
 .seq (.seq (.reg [⟨(some 3), .mv (.t 0), none, []⟩,
     ⟨(some 4), .eqnil .sl false (.t 3) (.c (.sl 0 [] .nil)), none, [0]⟩]) (
  .cond (.t 4) (.seq (.reg [⟨(some 2), .mv (.c (.sl 0 [] .nil)), none, []⟩]) (
   .ret)) (
  .skip))) (
 .seq (.reg [⟨(some 5), .bslice 2 0 (.agg [(.sc (.string ⟨#[]⟩)), (.sl 0 [] .nil)]) [], none, []⟩,
    ⟨(some 6), .mv (.t 0), none, []⟩,
    ⟨(some 7), .append 2 40 (.t 5) (.t 6), none, [0, 1]⟩,
    ⟨(some 2), .mv (.t 7), none, [2, 2, 0, 1, 2]⟩]) (
 .ret)))
def res_slices_Clone_api_Tree_api_Tree : List ResA := [.t 2]
theorem comp_slices_Clone_api_Tree_api_Tree : Tryd.f33.body.bind (compCode PP ann_slices_Clone_api_Tree_api_Tree 8) = some code_slices_Clone_api_Tree_api_Tree := by kernel_rfl
theorem resc_slices_Clone_api_Tree_api_Tree : mapM' (compRes PP) Tryd.f33.results.toList = some res_slices_Clone_api_Tree_api_Tree := by kernel_rfl
theorem body_slices_Clone_api_Tree_api_Tree : hasBody PP 33 = true := by kernel_rfl
theorem enter_slices_Clone_api_Tree_api_Tree {args : List AV} {h : AHeap} {R : AEnd → AHeap → Prop} (hargs : args.length ≤ 8) (hw : codeWp ⟨PP, Gl, 8, ann_slices_Clone_api_Tree_api_Tree, h.length, none⟩ code_slices_Clone_api_Tree_api_Tree (retPost PP Gl h res_slices_Clone_api_Tree_api_Tree R) (initEnv args) h) : ACalls PP Gl 33 args h R :=
  acalls_of_code Tryd.func33 body_slices_Clone_api_Tree_api_Tree comp_slices_Clone_api_Tree_api_Tree resc_slices_Clone_api_Tree_api_Tree hargs (Nat.le_trans hargs (by decide)) (codeWp_sound mixed hw)

/-- apodixis/modal.check -/
def ann_modal_check : List Nat := [2, 3]
def code_modal_check : ACode :=
 .seq (.reg [⟨(some 2), .box (.t 0), none, []⟩,
    ⟨(some 3), .box (.t 1), none, []⟩,
    ⟨(some 4), .new [(.sc (.int .i64 0))], none, []⟩]) (
 .seq (.reg [⟨(some 9), .load (.agg 2) (.t 3), none, []⟩,
    ⟨(some 10), .call (.c (.fn (.func 53) [] [])) [(.t 9)], none, [0]⟩,
    ⟨(some 8), .mv (.t 10), none, [1]⟩,
    ⟨(some 11), .extract (.t 8) 0, none, [2]⟩,
    ⟨(some 12), .extract (.t 8) 1, none, [2]⟩,
    ⟨(some 5), .mv (.t 11), none, [3, 1, 0, 1, 2, 3]⟩,
    ⟨(some 6), .mv (.t 12), none, [4, 5, 0, 1, 2, 3, 4, 5]⟩]) (
 .seq (.block 0 (.seq (.reg [⟨(some 14), .mv (.t 5), none, []⟩,
      ⟨(some 15), .bin .gtr (.t 14) (.c (.sc (.int .i64 4000))), none, [0]⟩,
      ⟨(some 13), .mv (.t 15), none, [1]⟩]) (
   .cond (.t 13) (.seq (.reg [⟨none, .store 1 (.t 4) (.c (.sc (.int .i64 4))), none, []⟩]) (
    .ret)) (
   .seq (.reg [⟨(some 17), .mv (.t 6), none, []⟩,
       ⟨(some 18), .bin .gtr (.t 17) (.c (.sc (.int .i64 100))), none, [0]⟩,
       ⟨(some 16), .mv (.t 18), none, [1]⟩]) (
    .cond (.t 16) (.seq (.reg [⟨none, .store 1 (.t 4) (.c (.sc (.int .i64 9))), none, []⟩]) (
     .ret)) (
    .skip)))))) (
 .seq (.reg [⟨(some 19), .mkFunc (.func 54) [] [(.t 4)], none, []⟩,
    ⟨none, .defer (.t 19) [], none, [0]⟩]) (
 .seq (.reg [⟨(some 7), .new [(.sc .nilFunc)], none, []⟩]) (
 .seq (.reg [⟨(some 20), .mkFunc (.func 55) [] [(.t 2), (.t 7)], none, []⟩,
    ⟨none, .store 1 (.t 7) (.t 20), none, [0, 0]⟩]) (
 .seq (.reg [⟨(some 21), .load .one (.t 7), none, []⟩,
    ⟨(some 22), .load (.agg 2) (.t 3), none, []⟩,
    ⟨(some 23), .call (.t 21) [(.t 22)], none, [0, 1]⟩]) (
 .seq (.reg [⟨none, .store 1 (.t 4) (.c (.sc (.int .i64 0))), none, []⟩]) (
 .ret))))))))
def res_modal_check : List ResA := [.cell 4 .one]
theorem comp_modal_check : Tryd.f34.body.bind (compCode PP ann_modal_check 24) = some code_modal_check := by kernel_rfl
theorem resc_modal_check : mapM' (compRes PP) Tryd.f34.results.toList = some res_modal_check := by kernel_rfl
theorem body_modal_check : hasBody PP 34 = true := by kernel_rfl
theorem enter_modal_check {args : List AV} {h : AHeap} {R : AEnd → AHeap → Prop} (hargs : args.length ≤ 24) (hw : codeWp ⟨PP, Gl, 24, ann_modal_check, h.length, none⟩ code_modal_check (retPost PP Gl h res_modal_check R) (initEnv args) h) : ACalls PP Gl 34 args h R :=
  acalls_of_code Tryd.func34 body_modal_check comp_modal_check resc_modal_check hargs (Nat.le_trans hargs (by decide)) (codeWp_sound mixed hw)

def ra0_modal_follows : ACode :=
 .reg [⟨(some 15), .mv (.t 40), none, []⟩]
def lp0_modal_follows : ACode :=
 .seq (.reg [⟨(some 44), .bin .lss (.t 43) (.t 42), none, []⟩]) (
        .seq (.cond (.t 44) (.skip) (
         .exit 2)) (
        .seq (.block 3 (.seq (.reg [⟨(some 45), .iaddr 2 (.t 41) (.t 43), none, []⟩,
             ⟨(some 46), .load (.agg 2) (.t 45), none, [0]⟩,
             ⟨(some 17), .pnew 2, none, []⟩,
             ⟨none, .pstore 2 17 (.t 46), none, [2, 1, 0, 1, 2]⟩]) (
          .reg [⟨(some 47), .faddr 2 .one (.t 13), none, []⟩,
            ⟨(some 48), .load .one (.t 47), none, [0]⟩,
            ⟨(some 49), .faddr 0 .one (.t 17), none, []⟩,
            ⟨(some 50), .load .one (.t 49), none, [2]⟩,
            ⟨(some 51), .faddr 1 .one (.t 17), none, []⟩,
            ⟨(some 52), .load .one (.t 51), none, [4]⟩,
            ⟨none, .mapUpd true (.t 48) (.t 50) (.t 52), none, [1, 3, 5, 0, 1, 2, 3, 4, 5]⟩]))) (
        .reg [⟨(some 53), .bin .add (.t 43) (.c (.sc (.int .i64 1))), none, []⟩,
          ⟨(some 43), .mv (.t 53), none, [0]⟩])))
def rb0_modal_follows : ACode :=
 .block 1 (.seq (.seq (.reg [⟨(some 41), .mv (.t 15), none, []⟩,
         ⟨(some 42), .len .sl (.t 41), none, [0]⟩,
         ⟨(some 43), .mv (.c (.sc (.int .i64 0))), none, []⟩]) (
      .block 2 (.loop lp0_modal_follows))) (
     .seq (.reg [⟨(some 54), .load .one (.t 6), none, []⟩,
        ⟨(some 55), .load .one (.t 14), none, []⟩,
        ⟨(some 56), .call (.c (.fn (.func 59) [] [])) [(.t 54), (.t 55)], none, [0, 1]⟩,
        ⟨(some 57), .un .not (.t 56), none, [2]⟩,
        ⟨(some 58), .mv (.t 57), none, [3, 2]⟩,
        ⟨(some 59), .load .one (.t 14), (some (58, true)), [4]⟩,
        ⟨(some 60), .load (.agg 2) (.t 7), (some (58, true)), [4]⟩,
        ⟨(some 61), .call (.t 59) [(.t 60)], (some (58, true)), [5, 6, 4, 4]⟩,
        ⟨(some 62), .pick (.t 58) (.t 61) (.c (.sc (.bool false))), none, [4, 7]⟩]) (
     .cond (.t 62) (.seq (.dreg [(true, ⟨(some 63), .mv (.t 15), none, []⟩),
         (true, ⟨(some 64), .load (.agg 1) (.t 4), none, []⟩),
         (true, ⟨(some 66), .load (.agg 3) (.t 13), none, []⟩),
         (true, ⟨(some 67), .load (.agg 2) (.t 7), none, []⟩),
         (false, ⟨(some 65), .call (.c (.fn (.func 42) [] [])) [(.t 64)], none, [1]⟩),
         (false, ⟨(some 68), .call (.c (.fn (.func 44) [] [])) [(.t 66), (.t 67)], none, [3, 4, 2]⟩),
         (false, ⟨(some 69), .bin .andNot (.t 65) (.t 68), none, [2, 5]⟩),
         (false, ⟨(some 70), .call (.c (.fn (.func 60) [] [])) [(.t 69)], none, [6, 5]⟩),
         (false, ⟨none, .store 1 (.t 8) (.c (.sc (.bool false))), none, [7]⟩),
         (false, ⟨none, .store 1 (.t 9) (.t 63), none, [0, 8, 0, 8]⟩),
         (false, ⟨none, .store 1 (.t 10) (.t 70), none, [7, 9, 0, 1, 2, 3, 4, 5, 6, 7, 8, 9]⟩),
         (false, ⟨none, .store 1 (.t 11) (.c (.sc (.int .i64 0))), none, [10, 0, 1, 2, 3, 4, 5, 6, 7, 8, 9, 10]⟩)]) (
      .ret)) (
     .skip))))
/-- apodixis/modal.follows -/
def ann_modal_follows : List Nat := [4, 6, 7, 13, 14, 17]
def code_modal_follows : ACode :=
 .seq (.reg [⟨(some 4), .box (.t 0), none, []⟩,
    ⟨(some 6), .box (.t 2), none, []⟩,
    ⟨(some 7), .box (.t 3), none, []⟩,
    ⟨(some 8), .new [(.sc (.bool false))], none, []⟩,
    ⟨(some 9), .new [(.sl 0 [] .nil)], none, []⟩,
    ⟨(some 10), .new [(.sc (.int .i64 0))], none, []⟩,
    ⟨(some 11), .new [(.sc (.int .i64 0))], none, []⟩]) (
 .seq (.dreg [(true, ⟨(some 18), .mv (.t 1), none, []⟩),
    (true, ⟨(some 19), .load .one (.t 6), none, []⟩),
    (true, ⟨(some 21), .load (.agg 2) (.t 7), none, []⟩),
    (true, ⟨(some 22), .bslice 2 1 (.agg [(.sc (.string ⟨#[]⟩)), (.sl 0 [] .nil)]) [(0, (.t 21))], none, [3]⟩),
    (false, ⟨(some 20), .call (.c (.fn (.func 33) [] [])) [(.t 19)], none, [1]⟩),
    (false, ⟨(some 23), .append 2 40 (.t 20) (.t 22), none, [2, 4, 2]⟩),
    (false, ⟨(some 24), .call (.c (.fn (.func 43) [] [])) [(.t 18), (.t 23)], none, [0, 5, 5]⟩),
    (false, ⟨(some 12), .mv (.t 24), none, [6, 6, 0, 1, 2, 3, 4, 5, 6]⟩)]) (
 .seq (.seq (.reg [⟨(some 25), .mv (.t 12), none, []⟩,
     ⟨(some 26), .len .sl (.t 25), none, [0]⟩,
     ⟨(some 27), .faddr 0 .one (.t 4), none, []⟩,
     ⟨(some 28), .load .one (.t 27), none, [2]⟩,
     ⟨(some 29), .len .sl (.t 28), none, [3]⟩,
     ⟨(some 30), .bin .mul (.t 26) (.t 29), none, [1, 4]⟩,
     ⟨(some 31), .bin .gtr (.t 30) (.c (.sc (.int .i64 12))), none, [5]⟩]) (
  .cond (.t 31) (.seq (.reg [⟨none, .store 1 (.t 8) (.c (.sc (.bool false))), none, []⟩,
      ⟨none, .store 1 (.t 9) (.c (.sl 0 [] .nil)), none, [0, 0]⟩,
      ⟨none, .store 1 (.t 10) (.c (.sc (.int .i64 0))), none, [1, 0, 1]⟩,
      ⟨none, .store 1 (.t 11) (.c (.sc (.int .i64 15))), none, [2, 0, 1, 2]⟩]) (
   .ret)) (
  .skip))) (
 .seq (.reg [⟨(some 32), .load (.agg 1) (.t 4), none, []⟩,
    ⟨(some 33), .mv (.t 1), none, []⟩,
    ⟨(some 34), .mkMap, none, []⟩,
    ⟨(some 35), .build [(.sl 0 [] .nil), (.sc (.map none)), (.sc (.map none))] [(0, 1, (.t 32)), (1, 1, (.t 33)), (2, 1, (.t 34))], none, [0, 1, 2]⟩,
    ⟨(some 13), .pnew 3, none, []⟩,
    ⟨none, .pstore 3 13 (.t 35), none, [4, 3, 0, 1, 2, 3, 4]⟩]) (
 .seq (.reg [⟨(some 36), .mkFunc (.func 57) [] [(.t 13), (.t 4)], none, []⟩,
    ⟨(some 14), .pnew 1, none, []⟩,
    ⟨none, .pstore 1 14 (.t 36), none, [1, 0, 0, 1]⟩]) (
 .seq (.seq (.reg [⟨(some 37), .load (.agg 1) (.t 4), none, []⟩,
     ⟨(some 38), .mv (.t 12), none, []⟩,
     ⟨(some 39), .call (.c (.fn (.func 58) [] [])) [(.t 37), (.t 38)], none, [0, 1]⟩]) (
  .block 0 (.rangeF (.t 39) [40] ra0_modal_follows rb0_modal_follows))) (
 .seq (.reg [⟨none, .store 1 (.t 8) (.c (.sc (.bool true))), none, []⟩,
    ⟨none, .store 1 (.t 9) (.c (.sl 0 [] .nil)), none, [0, 0]⟩,
    ⟨none, .store 1 (.t 10) (.c (.sc (.int .i64 0))), none, [1, 0, 1]⟩,
    ⟨none, .store 1 (.t 11) (.c (.sc (.int .i64 0))), none, [2, 0, 1, 2]⟩]) (
 .ret)))))))
def res_modal_follows : List ResA := [.cell 8 .one, .cell 9 .one, .cell 10 .one, .cell 11 .one]
theorem comp_modal_follows : Tryd.f35.body.bind (compCode PP ann_modal_follows 71) = some code_modal_follows := by kernel_rfl
theorem resc_modal_follows : mapM' (compRes PP) Tryd.f35.results.toList = some res_modal_follows := by kernel_rfl
theorem body_modal_follows : hasBody PP 35 = true := by kernel_rfl
theorem enter_modal_follows {args : List AV} {h : AHeap} {R : AEnd → AHeap → Prop} (hargs : args.length ≤ 71) (hw : codeWp ⟨PP, Gl, 71, ann_modal_follows, h.length, none⟩ code_modal_follows (retPost PP Gl h res_modal_follows R) (initEnv args) h) : ACalls PP Gl 35 args h R :=
  acalls_of_code Tryd.func35 body_modal_follows comp_modal_follows resc_modal_follows hargs (Nat.le_trans hargs (by decide)) (codeWp_sound mixed hw)

/-- apodixis/apodixisref35.begin -/
def ann_ref35_begin : List Nat := [2]
def code_ref35_begin : ACode :=
 .seq (.reg [⟨(some 2), .box (.t 0), none, []⟩,
    ⟨(some 4), .mv (.c (.sc (.int .i64 0))), none, []⟩]) (
 .seq (.seq (.reg [⟨(some 5), .load (.agg 1) (.t 2), none, []⟩,
     ⟨(some 6), .call (.c (.fn (.func 49) [] [])) [(.t 5)], none, [0]⟩,
     ⟨(some 7), .un .not (.t 6), none, [1]⟩]) (
  .cond (.t 7) (.seq (.reg [⟨(some 4), .mv (.c (.sc (.int .i64 371))), none, []⟩]) (
   .ret)) (
  .skip))) (
 .seq (.seq (.reg [⟨(some 8), .mv (.t 1), none, []⟩,
     ⟨(some 9), .call (.c (.fn (.func 61) [] [])) [(.t 8)], none, [0]⟩,
     ⟨(some 10), .un .not (.t 9), none, [1]⟩]) (
  .cond (.t 10) (.seq (.reg [⟨(some 4), .mv (.c (.sc (.int .i64 370))), none, []⟩]) (
   .ret)) (
  .skip))) (
 .seq (.reg [⟨(some 4), .mv (.c (.sc (.int .i64 0))), none, []⟩]) (
 .ret))))
def res_ref35_begin : List ResA := [.t 4]
theorem comp_ref35_begin : Tryd.f36.body.bind (compCode PP ann_ref35_begin 11) = some code_ref35_begin := by kernel_rfl
theorem resc_ref35_begin : mapM' (compRes PP) Tryd.f36.results.toList = some res_ref35_begin := by kernel_rfl
theorem body_ref35_begin : hasBody PP 36 = true := by kernel_rfl
theorem enter_ref35_begin {args : List AV} {h : AHeap} {R : AEnd → AHeap → Prop} (hargs : args.length ≤ 11) (hw : codeWp ⟨PP, Gl, 11, ann_ref35_begin, h.length, none⟩ code_ref35_begin (retPost PP Gl h res_ref35_begin R) (initEnv args) h) : ACalls PP Gl 36 args h R :=
  acalls_of_code Tryd.func36 body_ref35_begin comp_ref35_begin resc_ref35_begin hargs (Nat.le_trans hargs (by decide)) (codeWp_sound mixed hw)

/-- apodixis/apodixisref35.check -/
def ann_ref35_check : List Nat := [3]
def code_ref35_check : ACode :=
 .seq (.reg [⟨(some 3), .box (.t 1), none, []⟩,
    ⟨(some 4), .mv (.c (.sc (.int .i64 0))), none, []⟩]) (
 .seq (.reg [⟨(some 8), .load (.agg 2) (.t 3), none, []⟩,
    ⟨(some 9), .call (.c (.fn (.func 62) [] [])) [(.t 8), (.c (.sc (.int .i64 1)))], none, [0]⟩,
    ⟨(some 7), .mv (.t 9), none, [1]⟩,
    ⟨(some 10), .extract (.t 7) 0, none, [2]⟩,
    ⟨(some 11), .extract (.t 7) 1, none, [2]⟩,
    ⟨(some 5), .mv (.t 10), none, [3, 1, 0, 1, 2, 3]⟩,
    ⟨(some 6), .mv (.t 11), none, [4, 5, 0, 1, 2, 3, 4, 5]⟩]) (
 .seq (.seq (.reg [⟨(some 12), .mv (.t 5), none, []⟩,
     ⟨(some 13), .bin .gtr (.t 12) (.c (.sc (.int .i64 4000))), none, [0]⟩]) (
  .cond (.t 13) (.seq (.reg [⟨(some 4), .mv (.c (.sc (.int .i64 4))), none, []⟩]) (
   .ret)) (
  .skip))) (
 .seq (.seq (.reg [⟨(some 14), .mv (.t 6), none, []⟩,
     ⟨(some 15), .bin .gtr (.t 14) (.c (.sc (.int .i64 100))), none, [0]⟩]) (
  .cond (.t 15) (.seq (.reg [⟨(some 4), .mv (.c (.sc (.int .i64 9))), none, []⟩]) (
   .ret)) (
  .skip))) (
 .seq (.seq (.reg [⟨(some 16), .mv (.t 0), none, []⟩,
     ⟨(some 17), .load (.agg 2) (.t 3), none, []⟩,
     ⟨(some 18), .call (.c (.fn (.func 63) [] [])) [(.t 16), (.t 17)], none, [0, 1]⟩,
     ⟨(some 19), .un .not (.t 18), none, [2]⟩]) (
  .cond (.t 19) (.seq (.reg [⟨(some 4), .mv (.c (.sc (.int .i64 370))), none, []⟩]) (
   .ret)) (
  .skip))) (
 .seq (.reg [⟨(some 4), .mv (.c (.sc (.int .i64 0))), none, []⟩]) (
 .ret))))))
def res_ref35_check : List ResA := [.t 4]
theorem comp_ref35_check : Tryd.f37.body.bind (compCode PP ann_ref35_check 20) = some code_ref35_check := by kernel_rfl
theorem resc_ref35_check : mapM' (compRes PP) Tryd.f37.results.toList = some res_ref35_check := by kernel_rfl
theorem body_ref35_check : hasBody PP 37 = true := by kernel_rfl
theorem enter_ref35_check {args : List AV} {h : AHeap} {R : AEnd → AHeap → Prop} (hargs : args.length ≤ 20) (hw : codeWp ⟨PP, Gl, 20, ann_ref35_check, h.length, none⟩ code_ref35_check (retPost PP Gl h res_ref35_check R) (initEnv args) h) : ACalls PP Gl 37 args h R :=
  acalls_of_code Tryd.func37 body_ref35_check comp_ref35_check resc_ref35_check hargs (Nat.le_trans hargs (by decide)) (codeWp_sound mixed hw)

def lp0_ref35_variables : ACode :=
 .seq (.seq (.reg [⟨(some 14), .mv (.t 7), none, []⟩,
          ⟨(some 15), .mv (.t 2), none, []⟩,
          ⟨(some 16), .len .sl (.t 15), none, [1]⟩,
          ⟨(some 17), .bin .lss (.t 14) (.t 16), none, [0, 2]⟩]) (
       .cond (.t 17) (.skip) (
       .exit 0))) (
      .seq (.block 1 (.seq (.dreg [(true, ⟨(some 20), .mv (.t 2), none, []⟩),
           (true, ⟨(some 21), .mv (.t 7), none, []⟩),
           (true, ⟨(some 22), .iaddr 1 (.t 20) (.t 21), none, [0, 1]⟩),
           (true, ⟨(some 23), .load .one (.t 22), none, [2]⟩),
           (false, ⟨(some 24), .faddr 0 .one (.t 4), none, []⟩),
           (false, ⟨(some 25), .load .one (.t 24), none, [4]⟩),
           (false, ⟨(some 26), .bin .eql (.t 23) (.t 25), none, [3, 5]⟩)]) (
        .cond (.t 26) (.seq (.reg [⟨(some 27), .mv (.t 2), none, []⟩,
            ⟨(some 6), .mv (.t 27), none, [0, 0]⟩]) (
         .ret)) (
        .skip)))) (
      .reg [⟨(some 18), .mv (.t 7), none, []⟩,
        ⟨(some 19), .bin .add (.t 18) (.c (.sc (.int .i64 1))), none, [0]⟩,
        ⟨(some 7), .mv (.t 19), none, [1, 0, 1]⟩]))
def lp1_ref35_variables : ACode :=
 .seq (.seq (.reg [⟨(some 35), .mv (.t 8), none, []⟩,
        ⟨(some 36), .faddr 1 .one (.t 4), none, []⟩,
        ⟨(some 37), .load .one (.t 36), none, [1]⟩,
        ⟨(some 38), .len .sl (.t 37), none, [2]⟩,
        ⟨(some 39), .bin .lss (.t 35) (.t 38), none, [0, 3]⟩]) (
     .cond (.t 39) (.skip) (
     .exit 2))) (
    .seq (.block 3 (.reg [⟨(some 42), .mv (.t 0), none, []⟩,
        ⟨(some 43), .faddr 1 .one (.t 4), none, []⟩,
        ⟨(some 44), .load .one (.t 43), none, [1]⟩,
        ⟨(some 45), .mv (.t 8), none, []⟩,
        ⟨(some 46), .iaddr 2 (.t 44) (.t 45), none, [2, 3]⟩,
        ⟨(some 47), .load (.agg 2) (.t 46), none, [4]⟩,
        ⟨(some 48), .mv (.t 2), none, []⟩,
        ⟨(some 49), .call (.c (.fn (.func 38) [] [])) [(.t 42), (.t 47), (.t 48)], none, [0, 5, 6]⟩,
        ⟨(some 2), .mv (.t 49), none, [7, 7, 0, 1, 2, 3, 4, 5, 6, 7]⟩])) (
    .reg [⟨(some 40), .mv (.t 8), none, []⟩,
      ⟨(some 41), .bin .add (.t 40) (.c (.sc (.int .i64 1))), none, [0]⟩,
      ⟨(some 8), .mv (.t 41), none, [1, 0, 1]⟩]))
/-- apodixis/apodixisref35.variables -/
def ann_ref35_variables : List Nat := [4]
def code_ref35_variables : ACode :=
 .seq (.reg [⟨(some 4), .box (.t 1), none, []⟩,
    ⟨(some 6), .mv (.c (.sl 0 [] .nil)), none, []⟩]) (
 .seq (.seq (.reg [⟨(some 9), .mv (.t 0), none, []⟩,
     ⟨(some 10), .faddr 0 .one (.t 4), none, []⟩,
     ⟨(some 11), .load .one (.t 10), none, [1]⟩,
     ⟨(some 12), .call (.c (.fn (.func 64) [] [])) [(.t 9), (.t 11)], none, [0, 2]⟩,
     ⟨(some 13), .bin .eql (.t 12) (.c (.sc (.int .i64 0))), none, [3]⟩]) (
  .cond (.t 13) (.seq (.seq (.reg [⟨(some 7), .mv (.c (.sc (.int .i64 0))), none, []⟩]) (
    .block 0 (.loop lp0_ref35_variables))) (
   .seq (.dreg [(true, ⟨(some 28), .bslice 1 0 (.sc (.string ⟨#[]⟩)) [], none, []⟩),
      (true, ⟨(some 29), .mv (.t 2), none, []⟩),
      (true, ⟨(some 31), .faddr 0 .one (.t 4), none, []⟩),
      (true, ⟨(some 32), .load .one (.t 31), none, [3]⟩),
      (true, ⟨(some 33), .bslice 1 1 (.sc (.string ⟨#[]⟩)) [(0, (.t 32))], none, [4]⟩),
      (false, ⟨(some 30), .append 1 16 (.t 28) (.t 29), none, [0, 1]⟩),
      (false, ⟨(some 34), .append 1 16 (.t 30) (.t 33), none, [2, 5, 2]⟩),
      (false, ⟨(some 6), .mv (.t 34), none, [6, 6, 0, 1, 2, 3, 4, 5, 6]⟩)]) (
   .ret))) (
  .skip))) (
 .seq (.seq (.reg [⟨(some 8), .mv (.c (.sc (.int .i64 0))), none, []⟩]) (
  .block 2 (.loop lp1_ref35_variables))) (
 .seq (.reg [⟨(some 50), .mv (.t 2), none, []⟩,
    ⟨(some 6), .mv (.t 50), none, [0, 0]⟩]) (
 .ret))))
def res_ref35_variables : List ResA := [.t 6]
theorem comp_ref35_variables : Tryd.f38.body.bind (compCode PP ann_ref35_variables 51) = some code_ref35_variables := by kernel_rfl
theorem resc_ref35_variables : mapM' (compRes PP) Tryd.f38.results.toList = some res_ref35_variables := by kernel_rfl
theorem body_ref35_variables : hasBody PP 38 = true := by kernel_rfl
theorem enter_ref35_variables {args : List AV} {h : AHeap} {R : AEnd → AHeap → Prop} (hargs : args.length ≤ 51) (hw : codeWp ⟨PP, Gl, 51, ann_ref35_variables, h.length, none⟩ code_ref35_variables (retPost PP Gl h res_ref35_variables R) (initEnv args) h) : ACalls PP Gl 38 args h R :=
  acalls_of_code Tryd.func38 body_ref35_variables comp_ref35_variables resc_ref35_variables hargs (Nat.le_trans hargs (by decide)) (codeWp_sound mixed hw)

/-- apodixis/apodixisref35.all -/
def ann_ref35_all : List Nat := [1]
def code_ref35_all : ACode :=
 .seq (.reg [⟨(some 1), .box (.t 0), none, []⟩,
    ⟨(some 2), .mv (.c (.sc (v64 0#64))), none, []⟩]) (
 .seq (.reg [⟨(some 3), .faddr 0 .one (.t 1), none, []⟩,
    ⟨(some 4), .load .one (.t 3), none, [0]⟩,
    ⟨(some 5), .len .sl (.t 4), none, [1]⟩,
    ⟨(some 6), .conv .u64 (.t 5), none, [2]⟩,
    ⟨(some 7), .bin .shl (.c (.sc (v64 1#64))) (.t 6), none, [3]⟩,
    ⟨(some 8), .bin .sub (.t 7) (.c (.sc (v64 1#64))), none, [4]⟩,
    ⟨(some 2), .mv (.t 8), none, [5, 0, 1, 2, 3, 4, 5]⟩]) (
 .ret))
def res_ref35_all : List ResA := [.t 2]
theorem comp_ref35_all : Tryd.f39.body.bind (compCode PP ann_ref35_all 9) = some code_ref35_all := by kernel_rfl
theorem resc_ref35_all : mapM' (compRes PP) Tryd.f39.results.toList = some res_ref35_all := by kernel_rfl
theorem body_ref35_all : hasBody PP 39 = true := by kernel_rfl
theorem enter_ref35_all {args : List AV} {h : AHeap} {R : AEnd → AHeap → Prop} (hargs : args.length ≤ 9) (hw : codeWp ⟨PP, Gl, 9, ann_ref35_all, h.length, none⟩ code_ref35_all (retPost PP Gl h res_ref35_all R) (initEnv args) h) : ACalls PP Gl 39 args h R :=
  acalls_of_code Tryd.func39 body_ref35_all comp_ref35_all resc_ref35_all hargs (Nat.le_trans hargs (by decide)) (codeWp_sound mixed hw)

def lp0_ref35_holds : ACode :=
 .seq (.seq (.reg [⟨(some 82), .mv (.t 13), none, []⟩,
                  ⟨(some 83), .faddr 0 .one (.t 4), none, []⟩,
                  ⟨(some 84), .load .one (.t 83), none, [1]⟩,
                  ⟨(some 85), .len .sl (.t 84), none, [2]⟩,
                  ⟨(some 86), .bin .lss (.t 82) (.t 85), none, [0, 3]⟩]) (
               .cond (.t 86) (.skip) (
               .exit 1))) (
              .seq (.block 2 (.seq (.reg [⟨(some 89), .mv (.t 1), none, []⟩,
                   ⟨(some 90), .faddr 0 .one (.t 7), none, []⟩,
                   ⟨(some 91), .load .one (.t 90), none, [1]⟩,
                   ⟨(some 92), .call (.c (.fn (.func 64) [] [])) [(.t 89), (.t 91)], none, [0, 2]⟩,
                   ⟨(some 93), .bin .eql (.t 92) (.c (.sc (.int .i64 8))), none, [3]⟩,
                   ⟨(some 94), .mv (.t 93), none, [4, 3]⟩,
                   ⟨(some 95), .faddr 0 .one (.t 4), (some (94, true)), [5]⟩,
                   ⟨(some 96), .load .one (.t 95), (some (94, true)), [6, 5]⟩,
                   ⟨(some 97), .mv (.t 13), (some (94, true)), [5]⟩,
                   ⟨(some 98), .iaddr 1 (.t 96) (.t 97), (some (94, true)), [7, 8, 5]⟩,
                   ⟨(some 99), .load .one (.t 98), (some (94, true)), [9, 5]⟩,
                   ⟨(some 100), .mv (.t 10), (some (94, true)), [5]⟩,
                   ⟨(some 101), .bin .andNot (.t 99) (.t 100), (some (94, true)), [10, 11, 5]⟩,
                   ⟨(some 102), .bin .eql (.t 101) (.c (.sc (v64 0#64))), (some (94, true)), [12, 5]⟩,
                   ⟨(some 103), .pick (.t 94) (.t 102) (.c (.sc (.bool false))), none, [5, 13]⟩,
                   ⟨(some 104), .mv (.t 103), none, [14, 5]⟩,
                   ⟨(some 105), .mv (.t 1), (some (104, false)), [15]⟩,
                   ⟨(some 106), .faddr 0 .one (.t 7), (some (104, false)), [15]⟩,
                   ⟨(some 107), .load .one (.t 106), (some (104, false)), [17, 15]⟩,
                   ⟨(some 108), .call (.c (.fn (.func 64) [] [])) [(.t 105), (.t 107)], (some (104, false)), [16, 18, 15, 15]⟩,
                   ⟨(some 109), .bin .eql (.t 108) (.c (.sc (.int .i64 9))), (some (104, false)), [19, 15]⟩,
                   ⟨(some 110), .mv (.t 109), (some (104, false)), [20, 19, 15]⟩,
                   ⟨(some 111), .faddr 0 .one (.t 4), (some (110, true)), [21]⟩,
                   ⟨(some 112), .load .one (.t 111), (some (110, true)), [22, 21]⟩,
                   ⟨(some 113), .mv (.t 13), (some (110, true)), [21]⟩,
                   ⟨(some 114), .iaddr 1 (.t 112) (.t 113), (some (110, true)), [23, 24, 21]⟩,
                   ⟨(some 115), .load .one (.t 114), (some (110, true)), [25, 21]⟩,
                   ⟨(some 116), .mv (.t 10), (some (110, true)), [21]⟩,
                   ⟨(some 117), .bin .and (.t 115) (.t 116), (some (110, true)), [26, 27, 21]⟩,
                   ⟨(some 118), .bin .neq (.t 117) (.c (.sc (v64 0#64))), (some (110, true)), [28, 21]⟩,
                   ⟨(some 119), .pick (.t 110) (.t 118) (.c (.sc (.bool false))), (some (104, false)), [21, 29, 15]⟩,
                   ⟨(some 120), .pick (.t 104) (.c (.sc (.bool true))) (.t 119), none, [15, 30]⟩]) (
                .cond (.t 120) (.reg [⟨(some 121), .mv (.t 12), none, []⟩,
                   ⟨(some 122), .mv (.t 13), none, []⟩,
                   ⟨(some 123), .conv .u64 (.t 122), none, [1]⟩,
                   ⟨(some 124), .bin .shl (.c (.sc (v64 1#64))) (.t 123), none, [2]⟩,
                   ⟨(some 125), .bin .or (.t 121) (.t 124), none, [0, 3]⟩,
                   ⟨(some 12), .mv (.t 125), none, [4, 0, 1, 2, 3, 4]⟩]) (
                .skip)))) (
              .reg [⟨(some 87), .mv (.t 13), none, []⟩,
                ⟨(some 88), .bin .add (.t 87) (.c (.sc (.int .i64 1))), none, [0]⟩,
                ⟨(some 13), .mv (.t 88), none, [1, 0, 1]⟩]))
def lp1_ref35_holds : ACode :=
 .seq (.seq (.reg [⟨(some 127), .mv (.t 14), none, []⟩,
        ⟨(some 128), .mv (.t 2), none, []⟩,
        ⟨(some 129), .len .sl (.t 128), none, [1]⟩,
        ⟨(some 130), .bin .lss (.t 127) (.t 129), none, [0, 2]⟩]) (
     .cond (.t 130) (.skip) (
     .exit 3))) (
    .seq (.block 4 (.seq (.dreg [(true, ⟨(some 133), .mv (.t 2), none, []⟩),
         (true, ⟨(some 134), .mv (.t 14), none, []⟩),
         (true, ⟨(some 135), .iaddr 2 (.t 133) (.t 134), none, [0, 1]⟩),
         (true, ⟨(some 136), .faddr 0 .one (.t 135), none, [2]⟩),
         (true, ⟨(some 137), .load .one (.t 136), none, [3]⟩),
         (false, ⟨(some 138), .faddr 0 .one (.t 7), none, []⟩),
         (false, ⟨(some 139), .load .one (.t 138), none, [5]⟩),
         (false, ⟨(some 140), .bin .eql (.t 137) (.t 139), none, [4, 6]⟩)]) (
      .cond (.t 140) (.seq (.reg [⟨(some 141), .mv (.t 2), none, []⟩,
          ⟨(some 142), .mv (.t 14), none, []⟩,
          ⟨(some 143), .iaddr 2 (.t 141) (.t 142), none, [0, 1]⟩,
          ⟨(some 144), .faddr 1 .one (.t 143), none, [2]⟩,
          ⟨(some 145), .load .one (.t 144), none, [3]⟩,
          ⟨(some 8), .mv (.t 145), none, [4, 0, 1, 2, 3, 4]⟩]) (
       .ret)) (
      .skip)))) (
    .reg [⟨(some 131), .mv (.t 14), none, []⟩,
      ⟨(some 132), .bin .add (.t 131) (.c (.sc (.int .i64 1))), none, [0]⟩,
      ⟨(some 14), .mv (.t 132), none, [1, 0, 1]⟩]))
/-- apodixis/apodixisref35.holds -/
def ann_ref35_holds : List Nat := [4, 7]
def code_ref35_holds : ACode :=
 .seq (.reg [⟨(some 4), .box (.t 0), none, []⟩,
    ⟨(some 7), .box (.t 3), none, []⟩,
    ⟨(some 8), .mv (.c (.sc (v64 0#64))), none, []⟩]) (
 .seq (.reg [⟨(some 15), .load (.agg 1) (.t 4), none, []⟩,
    ⟨(some 16), .call (.c (.fn (.func 39) [] [])) [(.t 15)], none, [0]⟩,
    ⟨(some 9), .mv (.t 16), none, [1, 1, 0, 1]⟩]) (
 .seq (.reg [⟨(some 10), .mv (.c (.sc (v64 0#64))), none, []⟩,
    ⟨(some 11), .mv (.c (.sc (v64 0#64))), none, [0]⟩]) (
 .seq (.seq (.reg [⟨(some 17), .faddr 1 .one (.t 7), none, []⟩,
     ⟨(some 18), .load .one (.t 17), none, [0]⟩,
     ⟨(some 19), .len .sl (.t 18), none, [1]⟩,
     ⟨(some 20), .bin .gtr (.t 19) (.c (.sc (.int .i64 0))), none, [2]⟩]) (
  .cond (.t 20) (.dreg [(true, ⟨(some 21), .load (.agg 1) (.t 4), none, []⟩),
     (true, ⟨(some 22), .mv (.t 1), none, []⟩),
     (true, ⟨(some 23), .mv (.t 2), none, []⟩),
     (false, ⟨(some 24), .faddr 1 .one (.t 7), none, []⟩),
     (false, ⟨(some 25), .load .one (.t 24), none, [3]⟩),
     (false, ⟨(some 26), .iaddr 2 (.t 25) (.c (.sc (.int .i64 0))), none, [4]⟩),
     (false, ⟨(some 27), .load (.agg 2) (.t 26), none, [5]⟩),
     (false, ⟨(some 28), .call (.c (.fn (.func 40) [] [])) [(.t 21), (.t 22), (.t 23), (.t 27)], none, [0, 1, 2, 6]⟩),
     (false, ⟨(some 10), .mv (.t 28), none, [7, 7, 0, 1, 2, 3, 4, 5, 6, 7]⟩)]) (
  .skip))) (
 .seq (.seq (.reg [⟨(some 29), .faddr 1 .one (.t 7), none, []⟩,
     ⟨(some 30), .load .one (.t 29), none, [0]⟩,
     ⟨(some 31), .len .sl (.t 30), none, [1]⟩,
     ⟨(some 32), .bin .gtr (.t 31) (.c (.sc (.int .i64 1))), none, [2]⟩]) (
  .cond (.t 32) (.dreg [(true, ⟨(some 33), .load (.agg 1) (.t 4), none, []⟩),
     (true, ⟨(some 34), .mv (.t 1), none, []⟩),
     (true, ⟨(some 35), .mv (.t 2), none, []⟩),
     (false, ⟨(some 36), .faddr 1 .one (.t 7), none, []⟩),
     (false, ⟨(some 37), .load .one (.t 36), none, [3]⟩),
     (false, ⟨(some 38), .iaddr 2 (.t 37) (.c (.sc (.int .i64 1))), none, [4]⟩),
     (false, ⟨(some 39), .load (.agg 2) (.t 38), none, [5]⟩),
     (false, ⟨(some 40), .call (.c (.fn (.func 40) [] [])) [(.t 33), (.t 34), (.t 35), (.t 39)], none, [0, 1, 2, 6]⟩),
     (false, ⟨(some 11), .mv (.t 40), none, [7, 7, 0, 1, 2, 3, 4, 5, 6, 7]⟩)]) (
  .skip))) (
 .seq (.seq (.reg [⟨(some 41), .mv (.t 1), none, []⟩,
     ⟨(some 42), .faddr 0 .one (.t 7), none, []⟩,
     ⟨(some 43), .load .one (.t 42), none, [1]⟩,
     ⟨(some 44), .call (.c (.fn (.func 64) [] [])) [(.t 41), (.t 43)], none, [0, 2]⟩]) (
  .block 0 (.seq (.reg [⟨(some 46), .bin .eql (.t 44) (.c (.sc (.int .i64 1))), none, []⟩,
      ⟨(some 45), .mv (.t 46), none, [0]⟩]) (
   .cond (.t 45) (.seq (.reg [⟨(some 47), .mv (.t 9), none, []⟩,
       ⟨(some 48), .mv (.t 10), none, []⟩,
       ⟨(some 49), .bin .andNot (.t 47) (.t 48), none, [0, 1]⟩,
       ⟨(some 8), .mv (.t 49), none, [2, 0, 1, 2]⟩]) (
    .ret)) (
   .seq (.reg [⟨(some 51), .bin .eql (.t 44) (.c (.sc (.int .i64 2))), none, []⟩,
       ⟨(some 50), .mv (.t 51), none, [0]⟩]) (
    .cond (.t 50) (.seq (.reg [⟨(some 52), .mv (.t 9), none, []⟩,
        ⟨(some 53), .mv (.t 10), none, []⟩,
        ⟨(some 54), .bin .andNot (.t 52) (.t 53), none, [0, 1]⟩,
        ⟨(some 55), .mv (.t 11), none, []⟩,
        ⟨(some 56), .bin .or (.t 54) (.t 55), none, [2, 3]⟩,
        ⟨(some 8), .mv (.t 56), none, [4, 0, 1, 2, 3, 4]⟩]) (
     .ret)) (
    .seq (.reg [⟨(some 58), .bin .eql (.t 44) (.c (.sc (.int .i64 3))), none, []⟩,
        ⟨(some 57), .mv (.t 58), none, [0]⟩]) (
     .cond (.t 57) (.seq (.reg [⟨(some 59), .mv (.t 10), none, []⟩,
         ⟨(some 60), .mv (.t 11), none, []⟩,
         ⟨(some 61), .bin .and (.t 59) (.t 60), none, [0, 1]⟩,
         ⟨(some 8), .mv (.t 61), none, [2, 0, 1, 2]⟩]) (
      .ret)) (
     .seq (.reg [⟨(some 63), .bin .eql (.t 44) (.c (.sc (.int .i64 4))), none, []⟩,
         ⟨(some 62), .mv (.t 63), none, [0]⟩]) (
      .cond (.t 62) (.seq (.reg [⟨(some 64), .mv (.t 10), none, []⟩,
          ⟨(some 65), .mv (.t 11), none, []⟩,
          ⟨(some 66), .bin .or (.t 64) (.t 65), none, [0, 1]⟩,
          ⟨(some 8), .mv (.t 66), none, [2, 0, 1, 2]⟩]) (
       .ret)) (
      .seq (.reg [⟨(some 68), .bin .eql (.t 44) (.c (.sc (.int .i64 5))), none, []⟩,
          ⟨(some 67), .mv (.t 68), none, [0]⟩]) (
       .cond (.t 67) (.seq (.reg [⟨(some 69), .mv (.t 9), none, []⟩,
           ⟨(some 70), .mv (.t 10), none, []⟩,
           ⟨(some 71), .mv (.t 11), none, []⟩,
           ⟨(some 72), .bin .xor (.t 70) (.t 71), none, [1, 2]⟩,
           ⟨(some 73), .bin .andNot (.t 69) (.t 72), none, [0, 3]⟩,
           ⟨(some 8), .mv (.t 73), none, [4, 0, 1, 2, 3, 4]⟩]) (
        .ret)) (
       .seq (.reg [⟨(some 75), .bin .eql (.t 44) (.c (.sc (.int .i64 6))), none, []⟩,
           ⟨(some 74), .mv (.t 75), none, [0]⟩]) (
        .cond (.t 74) (.seq (.reg [⟨(some 76), .mv (.t 9), none, []⟩,
            ⟨(some 8), .mv (.t 76), none, [0, 0]⟩]) (
         .ret)) (
        .seq (.reg [⟨(some 78), .bin .eql (.t 44) (.c (.sc (.int .i64 7))), none, []⟩,
            ⟨(some 77), .mv (.t 78), none, [0]⟩]) (
         .cond (.t 77) (.seq (.reg [⟨(some 8), .mv (.c (.sc (v64 0#64))), none, []⟩]) (
          .ret)) (
         .seq (.seq (.reg [⟨(some 80), .bin .eql (.t 44) (.c (.sc (.int .i64 8))), none, []⟩,
              ⟨(some 79), .mv (.t 80), none, [0]⟩]) (
           .cond (.t 79) (.skip) (
           .reg [⟨(some 81), .bin .eql (.t 44) (.c (.sc (.int .i64 9))), none, []⟩,
              ⟨(some 79), .mv (.t 81), none, [0]⟩]))) (
          .cond (.t 79) (.seq (.reg [⟨(some 12), .mv (.c (.sc (v64 0#64))), none, []⟩]) (
           .seq (.seq (.reg [⟨(some 13), .mv (.c (.sc (.int .i64 0))), none, []⟩]) (
            .block 1 (.loop lp0_ref35_holds))) (
           .seq (.reg [⟨(some 126), .mv (.t 12), none, []⟩,
              ⟨(some 8), .mv (.t 126), none, [0, 0]⟩]) (
           .ret)))) (
          .skip))))))))))))))))))) (
 .seq (.seq (.reg [⟨(some 14), .mv (.c (.sc (.int .i64 0))), none, []⟩]) (
  .block 3 (.loop lp1_ref35_holds))) (
 .seq (.reg [⟨(some 8), .mv (.c (.sc (v64 0#64))), none, []⟩]) (
 .ret))))))))
def res_ref35_holds : List ResA := [.t 8]
theorem comp_ref35_holds : Tryd.f40.body.bind (compCode PP ann_ref35_holds 146) = some code_ref35_holds := by kernel_rfl
theorem resc_ref35_holds : mapM' (compRes PP) Tryd.f40.results.toList = some res_ref35_holds := by kernel_rfl
theorem body_ref35_holds : hasBody PP 40 = true := by kernel_rfl
theorem enter_ref35_holds {args : List AV} {h : AHeap} {R : AEnd → AHeap → Prop} (hargs : args.length ≤ 146) (hw : codeWp ⟨PP, Gl, 146, ann_ref35_holds, h.length, none⟩ code_ref35_holds (retPost PP Gl h res_ref35_holds R) (initEnv args) h) : ACalls PP Gl 40 args h R :=
  acalls_of_code Tryd.func40 body_ref35_holds comp_ref35_holds resc_ref35_holds hargs (Nat.le_trans hargs (by decide)) (codeWp_sound mixed hw)

def lp0_ref35_least : ACode :=
 .seq (.seq (.reg [⟨(some 6), .mv (.t 1), none, []⟩,
        ⟨(some 7), .mv (.t 5), none, []⟩,
        ⟨(some 8), .conv .u64 (.t 7), none, [1]⟩,
        ⟨(some 9), .bin .shr (.t 6) (.t 8), none, [0, 2]⟩,
        ⟨(some 10), .bin .and (.t 9) (.c (.sc (v64 1#64))), none, [3]⟩,
        ⟨(some 11), .bin .eql (.t 10) (.c (.sc (v64 1#64))), none, [4]⟩]) (
     .cond (.t 11) (.skip) (
     .exit 0))) (
    .block 1 (.reg [⟨(some 12), .mv (.t 5), none, []⟩,
       ⟨(some 13), .bin .add (.t 12) (.c (.sc (.int .i64 1))), none, [0]⟩,
       ⟨(some 5), .mv (.t 13), none, [1, 0, 1]⟩]))
/-- apodixis/apodixisref35.least -/
def ann_ref35_least : List Nat := [2]
def code_ref35_least : ACode :=
 .seq (.reg [⟨(some 2), .box (.t 0), none, []⟩,
    ⟨(some 4), .mv (.c (.sc (.int .i64 0))), none, []⟩]) (
 .seq (.reg [⟨(some 5), .mv (.c (.sc (.int .i64 0))), none, []⟩]) (
 .seq (.block 0 (.loop lp0_ref35_least)) (
 .seq (.reg [⟨(some 14), .mv (.t 5), none, []⟩,
    ⟨(some 4), .mv (.t 14), none, [0, 0]⟩]) (
 .ret))))
def res_ref35_least : List ResA := [.t 4]
theorem comp_ref35_least : Tryd.f41.body.bind (compCode PP ann_ref35_least 15) = some code_ref35_least := by kernel_rfl
theorem resc_ref35_least : mapM' (compRes PP) Tryd.f41.results.toList = some res_ref35_least := by kernel_rfl
theorem body_ref35_least : hasBody PP 41 = true := by kernel_rfl
theorem enter_ref35_least {args : List AV} {h : AHeap} {R : AEnd → AHeap → Prop} (hargs : args.length ≤ 15) (hw : codeWp ⟨PP, Gl, 15, ann_ref35_least, h.length, none⟩ code_ref35_least (retPost PP Gl h res_ref35_least R) (initEnv args) h) : ACalls PP Gl 41 args h R :=
  acalls_of_code Tryd.func41 body_ref35_least comp_ref35_least resc_ref35_least hargs (Nat.le_trans hargs (by decide)) (codeWp_sound mixed hw)

/-- (apodixis/modal.Frame).worlds -/
def ann_modal_Frame_worlds : List Nat := [1]
def code_modal_Frame_worlds : ACode :=
 .seq (.reg [⟨(some 1), .box (.t 0), none, []⟩,
    ⟨(some 2), .mv (.c (.sc (v64 0#64))), none, []⟩]) (
 .seq (.reg [⟨(some 3), .faddr 0 .one (.t 1), none, []⟩,
    ⟨(some 4), .load .one (.t 3), none, [0]⟩,
    ⟨(some 5), .len .sl (.t 4), none, [1]⟩,
    ⟨(some 6), .bin .shl (.c (.sc (v64 1#64))) (.t 5), none, [2]⟩,
    ⟨(some 7), .bin .sub (.t 6) (.c (.sc (v64 1#64))), none, [3]⟩,
    ⟨(some 2), .mv (.t 7), none, [4, 0, 1, 2, 3, 4]⟩]) (
 .ret))
def res_modal_Frame_worlds : List ResA := [.t 2]
theorem comp_modal_Frame_worlds : Tryd.f42.body.bind (compCode PP ann_modal_Frame_worlds 8) = some code_modal_Frame_worlds := by kernel_rfl
theorem resc_modal_Frame_worlds : mapM' (compRes PP) Tryd.f42.results.toList = some res_modal_Frame_worlds := by kernel_rfl
theorem body_modal_Frame_worlds : hasBody PP 42 = true := by kernel_rfl
theorem enter_modal_Frame_worlds {args : List AV} {h : AHeap} {R : AEnd → AHeap → Prop} (hargs : args.length ≤ 8) (hw : codeWp ⟨PP, Gl, 8, ann_modal_Frame_worlds, h.length, none⟩ code_modal_Frame_worlds (retPost PP Gl h res_modal_Frame_worlds R) (initEnv args) h) : ACalls PP Gl 42 args h R :=
  acalls_of_code Tryd.func42 body_modal_Frame_worlds comp_modal_Frame_worlds resc_modal_Frame_worlds hargs (Nat.le_trans hargs (by decide)) (codeWp_sound mixed hw)

end Go.Apx
