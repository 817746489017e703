/- The resolved code of the program's functions (by program). -/
import Derived.Test.YtchbhhgnkcaegaaGl
namespace Go.Apx
open Go.Proofs
set_option maxRecDepth 100000
set_option linter.unusedVariables false
def c64_4294967296 : BitVec 64 := 4294967296#64
def lp0_earley_packer_leads : ACode :=
 .seq (.seq (.reg [⟨(some 89), .mv (.t 17), none, []⟩,
          ⟨(some 90), .mv (.t 4), none, []⟩,
          ⟨(some 91), .bin .leq (.t 89) (.t 90), none, [0, 1]⟩,
          ⟨(some 92), .mv (.t 91), none, [2]⟩,
          ⟨(some 93), .mv (.t 14), (some (92, true)), [3]⟩,
          ⟨(some 94), .un .not (.t 93), (some (92, true)), [4, 3]⟩,
          ⟨(some 95), .pick (.t 92) (.t 94) (.c (.sc (.bool false))), none, [3, 5]⟩]) (
       .cond (.t 95) (.skip) (
       .exit 0))) (
      .seq (.block 1 (.dreg [(true, ⟨(some 98), .mv (.t 0), none, []⟩),
          (true, ⟨(some 99), .nilc (.t 98), none, [0]⟩),
          (true, ⟨(some 100), .faddr 0 .one (.t 99), none, [1]⟩),
          (true, ⟨(some 101), .load .one (.t 100), none, [2]⟩),
          (true, ⟨(some 102), .nilc (.t 101), none, [3]⟩),
          (true, ⟨(some 103), .faddr 6 .one (.t 102), none, [4]⟩),
          (true, ⟨(some 104), .load .one (.t 103), none, [5]⟩),
          (true, ⟨(some 105), .faddr 1 .one (.t 16), none, []⟩),
          (true, ⟨(some 106), .load .one (.t 105), none, [7]⟩),
          (true, ⟨(some 107), .mv (.t 3), none, []⟩),
          (false, ⟨(some 108), .mv (.t 17), none, []⟩),
          (false, ⟨(some 109), .build [(.sc (.string ⟨#[]⟩)), (.sc (.int .i64 0)), (.sc (.int .i64 0))] [(0, 1, (.t 106)), (1, 1, (.t 107)), (2, 1, (.t 108))], none, [8, 9, 10]⟩),
          (false, ⟨(some 110), .lookup (.flat [1, 0, 0]) (.sc (.bool false)) false (.t 104) (.t 109), none, [6, 11]⟩),
          (false, ⟨(some 111), .mv (.t 110), none, [12]⟩),
          (true, ⟨(some 112), .mv (.t 0), (some (111, true)), [13]⟩),
          (true, ⟨(some 113), .mv (.t 1), (some (111, true)), [13]⟩),
          (true, ⟨(some 114), .mv (.t 2), (some (111, true)), [13]⟩),
          (true, ⟨(some 115), .bin .add (.t 114) (.c (.sc (.int .i64 1))), (some (111, true)), [16, 13]⟩),
          (true, ⟨(some 116), .mv (.t 17), (some (111, true)), [13]⟩),
          (false, ⟨(some 117), .mv (.t 4), (some (111, true)), [13]⟩),
          (false, ⟨(some 118), .call (.c (.fn (.func 55) [] [])) [(.t 112), (.t 113), (.t 115), (.t 116), (.t 117)], (some (111, true)), [14, 15, 17, 18, 19, 13, 13]⟩),
          (false, ⟨(some 119), .pick (.t 111) (.t 118) (.c (.sc (.bool false))), none, [13, 20]⟩),
          (false, ⟨(some 14), .mv (.t 119), none, [21, 20, 0, 1, 2, 3, 4, 5, 6, 7, 8, 9, 10, 11, 12, 13, 14, 15, 16, 17, 18, 19, 20, 21]⟩)])) (
      .reg [⟨(some 96), .mv (.t 17), none, []⟩,
        ⟨(some 97), .bin .add (.t 96) (.c (.sc (.int .i64 1))), none, [0]⟩,
        ⟨(some 17), .mv (.t 97), none, [1, 0, 1]⟩]))
/-- (*apodixis/earley.packer).leads -/
def ann_earley_packer_leads : List Nat := [11, 16]
def code_earley_packer_leads : ACode :=
 .seq (.reg [⟨(some 10), .mv (.c (.sc (.bool false))), none, []⟩]) (
 .seq (.reg [⟨(some 18), .mv (.t 1), none, []⟩,
    ⟨(some 19), .mv (.t 2), none, []⟩,
    ⟨(some 20), .mv (.t 3), none, []⟩,
    ⟨(some 21), .mv (.t 4), none, []⟩,
    ⟨(some 22), .build [(.sc (.int .i64 0)), (.sc (.int .i64 0)), (.sc (.int .i64 0)), (.sc (.int .i64 0))] [(0, 1, (.t 18)), (1, 1, (.t 19)), (2, 1, (.t 20)), (3, 1, (.t 21))], none, [0, 1, 2, 3]⟩,
    ⟨(some 11), .pnew 4, none, []⟩,
    ⟨none, .pstore 4 11 (.t 22), none, [5, 4, 0, 1, 2, 3, 4, 5]⟩]) (
 .seq (.seq (.dreg [(true, ⟨(some 24), .mv (.t 0), none, []⟩),
     (true, ⟨(some 25), .nilc (.t 24), none, [0]⟩),
     (true, ⟨(some 26), .faddr 3 .one (.t 25), none, [1]⟩),
     (true, ⟨(some 27), .load .one (.t 26), none, [2]⟩),
     (false, ⟨(some 28), .load (.agg 4) (.t 11), none, []⟩),
     (false, ⟨(some 29), .lookup (.flat [0, 0, 0, 0]) (.sc (.bool false)) true (.t 27) (.t 28), none, [3, 4]⟩),
     (false, ⟨(some 23), .mv (.t 29), none, [5]⟩),
     (true, ⟨(some 30), .extract (.t 23) 0, none, [6]⟩),
     (true, ⟨(some 31), .extract (.t 23) 1, none, [6]⟩),
     (false, ⟨(some 12), .mv (.t 30), none, [7, 0, 1, 2, 3, 4, 5, 6, 7]⟩),
     (false, ⟨(some 13), .mv (.t 31), none, [8, 9, 0, 1, 2, 3, 4, 5, 6, 7, 8, 9]⟩)]) (
  .seq (.reg [⟨(some 32), .mv (.t 13), none, []⟩]) (
  .cond (.t 32) (.seq (.reg [⟨(some 33), .mv (.t 12), none, []⟩,
      ⟨(some 10), .mv (.t 33), none, [0, 0]⟩]) (
   .ret)) (
  .skip)))) (
 .seq (.reg [⟨(some 14), .mv (.c (.sc (.bool false))), none, []⟩]) (
 .seq (.seq (.reg [⟨(some 34), .mv (.t 0), none, []⟩,
     ⟨(some 35), .nilc (.t 34), none, [0]⟩,
     ⟨(some 36), .faddr 0 .one (.t 35), none, [1]⟩,
     ⟨(some 37), .load .one (.t 36), none, [2]⟩,
     ⟨(some 38), .nilc (.t 37), none, [3]⟩,
     ⟨(some 39), .faddr 0 (.agg 2) (.t 38), none, [4]⟩,
     ⟨(some 40), .faddr 1 .one (.t 39), none, [5]⟩,
     ⟨(some 41), .load .one (.t 40), none, [6]⟩,
     ⟨(some 42), .mv (.t 1), none, []⟩,
     ⟨(some 43), .iaddr 4 (.t 41) (.t 42), none, [7, 8]⟩,
     ⟨(some 44), .faddr 2 .one (.t 43), none, [9]⟩,
     ⟨(some 45), .load .one (.t 44), none, [10]⟩,
     ⟨(some 15), .mv (.t 45), none, [11, 0, 1, 2, 3, 4, 5, 6, 7, 8, 9, 10, 11]⟩]) (
  .seq (.reg [⟨(some 46), .mv (.t 2), none, []⟩,
     ⟨(some 47), .mv (.t 15), none, []⟩,
     ⟨(some 48), .len .sl (.t 47), none, [1]⟩,
     ⟨(some 49), .bin .eql (.t 46) (.t 48), none, [0, 2]⟩]) (
  .cond (.t 49) (.reg [⟨(some 50), .mv (.t 3), none, []⟩,
     ⟨(some 51), .mv (.t 4), none, []⟩,
     ⟨(some 52), .bin .eql (.t 50) (.t 51), none, [0, 1]⟩,
     ⟨(some 14), .mv (.t 52), none, [2, 0, 1, 2]⟩]) (
  .seq (.reg [⟨(some 53), .mv (.t 15), none, []⟩,
      ⟨(some 54), .mv (.t 2), none, []⟩,
      ⟨(some 55), .iaddr 3 (.t 53) (.t 54), none, [0, 1]⟩,
      ⟨(some 56), .load (.agg 3) (.t 55), none, [2]⟩,
      ⟨(some 16), .pnew 3, none, []⟩,
      ⟨none, .pstore 3 16 (.t 56), none, [4, 3, 0, 1, 2, 3, 4]⟩]) (
   .seq (.reg [⟨(some 57), .faddr 1 .one (.t 16), none, []⟩,
      ⟨(some 58), .load .one (.t 57), none, [0]⟩,
      ⟨(some 59), .bin .eql (.t 58) (.c (.sc (.string ⟨#[]⟩))), none, [1]⟩]) (
   .cond (.t 59) (.dreg [(true, ⟨(some 60), .mv (.t 3), none, []⟩),
      (false, ⟨(some 61), .mv (.t 4), none, []⟩),
      (false, ⟨(some 62), .bin .lss (.t 60) (.t 61), none, [0, 1]⟩),
      (false, ⟨(some 63), .mv (.t 62), none, [2]⟩),
      (true, ⟨(some 64), .mv (.t 0), (some (63, true)), [3]⟩),
      (true, ⟨(some 65), .nilc (.t 64), (some (63, true)), [4, 3]⟩),
      (true, ⟨(some 66), .faddr 0 .one (.t 65), (some (63, true)), [5, 3]⟩),
      (true, ⟨(some 67), .load .one (.t 66), (some (63, true)), [6, 3]⟩),
      (true, ⟨(some 68), .nilc (.t 67), (some (63, true)), [7, 3]⟩),
      (true, ⟨(some 69), .faddr 3 .one (.t 68), (some (63, true)), [8, 3]⟩),
      (true, ⟨(some 70), .load .one (.t 69), (some (63, true)), [9, 3]⟩),
      (true, ⟨(some 71), .mv (.t 3), (some (63, true)), [3]⟩),
      (true, ⟨(some 72), .iaddr 1 (.t 70) (.t 71), (some (63, true)), [10, 11, 3]⟩),
      (true, ⟨(some 73), .load .one (.t 72), (some (63, true)), [12, 3]⟩),
      (false, ⟨(some 74), .faddr 0 .one (.t 16), (some (63, true)), [3]⟩),
      (false, ⟨(some 75), .load .one (.t 74), (some (63, true)), [14, 3]⟩),
      (false, ⟨(some 76), .bin .eql (.t 73) (.t 75), (some (63, true)), [13, 15, 3]⟩),
      (false, ⟨(some 77), .pick (.t 63) (.t 76) (.c (.sc (.bool false))), none, [3, 16]⟩),
      (false, ⟨(some 78), .mv (.t 77), none, [17, 3]⟩),
      (true, ⟨(some 79), .mv (.t 0), (some (78, true)), [18]⟩),
      (true, ⟨(some 80), .mv (.t 1), (some (78, true)), [18]⟩),
      (true, ⟨(some 81), .mv (.t 2), (some (78, true)), [18]⟩),
      (true, ⟨(some 82), .bin .add (.t 81) (.c (.sc (.int .i64 1))), (some (78, true)), [21, 18]⟩),
      (true, ⟨(some 83), .mv (.t 3), (some (78, true)), [18]⟩),
      (true, ⟨(some 84), .bin .add (.t 83) (.c (.sc (.int .i64 1))), (some (78, true)), [23, 18]⟩),
      (false, ⟨(some 85), .mv (.t 4), (some (78, true)), [18]⟩),
      (false, ⟨(some 86), .call (.c (.fn (.func 55) [] [])) [(.t 79), (.t 80), (.t 82), (.t 84), (.t 85)], (some (78, true)), [19, 20, 22, 24, 25, 18, 18]⟩),
      (false, ⟨(some 87), .pick (.t 78) (.t 86) (.c (.sc (.bool false))), none, [18, 26]⟩),
      (false, ⟨(some 14), .mv (.t 87), none, [27, 26, 0, 1, 2, 3, 4, 5, 6, 7, 8, 9, 10, 11, 12, 13, 14, 15, 16, 17, 18, 19, 20, 21, 22, 23, 24, 25, 26, 27]⟩)]) (
   .seq (.reg [⟨(some 88), .mv (.t 3), none, []⟩,
       ⟨(some 17), .mv (.t 88), none, [0, 0]⟩]) (
    .block 0 (.loop lp0_earley_packer_leads))))))))) (
 .seq (.dreg [(true, ⟨(some 120), .mv (.t 0), none, []⟩),
    (true, ⟨(some 121), .nilc (.t 120), none, [0]⟩),
    (true, ⟨(some 122), .faddr 3 .one (.t 121), none, [1]⟩),
    (true, ⟨(some 123), .load .one (.t 122), none, [2]⟩),
    (true, ⟨(some 124), .load (.agg 4) (.t 11), none, []⟩),
    (false, ⟨(some 125), .mv (.t 14), none, []⟩),
    (false, ⟨none, .mapUpd (.flat [0, 0, 0, 0]) (.t 123) (.t 124) (.t 125), none, [3, 4, 5, 0, 1, 2, 3, 4, 5]⟩)]) (
 .seq (.reg [⟨(some 126), .mv (.t 14), none, []⟩,
    ⟨(some 10), .mv (.t 126), none, [0, 0]⟩]) (
 .ret)))))))
def res_earley_packer_leads : List ResA := [.t 10]
theorem comp_earley_packer_leads : Try.f55.body.bind (compCode PP ann_earley_packer_leads 127) = some code_earley_packer_leads := by kernel_rfl
theorem resc_earley_packer_leads : mapM' (compRes PP) Try.f55.results.toList = some res_earley_packer_leads := by kernel_rfl
theorem body_earley_packer_leads : hasBody PP 55 = true := by kernel_rfl
theorem enter_earley_packer_leads {args : List AV} {h : AHeap} {R : AEnd → AHeap → Prop} (hargs : args.length ≤ 127) (hw : codeWp ⟨PP, Gl, 127, ann_earley_packer_leads, h.length, none⟩ code_earley_packer_leads (retPost PP Gl h res_earley_packer_leads R) (initEnv args) h) : ACalls PP Gl 55 args h R :=
  acalls_of_code Try.func55 body_earley_packer_leads comp_earley_packer_leads resc_earley_packer_leads hargs (Nat.le_trans hargs (by decide)) (codeWp_sound mixed hw)

/-- slices.Clone[[]apodixis/earley.span,apodixis/earley.span] -/
def ann_slices_Clone_earley_span_earley_span : List Nat := []
def code_slices_Clone_earley_span_earley_span : ACode :=
 .seq (.reg [⟨(some 2), .mv (.c (.sl 0 [] .nil)), none, []⟩]) (
 .seq (.seq (.reg [⟨(some 3), .mv (.t 0), none, []⟩,
     ⟨(some 4), .eqnil .sl false (.t 3) (.c (.sl 0 [] .nil)), none, [0]⟩]) (
  .cond (.t 4) (.seq (.reg [⟨(some 2), .mv (.c (.sl 0 [] .nil)), none, []⟩]) (
   .ret)) (
  .skip))) (
 .seq (.reg [⟨(some 5), .bslice 3 0 (.agg [(.sc (.string ⟨#[]⟩)), (.sc (.int .i64 0)), (.sc (.int .i64 0))]) [], none, []⟩,
    ⟨(some 6), .mv (.t 0), none, []⟩,
    ⟨(some 7), .append 3 32 (.t 5) (.t 6), none, [0, 1]⟩,
    ⟨(some 2), .mv (.t 7), none, [2, 2, 0, 1, 2]⟩]) (
 .ret)))
def res_slices_Clone_earley_span_earley_span : List ResA := [.t 2]
theorem comp_slices_Clone_earley_span_earley_span : Try.f56.body.bind (compCode PP ann_slices_Clone_earley_span_earley_span 8) = some code_slices_Clone_earley_span_earley_span := by kernel_rfl
theorem resc_slices_Clone_earley_span_earley_span : mapM' (compRes PP) Try.f56.results.toList = some res_slices_Clone_earley_span_earley_span := by kernel_rfl
theorem body_slices_Clone_earley_span_earley_span : hasBody PP 56 = true := by kernel_rfl
theorem enter_slices_Clone_earley_span_earley_span {args : List AV} {h : AHeap} {R : AEnd → AHeap → Prop} (hargs : args.length ≤ 8) (hw : codeWp ⟨PP, Gl, 8, ann_slices_Clone_earley_span_earley_span, h.length, none⟩ code_slices_Clone_earley_span_earley_span (retPost PP Gl h res_slices_Clone_earley_span_earley_span R) (initEnv args) h) : ACalls PP Gl 56 args h R :=
  acalls_of_code Try.func56 body_slices_Clone_earley_span_earley_span comp_slices_Clone_earley_span_earley_span resc_slices_Clone_earley_span_earley_span hargs (Nat.le_trans hargs (by decide)) (codeWp_sound mixed hw)

def lp0_slices_IndexFunc_grammar_Rule_grammar_Rule : ACode :=
 .seq (.reg [⟨(some 9), .bin .lss (.t 8) (.t 7), none, []⟩]) (
    .seq (.cond (.t 9) (.skip) (
     .exit 0)) (
    .seq (.block 1 (.seq (.reg [⟨(some 10), .mv (.t 8), none, []⟩,
         ⟨(some 5), .mv (.t 10), none, [0, 0]⟩]) (
      .seq (.reg [⟨(some 11), .mv (.t 1), none, []⟩,
         ⟨(some 12), .mv (.t 0), none, []⟩,
         ⟨(some 13), .mv (.t 5), none, []⟩,
         ⟨(some 14), .iaddr 4 (.t 12) (.t 13), none, [1, 2]⟩,
         ⟨(some 15), .load (.agg 4) (.t 14), none, [3]⟩,
         ⟨(some 16), .call (.t 11) [(.t 15)], none, [0, 4]⟩]) (
      .cond (.t 16) (.seq (.reg [⟨(some 17), .mv (.t 5), none, []⟩,
          ⟨(some 4), .mv (.t 17), none, [0, 0]⟩]) (
       .ret)) (
      .skip))))) (
    .reg [⟨(some 18), .bin .add (.t 8) (.c (.sc (.int .i64 1))), none, []⟩,
      ⟨(some 8), .mv (.t 18), none, [0]⟩])))
/-- slices.IndexFunc[[]apodixis/grammar.Rule,apodixis/grammar.Rule] -/
def ann_slices_IndexFunc_grammar_Rule_grammar_Rule : List Nat := []
def code_slices_IndexFunc_grammar_Rule_grammar_Rule : ACode :=
 .seq (.reg [⟨(some 4), .mv (.c (.sc (.int .i64 0))), none, []⟩]) (
 .seq (.seq (.reg [⟨(some 6), .mv (.t 0), none, []⟩,
     ⟨(some 7), .len .sl (.t 6), none, [0]⟩,
     ⟨(some 8), .mv (.c (.sc (.int .i64 0))), none, []⟩]) (
  .block 0 (.loop lp0_slices_IndexFunc_grammar_Rule_grammar_Rule))) (
 .seq (.reg [⟨(some 4), .mv (.c (.sc (.int .i64 (-1)))), none, []⟩]) (
 .ret)))
def res_slices_IndexFunc_grammar_Rule_grammar_Rule : List ResA := [.t 4]
theorem comp_slices_IndexFunc_grammar_Rule_grammar_Rule : Try.f57.body.bind (compCode PP ann_slices_IndexFunc_grammar_Rule_grammar_Rule 19) = some code_slices_IndexFunc_grammar_Rule_grammar_Rule := by kernel_rfl
theorem resc_slices_IndexFunc_grammar_Rule_grammar_Rule : mapM' (compRes PP) Try.f57.results.toList = some res_slices_IndexFunc_grammar_Rule_grammar_Rule := by kernel_rfl
theorem body_slices_IndexFunc_grammar_Rule_grammar_Rule : hasBody PP 57 = true := by kernel_rfl
theorem enter_slices_IndexFunc_grammar_Rule_grammar_Rule {args : List AV} {h : AHeap} {R : AEnd → AHeap → Prop} (hargs : args.length ≤ 19) (hw : codeWp ⟨PP, Gl, 19, ann_slices_IndexFunc_grammar_Rule_grammar_Rule, h.length, none⟩ code_slices_IndexFunc_grammar_Rule_grammar_Rule (retPost PP Gl h res_slices_IndexFunc_grammar_Rule_grammar_Rule R) (initEnv args) h) : ACalls PP Gl 57 args h R :=
  acalls_of_code Try.func57 body_slices_IndexFunc_grammar_Rule_grammar_Rule comp_slices_IndexFunc_grammar_Rule_grammar_Rule resc_slices_IndexFunc_grammar_Rule_grammar_Rule hargs (Nat.le_trans hargs (by decide)) (codeWp_sound mixed hw)

/-- slices.ContainsFunc[[]apodixis/grammar.Part,apodixis/grammar.Part] -/
def ann_slices_ContainsFunc_grammar_Part_grammar_Part : List Nat := []
def code_slices_ContainsFunc_grammar_Part_grammar_Part : ACode :=
 .seq (.reg [⟨(some 4), .mv (.c (.sc (.bool false))), none, []⟩]) (
 .seq (.reg [⟨(some 5), .mv (.t 0), none, []⟩,
    ⟨(some 6), .mv (.t 1), none, []⟩,
    ⟨(some 7), .call (.c (.fn (.func 63) [] [])) [(.t 5), (.t 6)], none, [0, 1]⟩,
    ⟨(some 8), .bin .geq (.t 7) (.c (.sc (.int .i64 0))), none, [2]⟩,
    ⟨(some 4), .mv (.t 8), none, [3, 2, 0, 1, 2, 3]⟩]) (
 .ret))
def res_slices_ContainsFunc_grammar_Part_grammar_Part : List ResA := [.t 4]
theorem comp_slices_ContainsFunc_grammar_Part_grammar_Part : Try.f58.body.bind (compCode PP ann_slices_ContainsFunc_grammar_Part_grammar_Part 9) = some code_slices_ContainsFunc_grammar_Part_grammar_Part := by kernel_rfl
theorem resc_slices_ContainsFunc_grammar_Part_grammar_Part : mapM' (compRes PP) Try.f58.results.toList = some res_slices_ContainsFunc_grammar_Part_grammar_Part := by kernel_rfl
theorem body_slices_ContainsFunc_grammar_Part_grammar_Part : hasBody PP 58 = true := by kernel_rfl
theorem enter_slices_ContainsFunc_grammar_Part_grammar_Part {args : List AV} {h : AHeap} {R : AEnd → AHeap → Prop} (hargs : args.length ≤ 9) (hw : codeWp ⟨PP, Gl, 9, ann_slices_ContainsFunc_grammar_Part_grammar_Part, h.length, none⟩ code_slices_ContainsFunc_grammar_Part_grammar_Part (retPost PP Gl h res_slices_ContainsFunc_grammar_Part_grammar_Part R) (initEnv args) h) : ACalls PP Gl 58 args h R :=
  acalls_of_code Try.func58 body_slices_ContainsFunc_grammar_Part_grammar_Part comp_slices_ContainsFunc_grammar_Part_grammar_Part resc_slices_ContainsFunc_grammar_Part_grammar_Part hargs (Nat.le_trans hargs (by decide)) (codeWp_sound mixed hw)

/-- (apodixis/grammar.Rule).valid$1 -/
def ann_grammar_Rule_valid_1 : List Nat := [2]
def code_grammar_Rule_valid_1 : ACode :=
 .seq (.reg [⟨(some 2), .box (.t 0), none, []⟩,
    ⟨(some 3), .mv (.c (.sc (.bool false))), none, []⟩]) (
 .seq (.reg [⟨(some 4), .load (.agg 3) (.t 2), none, []⟩,
    ⟨(some 5), .load (.agg 2) (.t 1), none, []⟩,
    ⟨(some 6), .call (.c (.fn (.func 60) [] [])) [(.t 4), (.t 5)], none, [0, 1]⟩,
    ⟨(some 7), .un .not (.t 6), none, [2]⟩,
    ⟨(some 3), .mv (.t 7), none, [3, 2, 0, 1, 2, 3]⟩]) (
 .ret))
def res_grammar_Rule_valid_1 : List ResA := [.t 3]
theorem comp_grammar_Rule_valid_1 : Try.f59.body.bind (compCode PP ann_grammar_Rule_valid_1 8) = some code_grammar_Rule_valid_1 := by kernel_rfl
theorem resc_grammar_Rule_valid_1 : mapM' (compRes PP) Try.f59.results.toList = some res_grammar_Rule_valid_1 := by kernel_rfl
theorem body_grammar_Rule_valid_1 : hasBody PP 59 = true := by kernel_rfl
theorem enter_grammar_Rule_valid_1 {args : List AV} {h : AHeap} {R : AEnd → AHeap → Prop} (hargs : args.length ≤ 8) (hw : codeWp ⟨PP, Gl, 8, ann_grammar_Rule_valid_1, h.length, none⟩ code_grammar_Rule_valid_1 (retPost PP Gl h res_grammar_Rule_valid_1 R) (initEnv args) h) : ACalls PP Gl 59 args h R :=
  acalls_of_code Try.func59 body_grammar_Rule_valid_1 comp_grammar_Rule_valid_1 resc_grammar_Rule_valid_1 hargs (Nat.le_trans hargs (by decide)) (codeWp_sound mixed hw)

/-- (apodixis/grammar.Part).valid -/
def ann_grammar_Part_valid : List Nat := [2, 3]
def code_grammar_Part_valid : ACode :=
 .seq (.reg [⟨(some 2), .box (.t 0), none, []⟩,
    ⟨(some 3), .box (.t 1), none, []⟩,
    ⟨(some 4), .mv (.c (.sc (.bool false))), none, []⟩]) (
 .seq (.seq (.reg [⟨(some 5), .faddr 1 .one (.t 2), none, []⟩,
     ⟨(some 6), .load .one (.t 5), none, [0]⟩,
     ⟨(some 7), .bin .eql (.t 6) (.c (.sc (.string ⟨#[]⟩))), none, [1]⟩]) (
  .cond (.t 7) (.seq (.reg [⟨(some 8), .faddr 0 .one (.t 2), none, []⟩,
      ⟨(some 9), .load .one (.t 8), none, [0]⟩,
      ⟨(some 10), .call (.c (.fn (.func 46) [] [])) [(.t 9)], none, [1]⟩,
      ⟨(some 11), .mv (.t 10), none, [2, 2]⟩,
      ⟨(some 12), .faddr 2 .one (.t 2), (some (11, true)), [3]⟩,
      ⟨(some 13), .load .one (.t 12), (some (11, true)), [4, 3]⟩,
      ⟨(some 14), .bin .eql (.t 13) (.c (.sc (.int .i64 0))), (some (11, true)), [5, 3]⟩,
      ⟨(some 15), .pick (.t 11) (.t 14) (.c (.sc (.bool false))), none, [3, 6]⟩,
      ⟨(some 4), .mv (.t 15), none, [7, 3, 0, 1, 2, 3, 4, 5, 6, 7]⟩]) (
   .ret)) (
  .skip))) (
 .seq (.reg [⟨(some 16), .faddr 0 .one (.t 2), none, []⟩,
    ⟨(some 17), .load .one (.t 16), none, [0]⟩,
    ⟨(some 18), .bin .eql (.t 17) (.c (.sc (.string ⟨#[]⟩))), none, [1]⟩,
    ⟨(some 19), .mv (.t 18), none, [2]⟩,
    ⟨(some 20), .faddr 0 .one (.t 3), (some (19, true)), [3]⟩,
    ⟨(some 21), .load .one (.t 20), (some (19, true)), [4, 3]⟩,
    ⟨(some 22), .faddr 1 .one (.t 2), (some (19, true)), [3]⟩,
    ⟨(some 23), .load .one (.t 22), (some (19, true)), [6, 3]⟩,
    ⟨(some 24), .call (.c (.fn (.func 36) [] [])) [(.t 21), (.t 23)], (some (19, true)), [5, 7, 3, 3]⟩,
    ⟨(some 25), .pick (.t 19) (.t 24) (.c (.sc (.bool false))), none, [3, 8]⟩,
    ⟨(some 4), .mv (.t 25), none, [9, 8, 0, 1, 2, 3, 4, 5, 6, 7, 8, 9]⟩]) (
 .ret)))
def res_grammar_Part_valid : List ResA := [.t 4]
theorem comp_grammar_Part_valid : Try.f60.body.bind (compCode PP ann_grammar_Part_valid 26) = some code_grammar_Part_valid := by kernel_rfl
theorem resc_grammar_Part_valid : mapM' (compRes PP) Try.f60.results.toList = some res_grammar_Part_valid := by kernel_rfl
theorem body_grammar_Part_valid : hasBody PP 60 = true := by kernel_rfl
theorem enter_grammar_Part_valid {args : List AV} {h : AHeap} {R : AEnd → AHeap → Prop} (hargs : args.length ≤ 26) (hw : codeWp ⟨PP, Gl, 26, ann_grammar_Part_valid, h.length, none⟩ code_grammar_Part_valid (retPost PP Gl h res_grammar_Part_valid R) (initEnv args) h) : ACalls PP Gl 60 args h R :=
  acalls_of_code Try.func60 body_grammar_Part_valid comp_grammar_Part_valid resc_grammar_Part_valid hargs (Nat.le_trans hargs (by decide)) (codeWp_sound mixed hw)

/-- (apodixis/grammar.Rule).arguments -/
def ann_grammar_Rule_arguments : List Nat := [1]
def code_grammar_Rule_arguments : ACode :=
 .seq (.reg [⟨(some 1), .box (.t 0), none, []⟩,
    ⟨(some 2), .mv (.c (.sc .nilFunc)), none, []⟩]) (
 .seq (.reg [⟨(some 3), .mkFunc (.func 64) [] [(.t 1)], none, []⟩,
    ⟨(some 2), .mv (.t 3), none, [0, 0]⟩]) (
 .ret))
def res_grammar_Rule_arguments : List ResA := [.t 2]
theorem comp_grammar_Rule_arguments : Try.f61.body.bind (compCode PP ann_grammar_Rule_arguments 4) = some code_grammar_Rule_arguments := by kernel_rfl
theorem resc_grammar_Rule_arguments : mapM' (compRes PP) Try.f61.results.toList = some res_grammar_Rule_arguments := by kernel_rfl
theorem body_grammar_Rule_arguments : hasBody PP 61 = true := by kernel_rfl
theorem enter_grammar_Rule_arguments {args : List AV} {h : AHeap} {R : AEnd → AHeap → Prop} (hargs : args.length ≤ 4) (hw : codeWp ⟨PP, Gl, 4, ann_grammar_Rule_arguments, h.length, none⟩ code_grammar_Rule_arguments (retPost PP Gl h res_grammar_Rule_arguments R) (initEnv args) h) : ACalls PP Gl 61 args h R :=
  acalls_of_code Try.func61 body_grammar_Rule_arguments comp_grammar_Rule_arguments resc_grammar_Rule_arguments hargs (Nat.le_trans hargs (by decide)) (codeWp_sound mixed hw)

/-- slices.Sort[[]int,int] -/
def ann_slices_Sort_int_int : List Nat := []
def code_slices_Sort_int_int : ACode :=
 .seq (.reg [⟨(some 3), .mv (.t 0), none, []⟩,
    ⟨(some 4), .len .sl (.t 3), none, [0]⟩,
    ⟨(some 2), .mv (.t 4), none, [1, 0, 1]⟩]) (
 .reg [⟨(some 5), .mv (.t 0), none, []⟩,
   ⟨(some 6), .mv (.t 2), none, []⟩,
   ⟨(some 7), .mv (.t 2), none, []⟩,
   ⟨(some 8), .conv .u64 (.t 7), none, [2]⟩,
   ⟨(some 9), .call (.c (.fn (.func 66) [] [])) [(.t 8)], none, [3]⟩,
   ⟨(some 10), .call (.c (.fn (.func 65) [] [])) [(.t 5), (.c (.sc (.int .i64 0))), (.t 6), (.t 9)], none, [0, 1, 4, 4]⟩])
def res_slices_Sort_int_int : List ResA := []
theorem comp_slices_Sort_int_int : Try.f62.body.bind (compCode PP ann_slices_Sort_int_int 11) = some code_slices_Sort_int_int := by kernel_rfl
theorem resc_slices_Sort_int_int : mapM' (compRes PP) Try.f62.results.toList = some res_slices_Sort_int_int := by kernel_rfl
theorem body_slices_Sort_int_int : hasBody PP 62 = true := by kernel_rfl
theorem enter_slices_Sort_int_int {args : List AV} {h : AHeap} {R : AEnd → AHeap → Prop} (hargs : args.length ≤ 11) (hw : codeWp ⟨PP, Gl, 11, ann_slices_Sort_int_int, h.length, none⟩ code_slices_Sort_int_int (retPost PP Gl h res_slices_Sort_int_int R) (initEnv args) h) : ACalls PP Gl 62 args h R :=
  acalls_of_code Try.func62 body_slices_Sort_int_int comp_slices_Sort_int_int resc_slices_Sort_int_int hargs (Nat.le_trans hargs (by decide)) (codeWp_sound mixed hw)

def lp0_slices_IndexFunc_grammar_Part_grammar_Part : ACode :=
 .seq (.reg [⟨(some 9), .bin .lss (.t 8) (.t 7), none, []⟩]) (
    .seq (.cond (.t 9) (.skip) (
     .exit 0)) (
    .seq (.block 1 (.seq (.reg [⟨(some 10), .mv (.t 8), none, []⟩,
         ⟨(some 5), .mv (.t 10), none, [0, 0]⟩]) (
      .seq (.reg [⟨(some 11), .mv (.t 1), none, []⟩,
         ⟨(some 12), .mv (.t 0), none, []⟩,
         ⟨(some 13), .mv (.t 5), none, []⟩,
         ⟨(some 14), .iaddr 3 (.t 12) (.t 13), none, [1, 2]⟩,
         ⟨(some 15), .load (.agg 3) (.t 14), none, [3]⟩,
         ⟨(some 16), .call (.t 11) [(.t 15)], none, [0, 4]⟩]) (
      .cond (.t 16) (.seq (.reg [⟨(some 17), .mv (.t 5), none, []⟩,
          ⟨(some 4), .mv (.t 17), none, [0, 0]⟩]) (
       .ret)) (
      .skip))))) (
    .reg [⟨(some 18), .bin .add (.t 8) (.c (.sc (.int .i64 1))), none, []⟩,
      ⟨(some 8), .mv (.t 18), none, [0]⟩])))
/-- slices.IndexFunc[[]apodixis/grammar.Part,apodixis/grammar.Part] -/
def ann_slices_IndexFunc_grammar_Part_grammar_Part : List Nat := []
def code_slices_IndexFunc_grammar_Part_grammar_Part : ACode :=
 .seq (.reg [⟨(some 4), .mv (.c (.sc (.int .i64 0))), none, []⟩]) (
 .seq (.seq (.reg [⟨(some 6), .mv (.t 0), none, []⟩,
     ⟨(some 7), .len .sl (.t 6), none, [0]⟩,
     ⟨(some 8), .mv (.c (.sc (.int .i64 0))), none, []⟩]) (
  .block 0 (.loop lp0_slices_IndexFunc_grammar_Part_grammar_Part))) (
 .seq (.reg [⟨(some 4), .mv (.c (.sc (.int .i64 (-1)))), none, []⟩]) (
 .ret)))
def res_slices_IndexFunc_grammar_Part_grammar_Part : List ResA := [.t 4]
theorem comp_slices_IndexFunc_grammar_Part_grammar_Part : Try.f63.body.bind (compCode PP ann_slices_IndexFunc_grammar_Part_grammar_Part 19) = some code_slices_IndexFunc_grammar_Part_grammar_Part := by kernel_rfl
theorem resc_slices_IndexFunc_grammar_Part_grammar_Part : mapM' (compRes PP) Try.f63.results.toList = some res_slices_IndexFunc_grammar_Part_grammar_Part := by kernel_rfl
theorem body_slices_IndexFunc_grammar_Part_grammar_Part : hasBody PP 63 = true := by kernel_rfl
theorem enter_slices_IndexFunc_grammar_Part_grammar_Part {args : List AV} {h : AHeap} {R : AEnd → AHeap → Prop} (hargs : args.length ≤ 19) (hw : codeWp ⟨PP, Gl, 19, ann_slices_IndexFunc_grammar_Part_grammar_Part, h.length, none⟩ code_slices_IndexFunc_grammar_Part_grammar_Part (retPost PP Gl h res_slices_IndexFunc_grammar_Part_grammar_Part R) (initEnv args) h) : ACalls PP Gl 63 args h R :=
  acalls_of_code Try.func63 body_slices_IndexFunc_grammar_Part_grammar_Part comp_slices_IndexFunc_grammar_Part_grammar_Part resc_slices_IndexFunc_grammar_Part_grammar_Part hargs (Nat.le_trans hargs (by decide)) (codeWp_sound mixed hw)

def lp0_grammar_Rule_arguments_1 : ACode :=
 .seq (.reg [⟨(some 9), .bin .lss (.t 8) (.t 7), none, []⟩]) (
   .seq (.cond (.t 9) (.skip) (
    .exit 0)) (
   .seq (.block 1 (.seq (.reg [⟨(some 10), .iaddr 3 (.t 6) (.t 8), none, []⟩,
        ⟨(some 11), .load (.agg 3) (.t 10), none, [0]⟩,
        ⟨(some 4), .pnew 3, none, []⟩,
        ⟨none, .pstore 3 4 (.t 11), none, [2, 1, 0, 1, 2]⟩]) (
     .seq (.reg [⟨(some 12), .faddr 1 .one (.t 4), none, []⟩,
        ⟨(some 13), .load .one (.t 12), none, [0]⟩,
        ⟨(some 14), .bin .neq (.t 13) (.c (.sc (.string ⟨#[]⟩))), none, [1]⟩,
        ⟨(some 15), .mv (.t 14), none, [2]⟩,
        ⟨(some 16), .mv (.t 0), (some (15, true)), [3]⟩,
        ⟨(some 17), .load (.agg 3) (.t 4), (some (15, true)), [3]⟩,
        ⟨(some 18), .call (.t 16) [(.t 17)], (some (15, true)), [4, 5, 3, 3]⟩,
        ⟨(some 19), .un .not (.t 18), (some (15, true)), [6, 3]⟩,
        ⟨(some 20), .pick (.t 15) (.t 19) (.c (.sc (.bool false))), none, [3, 7]⟩]) (
     .cond (.t 20) (.ret) (
     .skip))))) (
   .reg [⟨(some 21), .bin .add (.t 8) (.c (.sc (.int .i64 1))), none, []⟩,
     ⟨(some 8), .mv (.t 21), none, [0]⟩])))
/-- (apodixis/grammar.Rule).arguments$1 -/
def ann_grammar_Rule_arguments_1 : List Nat := [4]
def code_grammar_Rule_arguments_1 : ACode :=
 .seq (.reg [⟨(some 5), .faddr 2 .one (.t 1), none, []⟩,
    ⟨(some 6), .load .one (.t 5), none, [0]⟩,
    ⟨(some 7), .len .sl (.t 6), none, [1]⟩,
    ⟨(some 8), .mv (.c (.sc (.int .i64 0))), none, []⟩]) (
 .block 0 (.loop lp0_grammar_Rule_arguments_1))
def res_grammar_Rule_arguments_1 : List ResA := []
theorem comp_grammar_Rule_arguments_1 : Try.f64.body.bind (compCode PP ann_grammar_Rule_arguments_1 22) = some code_grammar_Rule_arguments_1 := by kernel_rfl
theorem resc_grammar_Rule_arguments_1 : mapM' (compRes PP) Try.f64.results.toList = some res_grammar_Rule_arguments_1 := by kernel_rfl
theorem body_grammar_Rule_arguments_1 : hasBody PP 64 = true := by kernel_rfl
theorem enter_grammar_Rule_arguments_1 {args : List AV} {h : AHeap} {R : AEnd → AHeap → Prop} (hargs : args.length ≤ 22) (hw : codeWp ⟨PP, Gl, 22, ann_grammar_Rule_arguments_1, h.length, none⟩ code_grammar_Rule_arguments_1 (retPost PP Gl h res_grammar_Rule_arguments_1 R) (initEnv args) h) : ACalls PP Gl 64 args h R :=
  acalls_of_code Try.func64 body_grammar_Rule_arguments_1 comp_grammar_Rule_arguments_1 resc_grammar_Rule_arguments_1 hargs (Nat.le_trans hargs (by decide)) (codeWp_sound mixed hw)

def lp0_slices_pdqsortOrdered_int : ACode :=
 .block 1 (.seq (.reg [⟨(some 19), .mv (.t 2), none, []⟩,
       ⟨(some 20), .mv (.t 1), none, []⟩,
       ⟨(some 21), .bin .sub (.t 19) (.t 20), none, [0, 1]⟩,
       ⟨(some 10), .mv (.t 21), none, [2, 0, 1, 2]⟩]) (
    .seq (.seq (.reg [⟨(some 22), .mv (.t 10), none, []⟩,
        ⟨(some 23), .bin .leq (.t 22) (.c (.sc (.int .i64 12))), none, [0]⟩]) (
     .cond (.t 23) (.seq (.reg [⟨(some 24), .mv (.t 0), none, []⟩,
         ⟨(some 25), .mv (.t 1), none, []⟩,
         ⟨(some 26), .mv (.t 2), none, []⟩,
         ⟨(some 27), .call (.c (.fn (.func 67) [] [])) [(.t 24), (.t 25), (.t 26)], none, [0, 1, 2]⟩]) (
      .ret)) (
     .skip))) (
    .seq (.seq (.reg [⟨(some 28), .mv (.t 3), none, []⟩,
        ⟨(some 29), .bin .eql (.t 28) (.c (.sc (.int .i64 0))), none, [0]⟩]) (
     .cond (.t 29) (.seq (.reg [⟨(some 30), .mv (.t 0), none, []⟩,
         ⟨(some 31), .mv (.t 1), none, []⟩,
         ⟨(some 32), .mv (.t 2), none, []⟩,
         ⟨(some 33), .call (.c (.fn (.func 68) [] [])) [(.t 30), (.t 31), (.t 32)], none, [0, 1, 2]⟩]) (
      .ret)) (
     .skip))) (
    .seq (.seq (.reg [⟨(some 34), .mv (.t 8), none, []⟩,
        ⟨(some 35), .un .not (.t 34), none, [0]⟩]) (
     .cond (.t 35) (.seq (.reg [⟨(some 36), .mv (.t 0), none, []⟩,
         ⟨(some 37), .mv (.t 1), none, []⟩,
         ⟨(some 38), .mv (.t 2), none, []⟩,
         ⟨(some 39), .call (.c (.fn (.func 69) [] [])) [(.t 36), (.t 37), (.t 38)], none, [0, 1, 2]⟩]) (
      .reg [⟨(some 40), .mv (.t 3), none, []⟩,
        ⟨(some 41), .bin .sub (.t 40) (.c (.sc (.int .i64 1))), none, [0]⟩,
        ⟨(some 3), .mv (.t 41), none, [1, 0, 1]⟩])) (
     .skip))) (
    .seq (.reg [⟨(some 43), .mv (.t 0), none, []⟩,
       ⟨(some 44), .mv (.t 1), none, []⟩,
       ⟨(some 45), .mv (.t 2), none, []⟩,
       ⟨(some 46), .call (.c (.fn (.func 70) [] [])) [(.t 43), (.t 44), (.t 45)], none, [0, 1, 2]⟩,
       ⟨(some 42), .mv (.t 46), none, [3]⟩,
       ⟨(some 47), .extract (.t 42) 0, none, [4]⟩,
       ⟨(some 48), .extract (.t 42) 1, none, [4]⟩,
       ⟨(some 11), .mv (.t 47), none, [5, 3, 0, 1, 2, 3, 4, 5]⟩,
       ⟨(some 12), .mv (.t 48), none, [6, 7, 0, 1, 2, 3, 4, 5, 6, 7]⟩]) (
    .seq (.seq (.reg [⟨(some 49), .mv (.t 12), none, []⟩,
        ⟨(some 50), .bin .eql (.t 49) (.c (.sc (.int .i64 2))), none, [0]⟩]) (
     .cond (.t 50) (.seq (.reg [⟨(some 51), .mv (.t 0), none, []⟩,
         ⟨(some 52), .mv (.t 1), none, []⟩,
         ⟨(some 53), .mv (.t 2), none, []⟩,
         ⟨(some 54), .call (.c (.fn (.func 71) [] [])) [(.t 51), (.t 52), (.t 53)], none, [0, 1, 2]⟩]) (
      .seq (.reg [⟨(some 55), .mv (.t 2), none, []⟩,
         ⟨(some 56), .bin .sub (.t 55) (.c (.sc (.int .i64 1))), none, [0]⟩,
         ⟨(some 57), .mv (.t 11), none, []⟩,
         ⟨(some 58), .mv (.t 1), none, []⟩,
         ⟨(some 59), .bin .sub (.t 57) (.t 58), none, [2, 3]⟩,
         ⟨(some 60), .bin .sub (.t 56) (.t 59), none, [1, 4]⟩,
         ⟨(some 11), .mv (.t 60), none, [5, 0, 1, 2, 3, 4, 5]⟩]) (
      .reg [⟨(some 12), .mv (.c (.sc (.int .i64 1))), none, []⟩]))) (
     .skip))) (
    .seq (.seq (.reg [⟨(some 61), .mv (.t 8), none, []⟩,
        ⟨(some 62), .mv (.t 61), none, [0]⟩,
        ⟨(some 63), .mv (.t 9), (some (62, true)), [1]⟩,
        ⟨(some 64), .pick (.t 62) (.t 63) (.c (.sc (.bool false))), none, [1, 2]⟩,
        ⟨(some 65), .mv (.t 64), none, [3, 1]⟩,
        ⟨(some 66), .mv (.t 12), (some (65, true)), [4]⟩,
        ⟨(some 67), .bin .eql (.t 66) (.c (.sc (.int .i64 1))), (some (65, true)), [5, 4]⟩,
        ⟨(some 68), .pick (.t 65) (.t 67) (.c (.sc (.bool false))), none, [4, 6]⟩]) (
     .cond (.t 68) (.seq (.reg [⟨(some 69), .mv (.t 0), none, []⟩,
         ⟨(some 70), .mv (.t 1), none, []⟩,
         ⟨(some 71), .mv (.t 2), none, []⟩,
         ⟨(some 72), .call (.c (.fn (.func 72) [] [])) [(.t 69), (.t 70), (.t 71)], none, [0, 1, 2]⟩]) (
      .cond (.t 72) (.ret) (
      .skip))) (
     .skip))) (
    .seq (.seq (.dreg [(false, ⟨(some 73), .mv (.t 1), none, []⟩),
        (false, ⟨(some 74), .bin .gtr (.t 73) (.c (.sc (.int .i64 0))), none, [0]⟩),
        (false, ⟨(some 75), .mv (.t 74), none, [1]⟩),
        (true, ⟨(some 76), .mv (.t 0), (some (75, true)), [2]⟩),
        (true, ⟨(some 77), .mv (.t 1), (some (75, true)), [2]⟩),
        (true, ⟨(some 78), .bin .sub (.t 77) (.c (.sc (.int .i64 1))), (some (75, true)), [4, 2]⟩),
        (true, ⟨(some 79), .iaddr 1 (.t 76) (.t 78), (some (75, true)), [3, 5, 2]⟩),
        (true, ⟨(some 80), .load .one (.t 79), (some (75, true)), [6, 2]⟩),
        (true, ⟨(some 81), .mv (.t 0), (some (75, true)), [2]⟩),
        (false, ⟨(some 82), .mv (.t 11), (some (75, true)), [2]⟩),
        (false, ⟨(some 83), .iaddr 1 (.t 81) (.t 82), (some (75, true)), [8, 9, 2]⟩),
        (false, ⟨(some 84), .load .one (.t 83), (some (75, true)), [10, 2]⟩),
        (false, ⟨(some 85), .call (.c (.fn (.func 73) [] [])) [(.t 80), (.t 84)], (some (75, true)), [7, 11, 2, 2]⟩),
        (false, ⟨(some 86), .un .not (.t 85), (some (75, true)), [12, 2]⟩),
        (false, ⟨(some 87), .pick (.t 75) (.t 86) (.c (.sc (.bool false))), none, [2, 13]⟩)]) (
     .cond (.t 87) (.seq (.reg [⟨(some 88), .mv (.t 0), none, []⟩,
         ⟨(some 89), .mv (.t 1), none, []⟩,
         ⟨(some 90), .mv (.t 2), none, []⟩,
         ⟨(some 91), .mv (.t 11), none, []⟩,
         ⟨(some 92), .call (.c (.fn (.func 74) [] [])) [(.t 88), (.t 89), (.t 90), (.t 91)], none, [0, 1, 2, 3]⟩,
         ⟨(some 13), .mv (.t 92), none, [4, 4, 0, 1, 2, 3, 4]⟩]) (
      .seq (.reg [⟨(some 93), .mv (.t 13), none, []⟩,
         ⟨(some 1), .mv (.t 93), none, [0, 0]⟩]) (
      .exit 1))) (
     .skip))) (
    .seq (.reg [⟨(some 95), .mv (.t 0), none, []⟩,
       ⟨(some 96), .mv (.t 1), none, []⟩,
       ⟨(some 97), .mv (.t 2), none, []⟩,
       ⟨(some 98), .mv (.t 11), none, []⟩,
       ⟨(some 99), .call (.c (.fn (.func 75) [] [])) [(.t 95), (.t 96), (.t 97), (.t 98)], none, [0, 1, 2, 3]⟩,
       ⟨(some 94), .mv (.t 99), none, [4]⟩,
       ⟨(some 100), .extract (.t 94) 0, none, [5]⟩,
       ⟨(some 101), .extract (.t 94) 1, none, [5]⟩,
       ⟨(some 14), .mv (.t 100), none, [6, 4, 0, 1, 2, 3, 4, 5, 6]⟩,
       ⟨(some 15), .mv (.t 101), none, [7, 8, 0, 1, 2, 3, 4, 5, 6, 7, 8]⟩]) (
    .seq (.reg [⟨(some 102), .mv (.t 15), none, []⟩,
       ⟨(some 9), .mv (.t 102), none, [0, 0]⟩]) (
    .seq (.reg [⟨(some 103), .mv (.t 14), none, []⟩,
       ⟨(some 104), .mv (.t 1), none, []⟩,
       ⟨(some 105), .bin .sub (.t 103) (.t 104), none, [0, 1]⟩,
       ⟨(some 106), .mv (.t 2), none, []⟩,
       ⟨(some 107), .mv (.t 14), none, []⟩,
       ⟨(some 108), .bin .sub (.t 106) (.t 107), none, [3, 4]⟩,
       ⟨(some 16), .mv (.t 105), none, [2, 0, 1, 2]⟩,
       ⟨(some 17), .mv (.t 108), none, [5, 6, 0, 1, 2, 3, 4, 5, 6]⟩]) (
    .seq (.reg [⟨(some 109), .mv (.t 10), none, []⟩,
       ⟨(some 110), .bin .quo (.t 109) (.c (.sc (.int .i64 8))), none, [0]⟩,
       ⟨(some 18), .mv (.t 110), none, [1, 0, 1]⟩]) (
    .seq (.reg [⟨(some 111), .mv (.t 16), none, []⟩,
       ⟨(some 112), .mv (.t 17), none, []⟩,
       ⟨(some 113), .bin .lss (.t 111) (.t 112), none, [0, 1]⟩]) (
    .cond (.t 113) (.seq (.reg [⟨(some 114), .mv (.t 16), none, []⟩,
        ⟨(some 115), .mv (.t 18), none, []⟩,
        ⟨(some 116), .bin .geq (.t 114) (.t 115), none, [0, 1]⟩,
        ⟨(some 8), .mv (.t 116), none, [2, 0, 1, 2]⟩]) (
     .seq (.reg [⟨(some 117), .mv (.t 0), none, []⟩,
        ⟨(some 118), .mv (.t 1), none, []⟩,
        ⟨(some 119), .mv (.t 14), none, []⟩,
        ⟨(some 120), .mv (.t 3), none, []⟩,
        ⟨(some 121), .call (.c (.fn (.func 65) [] [])) [(.t 117), (.t 118), (.t 119), (.t 120)], none, [0, 1, 2, 3]⟩]) (
     .reg [⟨(some 122), .mv (.t 14), none, []⟩,
       ⟨(some 123), .bin .add (.t 122) (.c (.sc (.int .i64 1))), none, [0]⟩,
       ⟨(some 1), .mv (.t 123), none, [1, 0, 1]⟩]))) (
    .seq (.reg [⟨(some 124), .mv (.t 17), none, []⟩,
        ⟨(some 125), .mv (.t 18), none, []⟩,
        ⟨(some 126), .bin .geq (.t 124) (.t 125), none, [0, 1]⟩,
        ⟨(some 8), .mv (.t 126), none, [2, 0, 1, 2]⟩]) (
     .seq (.reg [⟨(some 127), .mv (.t 0), none, []⟩,
        ⟨(some 128), .mv (.t 14), none, []⟩,
        ⟨(some 129), .bin .add (.t 128) (.c (.sc (.int .i64 1))), none, [1]⟩,
        ⟨(some 130), .mv (.t 2), none, []⟩,
        ⟨(some 131), .mv (.t 3), none, []⟩,
        ⟨(some 132), .call (.c (.fn (.func 65) [] [])) [(.t 127), (.t 129), (.t 130), (.t 131)], none, [0, 2, 3, 4]⟩]) (
     .reg [⟨(some 133), .mv (.t 14), none, []⟩,
       ⟨(some 2), .mv (.t 133), none, [0, 0]⟩])))))))))))))))))
/-- slices.pdqsortOrdered[int] -/
def ann_slices_pdqsortOrdered_int : List Nat := []
def code_slices_pdqsortOrdered_int : ACode :=
 .seq (.reg [⟨(some 8), .mv (.c (.sc (.bool true))), none, []⟩]) (
 .seq (.reg [⟨(some 9), .mv (.c (.sc (.bool true))), none, []⟩]) (
 .block 0 (.loop lp0_slices_pdqsortOrdered_int)))
def res_slices_pdqsortOrdered_int : List ResA := []
theorem comp_slices_pdqsortOrdered_int : Try.f65.body.bind (compCode PP ann_slices_pdqsortOrdered_int 134) = some code_slices_pdqsortOrdered_int := by kernel_rfl
theorem resc_slices_pdqsortOrdered_int : mapM' (compRes PP) Try.f65.results.toList = some res_slices_pdqsortOrdered_int := by kernel_rfl
theorem body_slices_pdqsortOrdered_int : hasBody PP 65 = true := by kernel_rfl
theorem enter_slices_pdqsortOrdered_int {args : List AV} {h : AHeap} {R : AEnd → AHeap → Prop} (hargs : args.length ≤ 134) (hw : codeWp ⟨PP, Gl, 134, ann_slices_pdqsortOrdered_int, h.length, none⟩ code_slices_pdqsortOrdered_int (retPost PP Gl h res_slices_pdqsortOrdered_int R) (initEnv args) h) : ACalls PP Gl 65 args h R :=
  acalls_of_code Try.func65 body_slices_pdqsortOrdered_int comp_slices_pdqsortOrdered_int resc_slices_pdqsortOrdered_int hargs (Nat.le_trans hargs (by decide)) (codeWp_sound mixed hw)

/-- math/bits.Len -/
def ann_math_bits_Len : List Nat := []
def code_math_bits_Len : ACode :=
 .seq (.reg [⟨(some 2), .mv (.c (.sc (.int .i64 0))), none, []⟩]) (
 .seq (.cond (.c (.sc (.bool false))) (.seq (.reg [⟨(some 3), .mv (.t 0), none, []⟩,
      ⟨(some 4), .conv .u32 (.t 3), none, [0]⟩,
      ⟨(some 5), .call (.c (.fn (.func 76) [] [])) [(.t 4)], none, [1]⟩,
      ⟨(some 2), .mv (.t 5), none, [2, 2, 0, 1, 2]⟩]) (
   .ret)) (
  .skip)) (
 .seq (.reg [⟨(some 6), .mv (.t 0), none, []⟩,
    ⟨(some 7), .call (.c (.fn (.func 77) [] [])) [(.t 6)], none, [0]⟩,
    ⟨(some 2), .mv (.t 7), none, [1, 1, 0, 1]⟩]) (
 .ret)))
def res_math_bits_Len : List ResA := [.t 2]
theorem comp_math_bits_Len : Try.f66.body.bind (compCode PP ann_math_bits_Len 8) = some code_math_bits_Len := by kernel_rfl
theorem resc_math_bits_Len : mapM' (compRes PP) Try.f66.results.toList = some res_math_bits_Len := by kernel_rfl
theorem body_math_bits_Len : hasBody PP 66 = true := by kernel_rfl
theorem enter_math_bits_Len {args : List AV} {h : AHeap} {R : AEnd → AHeap → Prop} (hargs : args.length ≤ 8) (hw : codeWp ⟨PP, Gl, 8, ann_math_bits_Len, h.length, none⟩ code_math_bits_Len (retPost PP Gl h res_math_bits_Len R) (initEnv args) h) : ACalls PP Gl 66 args h R :=
  acalls_of_code Try.func66 body_math_bits_Len comp_math_bits_Len resc_math_bits_Len hargs (Nat.le_trans hargs (by decide)) (codeWp_sound mixed hw)

def lp1_slices_insertionSortOrdered_int : ACode :=
 .seq (.seq (.dreg [(true, ⟨(some 16), .mv (.t 7), none, []⟩),
           (false, ⟨(some 17), .mv (.t 1), none, []⟩),
           (false, ⟨(some 18), .bin .gtr (.t 16) (.t 17), none, [0, 1]⟩),
           (false, ⟨(some 19), .mv (.t 18), none, [2]⟩),
           (true, ⟨(some 20), .mv (.t 0), (some (19, true)), [3]⟩),
           (true, ⟨(some 21), .mv (.t 7), (some (19, true)), [3]⟩),
           (true, ⟨(some 22), .iaddr 1 (.t 20) (.t 21), (some (19, true)), [4, 5, 3]⟩),
           (true, ⟨(some 23), .load .one (.t 22), (some (19, true)), [6, 3]⟩),
           (true, ⟨(some 24), .mv (.t 0), (some (19, true)), [3]⟩),
           (false, ⟨(some 25), .mv (.t 7), (some (19, true)), [3]⟩),
           (false, ⟨(some 26), .bin .sub (.t 25) (.c (.sc (.int .i64 1))), (some (19, true)), [9, 3]⟩),
           (false, ⟨(some 27), .iaddr 1 (.t 24) (.t 26), (some (19, true)), [8, 10, 3]⟩),
           (false, ⟨(some 28), .load .one (.t 27), (some (19, true)), [11, 3]⟩),
           (false, ⟨(some 29), .call (.c (.fn (.func 73) [] [])) [(.t 23), (.t 28)], (some (19, true)), [7, 12, 3, 3]⟩),
           (false, ⟨(some 30), .pick (.t 19) (.t 29) (.c (.sc (.bool false))), none, [3, 13]⟩)]) (
        .cond (.t 30) (.skip) (
        .exit 2))) (
       .seq (.block 3 (.dreg [(true, ⟨(some 33), .mv (.t 0), none, []⟩),
           (true, ⟨(some 34), .mv (.t 7), none, []⟩),
           (true, ⟨(some 35), .mv (.t 0), none, []⟩),
           (true, ⟨(some 36), .mv (.t 7), none, []⟩),
           (true, ⟨(some 37), .bin .sub (.t 36) (.c (.sc (.int .i64 1))), none, [3]⟩),
           (true, ⟨(some 38), .mv (.t 0), none, []⟩),
           (true, ⟨(some 39), .mv (.t 7), none, []⟩),
           (true, ⟨(some 40), .bin .sub (.t 39) (.c (.sc (.int .i64 1))), none, [6]⟩),
           (true, ⟨(some 41), .iaddr 1 (.t 38) (.t 40), none, [5, 7]⟩),
           (true, ⟨(some 42), .load .one (.t 41), none, [8]⟩),
           (true, ⟨(some 43), .mv (.t 0), none, []⟩),
           (false, ⟨(some 44), .mv (.t 7), none, []⟩),
           (false, ⟨(some 45), .iaddr 1 (.t 43) (.t 44), none, [10, 11]⟩),
           (false, ⟨(some 46), .load .one (.t 45), none, [12]⟩),
           (false, ⟨(some 47), .iaddr 1 (.t 33) (.t 34), none, [0, 1, 0, 1, 5, 6, 7, 8, 9, 13]⟩),
           (false, ⟨none, .store 1 (.t 47) (.t 42), none, [14, 9, 0, 1, 5, 6, 7, 8, 9, 13]⟩),
           (false, ⟨(some 48), .iaddr 1 (.t 35) (.t 37), none, [2, 4, 0, 1, 2, 3, 4, 5, 6, 7, 8, 9, 10, 11, 12, 13, 14, 15]⟩),
           (false, ⟨none, .store 1 (.t 48) (.t 46), none, [16, 13, 15, 0, 1, 2, 3, 4, 5, 6, 7, 8, 9, 10, 11, 12, 13, 14, 15]⟩)])) (
       .reg [⟨(some 31), .mv (.t 7), none, []⟩,
         ⟨(some 32), .bin .sub (.t 31) (.c (.sc (.int .i64 1))), none, [0]⟩,
         ⟨(some 7), .mv (.t 32), none, [1, 0, 1]⟩]))
def lp0_slices_insertionSortOrdered_int : ACode :=
 .seq (.seq (.reg [⟨(some 10), .mv (.t 6), none, []⟩,
       ⟨(some 11), .mv (.t 2), none, []⟩,
       ⟨(some 12), .bin .lss (.t 10) (.t 11), none, [0, 1]⟩]) (
    .cond (.t 12) (.skip) (
    .exit 0))) (
   .seq (.block 1 (.seq (.reg [⟨(some 15), .mv (.t 6), none, []⟩,
        ⟨(some 7), .mv (.t 15), none, [0, 0]⟩]) (
     .block 2 (.loop lp1_slices_insertionSortOrdered_int)))) (
   .reg [⟨(some 13), .mv (.t 6), none, []⟩,
     ⟨(some 14), .bin .add (.t 13) (.c (.sc (.int .i64 1))), none, [0]⟩,
     ⟨(some 6), .mv (.t 14), none, [1, 0, 1]⟩]))
/-- slices.insertionSortOrdered[int] -/
def ann_slices_insertionSortOrdered_int : List Nat := []
def code_slices_insertionSortOrdered_int : ACode :=
 .seq (.reg [⟨(some 8), .mv (.t 1), none, []⟩,
    ⟨(some 9), .bin .add (.t 8) (.c (.sc (.int .i64 1))), none, [0]⟩,
    ⟨(some 6), .mv (.t 9), none, [1, 0, 1]⟩]) (
 .block 0 (.loop lp0_slices_insertionSortOrdered_int))
def res_slices_insertionSortOrdered_int : List ResA := []
theorem comp_slices_insertionSortOrdered_int : Try.f67.body.bind (compCode PP ann_slices_insertionSortOrdered_int 49) = some code_slices_insertionSortOrdered_int := by kernel_rfl
theorem resc_slices_insertionSortOrdered_int : mapM' (compRes PP) Try.f67.results.toList = some res_slices_insertionSortOrdered_int := by kernel_rfl
theorem body_slices_insertionSortOrdered_int : hasBody PP 67 = true := by kernel_rfl
theorem enter_slices_insertionSortOrdered_int {args : List AV} {h : AHeap} {R : AEnd → AHeap → Prop} (hargs : args.length ≤ 49) (hw : codeWp ⟨PP, Gl, 49, ann_slices_insertionSortOrdered_int, h.length, none⟩ code_slices_insertionSortOrdered_int (retPost PP Gl h res_slices_insertionSortOrdered_int R) (initEnv args) h) : ACalls PP Gl 67 args h R :=
  acalls_of_code Try.func67 body_slices_insertionSortOrdered_int comp_slices_insertionSortOrdered_int resc_slices_insertionSortOrdered_int hargs (Nat.le_trans hargs (by decide)) (codeWp_sound mixed hw)

/-- cmp.Less[int] -/
def ann_cmp_Less_int : List Nat := []
def code_cmp_Less_int : ACode :=
 .seq (.reg [⟨(some 4), .mv (.c (.sc (.bool false))), none, []⟩]) (
 .seq (.reg [⟨(some 5), .mv (.t 0), none, []⟩,
    ⟨(some 6), .call (.c (.fn (.func 83) [] [])) [(.t 5)], none, [0]⟩,
    ⟨(some 7), .mv (.t 6), none, [1, 1]⟩,
    ⟨(some 8), .mv (.t 1), (some (7, true)), [2]⟩,
    ⟨(some 9), .call (.c (.fn (.func 83) [] [])) [(.t 8)], (some (7, true)), [3, 2, 2]⟩,
    ⟨(some 10), .un .not (.t 9), (some (7, true)), [4, 2]⟩,
    ⟨(some 11), .pick (.t 7) (.t 10) (.c (.sc (.bool false))), none, [2, 5]⟩,
    ⟨(some 12), .mv (.t 11), none, [6, 4]⟩,
    ⟨(some 13), .mv (.t 0), (some (12, false)), [7]⟩,
    ⟨(some 14), .mv (.t 1), (some (12, false)), [7]⟩,
    ⟨(some 15), .bin .lss (.t 13) (.t 14), (some (12, false)), [8, 9, 7]⟩,
    ⟨(some 16), .pick (.t 12) (.c (.sc (.bool true))) (.t 15), none, [7, 10]⟩,
    ⟨(some 4), .mv (.t 16), none, [11, 7, 0, 1, 2, 3, 4, 5, 6, 7, 8, 9, 10, 11]⟩]) (
 .ret))
def res_cmp_Less_int : List ResA := [.t 4]
theorem comp_cmp_Less_int : Try.f73.body.bind (compCode PP ann_cmp_Less_int 17) = some code_cmp_Less_int := by kernel_rfl
theorem resc_cmp_Less_int : mapM' (compRes PP) Try.f73.results.toList = some res_cmp_Less_int := by kernel_rfl
theorem body_cmp_Less_int : hasBody PP 73 = true := by kernel_rfl
theorem enter_cmp_Less_int {args : List AV} {h : AHeap} {R : AEnd → AHeap → Prop} (hargs : args.length ≤ 17) (hw : codeWp ⟨PP, Gl, 17, ann_cmp_Less_int, h.length, none⟩ code_cmp_Less_int (retPost PP Gl h res_cmp_Less_int R) (initEnv args) h) : ACalls PP Gl 73 args h R :=
  acalls_of_code Try.func73 body_cmp_Less_int comp_cmp_Less_int resc_cmp_Less_int hargs (Nat.le_trans hargs (by decide)) (codeWp_sound mixed hw)

/-- math/bits.Len64 -/
def ann_math_bits_Len64 : List Nat := []
def code_math_bits_Len64 : ACode :=
 .seq (.reg [⟨(some 2), .mv (.c (.sc (.int .i64 0))), none, []⟩]) (
 .seq (.seq (.reg [⟨(some 3), .mv (.t 0), none, []⟩,
     ⟨(some 4), .bin .geq (.t 3) (.c (.sc (v64 c64_4294967296))), none, [0]⟩]) (
  .cond (.t 4) (.seq (.reg [⟨(some 5), .mv (.t 0), none, []⟩,
      ⟨(some 6), .bin .shr (.t 5) (.c (.sc (v64 32#64))), none, [0]⟩,
      ⟨(some 0), .mv (.t 6), none, [1, 0, 1]⟩]) (
   .reg [⟨(some 2), .mv (.c (.sc (.int .i64 32))), none, []⟩])) (
  .skip))) (
 .seq (.seq (.reg [⟨(some 7), .mv (.t 0), none, []⟩,
     ⟨(some 8), .bin .geq (.t 7) (.c (.sc (v64 65536#64))), none, [0]⟩]) (
  .cond (.t 8) (.seq (.reg [⟨(some 9), .mv (.t 0), none, []⟩,
      ⟨(some 10), .bin .shr (.t 9) (.c (.sc (v64 16#64))), none, [0]⟩,
      ⟨(some 0), .mv (.t 10), none, [1, 0, 1]⟩]) (
   .reg [⟨(some 11), .mv (.t 2), none, []⟩,
     ⟨(some 12), .bin .add (.t 11) (.c (.sc (.int .i64 16))), none, [0]⟩,
     ⟨(some 2), .mv (.t 12), none, [1, 0, 1]⟩])) (
  .skip))) (
 .seq (.seq (.reg [⟨(some 13), .mv (.t 0), none, []⟩,
     ⟨(some 14), .bin .geq (.t 13) (.c (.sc (v64 256#64))), none, [0]⟩]) (
  .cond (.t 14) (.seq (.reg [⟨(some 15), .mv (.t 0), none, []⟩,
      ⟨(some 16), .bin .shr (.t 15) (.c (.sc (v64 8#64))), none, [0]⟩,
      ⟨(some 0), .mv (.t 16), none, [1, 0, 1]⟩]) (
   .reg [⟨(some 17), .mv (.t 2), none, []⟩,
     ⟨(some 18), .bin .add (.t 17) (.c (.sc (.int .i64 8))), none, [0]⟩,
     ⟨(some 2), .mv (.t 18), none, [1, 0, 1]⟩])) (
  .skip))) (
 .seq (.reg [⟨(some 19), .mv (.t 2), none, []⟩,
    ⟨(some 20), .mv (.t 0), none, []⟩,
    ⟨(some 21), .conv .u8 (.t 20), none, [1]⟩,
    ⟨(some 22), .indexS (.c (.sc (.string ⟨#[0, 1, 2, 2, 3, 3, 3, 3, 4, 4, 4, 4, 4, 4, 4, 4, 5, 5, 5, 5, 5, 5, 5, 5, 5, 5, 5, 5, 5, 5, 5, 5, 6, 6, 6, 6, 6, 6, 6, 6, 6, 6, 6, 6, 6, 6, 6, 6, 6, 6, 6, 6, 6, 6, 6, 6, 6, 6, 6, 6, 6, 6, 6, 6, 7, 7, 7, 7, 7, 7, 7, 7, 7, 7, 7, 7, 7, 7, 7, 7, 7, 7, 7, 7, 7, 7, 7, 7, 7, 7, 7, 7, 7, 7, 7, 7, 7, 7, 7, 7, 7, 7, 7, 7, 7, 7, 7, 7, 7, 7, 7, 7, 7, 7, 7, 7, 7, 7, 7, 7, 7, 7, 7, 7, 7, 7, 7, 7, 8, 8, 8, 8, 8, 8, 8, 8, 8, 8, 8, 8, 8, 8, 8, 8, 8, 8, 8, 8, 8, 8, 8, 8, 8, 8, 8, 8, 8, 8, 8, 8, 8, 8, 8, 8, 8, 8, 8, 8, 8, 8, 8, 8, 8, 8, 8, 8, 8, 8, 8, 8, 8, 8, 8, 8, 8, 8, 8, 8, 8, 8, 8, 8, 8, 8, 8, 8, 8, 8, 8, 8, 8, 8, 8, 8, 8, 8, 8, 8, 8, 8, 8, 8, 8, 8, 8, 8, 8, 8, 8, 8, 8, 8, 8, 8, 8, 8, 8, 8, 8, 8, 8, 8, 8, 8, 8, 8, 8, 8, 8, 8, 8, 8, 8, 8, 8, 8, 8, 8, 8, 8, 8, 8, 8, 8, 8, 8]⟩))) (.t 21), none, [2]⟩,
    ⟨(some 23), .conv .i64 (.t 22), none, [3]⟩,
    ⟨(some 24), .bin .add (.t 19) (.t 23), none, [0, 4]⟩,
    ⟨(some 2), .mv (.t 24), none, [5, 0, 1, 2, 3, 4, 5]⟩]) (
 .ret)))))
def res_math_bits_Len64 : List ResA := [.t 2]
theorem comp_math_bits_Len64 : Try.f77.body.bind (compCode PP ann_math_bits_Len64 25) = some code_math_bits_Len64 := by kernel_rfl
theorem resc_math_bits_Len64 : mapM' (compRes PP) Try.f77.results.toList = some res_math_bits_Len64 := by kernel_rfl
theorem body_math_bits_Len64 : hasBody PP 77 = true := by kernel_rfl
theorem enter_math_bits_Len64 {args : List AV} {h : AHeap} {R : AEnd → AHeap → Prop} (hargs : args.length ≤ 25) (hw : codeWp ⟨PP, Gl, 25, ann_math_bits_Len64, h.length, none⟩ code_math_bits_Len64 (retPost PP Gl h res_math_bits_Len64 R) (initEnv args) h) : ACalls PP Gl 77 args h R :=
  acalls_of_code Try.func77 body_math_bits_Len64 comp_math_bits_Len64 resc_math_bits_Len64 hargs (Nat.le_trans hargs (by decide)) (codeWp_sound mixed hw)

/-- cmp.isNaN[int] -/
def ann_cmp_isNaN_int : List Nat := []
def code_cmp_isNaN_int : ACode :=
 .seq (.reg [⟨(some 2), .mv (.c (.sc (.bool false))), none, []⟩]) (
 .seq (.reg [⟨(some 3), .mv (.t 0), none, []⟩,
    ⟨(some 4), .mv (.t 0), none, []⟩,
    ⟨(some 5), .bin .neq (.t 3) (.t 4), none, [0, 1]⟩,
    ⟨(some 2), .mv (.t 5), none, [2, 0, 1, 2]⟩]) (
 .ret))
def res_cmp_isNaN_int : List ResA := [.t 2]
theorem comp_cmp_isNaN_int : Try.f83.body.bind (compCode PP ann_cmp_isNaN_int 6) = some code_cmp_isNaN_int := by kernel_rfl
theorem resc_cmp_isNaN_int : mapM' (compRes PP) Try.f83.results.toList = some res_cmp_isNaN_int := by kernel_rfl
theorem body_cmp_isNaN_int : hasBody PP 83 = true := by kernel_rfl
theorem enter_cmp_isNaN_int {args : List AV} {h : AHeap} {R : AEnd → AHeap → Prop} (hargs : args.length ≤ 6) (hw : codeWp ⟨PP, Gl, 6, ann_cmp_isNaN_int, h.length, none⟩ code_cmp_isNaN_int (retPost PP Gl h res_cmp_isNaN_int R) (initEnv args) h) : ACalls PP Gl 83 args h R :=
  acalls_of_code Try.func83 body_cmp_isNaN_int comp_cmp_isNaN_int resc_cmp_isNaN_int hargs (Nat.le_trans hargs (by decide)) (codeWp_sound mixed hw)

end Go.Apx
