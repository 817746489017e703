/- The table of functions for the interpreter. -/
import Derived.Test.YtchbhhgnkcaegaaCode
import Derived.Test.YtchbhhgnkcaegaaAmD
namespace Go.Apx
open Go.Proofs
set_option linter.unusedVariables false
def fi_law14_EarleyTexts : FnI := ⟨77, ann_law14_EarleyTexts, code_law14_EarleyTexts, res_law14_EarleyTexts⟩
theorem fok_law14_EarleyTexts : FOk PP 3 fi_law14_EarleyTexts := ⟨_, Try.func3, body_law14_EarleyTexts, rfl, comp_law14_EarleyTexts, resc_law14_EarleyTexts⟩
def fi_law14_nodes : FnI := ⟨31, ann_law14_nodes, code_law14_nodes, res_law14_nodes⟩
theorem fok_law14_nodes : FOk PP 4 fi_law14_nodes := ⟨_, Try.func4, body_law14_nodes, rfl, comp_law14_nodes, resc_law14_nodes⟩
def fi_law13_Small : FnI := ⟨75, ann_law13_Small, code_law13_Small, res_law13_Small⟩
theorem fok_law13_Small : FOk PP 5 fi_law13_Small := ⟨_, Try.func5, body_law13_Small, rfl, comp_law13_Small, resc_law13_Small⟩
def fi_law14_awake : FnI := ⟨70, ann_law14_awake, code_law14_awake, res_law14_awake⟩
theorem fok_law14_awake : FOk PP 6 fi_law14_awake := ⟨_, Try.func6, body_law14_awake, rfl, comp_law14_awake, resc_law14_awake⟩
def fi_law13_Grammar : FnI := ⟨76, ann_law13_Grammar, code_law13_Grammar, res_law13_Grammar⟩
theorem fok_law13_Grammar : FOk PP 7 fi_law13_Grammar := ⟨_, Try.func7, body_law13_Grammar, rfl, comp_law13_Grammar, resc_law13_Grammar⟩
def fi_earley_Text : FnI := ⟨25, ann_earley_Text, code_earley_Text, res_earley_Text⟩
theorem fok_earley_Text : FOk PP 8 fi_earley_Text := ⟨_, Try.func8, body_earley_Text, rfl, comp_earley_Text, resc_earley_Text⟩
def fi_ref14_Text : FnI := ⟨25, ann_ref14_Text, code_ref14_Text, res_ref14_Text⟩
theorem fok_ref14_Text : FOk PP 9 fi_ref14_Text := ⟨_, Try.func9, body_ref14_Text, rfl, comp_ref14_Text, resc_ref14_Text⟩
def fi_law14_same : FnI := ⟨26, ann_law14_same, code_law14_same, res_law14_same⟩
theorem fok_law14_same : FOk PP 10 fi_law14_same := ⟨_, Try.func10, body_law14_same, rfl, comp_law14_same, resc_law14_same⟩
def fi_earley_Sort : FnI := ⟨28, ann_earley_Sort, code_earley_Sort, res_earley_Sort⟩
theorem fok_earley_Sort : FOk PP 11 fi_earley_Sort := ⟨_, Try.func11, body_earley_Sort, rfl, comp_earley_Sort, resc_earley_Sort⟩
def fi_ref14_Sort : FnI := ⟨34, ann_ref14_Sort, code_ref14_Sort, res_ref14_Sort⟩
theorem fok_ref14_Sort : FOk PP 12 fi_ref14_Sort := ⟨_, Try.func12, body_ref14_Sort, rfl, comp_ref14_Sort, resc_ref14_Sort⟩
def fi_law14_doubled : FnI := ⟨11, ann_law14_doubled, code_law14_doubled, res_law14_doubled⟩
theorem fok_law14_doubled : FOk PP 13 fi_law14_doubled := ⟨_, Try.func13, body_law14_doubled, rfl, comp_law14_doubled, resc_law14_doubled⟩
def fi_earley_Parse : FnI := ⟨61, ann_earley_Parse, code_earley_Parse, res_earley_Parse⟩
theorem fok_earley_Parse : FOk PP 14 fi_earley_Parse := ⟨_, Try.func14, body_earley_Parse, rfl, comp_earley_Parse, resc_earley_Parse⟩
def fi_earley_Count : FnI := ⟨29, ann_earley_Count, code_earley_Count, res_earley_Count⟩
theorem fok_earley_Count : FOk PP 15 fi_earley_Count := ⟨_, Try.func15, body_earley_Count, rfl, comp_earley_Count, resc_earley_Count⟩
def fi_earley_newSpeller : FnI := ⟨51, ann_earley_newSpeller, code_earley_newSpeller, res_earley_newSpeller⟩
theorem fok_earley_newSpeller : FOk PP 16 fi_earley_newSpeller := ⟨_, Try.func16, body_earley_newSpeller, rfl, comp_earley_newSpeller, resc_earley_newSpeller⟩
def fi_earley_speller_spell : FnI := ⟨50, ann_earley_speller_spell, code_earley_speller_spell, res_earley_speller_spell⟩
theorem fok_earley_speller_spell : FOk PP 17 fi_earley_speller_spell := ⟨_, Try.func17, body_earley_speller_spell, rfl, comp_earley_speller_spell, resc_earley_speller_spell⟩
def fi_ref14_text : FnI := ⟨59, ann_ref14_text, code_ref14_text, res_ref14_text⟩
theorem fok_ref14_text : FOk PP 18 fi_ref14_text := ⟨_, Try.func18, body_ref14_text, rfl, comp_ref14_text, resc_ref14_text⟩
def fi_earley_speller_rule : FnI := ⟨28, ann_earley_speller_rule, code_earley_speller_rule, res_earley_speller_rule⟩
theorem fok_earley_speller_rule : FOk PP 19 fi_earley_speller_rule := ⟨_, Try.func19, body_earley_speller_rule, rfl, comp_earley_speller_rule, resc_earley_speller_rule⟩
def fi_ref13_Check : FnI := ⟨84, ann_ref13_Check, code_ref13_Check, res_ref13_Check⟩
theorem fok_ref13_Check : FOk PP 20 fi_ref13_Check := ⟨_, Try.func20, body_ref13_Check, rfl, comp_ref13_Check, resc_ref13_Check⟩
def fi_ref14_size : FnI := ⟨42, ann_ref14_size, code_ref14_size, res_ref14_size⟩
theorem fok_ref14_size : FOk PP 21 fi_ref14_size := ⟨_, Try.func21, body_ref14_size, rfl, comp_ref14_size, resc_ref14_size⟩
def fi_ref14_sortOf : FnI := ⟨77, ann_ref14_sortOf, code_ref14_sortOf, res_ref14_sortOf⟩
theorem fok_ref14_sortOf : FOk PP 22 fi_ref14_sortOf := ⟨_, Try.func22, body_ref14_sortOf, rfl, comp_ref14_sortOf, resc_ref14_sortOf⟩
def fi_earley_asked : FnI := ⟨24, ann_earley_asked, code_earley_asked, res_earley_asked⟩
theorem fok_earley_asked : FOk PP 23 fi_earley_asked := ⟨_, Try.func23, body_earley_asked, rfl, comp_earley_asked, resc_earley_asked⟩
def fi_earley_newChart : FnI := ⟨68, ann_earley_newChart, code_earley_newChart, res_earley_newChart⟩
theorem fok_earley_newChart : FOk PP 24 fi_earley_newChart := ⟨_, Try.func24, body_earley_newChart, rfl, comp_earley_newChart, resc_earley_newChart⟩
def fi_earley_any : FnI := ⟨3, ann_earley_any, code_earley_any, res_earley_any⟩
theorem fok_earley_any : FOk PP 25 fi_earley_any := ⟨_, Try.func25, body_earley_any, rfl, comp_earley_any, resc_earley_any⟩
def fi_earley_packer_pack : FnI := ⟨110, ann_earley_packer_pack, code_earley_packer_pack, res_earley_packer_pack⟩
theorem fok_earley_packer_pack : FOk PP 26 fi_earley_packer_pack := ⟨_, Try.func26, body_earley_packer_pack, rfl, comp_earley_packer_pack, resc_earley_packer_pack⟩
def fi_earley_counted : FnI := ⟨63, ann_earley_counted, code_earley_counted, res_earley_counted⟩
theorem fok_earley_counted : FOk PP 27 fi_earley_counted := ⟨_, Try.func27, body_earley_counted, rfl, comp_earley_counted, resc_earley_counted⟩
def fi_grammar_Check : FnI := ⟨66, ann_grammar_Check, code_grammar_Check, res_grammar_Check⟩
theorem fok_grammar_Check : FOk PP 28 fi_grammar_Check := ⟨_, Try.func28, body_grammar_Check, rfl, comp_grammar_Check, resc_grammar_Check⟩
def fi_earley_size : FnI := ⟨36, ann_earley_size, code_earley_size, res_earley_size⟩
theorem fok_earley_size : FOk PP 29 fi_earley_size := ⟨_, Try.func29, body_earley_size, rfl, comp_earley_size, resc_earley_size⟩
def fi_earley_speller_formed : FnI := ⟨77, ann_earley_speller_formed, code_earley_speller_formed, res_earley_speller_formed⟩
theorem fok_earley_speller_formed : FOk PP 30 fi_earley_speller_formed := ⟨_, Try.func30, body_earley_speller_formed, rfl, comp_earley_speller_formed, resc_earley_speller_formed⟩
def fi_ref13_Find : FnI := ⟨22, ann_ref13_Find, code_ref13_Find, res_ref13_Find⟩
theorem fok_ref13_Find : FOk PP 31 fi_ref13_Find := ⟨_, Try.func31, body_ref13_Find, rfl, comp_ref13_Find, resc_ref13_Find⟩
def fi_ref13_name : FnI := ⟨10, ann_ref13_name, code_ref13_name, res_ref13_name⟩
theorem fok_ref13_name : FOk PP 32 fi_ref13_name := ⟨_, Try.func32, body_ref13_name, rfl, comp_ref13_name, resc_ref13_name⟩
def fi_ref13_index : FnI := ⟨19, ann_ref13_index, code_ref13_index, res_ref13_index⟩
theorem fok_ref13_index : FOk PP 33 fi_ref13_index := ⟨_, Try.func33, body_ref13_index, rfl, comp_ref13_index, resc_ref13_index⟩
def fi_ref13_ruleOK : FnI := ⟨92, ann_ref13_ruleOK, code_ref13_ruleOK, res_ref13_ruleOK⟩
theorem fok_ref13_ruleOK : FOk PP 34 fi_ref13_ruleOK := ⟨_, Try.func34, body_ref13_ruleOK, rfl, comp_ref13_ruleOK, resc_ref13_ruleOK⟩
def fi_ref14_args : FnI := ⟨22, ann_ref14_args, code_ref14_args, res_ref14_args⟩
theorem fok_ref14_args : FOk PP 35 fi_ref14_args := ⟨_, Try.func35, body_ref14_args, rfl, comp_ref14_args, resc_ref14_args⟩
def fi_slices_Contains_string_string : FnI := ⟨9, ann_slices_Contains_string_string, code_slices_Contains_string_string, res_slices_Contains_string_string⟩
theorem fok_slices_Contains_string_string : FOk PP 36 fi_slices_Contains_string_string := ⟨_, Try.func36, body_slices_Contains_string_string, rfl, comp_slices_Contains_string_string, resc_slices_Contains_string_string⟩
def fi_earley_chart_open : FnI := ⟨21, ann_earley_chart_open, code_earley_chart_open, res_earley_chart_open⟩
theorem fok_earley_chart_open : FOk PP 37 fi_earley_chart_open := ⟨_, Try.func37, body_earley_chart_open, rfl, comp_earley_chart_open, resc_earley_chart_open⟩
def fi_earley_chart_predict : FnI := ⟨26, ann_earley_chart_predict, code_earley_chart_predict, res_earley_chart_predict⟩
theorem fok_earley_chart_predict : FOk PP 38 fi_earley_chart_predict := ⟨_, Try.func38, body_earley_chart_predict, rfl, comp_earley_chart_predict, resc_earley_chart_predict⟩
def fi_earley_chart_close : FnI := ⟨98, ann_earley_chart_close, code_earley_chart_close, res_earley_chart_close⟩
theorem fok_earley_chart_close : FOk PP 39 fi_earley_chart_close := ⟨_, Try.func39, body_earley_chart_close, rfl, comp_earley_chart_close, resc_earley_chart_close⟩
def fi_earley_chart_scan : FnI := ⟨77, ann_earley_chart_scan, code_earley_chart_scan, res_earley_chart_scan⟩
theorem fok_earley_chart_scan : FOk PP 40 fi_earley_chart_scan := ⟨_, Try.func40, body_earley_chart_scan, rfl, comp_earley_chart_scan, resc_earley_chart_scan⟩
def fi_earley_packer_meet : FnI := ⟨40, ann_earley_packer_meet, code_earley_packer_meet, res_earley_packer_meet⟩
theorem fok_earley_packer_meet : FOk PP 41 fi_earley_packer_meet := ⟨_, Try.func41, body_earley_packer_meet, rfl, comp_earley_packer_meet, resc_earley_packer_meet⟩
def fi_earley_packer_ways : FnI := ⟨41, ann_earley_packer_ways, code_earley_packer_ways, res_earley_packer_ways⟩
theorem fok_earley_packer_ways : FOk PP 42 fi_earley_packer_ways := ⟨_, Try.func42, body_earley_packer_ways, rfl, comp_earley_packer_ways, resc_earley_packer_ways⟩
def fi_earley_counter_count : FnI := ⟨82, ann_earley_counter_count, code_earley_counter_count, res_earley_counter_count⟩
theorem fok_earley_counter_count : FOk PP 43 fi_earley_counter_count := ⟨_, Try.func43, body_earley_counter_count, rfl, comp_earley_counter_count, resc_earley_counter_count⟩
def fi_grammar_Check_1 : FnI := ⟨7, ann_grammar_Check_1, code_grammar_Check_1, res_grammar_Check_1⟩
theorem fok_grammar_Check_1 : FOk PP 44 fi_grammar_Check_1 := ⟨_, Try.func44, body_grammar_Check_1, rfl, comp_grammar_Check_1, resc_grammar_Check_1⟩
def fi_slices_ContainsFunc_grammar_Rule_grammar_Rule : FnI := ⟨9, ann_slices_ContainsFunc_grammar_Rule_grammar_Rule, code_slices_ContainsFunc_grammar_Rule_grammar_Rule, res_slices_ContainsFunc_grammar_Rule_grammar_Rule⟩
theorem fok_slices_ContainsFunc_grammar_Rule_grammar_Rule : FOk PP 45 fi_slices_ContainsFunc_grammar_Rule_grammar_Rule := ⟨_, Try.func45, body_slices_ContainsFunc_grammar_Rule_grammar_Rule, rfl, comp_slices_ContainsFunc_grammar_Rule_grammar_Rule, resc_slices_ContainsFunc_grammar_Rule_grammar_Rule⟩
def fi_grammar_name : FnI := ⟨10, ann_grammar_name, code_grammar_name, res_grammar_name⟩
theorem fok_grammar_name : FOk PP 46 fi_grammar_name := ⟨_, Try.func46, body_grammar_name, rfl, comp_grammar_name, resc_grammar_name⟩
def fi_grammar_Rule_valid : FnI := ⟨62, ann_grammar_Rule_valid, code_grammar_Rule_valid, res_grammar_Rule_valid⟩
theorem fok_grammar_Rule_valid : FOk PP 47 fi_grammar_Rule_valid := ⟨_, Try.func47, body_grammar_Rule_valid, rfl, comp_grammar_Rule_valid, resc_grammar_Rule_valid⟩
def fi_ref13_partOK : FnI := ⟨27, ann_ref13_partOK, code_ref13_partOK, res_ref13_partOK⟩
theorem fok_ref13_partOK : FOk PP 48 fi_ref13_partOK := ⟨_, Try.func48, body_ref13_partOK, rfl, comp_ref13_partOK, resc_ref13_partOK⟩
def fi_slices_Index_string_string : FnI := ⟨19, ann_slices_Index_string_string, code_slices_Index_string_string, res_slices_Index_string_string⟩
theorem fok_slices_Index_string_string : FOk PP 49 fi_slices_Index_string_string := ⟨_, Try.func49, body_slices_Index_string_string, rfl, comp_slices_Index_string_string, resc_slices_Index_string_string⟩
def fi_earley_chart_add : FnI := ⟨40, ann_earley_chart_add, code_earley_chart_add, res_earley_chart_add⟩
theorem fok_earley_chart_add : FOk PP 50 fi_earley_chart_add := ⟨_, Try.func50, body_earley_chart_add, rfl, comp_earley_chart_add, resc_earley_chart_add⟩
def fi_earley_chart_next : FnI := ⟨28, ann_earley_chart_next, code_earley_chart_next, res_earley_chart_next⟩
theorem fok_earley_chart_next : FOk PP 51 fi_earley_chart_next := ⟨_, Try.func51, body_earley_chart_next, rfl, comp_earley_chart_next, resc_earley_chart_next⟩
def fi_earley_chart_advance : FnI := ⟨58, ann_earley_chart_advance, code_earley_chart_advance, res_earley_chart_advance⟩
theorem fok_earley_chart_advance : FOk PP 52 fi_earley_chart_advance := ⟨_, Try.func52, body_earley_chart_advance, rfl, comp_earley_chart_advance, resc_earley_chart_advance⟩
def fi_earley_packer_ways_1 : FnI := ⟨13, ann_earley_packer_ways_1, code_earley_packer_ways_1, res_earley_packer_ways_1⟩
theorem fok_earley_packer_ways_1 : FOk PP 53 fi_earley_packer_ways_1 := ⟨_, Try.func53, body_earley_packer_ways_1, rfl, comp_earley_packer_ways_1, resc_earley_packer_ways_1⟩
def fi_earley_packer_ways_1_1 : FnI := ⟨75, ann_earley_packer_ways_1_1, code_earley_packer_ways_1_1, res_earley_packer_ways_1_1⟩
theorem fok_earley_packer_ways_1_1 : FOk PP 54 fi_earley_packer_ways_1_1 := ⟨_, Try.func54, body_earley_packer_ways_1_1, rfl, comp_earley_packer_ways_1_1, resc_earley_packer_ways_1_1⟩
def fi_earley_packer_leads : FnI := ⟨127, ann_earley_packer_leads, code_earley_packer_leads, res_earley_packer_leads⟩
theorem fok_earley_packer_leads : FOk PP 55 fi_earley_packer_leads := ⟨_, Try.func55, body_earley_packer_leads, rfl, comp_earley_packer_leads, resc_earley_packer_leads⟩
def fi_slices_Clone_earley_span_earley_span : FnI := ⟨8, ann_slices_Clone_earley_span_earley_span, code_slices_Clone_earley_span_earley_span, res_slices_Clone_earley_span_earley_span⟩
theorem fok_slices_Clone_earley_span_earley_span : FOk PP 56 fi_slices_Clone_earley_span_earley_span := ⟨_, Try.func56, body_slices_Clone_earley_span_earley_span, rfl, comp_slices_Clone_earley_span_earley_span, resc_slices_Clone_earley_span_earley_span⟩
def fi_slices_IndexFunc_grammar_Rule_grammar_Rule : FnI := ⟨19, ann_slices_IndexFunc_grammar_Rule_grammar_Rule, code_slices_IndexFunc_grammar_Rule_grammar_Rule, res_slices_IndexFunc_grammar_Rule_grammar_Rule⟩
theorem fok_slices_IndexFunc_grammar_Rule_grammar_Rule : FOk PP 57 fi_slices_IndexFunc_grammar_Rule_grammar_Rule := ⟨_, Try.func57, body_slices_IndexFunc_grammar_Rule_grammar_Rule, rfl, comp_slices_IndexFunc_grammar_Rule_grammar_Rule, resc_slices_IndexFunc_grammar_Rule_grammar_Rule⟩
def fi_slices_ContainsFunc_grammar_Part_grammar_Part : FnI := ⟨9, ann_slices_ContainsFunc_grammar_Part_grammar_Part, code_slices_ContainsFunc_grammar_Part_grammar_Part, res_slices_ContainsFunc_grammar_Part_grammar_Part⟩
theorem fok_slices_ContainsFunc_grammar_Part_grammar_Part : FOk PP 58 fi_slices_ContainsFunc_grammar_Part_grammar_Part := ⟨_, Try.func58, body_slices_ContainsFunc_grammar_Part_grammar_Part, rfl, comp_slices_ContainsFunc_grammar_Part_grammar_Part, resc_slices_ContainsFunc_grammar_Part_grammar_Part⟩
def fi_grammar_Rule_valid_1 : FnI := ⟨8, ann_grammar_Rule_valid_1, code_grammar_Rule_valid_1, res_grammar_Rule_valid_1⟩
theorem fok_grammar_Rule_valid_1 : FOk PP 59 fi_grammar_Rule_valid_1 := ⟨_, Try.func59, body_grammar_Rule_valid_1, rfl, comp_grammar_Rule_valid_1, resc_grammar_Rule_valid_1⟩
def fi_grammar_Part_valid : FnI := ⟨26, ann_grammar_Part_valid, code_grammar_Part_valid, res_grammar_Part_valid⟩
theorem fok_grammar_Part_valid : FOk PP 60 fi_grammar_Part_valid := ⟨_, Try.func60, body_grammar_Part_valid, rfl, comp_grammar_Part_valid, resc_grammar_Part_valid⟩
def fi_grammar_Rule_arguments : FnI := ⟨4, ann_grammar_Rule_arguments, code_grammar_Rule_arguments, res_grammar_Rule_arguments⟩
theorem fok_grammar_Rule_arguments : FOk PP 61 fi_grammar_Rule_arguments := ⟨_, Try.func61, body_grammar_Rule_arguments, rfl, comp_grammar_Rule_arguments, resc_grammar_Rule_arguments⟩
def fi_slices_Sort_int_int : FnI := ⟨11, ann_slices_Sort_int_int, code_slices_Sort_int_int, res_slices_Sort_int_int⟩
theorem fok_slices_Sort_int_int : FOk PP 62 fi_slices_Sort_int_int := ⟨_, Try.func62, body_slices_Sort_int_int, rfl, comp_slices_Sort_int_int, resc_slices_Sort_int_int⟩
def fi_slices_IndexFunc_grammar_Part_grammar_Part : FnI := ⟨19, ann_slices_IndexFunc_grammar_Part_grammar_Part, code_slices_IndexFunc_grammar_Part_grammar_Part, res_slices_IndexFunc_grammar_Part_grammar_Part⟩
theorem fok_slices_IndexFunc_grammar_Part_grammar_Part : FOk PP 63 fi_slices_IndexFunc_grammar_Part_grammar_Part := ⟨_, Try.func63, body_slices_IndexFunc_grammar_Part_grammar_Part, rfl, comp_slices_IndexFunc_grammar_Part_grammar_Part, resc_slices_IndexFunc_grammar_Part_grammar_Part⟩
def fi_grammar_Rule_arguments_1 : FnI := ⟨22, ann_grammar_Rule_arguments_1, code_grammar_Rule_arguments_1, res_grammar_Rule_arguments_1⟩
theorem fok_grammar_Rule_arguments_1 : FOk PP 64 fi_grammar_Rule_arguments_1 := ⟨_, Try.func64, body_grammar_Rule_arguments_1, rfl, comp_grammar_Rule_arguments_1, resc_grammar_Rule_arguments_1⟩
def fi_slices_pdqsortOrdered_int : FnI := ⟨134, ann_slices_pdqsortOrdered_int, code_slices_pdqsortOrdered_int, res_slices_pdqsortOrdered_int⟩
theorem fok_slices_pdqsortOrdered_int : FOk PP 65 fi_slices_pdqsortOrdered_int := ⟨_, Try.func65, body_slices_pdqsortOrdered_int, rfl, comp_slices_pdqsortOrdered_int, resc_slices_pdqsortOrdered_int⟩
def fi_math_bits_Len : FnI := ⟨8, ann_math_bits_Len, code_math_bits_Len, res_math_bits_Len⟩
theorem fok_math_bits_Len : FOk PP 66 fi_math_bits_Len := ⟨_, Try.func66, body_math_bits_Len, rfl, comp_math_bits_Len, resc_math_bits_Len⟩
def fi_slices_insertionSortOrdered_int : FnI := ⟨49, ann_slices_insertionSortOrdered_int, code_slices_insertionSortOrdered_int, res_slices_insertionSortOrdered_int⟩
theorem fok_slices_insertionSortOrdered_int : FOk PP 67 fi_slices_insertionSortOrdered_int := ⟨_, Try.func67, body_slices_insertionSortOrdered_int, rfl, comp_slices_insertionSortOrdered_int, resc_slices_insertionSortOrdered_int⟩
def fi_cmp_Less_int : FnI := ⟨17, ann_cmp_Less_int, code_cmp_Less_int, res_cmp_Less_int⟩
theorem fok_cmp_Less_int : FOk PP 73 fi_cmp_Less_int := ⟨_, Try.func73, body_cmp_Less_int, rfl, comp_cmp_Less_int, resc_cmp_Less_int⟩
def fi_math_bits_Len64 : FnI := ⟨25, ann_math_bits_Len64, code_math_bits_Len64, res_math_bits_Len64⟩
theorem fok_math_bits_Len64 : FOk PP 77 fi_math_bits_Len64 := ⟨_, Try.func77, body_math_bits_Len64, rfl, comp_math_bits_Len64, resc_math_bits_Len64⟩
def fi_cmp_isNaN_int : FnI := ⟨6, ann_cmp_isNaN_int, code_cmp_isNaN_int, res_cmp_isNaN_int⟩
theorem fok_cmp_isNaN_int : FOk PP 83 fi_cmp_isNaN_int := ⟨_, Try.func83, body_cmp_isNaN_int, rfl, comp_cmp_isNaN_int, resc_cmp_isNaN_int⟩
def tbl : List (Nat × FnI) := [
 (3, fi_law14_EarleyTexts),
 (4, fi_law14_nodes),
 (5, fi_law13_Small),
 (6, fi_law14_awake),
 (7, fi_law13_Grammar),
 (8, fi_earley_Text),
 (9, fi_ref14_Text),
 (10, fi_law14_same),
 (11, fi_earley_Sort),
 (12, fi_ref14_Sort),
 (13, fi_law14_doubled),
 (14, fi_earley_Parse),
 (15, fi_earley_Count),
 (16, fi_earley_newSpeller),
 (17, fi_earley_speller_spell),
 (18, fi_ref14_text),
 (19, fi_earley_speller_rule),
 (20, fi_ref13_Check),
 (21, fi_ref14_size),
 (22, fi_ref14_sortOf),
 (23, fi_earley_asked),
 (24, fi_earley_newChart),
 (25, fi_earley_any),
 (26, fi_earley_packer_pack),
 (27, fi_earley_counted),
 (28, fi_grammar_Check),
 (29, fi_earley_size),
 (30, fi_earley_speller_formed),
 (31, fi_ref13_Find),
 (32, fi_ref13_name),
 (33, fi_ref13_index),
 (34, fi_ref13_ruleOK),
 (35, fi_ref14_args),
 (36, fi_slices_Contains_string_string),
 (37, fi_earley_chart_open),
 (38, fi_earley_chart_predict),
 (39, fi_earley_chart_close),
 (40, fi_earley_chart_scan),
 (41, fi_earley_packer_meet),
 (42, fi_earley_packer_ways),
 (43, fi_earley_counter_count),
 (44, fi_grammar_Check_1),
 (45, fi_slices_ContainsFunc_grammar_Rule_grammar_Rule),
 (46, fi_grammar_name),
 (47, fi_grammar_Rule_valid),
 (48, fi_ref13_partOK),
 (49, fi_slices_Index_string_string),
 (50, fi_earley_chart_add),
 (51, fi_earley_chart_next),
 (52, fi_earley_chart_advance),
 (53, fi_earley_packer_ways_1),
 (54, fi_earley_packer_ways_1_1),
 (55, fi_earley_packer_leads),
 (56, fi_slices_Clone_earley_span_earley_span),
 (57, fi_slices_IndexFunc_grammar_Rule_grammar_Rule),
 (58, fi_slices_ContainsFunc_grammar_Part_grammar_Part),
 (59, fi_grammar_Rule_valid_1),
 (60, fi_grammar_Part_valid),
 (61, fi_grammar_Rule_arguments),
 (62, fi_slices_Sort_int_int),
 (63, fi_slices_IndexFunc_grammar_Part_grammar_Part),
 (64, fi_grammar_Rule_arguments_1),
 (65, fi_slices_pdqsortOrdered_int),
 (66, fi_math_bits_Len),
 (67, fi_slices_insertionSortOrdered_int),
 (73, fi_cmp_Less_int),
 (77, fi_math_bits_Len64),
 (83, fi_cmp_isNaN_int)]
theorem tbl_ok : ∀ p ∈ tbl, FOk PP p.1 p.2 := by
  simp only [tbl, List.forall_mem_cons]
  exact ⟨fok_law14_EarleyTexts, fok_law14_nodes, fok_law13_Small, fok_law14_awake, fok_law13_Grammar, fok_earley_Text, fok_ref14_Text, fok_law14_same, fok_earley_Sort, fok_ref14_Sort, fok_law14_doubled, fok_earley_Parse, fok_earley_Count, fok_earley_newSpeller, fok_earley_speller_spell, fok_ref14_text, fok_earley_speller_rule, fok_ref13_Check, fok_ref14_size, fok_ref14_sortOf, fok_earley_asked, fok_earley_newChart, fok_earley_any, fok_earley_packer_pack, fok_earley_counted, fok_grammar_Check, fok_earley_size, fok_earley_speller_formed, fok_ref13_Find, fok_ref13_name, fok_ref13_index, fok_ref13_ruleOK, fok_ref14_args, fok_slices_Contains_string_string, fok_earley_chart_open, fok_earley_chart_predict, fok_earley_chart_close, fok_earley_chart_scan, fok_earley_packer_meet, fok_earley_packer_ways, fok_earley_counter_count, fok_grammar_Check_1, fok_slices_ContainsFunc_grammar_Rule_grammar_Rule, fok_grammar_name, fok_grammar_Rule_valid, fok_ref13_partOK, fok_slices_Index_string_string, fok_earley_chart_add, fok_earley_chart_next, fok_earley_chart_advance, fok_earley_packer_ways_1, fok_earley_packer_ways_1_1, fok_earley_packer_leads, fok_slices_Clone_earley_span_earley_span, fok_slices_IndexFunc_grammar_Rule_grammar_Rule, fok_slices_ContainsFunc_grammar_Part_grammar_Part, fok_grammar_Rule_valid_1, fok_grammar_Part_valid, fok_grammar_Rule_arguments, fok_slices_Sort_int_int, fok_slices_IndexFunc_grammar_Part_grammar_Part, fok_grammar_Rule_arguments_1, fok_slices_pdqsortOrdered_int, fok_math_bits_Len, fok_slices_insertionSortOrdered_int, fok_cmp_Less_int, fok_math_bits_Len64, fok_cmp_isNaN_int, by simp⟩
end Go.Apx
