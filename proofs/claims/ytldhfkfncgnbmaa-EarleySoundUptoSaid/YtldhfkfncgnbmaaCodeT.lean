/- The table of functions for the interpreter. -/
import Derived.Test.YtldhfkfncgnbmaaCode
import Derived.Test.YtldhfkfncgnbmaaAmD
set_option linter.unusedVariables false
set_option linter.unusedSimpArgs false
set_option linter.unnecessarySimpa false
namespace Go.Apx
open Go.Proofs
def fi_law14_awake:FnI := ⟨70,ann_law14_awake,code_law14_awake,res_law14_awake⟩
theorem fok_law14_awake:FOk PP 8 fi_law14_awake := ⟨_,Try.func8,body_law14_awake,rfl,comp_law14_awake,resc_law14_awake⟩
def fi_earley_Parse:FnI := ⟨61,ann_earley_Parse,code_earley_Parse,res_earley_Parse⟩
theorem fok_earley_Parse:FOk PP 9 fi_earley_Parse := ⟨_,Try.func9,body_earley_Parse,rfl,comp_earley_Parse,resc_earley_Parse⟩
def fi_earley_Count:FnI := ⟨29,ann_earley_Count,code_earley_Count,res_earley_Count⟩
theorem fok_earley_Count:FOk PP 18 fi_earley_Count := ⟨_,Try.func18,body_earley_Count,rfl,comp_earley_Count,resc_earley_Count⟩
def fi_law14_doubled:FnI := ⟨11,ann_law14_doubled,code_law14_doubled,res_law14_doubled⟩
theorem fok_law14_doubled:FOk PP 27 fi_law14_doubled := ⟨_,Try.func27,body_law14_doubled,rfl,comp_law14_doubled,resc_law14_doubled⟩
def fi_earley_asked:FnI := ⟨24,ann_earley_asked,code_earley_asked,res_earley_asked⟩
theorem fok_earley_asked:FOk PP 28 fi_earley_asked := ⟨_,Try.func28,body_earley_asked,rfl,comp_earley_asked,resc_earley_asked⟩
def fi_earley_newChart:FnI := ⟨68,ann_earley_newChart,code_earley_newChart,res_earley_newChart⟩
theorem fok_earley_newChart:FOk PP 29 fi_earley_newChart := ⟨_,Try.func29,body_earley_newChart,rfl,comp_earley_newChart,resc_earley_newChart⟩
def fi_earley_any:FnI := ⟨3,ann_earley_any,code_earley_any,res_earley_any⟩
theorem fok_earley_any:FOk PP 30 fi_earley_any := ⟨_,Try.func30,body_earley_any,rfl,comp_earley_any,resc_earley_any⟩
def fi_earley_packer_pack:FnI := ⟨110,ann_earley_packer_pack,code_earley_packer_pack,res_earley_packer_pack⟩
theorem fok_earley_packer_pack:FOk PP 31 fi_earley_packer_pack := ⟨_,Try.func31,body_earley_packer_pack,rfl,comp_earley_packer_pack,resc_earley_packer_pack⟩
def fi_slices_Contains_string_string:FnI := ⟨9,ann_slices_Contains_string_string,code_slices_Contains_string_string,res_slices_Contains_string_string⟩
theorem fok_slices_Contains_string_string:FOk PP 40 fi_slices_Contains_string_string := ⟨_,Try.func40,body_slices_Contains_string_string,rfl,comp_slices_Contains_string_string,resc_slices_Contains_string_string⟩
def fi_slices_ContainsFunc_grammar_Part_grammar_Part:FnI := ⟨9,ann_slices_ContainsFunc_grammar_Part_grammar_Part,code_slices_ContainsFunc_grammar_Part_grammar_Part,res_slices_ContainsFunc_grammar_Part_grammar_Part⟩
theorem fok_slices_ContainsFunc_grammar_Part_grammar_Part:FOk PP 42 fi_slices_ContainsFunc_grammar_Part_grammar_Part := ⟨_,Try.func42,body_slices_ContainsFunc_grammar_Part_grammar_Part,rfl,comp_slices_ContainsFunc_grammar_Part_grammar_Part,resc_slices_ContainsFunc_grammar_Part_grammar_Part⟩
def fi_earley_chart_next:FnI := ⟨28,ann_earley_chart_next,code_earley_chart_next,res_earley_chart_next⟩
theorem fok_earley_chart_next:FOk PP 44 fi_earley_chart_next := ⟨_,Try.func44,body_earley_chart_next,rfl,comp_earley_chart_next,resc_earley_chart_next⟩
def fi_grammar_Check:FnI := ⟨66,ann_grammar_Check,code_grammar_Check,res_grammar_Check⟩
theorem fok_grammar_Check:FOk PP 47 fi_grammar_Check := ⟨_,Try.func47,body_grammar_Check,rfl,comp_grammar_Check,resc_grammar_Check⟩
def fi_earley_counted:FnI := ⟨63,ann_earley_counted,code_earley_counted,res_earley_counted⟩
theorem fok_earley_counted:FOk PP 50 fi_earley_counted := ⟨_,Try.func50,body_earley_counted,rfl,comp_earley_counted,resc_earley_counted⟩
def fi_earley_chart_open:FnI := ⟨21,ann_earley_chart_open,code_earley_chart_open,res_earley_chart_open⟩
theorem fok_earley_chart_open:FOk PP 61 fi_earley_chart_open := ⟨_,Try.func61,body_earley_chart_open,rfl,comp_earley_chart_open,resc_earley_chart_open⟩
def fi_earley_chart_predict:FnI := ⟨26,ann_earley_chart_predict,code_earley_chart_predict,res_earley_chart_predict⟩
theorem fok_earley_chart_predict:FOk PP 62 fi_earley_chart_predict := ⟨_,Try.func62,body_earley_chart_predict,rfl,comp_earley_chart_predict,resc_earley_chart_predict⟩
def fi_earley_chart_close:FnI := ⟨98,ann_earley_chart_close,code_earley_chart_close,res_earley_chart_close⟩
theorem fok_earley_chart_close:FOk PP 63 fi_earley_chart_close := ⟨_,Try.func63,body_earley_chart_close,rfl,comp_earley_chart_close,resc_earley_chart_close⟩
def fi_earley_chart_scan:FnI := ⟨77,ann_earley_chart_scan,code_earley_chart_scan,res_earley_chart_scan⟩
theorem fok_earley_chart_scan:FOk PP 64 fi_earley_chart_scan := ⟨_,Try.func64,body_earley_chart_scan,rfl,comp_earley_chart_scan,resc_earley_chart_scan⟩
def fi_earley_packer_meet:FnI := ⟨40,ann_earley_packer_meet,code_earley_packer_meet,res_earley_packer_meet⟩
theorem fok_earley_packer_meet:FOk PP 65 fi_earley_packer_meet := ⟨_,Try.func65,body_earley_packer_meet,rfl,comp_earley_packer_meet,resc_earley_packer_meet⟩
def fi_earley_packer_ways:FnI := ⟨41,ann_earley_packer_ways,code_earley_packer_ways,res_earley_packer_ways⟩
theorem fok_earley_packer_ways:FOk PP 66 fi_earley_packer_ways := ⟨_,Try.func66,body_earley_packer_ways,rfl,comp_earley_packer_ways,resc_earley_packer_ways⟩
def fi_slices_Index_string_string:FnI := ⟨19,ann_slices_Index_string_string,code_slices_Index_string_string,res_slices_Index_string_string⟩
theorem fok_slices_Index_string_string:FOk PP 74 fi_slices_Index_string_string := ⟨_,Try.func74,body_slices_Index_string_string,rfl,comp_slices_Index_string_string,resc_slices_Index_string_string⟩
def fi_slices_IndexFunc_grammar_Part_grammar_Part:FnI := ⟨19,ann_slices_IndexFunc_grammar_Part_grammar_Part,code_slices_IndexFunc_grammar_Part_grammar_Part,res_slices_IndexFunc_grammar_Part_grammar_Part⟩
theorem fok_slices_IndexFunc_grammar_Part_grammar_Part:FOk PP 75 fi_slices_IndexFunc_grammar_Part_grammar_Part := ⟨_,Try.func75,body_slices_IndexFunc_grammar_Part_grammar_Part,rfl,comp_slices_IndexFunc_grammar_Part_grammar_Part,resc_slices_IndexFunc_grammar_Part_grammar_Part⟩
def fi_math_bits_Len:FnI := ⟨8,ann_math_bits_Len,code_math_bits_Len,res_math_bits_Len⟩
theorem fok_math_bits_Len:FOk PP 77 fi_math_bits_Len := ⟨_,Try.func77,body_math_bits_Len,rfl,comp_math_bits_Len,resc_math_bits_Len⟩
def fi_grammar_Check_1:FnI := ⟨7,ann_grammar_Check_1,code_grammar_Check_1,res_grammar_Check_1⟩
theorem fok_grammar_Check_1:FOk PP 78 fi_grammar_Check_1 := ⟨_,Try.func78,body_grammar_Check_1,rfl,comp_grammar_Check_1,resc_grammar_Check_1⟩
def fi_slices_ContainsFunc_grammar_Rule_grammar_Rule:FnI := ⟨9,ann_slices_ContainsFunc_grammar_Rule_grammar_Rule,code_slices_ContainsFunc_grammar_Rule_grammar_Rule,res_slices_ContainsFunc_grammar_Rule_grammar_Rule⟩
theorem fok_slices_ContainsFunc_grammar_Rule_grammar_Rule:FOk PP 79 fi_slices_ContainsFunc_grammar_Rule_grammar_Rule := ⟨_,Try.func79,body_slices_ContainsFunc_grammar_Rule_grammar_Rule,rfl,comp_slices_ContainsFunc_grammar_Rule_grammar_Rule,resc_slices_ContainsFunc_grammar_Rule_grammar_Rule⟩
def fi_grammar_name:FnI := ⟨10,ann_grammar_name,code_grammar_name,res_grammar_name⟩
theorem fok_grammar_name:FOk PP 80 fi_grammar_name := ⟨_,Try.func80,body_grammar_name,rfl,comp_grammar_name,resc_grammar_name⟩
def fi_grammar_Rule_valid:FnI := ⟨62,ann_grammar_Rule_valid,code_grammar_Rule_valid,res_grammar_Rule_valid⟩
theorem fok_grammar_Rule_valid:FOk PP 81 fi_grammar_Rule_valid := ⟨_,Try.func81,body_grammar_Rule_valid,rfl,comp_grammar_Rule_valid,resc_grammar_Rule_valid⟩
def fi_earley_counter_count:FnI := ⟨82,ann_earley_counter_count,code_earley_counter_count,res_earley_counter_count⟩
theorem fok_earley_counter_count:FOk PP 82 fi_earley_counter_count := ⟨_,Try.func82,body_earley_counter_count,rfl,comp_earley_counter_count,resc_earley_counter_count⟩
def fi_earley_chart_add:FnI := ⟨40,ann_earley_chart_add,code_earley_chart_add,res_earley_chart_add⟩
theorem fok_earley_chart_add:FOk PP 89 fi_earley_chart_add := ⟨_,Try.func89,body_earley_chart_add,rfl,comp_earley_chart_add,resc_earley_chart_add⟩
def fi_earley_chart_advance:FnI := ⟨58,ann_earley_chart_advance,code_earley_chart_advance,res_earley_chart_advance⟩
theorem fok_earley_chart_advance:FOk PP 90 fi_earley_chart_advance := ⟨_,Try.func90,body_earley_chart_advance,rfl,comp_earley_chart_advance,resc_earley_chart_advance⟩
def fi_earley_packer_ways_1:FnI := ⟨13,ann_earley_packer_ways_1,code_earley_packer_ways_1,res_earley_packer_ways_1⟩
theorem fok_earley_packer_ways_1:FOk PP 91 fi_earley_packer_ways_1 := ⟨_,Try.func91,body_earley_packer_ways_1,rfl,comp_earley_packer_ways_1,resc_earley_packer_ways_1⟩
def fi_earley_packer_ways_1_1:FnI := ⟨75,ann_earley_packer_ways_1_1,code_earley_packer_ways_1_1,res_earley_packer_ways_1_1⟩
theorem fok_earley_packer_ways_1_1:FOk PP 92 fi_earley_packer_ways_1_1 := ⟨_,Try.func92,body_earley_packer_ways_1_1,rfl,comp_earley_packer_ways_1_1,resc_earley_packer_ways_1_1⟩
def fi_earley_packer_leads:FnI := ⟨127,ann_earley_packer_leads,code_earley_packer_leads,res_earley_packer_leads⟩
theorem fok_earley_packer_leads:FOk PP 93 fi_earley_packer_leads := ⟨_,Try.func93,body_earley_packer_leads,rfl,comp_earley_packer_leads,resc_earley_packer_leads⟩
def fi_slices_Clone_earley_span_earley_span:FnI := ⟨8,ann_slices_Clone_earley_span_earley_span,code_slices_Clone_earley_span_earley_span,res_slices_Clone_earley_span_earley_span⟩
theorem fok_slices_Clone_earley_span_earley_span:FOk PP 94 fi_slices_Clone_earley_span_earley_span := ⟨_,Try.func94,body_slices_Clone_earley_span_earley_span,rfl,comp_slices_Clone_earley_span_earley_span,resc_slices_Clone_earley_span_earley_span⟩
def fi_math_bits_Len64:FnI := ⟨25,ann_math_bits_Len64,code_math_bits_Len64,res_math_bits_Len64⟩
theorem fok_math_bits_Len64:FOk PP 108 fi_math_bits_Len64 := ⟨_,Try.func108,body_math_bits_Len64,rfl,comp_math_bits_Len64,resc_math_bits_Len64⟩
def fi_slices_IndexFunc_grammar_Rule_grammar_Rule:FnI := ⟨19,ann_slices_IndexFunc_grammar_Rule_grammar_Rule,code_slices_IndexFunc_grammar_Rule_grammar_Rule,res_slices_IndexFunc_grammar_Rule_grammar_Rule⟩
theorem fok_slices_IndexFunc_grammar_Rule_grammar_Rule:FOk PP 109 fi_slices_IndexFunc_grammar_Rule_grammar_Rule := ⟨_,Try.func109,body_slices_IndexFunc_grammar_Rule_grammar_Rule,rfl,comp_slices_IndexFunc_grammar_Rule_grammar_Rule,resc_slices_IndexFunc_grammar_Rule_grammar_Rule⟩
def fi_grammar_Rule_valid_1:FnI := ⟨8,ann_grammar_Rule_valid_1,code_grammar_Rule_valid_1,res_grammar_Rule_valid_1⟩
theorem fok_grammar_Rule_valid_1:FOk PP 110 fi_grammar_Rule_valid_1 := ⟨_,Try.func110,body_grammar_Rule_valid_1,rfl,comp_grammar_Rule_valid_1,resc_grammar_Rule_valid_1⟩
def fi_grammar_Part_valid:FnI := ⟨26,ann_grammar_Part_valid,code_grammar_Part_valid,res_grammar_Part_valid⟩
theorem fok_grammar_Part_valid:FOk PP 111 fi_grammar_Part_valid := ⟨_,Try.func111,body_grammar_Part_valid,rfl,comp_grammar_Part_valid,resc_grammar_Part_valid⟩
def fi_grammar_Rule_arguments:FnI := ⟨4,ann_grammar_Rule_arguments,code_grammar_Rule_arguments,res_grammar_Rule_arguments⟩
theorem fok_grammar_Rule_arguments:FOk PP 112 fi_grammar_Rule_arguments := ⟨_,Try.func112,body_grammar_Rule_arguments,rfl,comp_grammar_Rule_arguments,resc_grammar_Rule_arguments⟩
def fi_slices_Sort_int_int:FnI := ⟨11,ann_slices_Sort_int_int,code_slices_Sort_int_int,res_slices_Sort_int_int⟩
theorem fok_slices_Sort_int_int:FOk PP 113 fi_slices_Sort_int_int := ⟨_,Try.func113,body_slices_Sort_int_int,rfl,comp_slices_Sort_int_int,resc_slices_Sort_int_int⟩
def fi_grammar_Rule_arguments_1:FnI := ⟨22,ann_grammar_Rule_arguments_1,code_grammar_Rule_arguments_1,res_grammar_Rule_arguments_1⟩
theorem fok_grammar_Rule_arguments_1:FOk PP 121 fi_grammar_Rule_arguments_1 := ⟨_,Try.func121,body_grammar_Rule_arguments_1,rfl,comp_grammar_Rule_arguments_1,resc_grammar_Rule_arguments_1⟩
def fi_slices_pdqsortOrdered_int:FnI := ⟨134,ann_slices_pdqsortOrdered_int,code_slices_pdqsortOrdered_int,res_slices_pdqsortOrdered_int⟩
theorem fok_slices_pdqsortOrdered_int:FOk PP 122 fi_slices_pdqsortOrdered_int := ⟨_,Try.func122,body_slices_pdqsortOrdered_int,rfl,comp_slices_pdqsortOrdered_int,resc_slices_pdqsortOrdered_int⟩
def fi_slices_insertionSortOrdered_int:FnI := ⟨49,ann_slices_insertionSortOrdered_int,code_slices_insertionSortOrdered_int,res_slices_insertionSortOrdered_int⟩
theorem fok_slices_insertionSortOrdered_int:FOk PP 124 fi_slices_insertionSortOrdered_int := ⟨_,Try.func124,body_slices_insertionSortOrdered_int,rfl,comp_slices_insertionSortOrdered_int,resc_slices_insertionSortOrdered_int⟩
def fi_cmp_Less_int:FnI := ⟨17,ann_cmp_Less_int,code_cmp_Less_int,res_cmp_Less_int⟩
theorem fok_cmp_Less_int:FOk PP 130 fi_cmp_Less_int := ⟨_,Try.func130,body_cmp_Less_int,rfl,comp_cmp_Less_int,resc_cmp_Less_int⟩
def fi_cmp_isNaN_int:FnI := ⟨6,ann_cmp_isNaN_int,code_cmp_isNaN_int,res_cmp_isNaN_int⟩
theorem fok_cmp_isNaN_int:FOk PP 136 fi_cmp_isNaN_int := ⟨_,Try.func136,body_cmp_isNaN_int,rfl,comp_cmp_isNaN_int,resc_cmp_isNaN_int⟩
def tbl:List (Nat × FnI) := [(8,fi_law14_awake),(9,fi_earley_Parse),(18,fi_earley_Count),(27,fi_law14_doubled),(28,fi_earley_asked),(29,fi_earley_newChart),(30,fi_earley_any),(31,fi_earley_packer_pack),(40,fi_slices_Contains_string_string),(42,fi_slices_ContainsFunc_grammar_Part_grammar_Part),(44,fi_earley_chart_next),(47,fi_grammar_Check),(50,fi_earley_counted),(61,fi_earley_chart_open),(62,fi_earley_chart_predict),(63,fi_earley_chart_close),(64,fi_earley_chart_scan),(65,fi_earley_packer_meet),(66,fi_earley_packer_ways),(74,fi_slices_Index_string_string),(75,fi_slices_IndexFunc_grammar_Part_grammar_Part),(77,fi_math_bits_Len),(78,fi_grammar_Check_1),(79,fi_slices_ContainsFunc_grammar_Rule_grammar_Rule),(80,fi_grammar_name),(81,fi_grammar_Rule_valid),(82,fi_earley_counter_count),(89,fi_earley_chart_add),(90,fi_earley_chart_advance),(91,fi_earley_packer_ways_1),(92,fi_earley_packer_ways_1_1),(93,fi_earley_packer_leads),(94,fi_slices_Clone_earley_span_earley_span),(108,fi_math_bits_Len64),(109,fi_slices_IndexFunc_grammar_Rule_grammar_Rule),(110,fi_grammar_Rule_valid_1),(111,fi_grammar_Part_valid),(112,fi_grammar_Rule_arguments),(113,fi_slices_Sort_int_int),(121,fi_grammar_Rule_arguments_1),(122,fi_slices_pdqsortOrdered_int),(124,fi_slices_insertionSortOrdered_int),(130,fi_cmp_Less_int),(136,fi_cmp_isNaN_int)]
theorem tbl_ok:∀ p ∈ tbl, FOk PP p.1 p.2 := by
  simp only [tbl, List.forall_mem_cons]
  exact ⟨fok_law14_awake, fok_earley_Parse, fok_earley_Count, fok_law14_doubled, fok_earley_asked, fok_earley_newChart, fok_earley_any, fok_earley_packer_pack, fok_slices_Contains_string_string, fok_slices_ContainsFunc_grammar_Part_grammar_Part, fok_earley_chart_next, fok_grammar_Check, fok_earley_counted, fok_earley_chart_open, fok_earley_chart_predict, fok_earley_chart_close, fok_earley_chart_scan, fok_earley_packer_meet, fok_earley_packer_ways, fok_slices_Index_string_string, fok_slices_IndexFunc_grammar_Part_grammar_Part, fok_math_bits_Len, fok_grammar_Check_1, fok_slices_ContainsFunc_grammar_Rule_grammar_Rule, fok_grammar_name, fok_grammar_Rule_valid, fok_earley_counter_count, fok_earley_chart_add, fok_earley_chart_advance, fok_earley_packer_ways_1, fok_earley_packer_ways_1_1, fok_earley_packer_leads, fok_slices_Clone_earley_span_earley_span, fok_math_bits_Len64, fok_slices_IndexFunc_grammar_Rule_grammar_Rule, fok_grammar_Rule_valid_1, fok_grammar_Part_valid, fok_grammar_Rule_arguments, fok_slices_Sort_int_int, fok_grammar_Rule_arguments_1, fok_slices_pdqsortOrdered_int, fok_slices_insertionSortOrdered_int, fok_cmp_Less_int, fok_cmp_isNaN_int, by simp⟩
end Go.Apx
