/- The table of functions for the interpreter. -/
import Derived.Test.YtmgajcmigkcmdaaGreatDoorCode
import Derived.Test.YtmgajcmigkcmdaaGreatDoorAmD
namespace Go.Apx
open Go.Proofs
set_option linter.unusedVariables false
def fi_law04_awake : FnI := ⟨29,ann_law04_awake,code_law04_awake,res_law04_awake⟩
theorem fok_law04_awake : FOk PP 9 fi_law04_awake := ⟨_,Tryz.func9,body_law04_awake,rfl,comp_law04_awake,resc_law04_awake⟩
def fi_scope_Check : FnI := ⟨39,ann_scope_Check,code_scope_Check,res_scope_Check⟩
theorem fok_scope_Check : FOk PP 16 fi_scope_Check := ⟨_,Tryz.func16,body_scope_Check,rfl,comp_scope_Check,resc_scope_Check⟩
def fi_slices_ContainsFunc_api_Statement_api_Statement : FnI := ⟨9,ann_slices_ContainsFunc_api_Statement_api_Statement,code_slices_ContainsFunc_api_Statement_api_Statement,res_slices_ContainsFunc_api_Statement_api_Statement⟩
theorem fok_slices_ContainsFunc_api_Statement_api_Statement : FOk PP 18 fi_slices_ContainsFunc_api_Statement_api_Statement := ⟨_,Tryz.func18,body_slices_ContainsFunc_api_Statement_api_Statement,rfl,comp_slices_ContainsFunc_api_Statement_api_Statement,resc_slices_ContainsFunc_api_Statement_api_Statement⟩
def fi_slices_Equal_api_Pair_api_Pair : FnI := ⟨26,ann_slices_Equal_api_Pair_api_Pair,code_slices_Equal_api_Pair_api_Pair,res_slices_Equal_api_Pair_api_Pair⟩
theorem fok_slices_Equal_api_Pair_api_Pair : FOk PP 25 fi_slices_Equal_api_Pair_api_Pair := ⟨_,Tryz.func25,body_slices_Equal_api_Pair_api_Pair,rfl,comp_slices_Equal_api_Pair_api_Pair,resc_slices_Equal_api_Pair_api_Pair⟩
def fi_scope_Pairs : FnI := ⟨39,ann_scope_Pairs,code_scope_Pairs,res_scope_Pairs⟩
theorem fok_scope_Pairs : FOk PP 26 fi_scope_Pairs := ⟨_,Tryz.func26,body_scope_Pairs,rfl,comp_scope_Pairs,resc_scope_Pairs⟩
def fi_slices_Clone_string_string : FnI := ⟨8,ann_slices_Clone_string_string,code_slices_Clone_string_string,res_slices_Clone_string_string⟩
theorem fok_slices_Clone_string_string : FOk PP 30 fi_slices_Clone_string_string := ⟨_,Tryz.func30,body_slices_Clone_string_string,rfl,comp_slices_Clone_string_string,resc_slices_Clone_string_string⟩
def fi_scope_run : FnI := ⟨36,ann_scope_run,code_scope_run,res_scope_run⟩
theorem fok_scope_run : FOk PP 31 fi_scope_run := ⟨_,Tryz.func31,body_scope_run,rfl,comp_scope_run,resc_scope_run⟩
def fi_scope_result : FnI := ⟨12,ann_scope_result,code_scope_result,res_scope_result⟩
theorem fok_scope_result : FOk PP 32 fi_scope_result := ⟨_,Tryz.func32,body_scope_result,rfl,comp_scope_result,resc_scope_result⟩
def fi_slices_IndexFunc_api_Statement_api_Statement : FnI := ⟨19,ann_slices_IndexFunc_api_Statement_api_Statement,code_slices_IndexFunc_api_Statement_api_Statement,res_slices_IndexFunc_api_Statement_api_Statement⟩
theorem fok_slices_IndexFunc_api_Statement_api_Statement : FOk PP 34 fi_slices_IndexFunc_api_Statement_api_Statement := ⟨_,Tryz.func34,body_slices_IndexFunc_api_Statement_api_Statement,rfl,comp_slices_IndexFunc_api_Statement_api_Statement,resc_slices_IndexFunc_api_Statement_api_Statement⟩
def fi_slices_Sort_string_string : FnI := ⟨11,ann_slices_Sort_string_string,code_slices_Sort_string_string,res_slices_Sort_string_string⟩
theorem fok_slices_Sort_string_string : FOk PP 39 fi_slices_Sort_string_string := ⟨_,Tryz.func39,body_slices_Sort_string_string,rfl,comp_slices_Sort_string_string,resc_slices_Sort_string_string⟩
def fi_slices_Compact_string_string : FnI := ⟨61,ann_slices_Compact_string_string,code_slices_Compact_string_string,res_slices_Compact_string_string⟩
theorem fok_slices_Compact_string_string : FOk PP 40 fi_slices_Compact_string_string := ⟨_,Tryz.func40,body_slices_Compact_string_string,rfl,comp_slices_Compact_string_string,resc_slices_Compact_string_string⟩
def fi_scope_newState : FnI := ⟨9,ann_scope_newState,code_scope_newState,res_scope_newState⟩
theorem fok_scope_newState : FOk PP 43 fi_scope_newState := ⟨_,Tryz.func43,body_scope_newState,rfl,comp_scope_newState,resc_scope_newState⟩
def fi_scope_rules : FnI := ⟨2,ann_scope_rules,code_scope_rules,res_scope_rules⟩
theorem fok_scope_rules : FOk PP 44 fi_scope_rules := ⟨_,Tryz.func44,body_scope_rules,rfl,comp_scope_rules,resc_scope_rules⟩
def fi_scope_formed : FnI := ⟨13,ann_scope_formed,code_scope_formed,res_scope_formed⟩
theorem fok_scope_formed : FOk PP 45 fi_scope_formed := ⟨_,Tryz.func45,body_scope_formed,rfl,comp_scope_formed,resc_scope_formed⟩
def fi_slices_pdqsortOrdered_string : FnI := ⟨134,ann_slices_pdqsortOrdered_string,code_slices_pdqsortOrdered_string,res_slices_pdqsortOrdered_string⟩
theorem fok_slices_pdqsortOrdered_string : FOk PP 52 fi_slices_pdqsortOrdered_string := ⟨_,Tryz.func52,body_slices_pdqsortOrdered_string,rfl,comp_slices_pdqsortOrdered_string,resc_slices_pdqsortOrdered_string⟩
def fi_math_bits_Len : FnI := ⟨8,ann_math_bits_Len,code_math_bits_Len,res_math_bits_Len⟩
theorem fok_math_bits_Len : FOk PP 53 fi_math_bits_Len := ⟨_,Tryz.func53,body_math_bits_Len,rfl,comp_math_bits_Len,resc_math_bits_Len⟩
def fi_scope_state_variables : FnI := ⟨65,ann_scope_state_variables,code_scope_state_variables,res_scope_state_variables⟩
theorem fok_scope_state_variables : FOk PP 57 fi_scope_state_variables := ⟨_,Tryz.func57,body_scope_state_variables,rfl,comp_scope_state_variables,resc_scope_state_variables⟩
def fi_layout_Words : FnI := ⟨27,ann_layout_Words,code_layout_Words,res_layout_Words⟩
theorem fok_layout_Words : FOk PP 64 fi_layout_Words := ⟨_,Tryz.func64,body_layout_Words,rfl,comp_layout_Words,resc_layout_Words⟩
def fi_slices_insertionSortOrdered_string : FnI := ⟨49,ann_slices_insertionSortOrdered_string,code_slices_insertionSortOrdered_string,res_slices_insertionSortOrdered_string⟩
theorem fok_slices_insertionSortOrdered_string : FOk PP 76 fi_slices_insertionSortOrdered_string := ⟨_,Tryz.func76,body_slices_insertionSortOrdered_string,rfl,comp_slices_insertionSortOrdered_string,resc_slices_insertionSortOrdered_string⟩
def fi_cmp_Less_string : FnI := ⟨17,ann_cmp_Less_string,code_cmp_Less_string,res_cmp_Less_string⟩
theorem fok_cmp_Less_string : FOk PP 82 fi_cmp_Less_string := ⟨_,Tryz.func82,body_cmp_Less_string,rfl,comp_cmp_Less_string,resc_cmp_Less_string⟩
def fi_math_bits_Len64 : FnI := ⟨25,ann_math_bits_Len64,code_math_bits_Len64,res_math_bits_Len64⟩
theorem fok_math_bits_Len64 : FOk PP 86 fi_math_bits_Len64 := ⟨_,Tryz.func86,body_math_bits_Len64,rfl,comp_math_bits_Len64,resc_math_bits_Len64⟩
def fi_layout_Words_1 : FnI := ⟨6,ann_layout_Words_1,code_layout_Words_1,res_layout_Words_1⟩
theorem fok_layout_Words_1 : FOk PP 90 fi_layout_Words_1 := ⟨_,Tryz.func90,body_layout_Words_1,rfl,comp_layout_Words_1,resc_layout_Words_1⟩
def fi_layout_formed : FnI := ⟨76,ann_layout_formed,code_layout_formed,res_layout_formed⟩
theorem fok_layout_formed : FOk PP 91 fi_layout_formed := ⟨_,Tryz.func91,body_layout_formed,rfl,comp_layout_formed,resc_layout_formed⟩
def fi_layout_wordsOf : FnI := ⟨40,ann_layout_wordsOf,code_layout_wordsOf,res_layout_wordsOf⟩
theorem fok_layout_wordsOf : FOk PP 92 fi_layout_wordsOf := ⟨_,Tryz.func92,body_layout_wordsOf,rfl,comp_layout_wordsOf,resc_layout_wordsOf⟩
def fi_cmp_isNaN_string : FnI := ⟨6,ann_cmp_isNaN_string,code_cmp_isNaN_string,res_cmp_isNaN_string⟩
theorem fok_cmp_isNaN_string : FOk PP 104 fi_cmp_isNaN_string := ⟨_,Tryz.func104,body_cmp_isNaN_string,rfl,comp_cmp_isNaN_string,resc_cmp_isNaN_string⟩
def fi_layout_formed_1 : FnI := ⟨4,ann_layout_formed_1,code_layout_formed_1,res_layout_formed_1⟩
theorem fok_layout_formed_1 : FOk PP 123 fi_layout_formed_1 := ⟨_,Tryz.func123,body_layout_formed_1,rfl,comp_layout_formed_1,resc_layout_formed_1⟩
def fi_layout_formed_1_1 : FnI := ⟨8,ann_layout_formed_1_1,code_layout_formed_1_1,res_layout_formed_1_1⟩
theorem fok_layout_formed_1_1 : FOk PP 124 fi_layout_formed_1_1 := ⟨_,Tryz.func124,body_layout_formed_1_1,rfl,comp_layout_formed_1_1,resc_layout_formed_1_1⟩
def fi_slices_ContainsFunc_string_string : FnI := ⟨9,ann_slices_ContainsFunc_string_string,code_slices_ContainsFunc_string_string,res_slices_ContainsFunc_string_string⟩
theorem fok_slices_ContainsFunc_string_string : FOk PP 125 fi_slices_ContainsFunc_string_string := ⟨_,Tryz.func125,body_slices_ContainsFunc_string_string,rfl,comp_slices_ContainsFunc_string_string,resc_slices_ContainsFunc_string_string⟩
def fi_token_IsSymbol : FnI := ⟨6,ann_token_IsSymbol,code_token_IsSymbol,res_token_IsSymbol⟩
theorem fok_token_IsSymbol : FOk PP 126 fi_token_IsSymbol := ⟨_,Tryz.func126,body_token_IsSymbol,rfl,comp_token_IsSymbol,resc_token_IsSymbol⟩
def fi_token_only : FnI := ⟨29,ann_token_only,code_token_only,res_token_only⟩
theorem fok_token_only : FOk PP 133 fi_token_only := ⟨_,Tryz.func133,body_token_only,rfl,comp_token_only,resc_token_only⟩
def fi_slices_IndexFunc_string_string : FnI := ⟨19,ann_slices_IndexFunc_string_string,code_slices_IndexFunc_string_string,res_slices_IndexFunc_string_string⟩
theorem fok_slices_IndexFunc_string_string : FOk PP 134 fi_slices_IndexFunc_string_string := ⟨_,Tryz.func134,body_slices_IndexFunc_string_string,rfl,comp_slices_IndexFunc_string_string,resc_slices_IndexFunc_string_string⟩
def fi_token_classes : FnI := ⟨78,ann_token_classes,code_token_classes,res_token_classes⟩
theorem fok_token_classes : FOk PP 140 fi_token_classes := ⟨_,Tryz.func140,body_token_classes,rfl,comp_token_classes,resc_token_classes⟩
def fi_slices_Contains_byte_byte : FnI := ⟨9,ann_slices_Contains_byte_byte,code_slices_Contains_byte_byte,res_slices_Contains_byte_byte⟩
theorem fok_slices_Contains_byte_byte : FOk PP 141 fi_slices_Contains_byte_byte := ⟨_,Tryz.func141,body_slices_Contains_byte_byte,rfl,comp_slices_Contains_byte_byte,resc_slices_Contains_byte_byte⟩
def fi_slices_Index_byte_byte : FnI := ⟨19,ann_slices_Index_byte_byte,code_slices_Index_byte_byte,res_slices_Index_byte_byte⟩
theorem fok_slices_Index_byte_byte : FOk PP 144 fi_slices_Index_byte_byte := ⟨_,Tryz.func144,body_slices_Index_byte_byte,rfl,comp_slices_Index_byte_byte,resc_slices_Index_byte_byte⟩
def tbl : List (Nat × FnI) := [(9,fi_law04_awake),(16,fi_scope_Check),(18,fi_slices_ContainsFunc_api_Statement_api_Statement),(25,fi_slices_Equal_api_Pair_api_Pair),(26,fi_scope_Pairs),(30,fi_slices_Clone_string_string),(31,fi_scope_run),(32,fi_scope_result),(34,fi_slices_IndexFunc_api_Statement_api_Statement),(39,fi_slices_Sort_string_string),(40,fi_slices_Compact_string_string),(43,fi_scope_newState),(44,fi_scope_rules),(45,fi_scope_formed),(52,fi_slices_pdqsortOrdered_string),(53,fi_math_bits_Len),(57,fi_scope_state_variables),(64,fi_layout_Words),(76,fi_slices_insertionSortOrdered_string),(82,fi_cmp_Less_string),(86,fi_math_bits_Len64),(90,fi_layout_Words_1),(91,fi_layout_formed),(92,fi_layout_wordsOf),(104,fi_cmp_isNaN_string),(123,fi_layout_formed_1),(124,fi_layout_formed_1_1),(125,fi_slices_ContainsFunc_string_string),(126,fi_token_IsSymbol),(133,fi_token_only),(134,fi_slices_IndexFunc_string_string),(140,fi_token_classes),(141,fi_slices_Contains_byte_byte),(144,fi_slices_Index_byte_byte)]
theorem tbl_ok : ∀ p ∈ tbl, FOk PP p.1 p.2 := by
  simp only [tbl, List.forall_mem_cons]
  exact ⟨fok_law04_awake, fok_scope_Check, fok_slices_ContainsFunc_api_Statement_api_Statement, fok_slices_Equal_api_Pair_api_Pair, fok_scope_Pairs, fok_slices_Clone_string_string, fok_scope_run, fok_scope_result, fok_slices_IndexFunc_api_Statement_api_Statement, fok_slices_Sort_string_string, fok_slices_Compact_string_string, fok_scope_newState, fok_scope_rules, fok_scope_formed, fok_slices_pdqsortOrdered_string, fok_math_bits_Len, fok_scope_state_variables, fok_layout_Words, fok_slices_insertionSortOrdered_string, fok_cmp_Less_string, fok_math_bits_Len64, fok_layout_Words_1, fok_layout_formed, fok_layout_wordsOf, fok_cmp_isNaN_string, fok_layout_formed_1, fok_layout_formed_1_1, fok_slices_ContainsFunc_string_string, fok_token_IsSymbol, fok_token_only, fok_slices_IndexFunc_string_string, fok_token_classes, fok_slices_Contains_byte_byte, fok_slices_Index_byte_byte, by simp⟩
end Go.Apx
