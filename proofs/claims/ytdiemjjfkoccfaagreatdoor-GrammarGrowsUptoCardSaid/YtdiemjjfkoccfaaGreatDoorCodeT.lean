/- The table of functions for the interpreter. -/
import Derived.Test.YtdiemjjfkoccfaaGreatDoorCode
import Derived.Test.YtdiemjjfkoccfaaGreatDoorAmD
namespace Go.Apx
open Go.Proofs
set_option linter.unusedVariables false
def fi_grammar_Sort : FnI := ⟨6,ann_grammar_Sort,code_grammar_Sort,res_grammar_Sort⟩
theorem fok_grammar_Sort : FOk PP 34 fi_grammar_Sort := ⟨_,Tryz.func34,body_grammar_Sort,rfl,comp_grammar_Sort,resc_grammar_Sort⟩
def fi_slices_SortFunc_string_string : FnI := ⟨14,ann_slices_SortFunc_string_string,code_slices_SortFunc_string_string,res_slices_SortFunc_string_string⟩
theorem fok_slices_SortFunc_string_string : FOk PP 53 fi_slices_SortFunc_string_string := ⟨_,Tryz.func53,body_slices_SortFunc_string_string,rfl,comp_slices_SortFunc_string_string,resc_slices_SortFunc_string_string⟩
def fi_slices_Sort_string_string : FnI := ⟨11,ann_slices_Sort_string_string,code_slices_Sort_string_string,res_slices_Sort_string_string⟩
theorem fok_slices_Sort_string_string : FOk PP 80 fi_slices_Sort_string_string := ⟨_,Tryz.func80,body_slices_Sort_string_string,rfl,comp_slices_Sort_string_string,resc_slices_Sort_string_string⟩
def fi_slices_pdqsortCmpFunc_string : FnI := ⟨148,ann_slices_pdqsortCmpFunc_string,code_slices_pdqsortCmpFunc_string,res_slices_pdqsortCmpFunc_string⟩
theorem fok_slices_pdqsortCmpFunc_string : FOk PP 89 fi_slices_pdqsortCmpFunc_string := ⟨_,Tryz.func89,body_slices_pdqsortCmpFunc_string,rfl,comp_slices_pdqsortCmpFunc_string,resc_slices_pdqsortCmpFunc_string⟩
def fi_math_bits_Len : FnI := ⟨8,ann_math_bits_Len,code_math_bits_Len,res_math_bits_Len⟩
theorem fok_math_bits_Len : FOk PP 90 fi_math_bits_Len := ⟨_,Tryz.func90,body_math_bits_Len,rfl,comp_math_bits_Len,resc_math_bits_Len⟩
def fi_slices_Sort_int_int : FnI := ⟨11,ann_slices_Sort_int_int,code_slices_Sort_int_int,res_slices_Sort_int_int⟩
theorem fok_slices_Sort_int_int : FOk PP 97 fi_slices_Sort_int_int := ⟨_,Tryz.func97,body_slices_Sort_int_int,rfl,comp_slices_Sort_int_int,resc_slices_Sort_int_int⟩
def fi_slices_pdqsortOrdered_string : FnI := ⟨134,ann_slices_pdqsortOrdered_string,code_slices_pdqsortOrdered_string,res_slices_pdqsortOrdered_string⟩
theorem fok_slices_pdqsortOrdered_string : FOk PP 102 fi_slices_pdqsortOrdered_string := ⟨_,Tryz.func102,body_slices_pdqsortOrdered_string,rfl,comp_slices_pdqsortOrdered_string,resc_slices_pdqsortOrdered_string⟩
def fi_slices_insertionSortCmpFunc_string : FnI := ⟨53,ann_slices_insertionSortCmpFunc_string,code_slices_insertionSortCmpFunc_string,res_slices_insertionSortCmpFunc_string⟩
theorem fok_slices_insertionSortCmpFunc_string : FOk PP 106 fi_slices_insertionSortCmpFunc_string := ⟨_,Tryz.func106,body_slices_insertionSortCmpFunc_string,rfl,comp_slices_insertionSortCmpFunc_string,resc_slices_insertionSortCmpFunc_string⟩
def fi_math_bits_Len32 : FnI := ⟨19,ann_math_bits_Len32,code_math_bits_Len32,res_math_bits_Len32⟩
theorem fok_math_bits_Len32 : FOk PP 114 fi_math_bits_Len32 := ⟨_,Tryz.func114,body_math_bits_Len32,rfl,comp_math_bits_Len32,resc_math_bits_Len32⟩
def fi_math_bits_Len64 : FnI := ⟨25,ann_math_bits_Len64,code_math_bits_Len64,res_math_bits_Len64⟩
theorem fok_math_bits_Len64 : FOk PP 115 fi_math_bits_Len64 := ⟨_,Tryz.func115,body_math_bits_Len64,rfl,comp_math_bits_Len64,resc_math_bits_Len64⟩
def fi_slices_pdqsortOrdered_int : FnI := ⟨134,ann_slices_pdqsortOrdered_int,code_slices_pdqsortOrdered_int,res_slices_pdqsortOrdered_int⟩
theorem fok_slices_pdqsortOrdered_int : FOk PP 118 fi_slices_pdqsortOrdered_int := ⟨_,Tryz.func118,body_slices_pdqsortOrdered_int,rfl,comp_slices_pdqsortOrdered_int,resc_slices_pdqsortOrdered_int⟩
def fi_slices_insertionSortOrdered_string : FnI := ⟨49,ann_slices_insertionSortOrdered_string,code_slices_insertionSortOrdered_string,res_slices_insertionSortOrdered_string⟩
theorem fok_slices_insertionSortOrdered_string : FOk PP 119 fi_slices_insertionSortOrdered_string := ⟨_,Tryz.func119,body_slices_insertionSortOrdered_string,rfl,comp_slices_insertionSortOrdered_string,resc_slices_insertionSortOrdered_string⟩
def fi_slices_insertionSortOrdered_int : FnI := ⟨49,ann_slices_insertionSortOrdered_int,code_slices_insertionSortOrdered_int,res_slices_insertionSortOrdered_int⟩
theorem fok_slices_insertionSortOrdered_int : FOk PP 137 fi_slices_insertionSortOrdered_int := ⟨_,Tryz.func137,body_slices_insertionSortOrdered_int,rfl,comp_slices_insertionSortOrdered_int,resc_slices_insertionSortOrdered_int⟩
def tbl : List (Nat × FnI) := [(34,fi_grammar_Sort),(53,fi_slices_SortFunc_string_string),(80,fi_slices_Sort_string_string),(89,fi_slices_pdqsortCmpFunc_string),(90,fi_math_bits_Len),(97,fi_slices_Sort_int_int),(102,fi_slices_pdqsortOrdered_string),(106,fi_slices_insertionSortCmpFunc_string),(114,fi_math_bits_Len32),(115,fi_math_bits_Len64),(118,fi_slices_pdqsortOrdered_int),(119,fi_slices_insertionSortOrdered_string),(137,fi_slices_insertionSortOrdered_int)]
theorem tbl_ok : ∀ p ∈ tbl, FOk PP p.1 p.2 := by
  simp only [tbl, List.forall_mem_cons]
  exact ⟨fok_grammar_Sort, fok_slices_SortFunc_string_string, fok_slices_Sort_string_string, fok_slices_pdqsortCmpFunc_string, fok_math_bits_Len, fok_slices_Sort_int_int, fok_slices_pdqsortOrdered_string, fok_slices_insertionSortCmpFunc_string, fok_math_bits_Len32, fok_math_bits_Len64, fok_slices_pdqsortOrdered_int, fok_slices_insertionSortOrdered_string, fok_slices_insertionSortOrdered_int, by simp⟩
end Go.Apx
