/- The table of functions for the interpreter. -/
import Derived.Test.YtdiemjjfkoccfaaGreatDoorCode
import Derived.Test.YtdiemjjfkoccfaaGreatDoorAmD
set_option linter.unusedVariables false
set_option linter.unusedSimpArgs false
set_option linter.unnecessarySimpa false
namespace Go.Apx
open Go.Proofs
def fi_34:FnI := ⟨6,ann_34,code_34,res_34⟩
theorem fok_34:FOk PP 34 fi_34 := ⟨_,Tryz.func34,body_34,rfl,comp_34,resc_34⟩
def fi_53:FnI := ⟨14,ann_53,code_53,res_53⟩
theorem fok_53:FOk PP 53 fi_53 := ⟨_,Tryz.func53,body_53,rfl,comp_53,resc_53⟩
def fi_80:FnI := ⟨11,ann_80,code_80,res_80⟩
theorem fok_80:FOk PP 80 fi_80 := ⟨_,Tryz.func80,body_80,rfl,comp_80,resc_80⟩
def fi_89:FnI := ⟨148,ann_89,code_89,res_89⟩
theorem fok_89:FOk PP 89 fi_89 := ⟨_,Tryz.func89,body_89,rfl,comp_89,resc_89⟩
def fi_90:FnI := ⟨8,ann_90,code_90,res_90⟩
theorem fok_90:FOk PP 90 fi_90 := ⟨_,Tryz.func90,body_90,rfl,comp_90,resc_90⟩
def fi_97:FnI := ⟨11,ann_97,code_97,res_97⟩
theorem fok_97:FOk PP 97 fi_97 := ⟨_,Tryz.func97,body_97,rfl,comp_97,resc_97⟩
def fi_102:FnI := ⟨134,ann_102,code_102,res_102⟩
theorem fok_102:FOk PP 102 fi_102 := ⟨_,Tryz.func102,body_102,rfl,comp_102,resc_102⟩
def fi_106:FnI := ⟨53,ann_106,code_106,res_106⟩
theorem fok_106:FOk PP 106 fi_106 := ⟨_,Tryz.func106,body_106,rfl,comp_106,resc_106⟩
def fi_114:FnI := ⟨19,ann_114,code_114,res_114⟩
theorem fok_114:FOk PP 114 fi_114 := ⟨_,Tryz.func114,body_114,rfl,comp_114,resc_114⟩
def fi_115:FnI := ⟨25,ann_115,code_115,res_115⟩
theorem fok_115:FOk PP 115 fi_115 := ⟨_,Tryz.func115,body_115,rfl,comp_115,resc_115⟩
def fi_118:FnI := ⟨134,ann_118,code_118,res_118⟩
theorem fok_118:FOk PP 118 fi_118 := ⟨_,Tryz.func118,body_118,rfl,comp_118,resc_118⟩
def fi_119:FnI := ⟨49,ann_119,code_119,res_119⟩
theorem fok_119:FOk PP 119 fi_119 := ⟨_,Tryz.func119,body_119,rfl,comp_119,resc_119⟩
def fi_137:FnI := ⟨49,ann_137,code_137,res_137⟩
theorem fok_137:FOk PP 137 fi_137 := ⟨_,Tryz.func137,body_137,rfl,comp_137,resc_137⟩
def tbl:List (Nat × FnI) := [(34,fi_34),(53,fi_53),(80,fi_80),(89,fi_89),(90,fi_90),(97,fi_97),(102,fi_102),(106,fi_106),(114,fi_114),(115,fi_115),(118,fi_118),(119,fi_119),(137,fi_137)]
theorem tbl_ok:∀ p ∈ tbl, FOk PP p.1 p.2 := by
  simp only [tbl, List.forall_mem_cons]
  exact ⟨fok_34, fok_53, fok_80, fok_89, fok_90, fok_97, fok_102, fok_106, fok_114, fok_115, fok_118, fok_119, fok_137, by simp⟩
end Go.Apx
