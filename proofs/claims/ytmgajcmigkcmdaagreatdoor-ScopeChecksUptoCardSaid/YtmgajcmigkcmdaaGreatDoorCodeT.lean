/- The table of functions for the interpreter. -/
import Derived.Test.YtmgajcmigkcmdaaGreatDoorCode
import Derived.Test.YtmgajcmigkcmdaaGreatDoorAmD
set_option linter.unusedVariables false
set_option linter.unusedSimpArgs false
set_option linter.unnecessarySimpa false
namespace Go.Apx
open Go.Proofs
def fi_9:FnI := ⟨29,ann_9,code_9,res_9⟩
theorem fok_9:FOk PP 9 fi_9 := ⟨_,Tryz.func9,body_9,rfl,comp_9,resc_9⟩
def fi_16:FnI := ⟨39,ann_16,code_16,res_16⟩
theorem fok_16:FOk PP 16 fi_16 := ⟨_,Tryz.func16,body_16,rfl,comp_16,resc_16⟩
def fi_18:FnI := ⟨9,ann_18,code_18,res_18⟩
theorem fok_18:FOk PP 18 fi_18 := ⟨_,Tryz.func18,body_18,rfl,comp_18,resc_18⟩
def fi_25:FnI := ⟨26,ann_25,code_25,res_25⟩
theorem fok_25:FOk PP 25 fi_25 := ⟨_,Tryz.func25,body_25,rfl,comp_25,resc_25⟩
def fi_26:FnI := ⟨39,ann_26,code_26,res_26⟩
theorem fok_26:FOk PP 26 fi_26 := ⟨_,Tryz.func26,body_26,rfl,comp_26,resc_26⟩
def fi_30:FnI := ⟨8,ann_30,code_30,res_30⟩
theorem fok_30:FOk PP 30 fi_30 := ⟨_,Tryz.func30,body_30,rfl,comp_30,resc_30⟩
def fi_31:FnI := ⟨36,ann_31,code_31,res_31⟩
theorem fok_31:FOk PP 31 fi_31 := ⟨_,Tryz.func31,body_31,rfl,comp_31,resc_31⟩
def fi_32:FnI := ⟨12,ann_32,code_32,res_32⟩
theorem fok_32:FOk PP 32 fi_32 := ⟨_,Tryz.func32,body_32,rfl,comp_32,resc_32⟩
def fi_34:FnI := ⟨19,ann_34,code_34,res_34⟩
theorem fok_34:FOk PP 34 fi_34 := ⟨_,Tryz.func34,body_34,rfl,comp_34,resc_34⟩
def fi_39:FnI := ⟨11,ann_39,code_39,res_39⟩
theorem fok_39:FOk PP 39 fi_39 := ⟨_,Tryz.func39,body_39,rfl,comp_39,resc_39⟩
def fi_40:FnI := ⟨61,ann_40,code_40,res_40⟩
theorem fok_40:FOk PP 40 fi_40 := ⟨_,Tryz.func40,body_40,rfl,comp_40,resc_40⟩
def fi_43:FnI := ⟨9,ann_43,code_43,res_43⟩
theorem fok_43:FOk PP 43 fi_43 := ⟨_,Tryz.func43,body_43,rfl,comp_43,resc_43⟩
def fi_44:FnI := ⟨2,ann_44,code_44,res_44⟩
theorem fok_44:FOk PP 44 fi_44 := ⟨_,Tryz.func44,body_44,rfl,comp_44,resc_44⟩
def fi_45:FnI := ⟨13,ann_45,code_45,res_45⟩
theorem fok_45:FOk PP 45 fi_45 := ⟨_,Tryz.func45,body_45,rfl,comp_45,resc_45⟩
def fi_52:FnI := ⟨134,ann_52,code_52,res_52⟩
theorem fok_52:FOk PP 52 fi_52 := ⟨_,Tryz.func52,body_52,rfl,comp_52,resc_52⟩
def fi_53:FnI := ⟨8,ann_53,code_53,res_53⟩
theorem fok_53:FOk PP 53 fi_53 := ⟨_,Tryz.func53,body_53,rfl,comp_53,resc_53⟩
def fi_57:FnI := ⟨65,ann_57,code_57,res_57⟩
theorem fok_57:FOk PP 57 fi_57 := ⟨_,Tryz.func57,body_57,rfl,comp_57,resc_57⟩
def fi_64:FnI := ⟨27,ann_64,code_64,res_64⟩
theorem fok_64:FOk PP 64 fi_64 := ⟨_,Tryz.func64,body_64,rfl,comp_64,resc_64⟩
def fi_76:FnI := ⟨49,ann_76,code_76,res_76⟩
theorem fok_76:FOk PP 76 fi_76 := ⟨_,Tryz.func76,body_76,rfl,comp_76,resc_76⟩
def fi_82:FnI := ⟨17,ann_82,code_82,res_82⟩
theorem fok_82:FOk PP 82 fi_82 := ⟨_,Tryz.func82,body_82,rfl,comp_82,resc_82⟩
def fi_86:FnI := ⟨25,ann_86,code_86,res_86⟩
theorem fok_86:FOk PP 86 fi_86 := ⟨_,Tryz.func86,body_86,rfl,comp_86,resc_86⟩
def fi_90:FnI := ⟨6,ann_90,code_90,res_90⟩
theorem fok_90:FOk PP 90 fi_90 := ⟨_,Tryz.func90,body_90,rfl,comp_90,resc_90⟩
def fi_91:FnI := ⟨76,ann_91,code_91,res_91⟩
theorem fok_91:FOk PP 91 fi_91 := ⟨_,Tryz.func91,body_91,rfl,comp_91,resc_91⟩
def fi_92:FnI := ⟨40,ann_92,code_92,res_92⟩
theorem fok_92:FOk PP 92 fi_92 := ⟨_,Tryz.func92,body_92,rfl,comp_92,resc_92⟩
def fi_104:FnI := ⟨6,ann_104,code_104,res_104⟩
theorem fok_104:FOk PP 104 fi_104 := ⟨_,Tryz.func104,body_104,rfl,comp_104,resc_104⟩
def fi_123:FnI := ⟨4,ann_123,code_123,res_123⟩
theorem fok_123:FOk PP 123 fi_123 := ⟨_,Tryz.func123,body_123,rfl,comp_123,resc_123⟩
def fi_124:FnI := ⟨8,ann_124,code_124,res_124⟩
theorem fok_124:FOk PP 124 fi_124 := ⟨_,Tryz.func124,body_124,rfl,comp_124,resc_124⟩
def fi_125:FnI := ⟨9,ann_125,code_125,res_125⟩
theorem fok_125:FOk PP 125 fi_125 := ⟨_,Tryz.func125,body_125,rfl,comp_125,resc_125⟩
def fi_126:FnI := ⟨6,ann_126,code_126,res_126⟩
theorem fok_126:FOk PP 126 fi_126 := ⟨_,Tryz.func126,body_126,rfl,comp_126,resc_126⟩
def fi_133:FnI := ⟨29,ann_133,code_133,res_133⟩
theorem fok_133:FOk PP 133 fi_133 := ⟨_,Tryz.func133,body_133,rfl,comp_133,resc_133⟩
def fi_134:FnI := ⟨19,ann_134,code_134,res_134⟩
theorem fok_134:FOk PP 134 fi_134 := ⟨_,Tryz.func134,body_134,rfl,comp_134,resc_134⟩
def fi_140:FnI := ⟨78,ann_140,code_140,res_140⟩
theorem fok_140:FOk PP 140 fi_140 := ⟨_,Tryz.func140,body_140,rfl,comp_140,resc_140⟩
def fi_141:FnI := ⟨9,ann_141,code_141,res_141⟩
theorem fok_141:FOk PP 141 fi_141 := ⟨_,Tryz.func141,body_141,rfl,comp_141,resc_141⟩
def fi_144:FnI := ⟨19,ann_144,code_144,res_144⟩
theorem fok_144:FOk PP 144 fi_144 := ⟨_,Tryz.func144,body_144,rfl,comp_144,resc_144⟩
def tbl:List (Nat × FnI) := [(9,fi_9),(16,fi_16),(18,fi_18),(25,fi_25),(26,fi_26),(30,fi_30),(31,fi_31),(32,fi_32),(34,fi_34),(39,fi_39),(40,fi_40),(43,fi_43),(44,fi_44),(45,fi_45),(52,fi_52),(53,fi_53),(57,fi_57),(64,fi_64),(76,fi_76),(82,fi_82),(86,fi_86),(90,fi_90),(91,fi_91),(92,fi_92),(104,fi_104),(123,fi_123),(124,fi_124),(125,fi_125),(126,fi_126),(133,fi_133),(134,fi_134),(140,fi_140),(141,fi_141),(144,fi_144)]
theorem tbl_ok:∀ p ∈ tbl, FOk PP p.1 p.2 := by
  simp only [tbl, List.forall_mem_cons]
  exact ⟨fok_9, fok_16, fok_18, fok_25, fok_26, fok_30, fok_31, fok_32, fok_34, fok_39, fok_40, fok_43, fok_44, fok_45, fok_52, fok_53, fok_57, fok_64, fok_76, fok_82, fok_86, fok_90, fok_91, fok_92, fok_104, fok_123, fok_124, fok_125, fok_126, fok_133, fok_134, fok_140, fok_141, fok_144, by simp⟩
end Go.Apx
