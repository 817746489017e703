/- Walks: the reference's insert. -/
import Derived.Test.YtdiemjjfkoccfaaGreatDoorXA
import Derived.Test.YtdiemjjfkoccfaaGreatDoorGC
set_option linter.unusedVariables false
set_option linter.unusedSimpArgs false
set_option linter.unnecessarySimpa false
section
namespace Go.Apx
open Go.Proofs
set_option maxRecDepth 4000
def sLt (a b:ByteArray):Prop:=bytesL a < bytesL b
instance (a b:ByteArray):Decidable (sLt a b):=inferInstanceAs (Decidable (bytesL a < bytesL b))
theorem bytes_lt (a b:ByteArray):Op.bytesLess a.toList b.toList=decide (sLt a b):=by
 rw [Go.Proofs.bytesLess_eq,Lib.toList_data,Lib.toList_data]; rfl
def atPut {α:Type} (l:List α) (s:α) (k:Nat):List α:=l.take k++s :: l.drop k
theorem atPut_at {α:Type} {l:List α} {s:α} {k:Nat} (hk:k <= l.length):(atPut l s k)[k]?=some s:=by
 unfold atPut
 rw [List.getElem?_append_right (by simp; omega)]
 simp [Nat.min_eq_left hk]
theorem atPut_len {α:Type} {l:List α} {s:α} {k:Nat}:(atPut l s k).length=l.length+1:=by
 unfold atPut; simp; omega
theorem atPut_before {α:Type} {l:List α} {s:α} {k i:Nat} (hi:i < k) (hk:k <= l.length):(atPut l s k)[i]?=l[i]?:=by
 unfold atPut
 rw [List.getElem?_append_left (by simp; omega),List.getElem?_take,if_pos hi]
theorem atPut_set {α:Type} {l:List α} {s t:α} {k:Nat} (hk:k <= l.length):(atPut l s k).set k t=atPut l t k:=by
 unfold atPut
 rw [List.set_append_right _ _ (by simp; omega)]
 simp [Nat.min_eq_left hk]
theorem atPut_move {α:Type} {l:List α} {x s:α} {k:Nat} (hk:k+1 <= l.length) (hx:l[k]?=some x):(atPut l s (k+1)).set (k+1) x=atPut l x k:=by
 rw [atPut_set hk]
 unfold atPut
 rw [List.take_add_one,hx,List.append_assoc]
 congr 1
 rw [List.drop_eq_getElem_cons (show k < l.length by omega)]
 have:l[k]'(by omega)=x:=(List.getElem?_eq_some_iff.1 hx).2
 rw [this]
 rfl
theorem atPut_end {α:Type} (l:List α) (s:α):atPut l s l.length=l++[s]:=by simp [atPut]
end Go.Apx
end
section
namespace Go.Apx
open Go.Proofs
theorem sLt_trans {a b c:ByteArray} (h:sLt a b) (h':sLt b c):sLt a c:=List.lt_trans h h'
theorem sLt_irrefl (a:ByteArray):¬ sLt a a:=List.lt_irrefl _
theorem bytesL_inj {a b:ByteArray} (h:bytesL a=bytesL b):a=b:=by
 rw [<- strL_bytesL a,<- strL_bytesL b,h]
theorem sLt_total {a b:ByteArray} (h:¬ sLt a b) (hne:a ≠ b):sLt b a:=by
 have h1:bytesL b <= bytesL a:=List.not_lt.1 h
 rcases List.le_iff_lt_or_eq.1 h1 with h2 | h2
 .exact h2
 .exact (hne (bytesL_inj h2).symm).elim
section
variable {g:Gr} {N X:List Bool} {O:List (List ByteArray)}
end
end Go.Apx
end
section
namespace Go.Apx
open Go.Proofs
theorem gnp_syms {g:Gr} {l:List Pt} {w:W} (h:GnP g l w):(∀ p ∈ l,p.sort=emp -> p.sym ∈ symsG g) -> ∀ x ∈ w,x ∈ symsG g:=by
 induction h with
 | nil=>intro _ x hx; simp at hx
 | sym p r w hp _ ih =>
  intro h x hx
  rcases List.mem_cons.1 hx with rfl | hx
  .exact h p (by simp) hp
  .exact ih (fun q hq=>h q (by simp [hq])) x hx
 | srt p r R u w hp hR e _ _ ih1 ih =>
  intro h x hx
  rcases List.mem_append.1 hx with hx | hx
  .exact ih1 (fun q hq _=>List.mem_flatMap.2 ⟨R,hR,List.mem_map.2 ⟨q,hq,rfl⟩⟩) x hx
  .exact ih (fun q hq=>h q (by simp [hq])) x hx
theorem gn_syms {g:Gr} {s:ByteArray} {w:W} (h:Gn g s w):∀ x ∈ w,x ∈ symsG g:=by
 obtain ⟨R,hR,_,hw⟩:=h
 exact gnp_syms hw fun q hq _=>List.mem_flatMap.2 ⟨R,hR,List.mem_map.2 ⟨q,hq,rfl⟩⟩
section
variable {g:Gr} {N X:List Bool} {O:List (List ByteArray)}
end
end Go.Apx
end
