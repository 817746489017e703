/- ABSTRACT MACHINE, part 43: slices that grow and are cut again, told apart by roles; objects given up behind any relation; deleting from maps of words. -/
import Derived.Test.YtmgajcmigkcmdaaGreatDoorAmC
set_option linter.unusedVariables false
set_option linter.unusedSimpArgs false
set_option linter.unnecessarySimpa false
section
namespace Go.Apx
section
variable {P:Program} {G:Globs} {f:FuncId} {args:List AV} {h:AHeap} {R R':AEnd -> AHeap -> Prop}
theorem ACalls.dropR (hc:ACalls P G f args h R) (hd:∀ r H,R r H -> ∃ v,r=.ret v /\ v.inb h.length=true /\ Low h.length h H /\ R' (.ret v) h):ACalls P G f args h R':=by
 refine ⟨hc.1,fun I m w vs hi ha=>(hc.2 I m w vs hi ha).mono ?_⟩
 rintro e w' ⟨r,h',I',m',hR,hE,hv',ht⟩
 obtain ⟨v,rfl,hb,hl,hR'⟩:=hd r h' hR
 have hml:=hv'.len
 have hT:=hv'.take h.length (fun i o hlt ho=>by
  have hx:h[i]?=some h[i]:=by simp [hlt]
  have:=hl i h[i] hlt hx
  rw [ho] at this
  cases this
  have hm:i < m.length:=by rw [hi.len]; exact hlt
  exact (hi.obj i _ m[i] hx (by simp [hm])).inb (by rw [hi.len]; exact Nat.le_refl _)) hl.len
 rw [hl.take] at hT
 refine ⟨_,_,I',m'.take h.length,hR',?_,hT,ht.take (Nat.le_refl _)⟩
 cases e with
 | returned y=>exact AVRel.cut (by rw [hT.len]; exact Nat.le_refl _) (fun j hj=>by rw [List.getElem?_take,if_pos hj]) hE hb
 | _=>exact hE.elim
end
section
variable {α:Type}
def sdel:List (ByteArray × α) -> ByteArray -> List (ByteArray × α)
 | [],_=>[]
 | (k,u) :: r,s=>if s=k then r else (k,u) :: sdel r s
@[simp] theorem amapDel_smap (f:α -> AV) (l:List (ByteArray × α)) (s:ByteArray):amapDel (.sc (.string s)) (smap f l)=some (smap f (sdel l s)):=by
 induction l with
 | nil=>rfl
 | cons p r ih =>
  obtain ⟨k,u⟩:=p
  simp only [smap,List.map_cons,amapDel,keyEq,sdel] at ih ⊢
  by_cases e:s=k
  .subst e; simp
  .simp [e,ih]
def skeys (l:List (ByteArray × α)):List ByteArray:=l.map (·.1)
theorem sfind_none {l:List (ByteArray × α)} {s:ByteArray} (h:s ∉ skeys l):sfind l s=none:=by
 induction l with
 | nil=>rfl
 | cons p r ih =>
  obtain ⟨k,u⟩:=p
  simp [skeys] at h ih
  simp [sfind,h.1]
  exact ih h.2
theorem sfind_sdel {l:List (ByteArray × α)} (hn:(skeys l).Nodup) (s t:ByteArray):sfind (sdel l s) t=if t=s then none else sfind l t:=by
 induction l with
 | nil=>simp [sdel,sfind]
 | cons p r ih =>
  obtain ⟨k,u⟩:=p
  have hn':k ∉ skeys r /\ (skeys r).Nodup:=by simpa [skeys] using hn
  simp only [sdel]
  by_cases e:s=k
  .subst e
   rw [if_pos rfl]
   by_cases e2:t=s
   .subst e2; rw [if_pos rfl]; exact sfind_none hn'.1
   .simp [sfind,e2]
  .rw [if_neg e]
   simp only [sfind,ih hn'.2]
   by_cases e2:t=k
   .subst e2; simp [Ne.symm e]
   .simp [e2]
theorem mem_skeys_sset (l:List (ByteArray × α)) (s t:ByteArray) (v:α):t ∈ skeys (sset l s v) ↔ t=s \/ t ∈ skeys l:=by
 induction l with
 | nil=>simp [sset,skeys]
 | cons p r ih =>
  obtain ⟨k,u⟩:=p
  simp only [sset,skeys] at ih ⊢
  by_cases e:s=k
  .subst e; simp
  .simp only [if_neg e,List.map_cons,List.mem_cons,ih]
   constructor
   .rintro (h | h | h)
    .exact .inr (.inl h)
    .exact .inl h
    .exact .inr (.inr h)
   .rintro (h | h | h)
    .exact .inr (.inl h)
    .exact .inl h
    .exact .inr (.inr h)
theorem nodup_sset {l:List (ByteArray × α)} (hn:(skeys l).Nodup) (s:ByteArray) (v:α):(skeys (sset l s v)).Nodup:=by
 induction l with
 | nil=>simp [sset,skeys]
 | cons p r ih =>
  obtain ⟨k,u⟩:=p
  have hn':k ∉ skeys r /\ (skeys r).Nodup:=by simpa [skeys] using hn
  simp only [sset]
  by_cases e:s=k
  .subst e; rw [if_pos rfl]; simpa [skeys] using hn'
  .rw [if_neg e]
   have h1:=ih hn'.2
   have h2:k ∉ skeys (sset r s v):=by rw [mem_skeys_sset]; exact fun h=>h.elim (fun h=>e h.symm) hn'.1
   simpa [skeys] using And.intro h2 h1
theorem sub_sdel (l:List (ByteArray × α)) (s:ByteArray):(skeys (sdel l s)).Sublist (skeys l):=by
 induction l with
 | nil=>exact List.Sublist.refl _
 | cons p r ih =>
  obtain ⟨k,u⟩:=p
  simp only [sdel]
  by_cases e:s=k
  .rw [if_pos e]; exact List.sublist_cons_self _ _
  .rw [if_neg e]; exact List.Sublist.cons_cons _ ih
theorem nodup_sdel {l:List (ByteArray × α)} (hn:(skeys l).Nodup) (s:ByteArray):(skeys (sdel l s)).Nodup:=hn.sublist (sub_sdel l s)
end
def Ow (ρ:Nat -> Nat) (H:AHeap) (b i k n:Nat) (cs:List AV) (V:AV):Prop :=
 cs.length=n * k /\ ((n=0 /\ ∃ q,V=.sl q [] .nil) \/ ∃ a g z,V=.rf a g 0 n (.own k) /\ H[a]?=some (.cells g (cs++z)) /\ b <= a /\ ρ a=i)
section
variable {ρ ρ':Nat -> Nat} {H H':AHeap} {b i k n:Nat} {cs:List AV} {V:AV}
theorem Ow.nil (ρ:Nat -> Nat) (H:AHeap) (b i k:Nat):Ow ρ H b i k 0 [] (.sl 0 [] .nil):=⟨by simp,.inl ⟨rfl,0,rfl⟩⟩
theorem Ow.pend (h:Ow ρ H b i k n cs V):V.isPend=false:=by
 rcases h.2 with ⟨_,q,rfl⟩ | ⟨a,g,z,rfl,_⟩ <;> rfl
theorem Ow.one (h:Ow ρ H b i k n cs V):V.one=true:=by
 rcases h.2 with ⟨_,q,rfl⟩ | ⟨a,g,z,rfl,_⟩ <;> rfl
theorem Ow.cells (h:Ow ρ H b i k n cs V):V.cells=[V]:=by
 rcases h.2 with ⟨_,q,rfl⟩ | ⟨a,g,z,rfl,_⟩ <;> rfl
theorem Ow.len (h:Ow ρ H b i k n cs V) (G:Globs) (X:AHeap):evalOp G [] X (.len .sl (.c V))=some (.sc (.int .i64 (n:Int)),X):=by
 rcases h.2 with ⟨rfl,q,rfl⟩ | ⟨a,g,z,rfl,_⟩ <;> rfl
theorem Ow.frame (h:Ow ρ H b i k n cs V) (hf:∀ z,b <= z -> z < H.length -> ρ z=i -> H'[z]?=H[z]? /\ ρ' z=i):Ow ρ' H' b i k n cs V:=by
 refine ⟨h.1,?_⟩
 rcases h.2 with ⟨h0,q,rfl⟩ | ⟨a,g,z,rfl,h1,h2,h3⟩
 .exact .inl ⟨h0,q,rfl⟩
 .obtain ⟨f1,f2⟩:=hf a h2 (List.getElem?_eq_some_iff.1 h1).1 h3
  exact .inr ⟨a,g,z,rfl,by rw [f1]; exact h1,h2,f2⟩
theorem Ow.push (h:Ow ρ H b i k n cs V) (bytes:Nat) (xs:List AV) (hk:(xs.flatMap AV.cells).length=xs.length * k) (hb:b <= H.length) (hm:n+xs.length <= maxLenA) :
  ∃ V' H' ρ',(∀ G v,elems H k v=some xs -> v.isPend=false -> evalOp G [] H (.mappend k bytes (.c V) (.c v))=some (V',H')) /\ Ow ρ' H' b i k (n+xs.length) (cs++xs.flatMap AV.cells) V' /\ H.length <= H'.length /\ (∀ z,z < H.length -> ρ' z=ρ z) /\
   (∀ z,z < H.length -> (z < b \/ ρ z ≠ i) -> H'[z]?=H[z]?):=by
 by_cases hx:xs=[]
 .subst hx
  refine ⟨V,H,ρ,fun G v hv hp=>?_,by simpa using h,Nat.le_refl _,fun _ _=>rfl,fun _ _ _=>rfl⟩
  rcases h.2 with ⟨rfl,q,rfl⟩ | ⟨a,g,z,rfl,_⟩
  .simp only [evalOp,evalOpd,Option.bind_some,hv]
   rw [if_neg (by simp),if_pos trivial]
  .simp only [evalOp,evalOpd,Option.bind_some,hv]
   rw [if_pos trivial]
 .rcases h.2 with ⟨rfl,q,rfl⟩ | ⟨a,g,z,rfl,h1,h2,h3⟩
  .have hcs:cs=[]:=List.eq_nil_of_length_eq_zero (by simpa using h.1)
   subst hcs
   have hm':xs.length <= maxLenA:=by omega
   refine ⟨.rf H.length 0 0 xs.length (.own k),H++[.cells 0 (xs.flatMap AV.cells)],fun z=>if z=H.length then i else ρ z,fun G v hv hp=>?_,⟨by simp [hk],.inr ⟨H.length,0,[],by simp,by simp,hb,by simp⟩⟩,by simp,fun z hz=>by simp [show ¬ z=H.length by omega],fun z hz _=>by rw [List.getElem?_append_left hz]⟩
   simp only [evalOp,evalOpd,Option.bind_some,hv]
   rw [if_pos ⟨hx,hm'⟩]
  .have ha:a < H.length:=(List.getElem?_eq_some_iff.1 h1).1
   have h4:n * k <= (cs++z).length:=by rw [List.length_append,h.1]; omega
   have h5:(cs++z).take (n * k)=cs:=by rw [<- h.1,List.take_left' rfl]
   refine ⟨.rf a (g+1) 0 (n+xs.length) (.own k),H.set a (.cells (g+1) (cs++xs.flatMap AV.cells)),ρ,fun G v hv hp=>?_,⟨by rw [List.length_append,h.1,hk,Nat.add_mul],.inr ⟨a,g+1,[],rfl,by simp [ha],h2,h3⟩⟩,by simp,fun z _=>rfl,fun z hz ho=>?_⟩
   .simp only [evalOp,evalOpd,Option.bind_some,hv,if_neg hx,h1]
    rw [if_pos ⟨trivial,trivial,h4,hx,hm⟩,h5]
   .rw [List.getElem?_set_ne]
    rintro rfl
    rcases ho with ho | ho
    .omega
    .exact ho h3
theorem Ow.cutTo (h:Ow ρ H b i k n cs V) {m:Nat} (hm:m <= n):∃ V',(∀ G X,evalOp G [] X (.slice (.sl k) (.c V) none (some (.c (.sc (.int .i64 (m:Int))))) none)=some (V',X)) /\ Ow ρ H b i k m (cs.take (m * k)) V':=by
 have hl:(cs.take (m * k)).length=m * k:=by rw [List.length_take,h.1]; exact Nat.min_eq_left (Nat.mul_le_mul_right k hm)
 rcases h.2 with ⟨rfl,q,rfl⟩ | ⟨a,g,z,rfl,h1,h2,h3⟩
 .obtain rfl:m=0:=by omega
  exact ⟨.sl k [] .nil,fun G X=>by simp [evalOp,evalOpd,optNat,asNat,cut],hl,.inl ⟨rfl,k,rfl⟩⟩
 .refine ⟨.rf a g 0 m (.own k),fun G X=>by simp [evalOp,evalOpd,optNat,asNat,hm],hl,.inr ⟨a,g,cs.drop (m * k)++z,rfl,?_,h2,h3⟩⟩
  rw [<- List.append_assoc,List.take_append_drop]; exact h1
theorem Ow.off (h:Ow ρ H b i k n cs V) {m:Nat} (hm:m <= n):∃ V',(∀ G X,evalOp G [] X (.slice (.sl k) (.c V) (some (.c (.sc (.int .i64 (m:Int))))) none none)=some (V',X)) /\ V'.isPend=false /\ V'.one=true /\ V'.cells=[V'] /\
  (∀ G X,evalOp G [] X (.len .sl (.c V'))=some (.sc (.int .i64 ((n - m:Nat):Int)),X)) /\ (0 < n - m -> ∃ a g z rc,V'=.rf a g (m * k) (n - m) rc /\ H[a]?=some (.cells g (cs++z)) /\ b <= a /\ ρ a=i):=by
 rcases h.2 with ⟨rfl,q,rfl⟩ | ⟨a,g,z,rfl,h1,h2,h3⟩
 .obtain rfl:m=0:=by omega
  exact ⟨.sl k [] .nil,fun G X=>by simp [evalOp,evalOpd,optNat,asNat,cut],rfl,rfl,rfl,fun G X=>rfl,fun h=>by omega⟩
 .refine ⟨.rf a g (m * k) (n - m) (if m=0 /\ RCap.own k=.own k then .own k else .any),fun G X=>?_,rfl,rfl,rfl,fun G X=>rfl,fun _=>⟨a,g,z,_,rfl,h1,h2,h3⟩⟩
  simp [evalOp,evalOpd,optNat,asNat,hm]
end
end Go.Apx
end
section
namespace Go.Apx
theorem flat_rels {I:Imm} {m:Locs}:∀ {xs vs:List Value},AVRels I m (xs.map AV.sc) vs -> vs=xs
 | [],vs,h=>AVRels.nil_iff.1 h
 | x :: xs,vs,h=>by
  obtain ⟨y,ys,rfl,hy,hys⟩:=AVRels.cons_iff.1 h
  cases hy
  rw [flat_rels hys]
theorem flat_lib {P:Program} {G:Globs} {f:FuncId} {xs:List Value} {v:Value} (hb:hasBody P f=true) (hc:∀ w,Calls P f xs.toArray w fun e w'=>e=.returned v /\ w'=w) {h:AHeap}:AEx P G f (xs.map AV.sc) h (.ret (.sc v)) h:=by
 refine ⟨hb,fun I m w vs hi ha=>?_⟩
 obtain rfl:=flat_rels ha
 refine (hc w).mono ?_
 rintro e w' ⟨rfl,rfl⟩
 exact ⟨_,_,I,m,⟨rfl,rfl⟩,.sc v,hi,Trans.refl _ _ _ _⟩
end Go.Apx
end
