/- Walks: slices.Clone and Clip of words; what the sentences' object holds. -/
import Derived.Test.YtdiemjjfkoccfaaGreatDoorKA
import Derived.Test.YtdiemjjfkoccfaaGreatDoorGC
set_option linter.unusedVariables false
set_option linter.unusedSimpArgs false
set_option linter.unnecessarySimpa false
section
namespace Go.Apx
open Go.Proofs
set_option maxRecDepth 4000
def BgV (v:AV) (l:W):Prop:=∃ k c,v=.sl k (l.map sv) c /\ (l ≠ [] -> k=1 /\ c ≠ .nil) /\ (l=[] -> k=0 /\ c=.nil)
theorem BgV.nil:BgV (.sl 0 [] .nil) []:=⟨0,.nil,rfl,fun h=>(h rfl).elim,fun _=>⟨rfl,rfl⟩⟩
theorem clone_c (v:AV) (l:W) (hv:BgV v l) (hl:l.length <= 2 ^ 31) {h:AHeap}:AEx PP Gl 105 [v] h (.ret (encW l)) h:=by
 obtain ⟨k,c,rfl,h1,h2⟩:=hv
 refine enter_105 (by simp) ?_
 cases l with
 | nil =>
  obtain ⟨rfl,rfl⟩:=h2 rfl
  simp -implicitDefEqProofs [code_105,res_105,ann_105]
  exact aZ (by simp [deferred,dslot]) rfl rfl rfl
 | cons s r =>
  obtain ⟨rfl,hc⟩:=h1 (by simp)
  have hm:r.length+1 <= maxLenA:=len_tok (by simp at hl; omega)
  simp -implicitDefEqProofs [code_105,res_105,ann_105,hc]
  refine appF [] ((s :: r).map sv) 0 rfl (by simp) (fun hne=>(hne rfl).elim) (by simpa using hm) ?_
  simp -implicitDefEqProofs only [List.nil_append,List.length_nil,List.length_map]
  simp -implicitDefEqProofs
  exact retP (v:=apf 1 ((s :: r).map sv) (apT h 0 (r.length+1) 0)) (by simp [deferred,dslot]) (by simp [aN,aK]) (strip_apf 1 _ _ _ (strip_sv (s :: r))) (pur_apfV 1 (purL_map (f:=sv) (fun a=>rfl) _)) (Low.apG (fun e=>(e rfl).elim) (Nat.le_refl _)) rfl rfl
theorem clip_c (v:AV) (l:W) (hv:BgV v l) {h:AHeap}:AEx PP Gl 88 [v] h (.ret (.sl (if l=[] then 0 else 1) (l.map sv) (if l=[] then .nil else .full))) h:=by
 obtain ⟨k,c,rfl,h1,h2⟩:=hv
 refine enter_88 (by simp) ?_
 cases l with
 | nil =>
  obtain ⟨rfl,rfl⟩:=h2 rfl
  simp -implicitDefEqProofs [code_88,res_88,ann_88]
  exact aZ (by simp [deferred,dslot]) rfl rfl rfl
 | cons s r =>
  obtain ⟨rfl,hc⟩:=h1 (by simp)
  simp -implicitDefEqProofs [code_88,res_88,ann_88,hc]
  have h0:(0:Int) <= (r.length:Int)+1:=by omega
  have h3:List.take r.length (r.map sv)=r.map sv:=List.take_of_length_le (by simp)
  simp -implicitDefEqProofs [h0,h3]
  exact aZ (by simp [deferred,dslot]) rfl rfl rfl
structure SE where
 o:Nat
 os:Nat
 l:List W
def lvE (e:SE):AV:=.rf e.o 0 0 e.l.length (.own 1)
def mvE (e:SE):AV:=.mp e.os
abbrev Ens:=List (ByteArray × SE)
abbrev St:=List (ByteArray × List W)
def ak (en:Ens):St:=en.map fun p=>(p.1,p.2.l)
def metK (l:List W):List (AV × AV):=aS bv (aT (l.map keyB))
structure IX where
 nb:Nat
 oL:Nat
 oA:Nat
 oS:Nat
structure IX.Ok (ix:IX):Prop where
 l:ix.nb <= ix.oL /\ ix.oL < ix.nb+3
 a:ix.nb <= ix.oA /\ ix.oA < ix.nb+3
 s:ix.nb <= ix.oS /\ ix.oS < ix.nb+3
 d:ix.oL ≠ ix.oA /\ ix.oL ≠ ix.oS /\ ix.oA ≠ ix.oS
structure SS (H0:AHeap) (ix:IX) (g:Gr) (M:List Int) (most:Int) (en:Ens) (h:AHeap):Prop where
 low:Low ix.nb H0 h
 obj:h[ix.nb+3]?=some (.cells 0 [.sl 1 (g.sorts.map sv) g.sc,.sl 4 (g.rules.map ab) g.rc,i64 most,.mp (ix.oL),.mp ix.oA,.mp (ix.oS)])
 lists:h[ix.oA]?=some (.amap (aS lvE en))
 lens:h[ix.oL]?=some (.amap (aS iv (lmap g M)))
 seen:h[ix.oS]?=some (.amap (aS mvE en))
 ent:∀ p ∈ en,h[p.2.o]?=some (.cells 0 (p.2.l.map encW)) /\ h[p.2.os]?=some (.amap (metK p.2.l)) /\ p.2.l ≠ []
 ge:∀ p ∈ en,ix.nb+4 <= p.2.o /\ ix.nb+4 <= p.2.os
 ndo:(en.map fun p=>p.2.o).Nodup
 nds:(en.map fun p=>p.2.os).Nodup
 ndk:(en.map fun p=>p.1).Nodup
structure Ext (b:Nat) (h h':AHeap):Prop where
 len:h.length <= h'.length
 rows:∀ z cs,b <= z -> h[z]?=some (.cells 0 cs) -> ∃ cs',h'[z]?=some (.cells 0 cs') /\ cs <+: cs'
theorem Ext.refl (b:Nat) (h:AHeap):Ext b h h:=⟨Nat.le_refl _,fun z cs _ hz=>⟨cs,hz,List.prefix_refl _⟩⟩
theorem Ext.trans {b:Nat} {h h' h'':AHeap} (a:Ext b h h') (c:Ext b h' h''):Ext b h h'' :=
 ⟨Nat.le_trans a.len c.len,fun z cs hz hc=>by
  obtain ⟨cs',h1,h2⟩:=a.rows z cs hz hc
  obtain ⟨cs2,h3,h4⟩:=c.rows z cs' hz h1
  exact ⟨cs2,h3,h2.trans h4⟩⟩
theorem Ext.app (b:Nat) (h x:AHeap):Ext b h (h++x):=⟨by simp,fun z cs _ hz=>⟨cs,by rw [List.getElem?_append_left (ar hz)]; exact hz,List.prefix_refl _⟩⟩
theorem Ext.setM {b:Nat} {h:AHeap} {o:Nat} {es:List (AV × AV)} {y:AObj} (ho:h[o]?=some (.amap es)):Ext b h (h.set o y) :=
 ⟨by simp,fun z cs _ hz=>⟨cs,by rw [List.getElem?_set_ne (by rintro rfl; rw [ho] at hz; cases hz)]; exact hz,List.prefix_refl _⟩⟩
theorem Ext.grow {b:Nat} {h:AHeap} {o:Nat} {cs ds:List AV} (ho:h[o]?=some (.cells 0 cs)):Ext b h (h.set o (.cells 0 (cs++ds))) :=
 ⟨by simp,fun z es _ hz=>by
  by_cases e:o=z
  .subst e
   rw [ho] at hz; cases hz
   exact ⟨_,List.getElem?_set_self (ar ho),List.prefix_append _ _⟩
  .exact ⟨es,by rw [List.getElem?_set_ne e]; exact hz,List.prefix_refl _⟩⟩
def bh (st:St) (s:ByteArray):List W:=(bF st s).getD []
def addF (st:St) (s:ByteArray) (l:W):St × Bool:=if l ∈ bh st s then (st,true) else (bE st s (bh st s++[l]),decide ((bh st s).length+1 <= 2000))
theorem sfind_stOf (en:Ens) (s:ByteArray):bF (ak en) s=(bF en s).map (·.l):=by
 induction en with
 | nil=>rfl
 | cons p en ih =>
  obtain ⟨k,e⟩:=p
  simp only [ak,List.map_cons,bF] at ih ⊢
  split
  .rfl
  .exact ih
theorem sset_stOf (en:Ens) (s:ByteArray) (e:SE):ak (bE en s e)=bE (ak en) s e.l:=by
 induction en with
 | nil=>rfl
 | cons p en ih =>
  obtain ⟨k,x⟩:=p
  simp only [ak,List.map_cons,bE] at ih ⊢
  split
  .rfl
  .simp only [List.map_cons,ih]
theorem sfind_mem {α:Type} {l:List (ByteArray × α)} {s:ByteArray} {a:α} (h:bF l s=some a):(s,a) ∈ l:=by
 induction l with
 | nil=>cases h
 | cons p l ih =>
  obtain ⟨k,x⟩:=p
  simp only [bF] at h
  split at h
  .rename_i e; subst e; cases h; simp
  .simp [ih h]
theorem mem_sset {α:Type} {l:List (ByteArray × α)} {s:ByteArray} {a:α} {p:ByteArray × α} (hn:(l.map (·.1)).Nodup) (h:p ∈ bE l s a):p=(s,a) \/ p ∈ l /\ p.1 ≠ s:=by
 induction l with
 | nil=>simp [bE] at h; exact .inl h
 | cons q l ih =>
  obtain ⟨k,x⟩:=q
  simp only [List.map_cons,List.nodup_cons] at hn
  simp only [bE] at h
  split at h
  .rename_i e
   subst e
   rcases List.mem_cons.1 h with rfl | h
   .exact .inl rfl
   .refine .inr ⟨by simp [h],fun e=>hn.1 ?_⟩
    rw [<- e]; exact List.mem_map_of_mem h
  .rename_i e
   rcases List.mem_cons.1 h with rfl | h
   .exact .inr ⟨by simp,fun e2=>e e2.symm⟩
   .rcases ih hn.2 h with h1 | h1
    .exact .inl h1
    .exact .inr ⟨by simp [h1.1],h1.2⟩
theorem nodup_sset {β:Type} {f:SE -> β} {en:Ens} {s:ByteArray} {e:SE} (hk:(en.map (·.1)).Nodup) (hn:(en.map fun p=>f p.2).Nodup) (ho:∀ p ∈ en,p.1 ≠ s -> f p.2 ≠ f e):((bE en s e).map fun p=>f p.2).Nodup:=by
 induction en with
 | nil=>simp [bE]
 | cons q l ih =>
  obtain ⟨k,x⟩:=q
  simp only [List.map_cons,List.nodup_cons] at hk hn
  simp only [bE]
  split
  .rename_i e2
   subst e2
   simp only [List.map_cons,List.nodup_cons]
   refine ⟨fun hm=>?_,hn.2⟩
   obtain ⟨p,hp,h2⟩:=List.mem_map.1 hm
   exact ho p (by simp [hp]) (fun e3=>hk.1 (by rw [<- e3]; exact List.mem_map_of_mem hp)) h2
  .rename_i e2
   simp only [List.map_cons,List.nodup_cons]
   refine ⟨fun hm=>?_,ih hk.2 hn.2 (fun p hp=>ho p (by simp [hp]))⟩
   obtain ⟨p,hp,h2⟩:=List.mem_map.1 hm
   rcases mem_sset hk.2 hp with rfl | ⟨h3,_⟩
   .exact ho (k,x) (by simp) (fun e3=>e2 e3.symm) h2.symm
   .exact hn.1 (by rw [<- h2]; exact List.mem_map.2 ⟨p,h3,rfl⟩)
theorem nodup_keys_sset {en:Ens} {s:ByteArray} {e:SE} (hk:(en.map (·.1)).Nodup):((bE en s e).map (·.1)).Nodup:=by
 induction en with
 | nil=>simp [bE]
 | cons q l ih =>
  obtain ⟨k,x⟩:=q
  simp only [List.map_cons,List.nodup_cons] at hk
  simp only [bE]
  split
  .rename_i e2
   subst e2
   simp only [List.map_cons,List.nodup_cons]
   exact hk
  .rename_i e2
   simp only [List.map_cons,List.nodup_cons]
   refine ⟨fun hm=>?_,ih hk.2⟩
   obtain ⟨p,hp,h2⟩:=List.mem_map.1 hm
   rcases mem_sset hk.2 hp with rfl | ⟨h3,_⟩
   .exact e2 h2
   .exact hk.1 (by rw [<- h2]; exact List.mem_map_of_mem h3)
theorem SS.put {H0:AHeap} {ix:IX} {g:Gr} {M:List Int} {most:Int} {en:Ens} {h h':AHeap} {s:ByteArray} {e:SE} (hS:SS H0 ix g M most en h) (low:Low ix.nb h h') (obj:h'[ix.nb+3]?=h[ix.nb+3]?) (lens:h'[ix.oL]?=h[ix.oL]?) (lists:h'[ix.oA]?=some (.amap (aS lvE (bE en s e))))
  (seen:h'[ix.oS]?=some (.amap (aS mvE (bE en s e)))) (h1:h'[e.o]?=some (.cells 0 (e.l.map encW))) (h2:h'[e.os]?=some (.amap (metK e.l))) (hne:e.l ≠ []) (ge:ix.nb+4 <= e.o /\ ix.nb+4 <= e.os)
  (oth:∀ p ∈ en,p.1 ≠ s -> h'[p.2.o]?=h[p.2.o]? /\ h'[p.2.os]?=h[p.2.os]? /\ p.2.o ≠ e.o /\ p.2.os ≠ e.os):SS H0 ix g M most (bE en s e) h':=by
 refine ⟨hS.low.trans low,obj.trans hS.obj,lists,lens.trans hS.lens,seen,fun p hp=>?_,fun p hp=>?_,nodup_sset hS.ndk hS.ndo fun p hp hs=>(oth p hp hs).2.2.1,nodup_sset hS.ndk hS.nds fun p hp hs=>(oth p hp hs).2.2.2,nodup_keys_sset hS.ndk⟩
 .rcases mem_sset hS.ndk hp with rfl | ⟨h3,h4⟩
  .exact ⟨h1,h2,hne⟩
  .obtain ⟨a,b,_,_⟩:=oth p h3 h4
   obtain ⟨x,y,z⟩:=hS.ent p h3
   exact ⟨a.trans x,b.trans y,z⟩
 .rcases mem_sset hS.ndk hp with rfl | ⟨h3,_⟩
  .exact ge
  .exact hS.ge p h3
end Go.Apx
end
section
namespace Go.Apx
open Go.Proofs
set_option maxRecDepth 4000
def WOk (l:W):Prop:=(∀ x ∈ l,x.size < 100) /\ l.length <= 100
theorem keyL_small {l:W} (h:WOk l):(keyL l).length <= 140737488355328:=by
 have:∀ l:W,(∀ x ∈ l,x.size < 100) -> (keyL l).length <= 103 * l.length:=by
  intro l hl
  induction l with
  | nil=>simp [keyL]
  | cons x r ih =>
   have h1:=ih fun y hy=>hl y (by simp [hy])
   have h2:=hl x (by simp)
   have h3:(Lib.decDigits x.size).length <= 2:=by
    by_cases e:x.size < 10
    .rw [Lib.decDigits_one e]; simp
    .rw [Lib.decDigits_two e h2]; simp
   have h4:x.data.toList.length=x.size:=rfl
   simp only [keyL,List.length_append,List.length_singleton,List.length_cons,List.length_nil]
   omega
 have:=this l h.1
 have:=h.2
 omega
def AddR (H0:AHeap) (ix:IX) (g:Gr) (M:List Int) (most:Int) (en:Ens) (s:ByteArray) (l:W) (h:AHeap) (r:AEnd) (h':AHeap):Prop :=
 ∃ en',r=.ret (bl (addF (ak en) s l).2) /\ ak en'=(addF (ak en) s l).1 /\ SS H0 ix g M most en' h' /\ Ext (ix.nb+4) h h'
theorem smap_same {f:SE -> AV} {en:Ens} {s:ByteArray} {e e':SE} (h:bF en s=some e) (hf:f e'=f e):aS f (bE en s e')=aS f en:=by
 induction en with
 | nil=>cases h
 | cons p en ih =>
  obtain ⟨k,x⟩:=p
  simp only [bF] at h
  simp only [bE]
  split at h
  .rename_i e2; subst e2; cases h
   simp [aS,hf]
  .rename_i e2
   rw [if_neg e2]
   have:=ih h
   simp only [aS,List.map_cons] at this ⊢
   rw [this]
theorem nodup_eq {β:Type} {f:SE -> β} {en:Ens} (hn:(en.map fun p=>f p.2).Nodup) {p q:ByteArray × SE} (hp:p ∈ en) (hq:q ∈ en) (h:f p.2=f q.2):p=q:=by
 induction en with
 | nil=>cases hp
 | cons x en ih =>
  simp only [List.map_cons,List.nodup_cons] at hn
  rcases List.mem_cons.1 hp with e1 | hp1
  .rcases List.mem_cons.1 hq with e2 | hq1
   .rw [e1,e2]
   .subst e1
    exact (hn.1 (by rw [h]; exact List.mem_map.2 ⟨q,hq1,rfl⟩)).elim
  .rcases List.mem_cons.1 hq with e2 | hq1
   .subst e2
    exact (hn.1 (by rw [<- h]; exact List.mem_map.2 ⟨p,hp1,rfl⟩)).elim
   .exact ih hn.2 hp1 hq1
theorem add_fin {H0:AHeap} {ix:IX} {g:Gr} {M:List Int} {most:Int} {en:Ens} {s:ByteArray} {l:W} {h H5:AHeap} {e:SE} {o':Nat} (hS:SS H0 ix g M most en h) (hf:bF en s=some e) (hin:l ∉ e.l) (low:Low ix.nb h H5) (obj:H5[ix.nb+3]?=h[ix.nb+3]?) (lens:H5[ix.oL]?=h[ix.oL]?)
  (lists:H5[ix.oA]?=some (.amap (aS lvE (bE en s ⟨o',e.os,e.l++[l]⟩)))) (seen:H5[ix.oS]?=h[ix.oS]?) (h1:H5[o']?=some (.cells 0 ((e.l++[l]).map encW))) (h2:H5[e.os]?=some (.amap (metK (e.l++[l])))) (ge:ix.nb+4 <= o')
  (oth:∀ p ∈ en,p.1 ≠ s -> H5[p.2.o]?=h[p.2.o]? /\ H5[p.2.os]?=h[p.2.os]? /\ p.2.o ≠ o') (ext:Ext (ix.nb+4) h H5):AddR H0 ix g M most en s l h (.ret (bl (decide (e.l.length+1 <= 2000)))) H5:=by
 have hem:=sfind_mem hf
 have hg:bh (ak en) s=e.l:=by simp [bh,sfind_stOf,hf]
 have hadd:addF (ak en) s l=(bE (ak en) s (e.l++[l]),decide (e.l.length+1 <= 2000)):=by simp [addF,hg,hin]
 refine ⟨bE en s ⟨o',e.os,e.l++[l]⟩,by rw [hadd],by rw [sset_stOf,hadd],hS.put low obj lens lists ?_ h1 h2 (by simp) ⟨ge,(hS.ge _ hem).2⟩ fun p hp hs=>?_,ext⟩
 .rw [smap_same (f:=mvE) (e':=⟨o',e.os,e.l++[l]⟩) hf rfl,seen]; exact hS.seen
 .obtain ⟨a,b,c⟩:=oth p hp hs
  refine ⟨a,b,c,fun e2=>hs ?_⟩
  have:=nodup_eq hS.nds hp hem e2
  rw [this]
set_option maxHeartbeats 4000000 in
theorem add_c (H0:AHeap) (ix:IX) (hx:ix.Ok) (g:Gr) (M:List Int) (most:Int) (en:Ens) (s:ByteArray) (v:AV) (l:W) (hv:BgV v l) (hl:WOk l) {h:AHeap} (hS:SS H0 ix g M most en h)
  (hw:∀ p ∈ en,p.2.l.length <= 2000 /\ ∀ x ∈ p.2.l,WOk x) :
  ACalls PP Gl 87 [.ptr (ix.nb+3) 0 0,sv s,v] h (AddR H0 ix g M most en s l h):=by
 refine enter_87 (by simp) ?_
 obtain ⟨⟨x1,x2⟩,⟨x3,x4⟩,⟨x5,x6⟩,x7,x8,x9⟩:=hx
 have sl:=hS.lens
 have slt:=ar sl
 obtain ⟨k,c,hve,hv1,hv2⟩:=hv
 have hkey:∀ H,AEx PP Gl 104 [v] H (.ret (sv (keyB l))) H:=fun H=>by rw [hve]; exact key_c k l c hl.1 (by have:=hl.2; omega) (keyL_small hl)
 have hcl:∀ H,AEx PP Gl 105 [v] H (.ret (encW l)) H:=fun H=>clone_c v l ⟨k,c,hve,hv1,hv2⟩ (by have:=hl.2; omega)
 have hvp:v.isPend=false:=by rw [hve]; rfl
 have hv1':v.one=true:=by rw [hve]; rfl
 have ob:=hS.obj
 have li:=hS.lists
 have se:=hS.seen
 cases hf:bF en s with
 | none =>
  simp -implicitDefEqProofs [code_87,res_87,ann_87,hvp,hv1']
  refine aP (hkey _) rfl rfl ?_
  have bl2:=ar ob
  obtain ⟨e',he'⟩:∃ e':SE,e'=⟨h.length+1,h.length,[l]⟩:=⟨_,rfl⟩
  have am:amapSet (.sc (.string s)) (.mp h.length) (aS mvE en)=some (aS mvE (bE en s e')):=by
   have:=amapSet_smap mvE en s e'
   rwa [show mvE e'=.mp h.length by rw [he']; rfl] at this
  have al:amapSet (.sc (.string s)) (.rf (h.length+1) 0 0 1 (.own 1)) (aS lvE en)=some (aS lvE (bE en s e')):=by
   have:=amapSet_smap lvE en s e'
   rwa [show lvE e'=.rf (h.length+1) 0 0 1 (.own 1) by rw [he']; rfl] at this
  have f1:(h++[AObj.amap []])[ix.oS]?=some (.amap (aS mvE en)):=by rw [List.getElem?_append_left (by omega)]; exact se
  obtain ⟨H2,hH2⟩:∃ H2,H2=(h++[AObj.amap []]).set (ix.oS) (.amap (aS mvE (bE en s e'))):=⟨_,rfl⟩
  have l2:H2.length=h.length+1:=by rw [hH2]; simp
  have o2:H2[ix.nb+3]?=h[ix.nb+3]?:=by rw [hH2,List.getElem?_set_ne (by omega),List.getElem?_append_left (by omega)]
  have i2:H2[ix.oA]?=h[ix.oA]?:=by rw [hH2,List.getElem?_set_ne (by omega),List.getElem?_append_left (by omega)]
  have s2:H2[ix.oS]?=some (.amap (aS mvE (bE en s e'))):=by rw [hH2,List.getElem?_set_self (by simp; omega)]
  have n2:H2[h.length]?=some (.amap []):=by rw [hH2,List.getElem?_set_ne (by omega)]; simp
  have fs:bF (bE en s e') s=some e':=by rw [sfind_sset,if_pos rfl]
  have me:mvE e'=.mp h.length:=by rw [he']; rfl
  have f1b:(h++[AObj.amap []])[ix.nb+3]?=h[ix.nb+3]?:=by rw [List.getElem?_append_left (by omega)]
  have f1c:(h++[AObj.amap []])[ix.oA]?=h[ix.oA]?:=by rw [List.getElem?_append_left (by omega)]
  simp -implicitDefEqProofs [ob,li,se,hf,f1,am]
  rw [<- hH2]
  obtain ⟨H3,hH3⟩:∃ H3,H3=H2.set h.length (.amap [(.sc (.string (keyB l)),.sc (.bool true))]):=⟨_,rfl⟩
  simp -implicitDefEqProofs [f1b,o2,ob,s2,n2,fs,me]
  rw [<- hH3]
  have l3:H3.length=h.length+1:=by rw [hH3]; simp [l2]
  have o3:H3[ix.nb+3]?=h[ix.nb+3]?:=by rw [hH3,List.getElem?_set_ne (by omega),o2]
  have i3:H3[ix.oA]?=h[ix.oA]?:=by rw [hH3,List.getElem?_set_ne (by omega),i2]
  have s3:H3[ix.oS]?=some (.amap (aS mvE (bE en s e'))):=by rw [hH3,List.getElem?_set_ne (by omega),s2]
  have hone:(1:Nat) <= maxLenA:=len_tok (by omega)
  simp -implicitDefEqProofs [o3,i3,ob,li,hf,hvp]
  refine aP (hcl _) rfl rfl ?_
  obtain ⟨H4,hH4⟩:∃ H4,H4=H3++[.cells 0 [encW l]]:=⟨_,rfl⟩
  have o4:H4[ix.nb+3]?=h[ix.nb+3]?:=by rw [hH4,List.getElem?_append_left (by omega),o3]
  have i4:H4[ix.oA]?=h[ix.oA]?:=by rw [hH4,List.getElem?_append_left (by omega),i3]
  simp -implicitDefEqProofs [hone,o3,i3,ob,li,hf,hvp]
  rw [<- hH4]
  obtain ⟨H5,hH5⟩:∃ H5,H5=H4.set ix.oA (.amap (aS lvE (bE en s e'))):=⟨_,rfl⟩
  have l4:H4.length=h.length+2:=by rw [hH4]; simp [l3]
  have s4:H4[ix.oS]?=some (.amap (aS mvE (bE en s e'))):=by rw [hH4,List.getElem?_append_left (by omega),s3]
  have o5:H5[ix.nb+3]?=h[ix.nb+3]?:=by rw [hH5,List.getElem?_set_ne (by omega),o4]
  have i5:H5[ix.oA]?=some (.amap (aS lvE (bE en s e'))):=by rw [hH5,List.getElem?_set_self (by omega)]
  have le:lvE e'=.rf (h.length+1) 0 0 1 (.own 1):=by rw [he']; rfl
  simp -implicitDefEqProofs [o4,i4,ob,li,l3,al,evW]
  rw [<- hH5]
  simp -implicitDefEqProofs [o5,i5,ob,fs,le,evW]
  have hg:bh (ak en) s=[]:=by simp [bh,sfind_stOf,hf]
  have hadd:addF (ak en) s l=(bE (ak en) s [l],true):=by simp [addF,hg]
  refine bx (v:=bl true) (by simp [deferred,dslot]) (by simp [aN,aK]) ⟨bE en s e',by rw [hadd],by rw [sset_stOf,hadd,he'],?_,?_⟩
  .refine hS.put ?_ o5 (by rw [hH5,List.getElem?_set_ne (by omega),hH4,List.getElem?_append_left (by omega),hH3,List.getElem?_set_ne (by omega),hH2,List.getElem?_set_ne (by omega),List.getElem?_append_left slt]) i5 ?_ ?_ ?_ (by rw [he']; simp) (by rw [he']; simp only; omega) fun p hp hs=>?_
   .rw [hH5,hH4,hH3,hH2]
    refine (Low.app _ _ _).trans (Low.trans (Low.set (by omega)) (Low.trans (Low.set (by omega)) ((Low.app _ _ _).trans (Low.set (by omega)))))
   .rw [hH5,List.getElem?_set_ne (by omega),s4]
   .rw [hH5,he']
    simp only
    rw [List.getElem?_set_ne (by omega),hH4,<- l3]
    simp
   .rw [hH5,he']
    simp only
    rw [List.getElem?_set_ne (by omega),hH4,List.getElem?_append_left (by omega),hH3,List.getElem?_set_self (by omega)]
    simp [metK,aT,aS]
   .obtain ⟨g1,g2,_⟩:=hS.ent p hp
    obtain ⟨g3,g4⟩:=hS.ge p hp
    have t1:=ar g1
    have t2:=ar g2
    refine ⟨?_,?_,by rw [he']; simp only; omega,by rw [he']; simp only; omega⟩
    .rw [hH5,List.getElem?_set_ne (by omega),hH4,List.getElem?_append_left (by omega),hH3,List.getElem?_set_ne (by omega),hH2,List.getElem?_set_ne (by omega),List.getElem?_append_left t1]
    .rw [hH5,List.getElem?_set_ne (by omega),hH4,List.getElem?_append_left (by omega),hH3,List.getElem?_set_ne (by omega),hH2,List.getElem?_set_ne (by omega),List.getElem?_append_left t2]
  .have x1:Ext (ix.nb+4) h H2:=by rw [hH2]; exact (Ext.app _ _ _).trans (Ext.setM f1)
   have x2:Ext (ix.nb+4) H2 H3:=by rw [hH3]; exact Ext.setM n2
   have x3:Ext (ix.nb+4) H3 H4:=by rw [hH4]; exact Ext.app _ _ _
   have x4:Ext (ix.nb+4) H4 H5:=by rw [hH5]; exact Ext.setM (i4.trans li)
   exact ((x1.trans x2).trans x3).trans x4
 | some e =>
  have hem:=sfind_mem hf
  obtain ⟨eo,es,en0⟩:=hS.ent _ hem
  obtain ⟨ge1,ge2⟩:=hS.ge _ hem
  simp only at eo es en0 ge1 ge2
  have hg:bh (ak en) s=e.l:=by simp [bh,sfind_stOf,hf]
  have hmem:keyB l ∈ e.l.map keyB ↔ l ∈ e.l:=by
   constructor
   .intro h2
    obtain ⟨x,hx,he⟩:=List.mem_map.1 h2
    have:=keyB_inj ((hw _ hem).2 x hx).1 hl.1 he
    rw [<- this]; exact hx
   .exact fun h2=>List.mem_map_of_mem h2
  simp only [metK] at es
  by_cases hin:l ∈ e.l
  .have hk:=hmem.2 hin
   simp -implicitDefEqProofs [code_87,res_87,ann_87,hvp,hv1']
   refine aP (hkey _) rfl rfl ?_
   simp -implicitDefEqProofs [ob,li,se,hf,es,hk,mvE]
   exact bx (v:=bl true) (by simp [deferred,dslot]) (by simp [aN,aK]) ⟨en,by simp [addF,hg,hin],by simp [addF,hg,hin],hS,.refl _ _⟩
  .have hk:¬ keyB l ∈ e.l.map keyB:=fun h2=>hin (hmem.1 h2)
   simp -implicitDefEqProofs [code_87,res_87,ann_87,hvp,hv1']
   refine aP (hkey _) rfl rfl ?_
   obtain ⟨H3,hH3⟩:∃ H3,H3=h.set e.os (.amap (metK (e.l++[l]))):=⟨_,rfl⟩
   have hmk:AObj.amap (aS bv (bE (aT (e.l.map keyB)) (keyB l) true))=.amap (metK (e.l++[l])):=by
    rw [metOf_set _ _ hk]; simp [metK]
   have o3:H3[ix.nb+3]?=h[ix.nb+3]?:=by rw [hH3,List.getElem?_set_ne (by omega)]
   have i3:H3[ix.oA]?=h[ix.oA]?:=by rw [hH3,List.getElem?_set_ne (by omega)]
   have s3:H3[ix.oS]?=h[ix.oS]?:=by rw [hH3,List.getElem?_set_ne (by omega)]
   have hne:e.os ≠ e.o:=by intro e1; rw [e1,eo] at es; cases es
   have eo3:H3[e.o]?=some (.cells 0 (e.l.map encW)):=by rw [hH3,List.getElem?_set_ne hne,eo]
   have hl2:=(hw _ hem).1
   simp only at hl2
   have hone:e.l.length+1 <= maxLenA:=len_tok (by omega)
   have htk:(e.l.map encW).take e.l.length=e.l.map encW:=List.take_of_length_le (by simp)
   simp -implicitDefEqProofs [ob,li,se,hf,es,hk,mvE]
   rw [hmk,<- hH3]
   simp -implicitDefEqProofs [o3,i3,ob,li,hf,hvp,lvE]
   refine aP (hcl _) rfl rfl ?_
   simp -implicitDefEqProofs [o3,i3,ob,li,hf,hvp,lvE,eo3,hone,htk]
   have hoo:∀ p ∈ en,p.1 ≠ s -> p.2.o ≠ e.o /\ p.2.os ≠ e.os:=fun p hp hs=>⟨fun e2=>hs (by rw [nodup_eq hS.ndo hp hem e2]),fun e2=>hs (by rw [nodup_eq hS.nds hp hem e2])⟩
   have l3:H3.length=h.length:=by rw [hH3]; simp
   have x3:Ext (ix.nb+4) h H3:=by rw [hH3]; exact Ext.setM es
   have w3:Low ix.nb h H3:=by rw [hH3]; exact Low.set (by omega)
   have k3:∀ p ∈ en,p.1 ≠ s -> H3[p.2.o]?=h[p.2.o]? /\ H3[p.2.os]?=h[p.2.os]?:=fun p hp hs=>by
    obtain ⟨n1,n2⟩:=hoo p hp hs
    obtain ⟨g1,g2,_⟩:=hS.ent p hp
    refine ⟨?_,?_⟩
    .rw [hH3,List.getElem?_set_ne (by intro e1; rw [<- e1,es] at g1; cases g1)]
    .rw [hH3,List.getElem?_set_ne (fun e1=>n2 e1.symm)]
   have es3:H3[e.os]?=some (.amap (metK (e.l++[l]))):=by rw [hH3,List.getElem?_set_self (ar es)]
   have eol:=ar eo
   have esl:=ar es
   rw [if_neg (by omega)]
   refine ⟨?_,?_⟩
   .
    obtain ⟨H4,hH4⟩:∃ H4,H4=H3.set e.o (.cells 0 (e.l.map encW++[encW l])):=⟨_,rfl⟩
    have o4:H4[ix.nb+3]?=h[ix.nb+3]?:=by rw [hH4,List.getElem?_set_ne (by omega),o3]
    have i4:H4[ix.oA]?=h[ix.oA]?:=by rw [hH4,List.getElem?_set_ne (by omega),i3]
    have al:amapSet (.sc (.string s)) (.rf e.o 0 0 (e.l.length+1) (.own 1)) (aS lvE en)=some (aS lvE (bE en s ⟨e.o,e.os,e.l++[l]⟩)):=by
     have:=amapSet_smap lvE en s ⟨e.o,e.os,e.l++[l]⟩
     simpa [lvE] using this
    rw [<- hH4]
    obtain ⟨H5,hH5⟩:∃ H5,H5=H4.set ix.oA (.amap (aS lvE (bE en s ⟨e.o,e.os,e.l++[l]⟩))):=⟨_,rfl⟩
    have l4:H4.length=h.length:=by rw [hH4]; simp [l3]
    have o5:H5[ix.nb+3]?=h[ix.nb+3]?:=by rw [hH5,List.getElem?_set_ne (by omega),o4]
    have i5:H5[ix.oA]?=some (.amap (aS lvE (bE en s ⟨e.o,e.os,e.l++[l]⟩))):=by rw [hH5,List.getElem?_set_self (by omega)]
    have fs:bF (bE en s ⟨e.o,e.os,e.l++[l]⟩) s=some ⟨e.o,e.os,e.l++[l]⟩:=by rw [sfind_sset,if_pos rfl]
    simp -implicitDefEqProofs [o4,i4,ob,li,al,evW]
    rw [<- hH5]
    simp -implicitDefEqProofs [o5,i5,ob,fs,lvE,evW]
    rw [show decide ((e.l.length:Int)+1 <= 2000)=decide (e.l.length+1 <= 2000) from decide_eq_decide.2 (by omega)]
    refine bx (v:=bl (decide (e.l.length+1 <= 2000))) (by simp [deferred,dslot]) (by simp [aN,aK]) (add_fin hS hf hin ?_ o5 (by rw [hH5,List.getElem?_set_ne (by omega),hH4,List.getElem?_set_ne (by omega),hH3,List.getElem?_set_ne (by omega)]) i5 ?_ ?_ ?_ ge1 (fun p hp hs=>?_) ?_)
    .rw [hH5]; exact (w3.trans (by rw [hH4]; exact Low.set (by omega))).trans (Low.set (by omega))
    .rw [hH5,List.getElem?_set_ne (by omega),hH4,List.getElem?_set_ne (by omega),s3]
    .rw [hH5,List.getElem?_set_ne (by omega),hH4,List.getElem?_set_self (by omega)]; simp
    .rw [hH5,List.getElem?_set_ne (by omega),hH4,List.getElem?_set_ne (fun e1=>hne e1.symm),es3]
    .obtain ⟨n1,n2⟩:=hoo p hp hs
     obtain ⟨g1,g2,_⟩:=hS.ent p hp
     obtain ⟨g3,g4⟩:=hS.ge p hp
     have t1:=ar g1
     have t2:=ar g2
     obtain ⟨k1,k2⟩:=k3 p hp hs
     refine ⟨?_,?_,n1⟩
     .rw [hH5,List.getElem?_set_ne (by omega),hH4,List.getElem?_set_ne (fun e1=>n1 e1.symm),k1]
     .rw [hH5,List.getElem?_set_ne (by omega),hH4,List.getElem?_set_ne (by intro e1; rw [<- e1,eo] at g2; cases g2),k2]
    .rw [hH5]; exact (x3.trans (by rw [hH4]; exact Ext.grow eo3)).trans (Ext.setM (i4.trans li))
   .
    obtain ⟨H4,hH4⟩:∃ H4,H4=H3++[.cells 0 (e.l.map encW++[encW l])]:=⟨_,rfl⟩
    have o4:H4[ix.nb+3]?=h[ix.nb+3]?:=by rw [hH4,List.getElem?_append_left (by omega),o3]
    have i4:H4[ix.oA]?=h[ix.oA]?:=by rw [hH4,List.getElem?_append_left (by omega),i3]
    have al:amapSet (.sc (.string s)) (.rf h.length 0 0 (e.l.length+1) (.own 1)) (aS lvE en)=some (aS lvE (bE en s ⟨h.length,e.os,e.l++[l]⟩)):=by
     have:=amapSet_smap lvE en s ⟨h.length,e.os,e.l++[l]⟩
     simpa [lvE] using this
    rw [l3,<- hH4]
    obtain ⟨H5,hH5⟩:∃ H5,H5=H4.set ix.oA (.amap (aS lvE (bE en s ⟨h.length,e.os,e.l++[l]⟩))):=⟨_,rfl⟩
    have l4:H4.length=h.length+1:=by rw [hH4]; simp [l3]
    have o5:H5[ix.nb+3]?=h[ix.nb+3]?:=by rw [hH5,List.getElem?_set_ne (by omega),o4]
    have i5:H5[ix.oA]?=some (.amap (aS lvE (bE en s ⟨h.length,e.os,e.l++[l]⟩))):=by rw [hH5,List.getElem?_set_self (by omega)]
    have fs:bF (bE en s ⟨h.length,e.os,e.l++[l]⟩) s=some ⟨h.length,e.os,e.l++[l]⟩:=by rw [sfind_sset,if_pos rfl]
    simp -implicitDefEqProofs [o4,i4,ob,li,al,evW]
    rw [<- hH5]
    simp -implicitDefEqProofs [o5,i5,ob,fs,lvE,evW]
    rw [show decide ((e.l.length:Int)+1 <= 2000)=decide (e.l.length+1 <= 2000) from decide_eq_decide.2 (by omega)]
    refine bx (v:=bl (decide (e.l.length+1 <= 2000))) (by simp [deferred,dslot]) (by simp [aN,aK]) (add_fin hS hf hin ?_ o5 (by rw [hH5,List.getElem?_set_ne (by omega),hH4,List.getElem?_append_left (by omega),hH3,List.getElem?_set_ne (by omega)]) i5 ?_ ?_ ?_ (by omega) (fun p hp hs=>?_) ?_)
    .rw [hH5]; exact (w3.trans (by rw [hH4]; exact Low.app _ _ _)).trans (Low.set (by omega))
    .rw [hH5,List.getElem?_set_ne (by omega),hH4,List.getElem?_append_left (by omega),s3]
    .rw [hH5,List.getElem?_set_ne (by omega),hH4,<- l3]; simp
    .rw [hH5,List.getElem?_set_ne (by omega),hH4,List.getElem?_append_left (by omega),es3]
    .obtain ⟨n1,n2⟩:=hoo p hp hs
     obtain ⟨g1,g2,_⟩:=hS.ent p hp
     obtain ⟨g3,g4⟩:=hS.ge p hp
     have t1:=ar g1
     have t2:=ar g2
     obtain ⟨k1,k2⟩:=k3 p hp hs
     refine ⟨?_,?_,by omega⟩
     .rw [hH5,List.getElem?_set_ne (by omega),hH4,List.getElem?_append_left (by omega),k1]
     .rw [hH5,List.getElem?_set_ne (by omega),hH4,List.getElem?_append_left (by omega),k2]
    .rw [hH5]; exact (x3.trans (by rw [hH4]; exact Ext.app _ _ _)).trans (Ext.setM (i4.trans li))
end Go.Apx
end
section
namespace Go.Apx
open Go.Proofs
set_option maxRecDepth 4000
def restS (g:Gr) (M:List Int) (n:Int) (p:Pt):Int:=if p.sort=emp then n+1 else min (n+lenAt g M p.sort) farI
def restN (g:Gr) (M:List Int) (l:List Pt):Int:=l.foldl (restS g M) 0
theorem restS_ok {g:Gr} {M:List Int} (h:LenOk g M) {n:Int} (hn:0 <= n) (p:Pt):0 <= restS g M n p /\ restS g M n p <= max (n+1) farI:=by
 have:=lenAt_ok h p.sort
 unfold restS farI at *
 split <;> omega
theorem restF_ok {g:Gr} {M:List Int} (h:LenOk g M):∀ (l:List Pt) (n:Int),0 <= n -> 0 <= l.foldl (restS g M) n /\ l.foldl (restS g M) n <= max n farI+l.length
 | [],n,hn=>by simp; omega
 | p :: l,n,hn=>by
  obtain ⟨h1,h2⟩:=restS_ok h hn p
  obtain ⟨h3,h4⟩:=restF_ok h l _ h1
  simp only [List.foldl_cons,List.length_cons]
  unfold farI at *
  refine ⟨h3,?_⟩
  omega
theorem restN_ok {g:Gr} {M:List Int} (h:LenOk g M) (l:List Pt):0 <= restN g M l /\ restN g M l <= farI+l.length:=by
 have:=restF_ok h l 0 (Int.le_refl _)
 unfold restN farI at *
 omega
set_option maxHeartbeats 1000000 in
theorem rest_c (g:Gr) (M:List Int) (sp lp:Nat) (o1 o2 o4:AV) (most:Int) (x y:AV) (l:List Pt) (c:Cap) (hM:LenOk g M) (hin:∀ p ∈ l,p.sort ≠ emp -> bU g.sorts p.sort=true) (hl:l.length <= 2 ^ 31) {h:AHeap}
  (hob:h[sp]?=some (.cells 0 [o1,o2,o4,.mp lp,x,y])) (hlen:h[lp]?=some (.amap (aS iv (lmap g M)))) :
  AEx PP Gl 86 [.ptr sp 0 0,.sl 3 (l.map encP) c] h (.ret (i64 (restN g M l))) h:=by
 refine enter_86 (by simp) ?_
 simp -implicitDefEqProofs [code_86,res_86,ann_86]
 refine AWp.cnt l.length [0,8,9] (fun i=>[(5,i64 ((l.take i).foldl (restS g M) 0)),(10,i64 (i:Int))]) (fun _=>h) (fun i=>True) mixed trivial (aI (by simp [dslot])) rfl (fun i hi hz=>?_) fun hz=>?_
 .obtain ⟨p,hp⟩:∃ p,l[i]?=some p:=⟨l[i],by simp [hi]⟩
  have hlt:(i:Int) < l.length:=by omega
  have hne:l ≠ []:=by intro e; rw [e] at hi; simp at hi
  have wi:IntKind.i64.wrap ((i:Int)+1)=(i:Int)+1:=IntWalk.i64_in _ (by omega)
  have hb:=restF_ok hM (l.take i) 0 (Int.le_refl _)
  rw [List.length_take] at hb
  have hst:=fold_take (restS g M) 0 hp
  rw [hst]
  generalize (l.take i).foldl (restS g M) 0=N at hb
  have hN:0 <= N /\ N <= 2 ^ 40:=by unfold farI at hb; omega
  by_cases e:p.sort=emp
  .have wn:IntKind.i64.wrap (N+1)=N+1:=IntWalk.i64_in _ (by omega)
   simp -implicitDefEqProofs [lp0_86,hlt,hne,hp,encP,e,emp,wn,wi]
   exact aI (by simp [dslot,restS,e])
  .have e':¬ p.sort=(⟨#[]⟩:ByteArray):=e
   have hf:=lmap_find hM.1 (hin p (List.mem_of_getElem? hp) e)
   have hla:=lenAt_ok hM p.sort
   have wn:IntKind.i64.wrap (N+lenAt g M p.sort)=N+lenAt g M p.sort:=IntWalk.i64_in _ (by unfold farI at hla; omega)
   simp -implicitDefEqProofs [lp0_86,hlt,hne,hp,encP,e',hob,hlen,hf,wn,wi]
   have hm:restS g M N p=if 1000001 < N+lenAt g M p.sort then 1000001 else N+lenAt g M p.sort:=by
    unfold restS farI; rw [if_neg e]; split <;> omega
   exact aI (by simp [dslot,hm])
 .simp -implicitDefEqProofs [lp0_86]
  exact aZ (by simp [deferred,dslot]) rfl rfl rfl
end Go.Apx
end
section
namespace Go.Apx
open Go.Proofs
set_option maxRecDepth 4000
def bz (g:Gr) (M:List Int) (most:Int) (s:ByteArray):List Pt -> W -> St -> St × Bool
 | [],bg,st=>if (bg.length:Int)+0 > most then (st,true) else addF st s bg
 | p :: r,bg,st=>if (bg.length:Int)+restN g M (p :: r) > most then (st,true) else if p.sort=emp then bz g M most s r (bg++[p.sym]) st else
   (bh st p.sort).foldl (fun (x:St × Bool) y=>if x.2=true then bz g M most s r (bg++y) x.1 else x) (st,true)
def StOk (most:Int) (st:St):Prop:=∀ p ∈ st,p.2.length <= 2000 /\ ∀ x ∈ p.2,WOk x /\ (x.length:Int) <= most
theorem StOk.get {most:Int} {st:St} (h:StOk most st) (s:ByteArray):(bh st s).length <= 2000 /\ ∀ x ∈ bh st s,WOk x /\ (x.length:Int) <= most:=by
 unfold bh
 cases e:bF st s with
 | none=>simp
 | some l=>exact h _ (sfind_mem e)
theorem mem_sset' {α:Type} {l:List (ByteArray × α)} {s:ByteArray} {a:α} {p:ByteArray × α} (h:p ∈ bE l s a):p=(s,a) \/ p ∈ l:=by
 induction l with
 | nil=>simp [bE] at h; exact .inl h
 | cons q l ih =>
  obtain ⟨k,x⟩:=q
  simp only [bE] at h
  split at h
  .rcases List.mem_cons.1 h with rfl | h
   .exact .inl rfl
   .exact .inr (by simp [h])
  .rcases List.mem_cons.1 h with rfl | h
   .exact .inr (by simp)
   .exact (ih h).imp id fun h=>by simp [h]
theorem addF_ok {most:Int} {st:St} {s:ByteArray} {l:W} (h:StOk most st) (hl:WOk l) (hm:(l.length:Int) <= most) (hb:(addF st s l).2=true):StOk most (addF st s l).1:=by
 unfold addF at hb ⊢
 by_cases e:l ∈ bh st s
 .rw [if_pos e]; exact h
 .rw [if_neg e] at hb ⊢
  simp only [decide_eq_true_eq] at hb
  intro p hp
  rcases mem_sset' hp with rfl | hp
  .refine ⟨by simpa using hb,fun x hx=>?_⟩
   rcases List.mem_append.1 hx with hx | hx
   .exact (h.get s).2 x hx
   .simp at hx; subst hx; exact ⟨hl,hm⟩
  .exact h p hp
def BOk (l:W):Prop:=∀ x ∈ l,x.size < 100
def symsOk (l:List Pt):Prop:=∀ p ∈ l,p.sort=emp -> p.sym.size < 100
theorem extF_ok {g:Gr} {M:List Int} {most:Int} (hM:LenOk g M) (hmo:most <= 12) {s:ByteArray}:∀ (l:List Pt) (bg:W) (st:St),symsOk l -> BOk bg -> StOk most st -> (bz g M most s l bg st).2=true -> StOk most (bz g M most s l bg st).1
 | [],bg,st,hy,hb,hs,h=>by
  unfold bz at h ⊢
  split
  .exact hs
  .rename_i h1
   rw [if_neg h1] at h
   exact addF_ok hs ⟨hb,by omega⟩ (by omega) h
 | p :: r,bg,st,hy,hb,hs,h=>by
  unfold bz at h ⊢
  by_cases h1:(bg.length:Int)+restN g M (p :: r) > most
  .rw [if_pos h1]; exact hs
  .rw [if_neg h1] at h ⊢
   by_cases h2:p.sort=emp
   .rw [if_pos h2] at h ⊢
    exact extF_ok hM hmo r _ st (fun q hq=>hy q (by simp [hq])) (fun x hx=>by
     rcases List.mem_append.1 hx with hx | hx
     .exact hb x hx
     .simp at hx; subst hx; exact hy p (by simp) h2) hs h
   .rw [if_neg h2] at h ⊢
    have key:∀ (xs:List W) (x:St × Bool),(∀ y ∈ xs,BOk y) -> (x.2=true -> StOk most x.1) -> (xs.foldl (fun (x:St × Bool) y=>if x.2=true then bz g M most s r (bg++y) x.1 else x) x).2=true -> StOk most (xs.foldl (fun (x:St × Bool) y=>if x.2=true then bz g M most s r (bg++y) x.1 else x) x).1:=by
     intro xs
     induction xs with
     | nil=>intro x _ h3 h4; exact h3 h4
     | cons y xs ih =>
      intro x h5 h3 h4
      rw [List.foldl_cons] at h4 ⊢
      refine ih _ (fun z hz=>h5 z (by simp [hz])) (fun h6=>?_) h4
      by_cases h7:x.2=true
      .rw [if_pos h7] at h6 ⊢
       exact extF_ok hM hmo r _ _ (fun q hq=>hy q (by simp [hq])) (fun z hz=>by
        rcases List.mem_append.1 hz with hz | hz
        .exact hb z hz
        .exact h5 y (by simp) z hz) (h3 h7) h6
      .rw [if_neg h7] at h6 ⊢; exact (h7 h6).elim
    exact key _ _ (fun y hy2=>((hs.get p.sort).2 y hy2).1.1) (fun _=>hs) h
termination_by l=>l.length
theorem elems_encW (H:AHeap) (x:W):elems H 1 (encW x)=some (x.map sv):=by
 cases x with
 | nil=>rfl
 | cons a x=>simp [encW,aW,elems]
theorem appB {C:Cx} {b:Nat} {x y:Opd} {d:Option Nat} {env:Env} {H:AHeap} {K:Env -> AHeap -> Prop} (bg ys:W) (hx:aD C.G env x=some (.sl (if bg=[] then 0 else 1) (bg.map sv) (if bg=[] then .nil else .full))) (hy:(aD C.G env y).bind (elems H 1)=some (ys.map sv))
  (hm:bg.length+ys.length <= 2 ^ 31) (hK:∀ v H',BgV v (bg++ys) -> v.isPend=false -> v.one=true -> (H'=H \/ ∃ n,H'=H++[.tok n]) -> K (aY env d v) H'):appW C 1 b x y d env H K:=by
 unfold appW
 have hml:bg.length+ys.length <= maxLenA:=len_tok (by omega)
 cases bg with
 | nil =>
  cases ys with
  | nil =>
   have he:aA C.G env H (.append 1 b x y)=some (.sl 0 [] .nil,H):=by simp only [aA,hx,hy]; simp
   rw [he]
   exact hK _ _ BgV.nil rfl rfl (.inl rfl)
  | cons a ys =>
   have hml':ys.length+1 <= maxLenA:=by simpa using hml
   have he:aA C.G env H (.append 1 b x y)=some (.sl 1 ((a :: ys).map sv) (.tok H.length),H++[.tok (ys.length+1)]):=by simp only [aA,hx,hy]; simp [hml']
   rw [he]
   exact hK _ _ ⟨1,_,rfl,fun _=>⟨rfl,by simp⟩,fun e=>by simp at e⟩ rfl rfl (.inr ⟨_,rfl⟩)
 | cons s bg =>
  cases ys with
  | nil =>
   have he:aA C.G env H (.append 1 b x y)=some (.sl 1 ((s :: bg).map sv) .full,H):=by simp only [aA,hx,hy]; simp
   rw [he]
   exact hK _ _ ⟨1,.full,by simp,fun _=>⟨rfl,by simp⟩,fun e=>by simp at e⟩ rfl rfl (.inl rfl)
  | cons a ys =>
   have hml':bg.length+1+(ys.length+1) <= maxLenA:=by simpa using hml
   have he:aA C.G env H (.append 1 b x y)=some (.sl 1 ((s :: bg++a :: ys).map sv) (.tok H.length),H++[.tok (bg.length+1+(ys.length+1))]):=by simp only [aA,hx,hy]; simp [hml']
   rw [he]
   exact hK _ _ ⟨1,_,rfl,fun _=>⟨rfl,by simp⟩,fun e=>by simp at e⟩ rfl rfl (.inr ⟨_,rfl⟩)
theorem SS.app {H0:AHeap} {ix:IX} {g:Gr} {M:List Int} {most:Int} {en:Ens} {h:AHeap} (hS:SS H0 ix g M most en h) (x:AHeap):SS H0 ix g M most en (h++x):=by
 have a:∀ (z:Nat) (y:AObj),h[z]?=some y -> (h++x)[z]?=some y:=fun z y hz=>by rw [List.getElem?_append_left (ar hz)]; exact hz
 exact ⟨hS.low.trans (Low.app _ _ _),a _ _ hS.obj,a _ _ hS.lists,a _ _ hS.lens,a _ _ hS.seen,fun p hp=>by obtain ⟨b,c,d⟩:=hS.ent p hp; exact ⟨a _ _ b,a _ _ c,d⟩,hS.ge,hS.ndo,hS.nds,hS.ndk⟩
def ExtR (H0:AHeap) (ix:IX) (g:Gr) (M:List Int) (most:Int) (en:Ens) (s:ByteArray) (l:List Pt) (bg:W) (h:AHeap) (r:AEnd) (h':AHeap):Prop :=
 ∃ en',r=.ret (bl (bz g M most s l bg (ak en)).2) /\ ak en'=(bz g M most s l bg (ak en)).1 /\ SS H0 ix g M most en' h' /\ Ext (ix.nb+4) h h'
structure X1 where
 i:Nat
 en:Ens
 h:AHeap
theorem foldE_stop (f:St -> W -> St × Bool):∀ (xs:List W) (x:St × Bool),x.2=false -> xs.foldl (fun (x:St × Bool) y=>if x.2=true then f x.1 y else x) x=x
 | [],x,_=>rfl
 | y :: xs,x,h=>by
  rw [List.foldl_cons,if_neg (by simp [h])]
  exact foldE_stop f xs x h
set_option maxHeartbeats 8000000 in
theorem extend_c (H0:AHeap) (ix:IX) (hix:ix.Ok) (g:Gr) (M:List Int) (most:Int) (s:ByteArray) (hM:LenOk g M) (hmo:0 <= most /\ most <= 12) :
  ∀ (l:List Pt) (c:Cap) (bg:W) (v:AV) (en:Ens) {h:AHeap},(∀ p ∈ l,p.sort ≠ emp -> bU g.sorts p.sort=true) -> symsOk l -> l.length <= 1000 -> BgV v bg -> BOk bg -> (bg.length:Int) <= 24 -> SS H0 ix g M most en h -> StOk most (ak en) ->
   ACalls PP Gl 52 [.ptr (ix.nb+3) 0 0,sv s,v,.sl 3 (l.map encP) c] h (ExtR H0 ix g M most en s l bg h):=by
 intro l
 induction l with
 | nil =>
  intro c bg v en h hin hsy hll hv hb hbl hS hst
  refine enter_52 (by simp) ?_
  have hlm:h[ix.oL]?=some (.amap (aS iv (lmap g M))):=hS.lens
  have hrest:=rest_c g M (ix.nb+3) ix.oL (.sl 1 (g.sorts.map sv) g.sc) (.sl 4 (g.rules.map ab) g.rc) (i64 most) most (.mp ix.oA) (.mp (ix.oS)) [] c hM hin (by simp) hS.obj hlm
  have ob:=hS.obj
  obtain ⟨k,cv,hve,hv1,hv2⟩:=id hv
  have hvp:v.isPend=false:=by rw [hve]; rfl
  have hvo:v.one=true:=by rw [hve]; rfl
  have w0:IntKind.i64.wrap (bg.length:Int)=(bg.length:Int):=IntWalk.i64_in _ (by omega)
  have hnil:restN g M []=0:=rfl
  have hen:∀ p ∈ en,p.2.l.length <= 2000 /\ ∀ x ∈ p.2.l,WOk x:=fun p hp=>by
   have:=hst (p.1,p.2.l) (List.mem_map.2 ⟨p,hp,rfl⟩)
   exact ⟨this.1,fun x hx=>(this.2 x hx).1⟩
  simp -implicitDefEqProofs [code_52,res_52,ann_52,ob,hvp,hvo,hve]
  refine aP hrest (by simp) rfl ?_
  by_cases hgt:most < (bg.length:Int)
  .simp -implicitDefEqProofs [ob,hnil,w0,hgt]
   have hx:bz g M most s [] bg (ak en)=(ak en,true):=by unfold bz; rw [if_pos (by omega)]
   exact bx (v:=bl true) (by simp [deferred,dslot]) (by simp [aN,aK]) ⟨en,by rw [hx],by rw [hx],hS,.refl _ _⟩
  .have hx:bz g M most s [] bg (ak en)=addF (ak en) s bg:=by unfold bz; rw [if_neg (by omega)]
   simp -implicitDefEqProofs [ob,hnil,w0,hgt]
   refine be (add_c H0 ix hix g M most en s v bg hv ⟨hb,by omega⟩ hS hen) (by simp [hve,sv]) rfl ?_
   rintro r h' ⟨en',rfl,e2,e3,e4⟩
   simp -implicitDefEqProofs
   exact bx (v:=bl (addF (ak en) s bg).2) (by simp [deferred,dslot]) (by simp [aN,aK]) ⟨en',by rw [hx],by rw [hx]; exact e2,e3,e4⟩
 | cons p r ih =>
  intro c bg v en h hin hsy hll hv hb hbl hS hst
  refine enter_52 (by simp) ?_
  have hlm:h[ix.oL]?=some (.amap (aS iv (lmap g M))):=hS.lens
  have hrest:=rest_c g M (ix.nb+3) ix.oL (.sl 1 (g.sorts.map sv) g.sc) (.sl 4 (g.rules.map ab) g.rc) (i64 most) most (.mp ix.oA) (.mp (ix.oS)) (p :: r) c hM hin (by omega) hS.obj hlm
  have ob:=hS.obj
  have li:=hS.lists
  obtain ⟨k,cv,hve,hv1,hv2⟩:=id hv
  have hvp:v.isPend=false:=by rw [hve]; rfl
  have hvo:v.one=true:=by rw [hve]; rfl
  have hrb:=restN_ok hM (p :: r)
  have w0:IntKind.i64.wrap ((bg.length:Int)+restN g M (p :: r))=(bg.length:Int)+restN g M (p :: r):=IntWalk.i64_in _ (by unfold farI at hrb; simp at hrb hll; omega)
  simp -implicitDefEqProofs [code_52,res_52,ann_52,ob,hvp,hvo,hve]
  refine aP hrest (by simp) rfl ?_
  by_cases hgt:most < (bg.length:Int)+restN g M (p :: r)
  .simp -implicitDefEqProofs [ob,w0,hgt]
   have hx:bz g M most s (p :: r) bg (ak en)=(ak en,true):=by unfold bz; rw [if_pos (by omega)]
   exact bx (v:=bl true) (by simp [deferred,dslot]) (by simp [aN,aK]) ⟨en,by rw [hx],by rw [hx],hS,.refl _ _⟩
  have hr0:(r.length:Int)+1 ≠ 0:=by omega
  have hrt:List.take r.length (r.map encP)=r.map encP:=List.take_of_length_le (by simp)
  simp -implicitDefEqProofs [ob,w0,hgt,hr0]
  refine aP (clip_c v bg hv) (by simp [hve]) rfl ?_
  by_cases hsy0:p.sort=emp
  .have hps:=hsy p (by simp) hsy0
   have hx:bz g M most s (p :: r) bg (ak en)=bz g M most s r (bg++[p.sym]) (ak en):=by
    conv=>lhs; unfold bz
    rw [if_neg (by omega),if_pos hsy0]
   have hb2:BOk (bg++[p.sym]):=fun x hx=>by
    rcases List.mem_append.1 hx with hx | hx
    .exact hb x hx
    .simp at hx; subst hx; exact hps
   have hbl2:(bg.length:Int) <= 12:=by omega
   simp -implicitDefEqProofs [ob,encP,hsy0,emp]
   refine appB bg [p.sym] (by simp) (by simp [sv]) (by simp; omega) (fun v' H' hv' hp' ho' hH'=>?_)
   have hS':SS H0 ix g M most en H':=by
    rcases hH' with rfl | ⟨n,rfl⟩
    .exact hS
    .exact hS.app _
   have hE':Ext (ix.nb+4) h H':=by
    rcases hH' with rfl | ⟨n,rfl⟩
    .exact .refl _ _
    .exact .app _ _ _
   simp -implicitDefEqProofs [hp',ho',hrt]
   refine be (ih (if c=.full then .full else .any) (bg++[p.sym]) v' en (fun q hq=>hin q (by simp [hq])) (fun q hq=>hsy q (by simp [hq])) (by simp at hll; omega) hv' hb2 (by simp; omega) hS' hst) (by simp [sv]) rfl ?_
   rintro r2 h2 ⟨en',rfl,e2,e3,e4⟩
   simp -implicitDefEqProofs
   exact bx (v:=bl (bz g M most s r (bg++[p.sym]) (ak en)).2) (by simp [deferred,dslot]) (by simp [aN,aK]) ⟨en',by rw [hx],by rw [hx]; exact e2,e3,hE'.trans e4⟩
  .have hsy':¬ p.sort=(⟨#[]⟩:ByteArray):=hsy0
   have hx:bz g M most s (p :: r) bg (ak en)=(bh (ak en) p.sort).foldl (fun (x:St × Bool) y=>if x.2=true then bz g M most s r (bg++y) x.1 else x) (ak en,true):=by
    conv=>lhs; unfold bz
    rw [if_neg (by omega),if_neg hsy0]
   cases hf:bF en p.sort with
   | none =>
    have hg:bh (ak en) p.sort=[]:=by simp [bh,sfind_stOf,hf]
    simp -implicitDefEqProofs [ob,li,encP,hsy',hf]
    refine AWp.keep [0,1,2,3,56,57,58] (aI (by simp [dslot])) ?_
    refine AWp.cnt 0 [0,1,2,3,56,57,58] (fun i=>[]) (fun _=>h) (fun _=>True) mixed trivial (aI (by simp [dslot])) rfl (fun i hi=>by omega) ?_
    intro _
    simp -implicitDefEqProofs [lp0_52]
    exact bx (v:=bl true) (by simp [deferred,dslot]) (by simp [aN,aK]) ⟨en,by rw [hx,hg]; rfl,by rw [hx,hg]; rfl,hS,.refl _ _⟩
   | some e =>
    have hg:bh (ak en) p.sort=e.l:=by simp [bh,sfind_stOf,hf]
    rw [hg] at hx
    have hem:=sfind_mem hf
    obtain ⟨eo,_,_⟩:=hS.ent _ hem
    obtain ⟨ge1,_⟩:=hS.ge _ hem
    simp only at eo ge1
    have hel:=hst.get p.sort
    rw [hg] at hel
    have hbl2:(bg.length:Int) <= 12:=by omega
    simp -implicitDefEqProofs [ob,li,encP,hsy',hf,lvE]
    refine AWp.till (S:=X1) ⟨0,en,h⟩ (fun st=>e.l.length - st.i) [0,1,2,3,56,57] (fun st=>[(58,i64 (st.i:Int))]) (fun st=>st.h)
     (fun st=>st.i <= e.l.length /\ SS H0 ix g M most st.en st.h /\ Ext (ix.nb+4) h st.h /\ (ak st.en,true)=(e.l.take st.i).foldl (fun (x:St × Bool) y=>if x.2=true then bz g M most s r (bg++y) x.1 else x) (ak en,true) /\ StOk most (ak st.en)) mixed
     ⟨Nat.zero_le _,hS,.refl _ _,rfl,hst⟩ (aI (by simp [dslot])) rfl ?_
    rintro ⟨i,en1,h1⟩ ⟨z0,z1,z2,z3,z4⟩
    simp only at z0 z1 z2 z3 z4
    by_cases hi:i < e.l.length
    case neg =>
     have hlt:¬ (i:Int) < e.l.length:=by omega
     have hie:i=e.l.length:=by omega
     subst hie
     rw [List.take_length,<- hx] at z3
     simp -implicitDefEqProofs [lp0_52,hlt]
     exact bx (v:=bl true) (by simp [deferred,dslot]) (by simp [aN,aK]) ⟨en1,by rw [<- z3],by rw [<- z3],z1,z2⟩
    obtain ⟨x,hxi⟩:∃ x,e.l[i]?=some x:=⟨e.l[i],by simp [hi]⟩
    have hlt:(i:Int) < e.l.length:=by omega
    have wi:IntKind.i64.wrap ((i:Int)+1)=(i:Int)+1:=IntWalk.i64_in _ (by omega)
    obtain ⟨cs',hcs,hpre⟩:=z2.rows e.o _ ge1 eo
    have hci:cs'[i]?=some (encW x):=by
     obtain ⟨t,ht⟩:=hpre
     rw [<- ht,List.getElem?_append_left (by simpa using hi),List.getElem?_map,hxi]; rfl
    have hxk:=(hel.2 x (List.mem_of_getElem? hxi))
    have hst2:=fold_take (fun (x:St × Bool) y=>if x.2=true then bz g M most s r (bg++y) x.1 else x) (ak en,true) hxi
    rw [<- z3] at hst2
    simp only [if_true] at hst2
    simp -implicitDefEqProofs [lp0_52,hlt,hi,hcs,hci]
    refine appB bg x (by simp) (by simp [-elems,elems_encW]) (by have:=hxk.1.2; omega) (fun v' H' hv' hp' ho' hH'=>?_)
    have hS':SS H0 ix g M most en1 H':=by
     rcases hH' with rfl | ⟨n,rfl⟩
     .exact z1
     .exact z1.app _
    have hE':Ext (ix.nb+4) h1 H':=by
     rcases hH' with rfl | ⟨n,rfl⟩
     .exact .refl _ _
     .exact .app _ _ _
    have hb2:BOk (bg++x):=fun y hy=>by
     rcases List.mem_append.1 hy with hy | hy
     .exact hb y hy
     .exact hxk.1.1 y hy
    simp -implicitDefEqProofs [hp',ho',hrt]
    refine be (ih (if c=.full then .full else .any) (bg++x) v' en1 (fun q hq=>hin q (by simp [hq])) (fun q hq=>hsy q (by simp [hq])) (by simp at hll; omega) hv' hb2 (by have:=hxk.2; simp; omega) hS' z4) (by simp [sv]) rfl ?_
    rintro r2 h2 ⟨en',rfl,e2,e3,e4⟩
    have hok:=extF_ok hM hmo.2 (s:=s) r (bg++x) (ak en1) (fun q hq=>hsy q (by simp [hq])) hb2 z4
    cases hres:(bz g M most s r (bg++x) (ak en1)).2 with
    | true =>
     simp -implicitDefEqProofs [wi]
     refine ⟨⟨i+1,en',h2⟩,by simp; omega,⟨by simp; omega,e3,(z2.trans hE').trans e4,?_,by simp only; rw [e2]; exact hok hres⟩,aI (by simp [dslot]),rfl⟩
     simp only
     rw [hst2,e2]
     exact Prod.ext rfl hres.symm
    | false =>
     have hfin:bz g M most s (p :: r) bg (ak en)=bz g M most s r (bg++x) (ak en1):=by
      rw [hx]
      conv=>lhs; rw [<- List.take_append_drop (i+1) e.l,List.foldl_append,hst2]
      exact foldE_stop (fun st y=>bz g M most s r (bg++y) st) _ _ hres
     simp -implicitDefEqProofs
     exact bx (v:=bl false) (by simp [deferred,dslot]) (by simp [aN,aK]) ⟨en',by rw [hfin,hres],by rw [hfin]; exact e2,e3,(z2.trans hE').trans e4⟩
end Go.Apx
end
section
namespace Go.Apx
open Go.Proofs
set_option maxRecDepth 4000
def sumB:List Nat -> List Nat -> List Nat -> Nat
 | n :: ls,b :: bs,seen=>(if b ∈ seen then n else 0)+sumB ls bs seen
 | _,_,_=>0
def cntB (bs seen:List Nat):Nat:=(bs.filter fun b=>!decide (b ∈ seen)).length
theorem sumB_out:∀ (ls bs seen:List Nat) (b:Nat),b ∉ bs -> sumB ls bs (seen++[b])=sumB ls bs seen
 | [],bs,seen,b,_=>by cases bs <;> rfl
 | n :: ls,[],seen,b,_=>rfl
 | n :: ls,c :: bs,seen,b,h=>by
  simp only [List.mem_cons,not_or] at h
  have h1:c ≠ b:=fun e=>h.1 e.symm
  simp only [sumB,List.mem_append,List.mem_singleton,h1,or_false,sumB_out ls bs seen b h.2]
theorem sumB_add:∀ (ls bs seen:List Nat) (i b n:Nat),bs.Nodup -> ls[i]?=some n -> bs[i]?=some b -> b ∉ seen -> sumB ls bs (seen++[b])=sumB ls bs seen+n
 | [],bs,seen,i,b,n,_,h,_,_=>by simp at h
 | m :: ls,[],seen,i,b,n,_,_,h,_=>by simp at h
 | m :: ls,c :: bs,seen,0,b,n,hn,h1,h2,hb=>by
  simp at h1 h2
  subst h1 h2
  simp only [List.nodup_cons] at hn
  simp only [sumB,sumB_out ls bs seen c hn.1,hb,if_false,List.mem_append,List.mem_singleton,or_true,if_true]
  omega
 | m :: ls,c :: bs,seen,i+1,b,n,hn,h1,h2,hb=>by
  simp only [List.getElem?_cons_succ] at h1 h2
  simp only [List.nodup_cons] at hn
  have hc:c ≠ b:=fun e=>hn.1 (by rw [e]; exact List.mem_of_getElem? h2)
  simp only [sumB,sumB_add ls bs seen i b n hn.2 h1 h2 hb,List.mem_append,List.mem_singleton,hc,or_false]
  omega
theorem sumB_all:∀ (ls bs seen:List Nat),ls.length=bs.length -> (∀ b ∈ bs,b ∈ seen) -> sumB ls bs seen=ls.sum
 | [],[],seen,_,_=>rfl
 | [],b :: bs,seen,h,_=>by simp at h
 | n :: ls,[],seen,h,_=>by simp at h
 | n :: ls,b :: bs,seen,h,hb=>by
  simp only [sumB,hb b (by simp),if_true,List.sum_cons,sumB_all ls bs seen (by simpa using h) (fun c hc=>hb c (by simp [hc]))]
theorem sumB_le:∀ (ls bs seen:List Nat),sumB ls bs seen <= ls.sum
 | [],bs,seen=>by cases bs <;> simp [sumB]
 | n :: ls,[],seen=>by simp [sumB]
 | n :: ls,b :: bs,seen=>by
  have:=sumB_le ls bs seen
  simp only [sumB,List.sum_cons]
  split <;> omega
theorem sumB_nil:∀ (ls bs:List Nat),sumB ls bs []=0
 | [],bs=>by cases bs <;> rfl
 | n :: ls,[]=>rfl
 | n :: ls,b :: bs=>by simp [sumB,sumB_nil ls bs]
theorem cntB_lt {bs seen:List Nat} {b:Nat} (hb:b ∈ bs) (hs:b ∉ seen):cntB bs (seen++[b]) < cntB bs seen:=by
 unfold cntB
 have hle:∀ l:List Nat,(l.filter fun c=>!decide (c ∈ seen++[b])).length <= (l.filter fun c=>!decide (c ∈ seen)).length:=by
  intro l
  induction l with
  | nil=>simp
  | cons c l ih =>
   by_cases h1:c ∈ seen
   .simp [List.filter_cons,h1]; simpa using ih
   .by_cases h2:c=b
    .subst h2
     simp only [List.filter_cons,h1,List.mem_append,List.mem_singleton,or_true,decide_true,Bool.not_true,decide_false,Bool.not_false,if_true,List.length_cons,Bool.false_eq_true,if_false]
     simp at ih ⊢; omega
    .simp [List.filter_cons,h1,h2]; simpa using ih
 induction bs with
 | nil=>simp at hb
 | cons c l ih =>
  have h0:=hle l
  by_cases h2:c=b
  .subst h2
   simp only [List.filter_cons,hs,List.mem_append,List.mem_singleton,or_true,decide_true,Bool.not_true,decide_false,Bool.not_false,if_true,List.length_cons,Bool.false_eq_true,if_false]
   simp at h0 ⊢; omega
  .have ih':=ih (by simpa [Ne.symm h2] using hb)
   by_cases h1:c ∈ seen
   .simp [List.filter_cons,h1]; simpa using ih'
   .simp [List.filter_cons,h1,h2]; simpa using ih'
def totS (st:St):Nat:=(st.map fun p=>p.2.length).sum
structure Z1 where
 seen:List Nat
theorem size_c (H0:AHeap) (ix:IX) (hx:ix.Ok) (g:Gr) (M:List Int) (most:Int) (en:Ens) {h:AHeap} (hS:SS H0 ix g M most en h) (ht:totS (ak en) <= 2 ^ 40):AEx PP Gl 51 [.ptr (ix.nb+3) 0 0] h (.ret (i64 (totS (ak en):Int))) h:=by
 refine enter_51 (by simp) ?_
 obtain ⟨⟨x1,x2⟩,⟨x3,x4⟩,⟨x5,x6⟩,x7,x8,x9⟩:=hx
 have ob:=hS.obj
 have li:=hS.lists
 simp -implicitDefEqProofs [code_51,res_51,ann_51,ob,li]
 intro bs clock hbl hnd hlt
 obtain ⟨ls,hls⟩:∃ ls:List Nat,ls=(ak en).map fun p=>p.2.length:=⟨_,rfl⟩
 have hbl0:=ar li
 have hbl2:=ar ob
 obtain ⟨Hb,hHb⟩:∃ Hb,Hb=h.set ix.oA (.bmap (aS lvE en) bs clock):=⟨_,rfl⟩
 have hHl:Hb.length=h.length:=by rw [hHb]; simp
 have hb0:Hb[ix.oA]?=some (.bmap (aS lvE en) bs clock):=by rw [hHb,List.getElem?_set_self (by omega)]
 rw [<- hHb]
 refine AWp.till (S:=Z1) ⟨[]⟩ (fun s=>cntB bs s.seen) [10] (fun s=>[(3,i64 (sumB ls bs s.seen:Int))]) (fun s=>Hb++[AObj.miter (some ix.oA) clock clock s.seen]) (fun _=>True) mixed trivial (aI (by simp [dslot,sumB_nil])) rfl ?_
 rintro ⟨seen⟩ _
 have g1:(Hb++[AObj.miter (some ix.oA) clock clock seen])[h.length]?=some (.miter (some ix.oA) clock clock seen):=by rw [<- hHl]; simp
 have g2:∀ x,(Hb++[x])[ix.oA]?=some (.bmap (aS lvE en) bs clock):=fun x=>by rw [List.getElem?_append_left (by omega)]; exact hb0
 have g3:∀ x,(Hb++[AObj.miter (some ix.oA) clock clock seen]).set h.length x=Hb++[x]:=fun x=>by rw [<- hHl]; simp
 have g4:∀ x y,(Hb++[x]).set ix.oA y=h.set ix.oA y++[x]:=fun x y=>by rw [List.set_append_left _ _ (by omega),hHb,List.set_set]
 simp -implicitDefEqProofs [lp0_51,g1,g2]
 refine ⟨hlt,fun hall=>?_,fun i k v b hi hb hbs=>?_⟩
 .have hlen:ls.length=bs.length:=by rw [hls,hbl]; simp [ak,aS]
  have hsum:sumB ls bs seen=totS (ak en):=by rw [sumB_all ls bs seen hlen hall,hls]; rfl
  rw [hsum,g4]
  have hback:h.set ix.oA (.amap (aS lvE en))=h:=by
   refine List.ext_getElem? fun z=>?_
   rw [List.getElem?_set]
   split
   .rename_i e; subst e; rw [li]
   .rfl
  rw [hback]
  exact retD (v:=i64 (totS (ak en):Int)) (by simp [deferred,dslot]) (by simp [aN,aK]) rfl rfl rfl
 .have hfi:List.findIdx? (fun x=>x == b) bs=some i:=by
   rw [List.findIdx?_eq_some_iff_getElem]
   obtain ⟨hil,hib⟩:=List.getElem?_eq_some_iff.1 hb
   refine ⟨hil,by simp [hib],fun j hj=>?_⟩
   have:=List.pairwise_iff_getElem.1 hnd j i (by omega) hil hj
   simp only [beq_iff_eq,Bool.not_eq_true']
   rw [hib] at this
   simpa using this
  obtain ⟨p,hp⟩:∃ p,en[i]?=some p:=by
   have:=ar hi
   simp [aS] at this
   exact ⟨en[i],by simp [this]⟩
  have hpe:k=.sc (.string p.1) /\ v=lvE p.2:=by
   simp only [aS,List.getElem?_map,hp,Option.map_some,Option.some.injEq,Prod.mk.injEq] at hi
   exact ⟨hi.1.symm,hi.2.symm⟩
  obtain ⟨rfl,rfl⟩:=hpe
  have hli:ls[i]?=some p.2.l.length:=by rw [hls]; simp [ak,hp]
  have hadd:=sumB_add ls bs seen i b _ hnd hli hb hbs
  have hle:=sumB_le ls bs (seen++[b])
  have hsum:ls.sum=totS (ak en):=by rw [hls]; rfl
  have wn:IntKind.i64.wrap ((sumB ls bs seen:Int)+(p.2.l.length:Int))=(sumB ls bs (seen++[b]):Int):=by
   rw [hadd]; push_cast; exact IntWalk.i64_in _ (by omega)
  have g5:(Hb++[AObj.miter (some ix.oA) clock clock (seen++[b])])[h.length]?=some (.miter (some ix.oA) clock clock (seen++[b])):=by rw [<- hHl]; simp
  rw [g3]
  simp -implicitDefEqProofs [g5,g2,hfi,hi,lvE,wn]
  exact ⟨⟨seen++[b]⟩,cntB_lt (List.mem_of_getElem? hb) hbs,aI (by simp [dslot]),rfl⟩
end Go.Apx
end
