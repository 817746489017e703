/- Charts: maps by any keys, items, the heap of a chart. -/
import Derived.Test.YtldhfkfncgnbmaaPB
set_option linter.unusedVariables false
set_option linter.unusedSimpArgs false
set_option linter.unnecessarySimpa false
section
namespace Go.Apx
open Go.Proofs
set_option maxRecDepth 4000
section
variable {α β:Type} [DecidableEq α]
def afind:List (α × β) -> α -> Option β
 | [],_=>none
 | (k,v) :: r,a=>if a=k then some v else afind r a
def aset:List (α × β) -> α -> β -> List (α × β)
 | [],a,v=>[(a,v)]
 | (k,u) :: r,a,v=>if a=k then (a,v) :: r else (k,u) :: aset r a v
def amapOf (kf:α -> AV) (vf:β -> AV) (l:List (α × β)):List (AV × AV):=l.map fun p=>(kf p.1,vf p.2)
def KeyF (kf:α -> AV):Prop:=∀ a b,keyEq (kf a) (kf b)=some (decide (a=b))
theorem amapFind_of {kf:α -> AV} (hk:KeyF kf) (vf:β -> AV) (l:List (α × β)) (a:α):amapFind (kf a) (amapOf kf vf l)=some ((afind l a).map vf):=by
 induction l with
 | nil=>rfl
 | cons p r ih =>
  obtain ⟨k,v⟩:=p
  show (match keyEq (kf a) (kf k) with
   | some true=>some (some (vf v))
   | some false=>amapFind (kf a) (amapOf kf vf r)
   | none=>none)=_
  rw [hk,ih]
  simp only [afind]
  by_cases e:a=k <;> simp [e]
theorem amapSet_of {kf:α -> AV} (hk:KeyF kf) (vf:β -> AV) (l:List (α × β)) (a:α) (v:β):amapSet (kf a) (vf v) (amapOf kf vf l)=some (amapOf kf vf (aset l a v)):=by
 induction l with
 | nil=>rfl
 | cons p r ih =>
  obtain ⟨k,u⟩:=p
  show (match keyEq (kf a) (kf k) with
   | some true=>some ((kf a,vf v) :: amapOf kf vf r)
   | some false=>(amapSet (kf a) (vf v) (amapOf kf vf r)).map ((kf k,vf u) :: ·)
   | none=>none)=_
  rw [hk,ih]
  simp only [aset]
  by_cases e:a=k <;> simp [e,amapOf]
theorem afind_aset (l:List (α × β)) (a b:α) (v:β):afind (aset l a v) b=if b=a then some v else afind l b:=by
 induction l with
 | nil=>simp [aset,afind]
 | cons p r ih =>
  obtain ⟨k,u⟩:=p
  simp only [aset]
  by_cases e:a=k
  .subst e
   by_cases e2:b=a <;> simp [afind,e2]
  .simp only [if_neg e,afind,ih]
   by_cases e2:b=k
   .subst e2; simp [Ne.symm e]
   .simp [e2]
def tkeys (l:List α):List (α × Bool):=l.map fun a=>(a,true)
theorem tkeys_find (l:List α) (a:α):afind (tkeys l) a=if a ∈ l then some true else none:=by
 induction l with
 | nil=>rfl
 | cons k r ih =>
  simp only [tkeys,List.map_cons,afind,List.mem_cons] at ih ⊢
  by_cases e:a=k
  .simp [e]
  .simp [e,ih]
theorem tkeys_set (l:List α) (a:α) (h:a ∉ l):aset (tkeys l) a true=tkeys (l++[a]):=by
 induction l with
 | nil=>rfl
 | cons k r ih =>
  simp only [List.mem_cons,not_or] at h
  have:=ih h.2
  simp only [tkeys,List.map_cons,aset,if_neg h.1,List.cons_append] at this ⊢
  rw [this]
end
def boolV (b:Bool):AV:=.sc (.bool b)
def encI (x:Itm):AV:=.agg [i64 (x.r:Int),i64 (x.d:Int),i64 (x.h:Int)]
def encSp (x:Sp):AV:=.agg [.sc (.string x.s),i64 (x.i:Int),i64 (x.j:Int)]
@[simp] theorem isPend_encSp (x:Sp):(encSp x).isPend=false:=rfl
theorem keyI:KeyF encI:=fun a b=>by
 obtain ⟨r,d,h⟩:=a
 obtain ⟨r',d',h'⟩:=b
 simp only [encI,keyEq,List.map_cons,List.map_nil,kindOf,cellsEq,cellEq,if_true]
 congr 1
 rw [Bool.eq_iff_iff]
 simp
 omega
theorem keySp:KeyF encSp:=fun a b=>by
 obtain ⟨r,d,h⟩:=a
 obtain ⟨r',d',h'⟩:=b
 simp only [encSp,keyEq,List.map_cons,List.map_nil,kindOf,cellsEq,cellEq,if_true,str_eq]
 congr 1
 rw [Bool.eq_iff_iff]
 simp only [Bool.and_eq_true,beq_iff_eq,decide_eq_true_eq,Sp.mk.injEq,and_true]
 constructor
 .rintro ⟨h1,h2,h3⟩; exact ⟨h1,by omega,by omega⟩
 .rintro ⟨h1,h2,h3⟩; exact ⟨h1,by omega,by omega⟩
@[simp] theorem kindOf_int (k:IntKind) (n:Int):kindOf (.sc (.int k n))=0:=rfl
@[simp] theorem kindOf_str (s:ByteArray):kindOf (.sc (.string s))=1:=rfl
structure K4 where
 r:Nat
 d:Nat
 i:Nat
 j:Nat
deriving DecidableEq
def encK (x:K4):AV:=.agg [i64 (x.r:Int),i64 (x.d:Int),i64 (x.i:Int),i64 (x.j:Int)]
theorem keyK:KeyF encK:=fun a b=>by
 obtain ⟨r,d,i,j⟩:=a
 obtain ⟨r',d',i',j'⟩:=b
 simp only [encK,keyEq,List.map_cons,List.map_nil,kindOf,cellsEq,cellEq,if_true]
 congr 1
 rw [Bool.eq_iff_iff]
 simp
 omega
abbrev RM:=List (ByteArray × (List Nat × Nat))
def rulesV (v:List Nat × Nat):AV:=apd 1 (i64s v.1) v.2
def rulesTo (g:Gr) (n:Nat) (s:ByteArray):List Nat:=(List.range n).filter fun r=>match g.rules[r]? with | some R=>decide (R.sort=s) && g.us R | none=>false
structure RMOk (g:Gr) (M:RM) (n:Nat):Prop where
 get:∀ s,(sfind M s).map (·.1)=if rulesTo g n s=[] then none else some (rulesTo g n s)
structure CD where
 o:Nat
 orl:Nat
 od:Nat
 os:Nat
 M:RM
 S:List (List Itm × Nat)
 L:List Itm
 T:Nat
 ms:List Nat
 Tm:Nat
 m:Nat
 D:List Sp
def setV (p:List Itm × Nat):AV:=apd 3 (p.1.map encI) p.2
@[simp] theorem isPend_setV (p:List Itm × Nat):(setV p).isPend=false:=isPend_apd _ _ _
def chCells (g:Gr) (tx:List ByteArray) (tc:Cap) (orl od:Nat) (a b:AV):List AV :=
 [.sl 1 (g.sorts.map sv) g.sc,.sl 4 (g.rules.map encR) g.rc,.mp orl,.sl 1 (tx.map sv) tc,a,b,.mp od]
def msV (ms:List Nat) (m:Nat):List AV:=(ms++[m]).map .mp
theorem msV_length (ms:List Nat) (m:Nat):(msV ms m).length=ms.length+1:=by simp [msV]
structure CI (base:Nat) (g:Gr) (tx:List ByteArray) (tc:Cap) (c:CD) (H:AHeap):Prop where
 ch:H[c.o]?=some (.cells 0 (chCells g tx tc c.orl c.od (.rf c.os c.S.length 0 (c.S.length+1) (.own 1)) (.sl 1 (msV c.ms c.m) (.tok c.Tm))))
 rl:H[c.orl]?=some (.amap (smap rulesV c.M))
 dn:H[c.od]?=some (.amap (amapOf encSp boolV (tkeys c.D)))
 st:H[c.os]?=some (.cells c.S.length (c.S.map setV++[setV (c.L,c.T)]))
 it:H[c.m]?=some (.amap (amapOf encI boolV (tkeys c.L)))
 tk:c.L ≠ [] -> H[c.T]?=some (.tok c.L.length) /\ c.T ≠ c.Tm /\ base <= c.T
 tm:H[c.Tm]?=some (.tok (c.ms.length+1))
 ml:c.ms.length=c.S.length
 n1:c.o ≠ c.os
 n2:c.m ≠ c.od
 n3:c.m ≠ c.orl
 n4:c.od ≠ c.orl
 b1:base <= c.o
 b2:base <= c.orl
 b3:base <= c.od
 b4:base <= c.os
 b5:base <= c.Tm
 b6:base <= c.m
def Low (base:Nat) (H H':AHeap):Prop:=∀ (z:Nat) (x:AObj),z < base -> H[z]?=some x -> H'[z]?=some x
theorem Low.refl (b:Nat) (H:AHeap):Low b H H:=fun _ _ _ h=>h
theorem Low.trans {b:Nat} {H H' H'':AHeap} (h:Low b H H') (h':Low b H' H''):Low b H H'':=fun z x hz hx=>h' z x hz (h z x hz hx)
theorem Low.app (b:Nat) (H K:AHeap):Low b H (H++K):=fun z x _ h=>by rw [List.getElem?_append_left (List.getElem?_eq_some_iff.1 h).1]; exact h
theorem Low.set {b:Nat} {H:AHeap} {o:Nat} {x:AObj} (ho:b <= o):Low b H (H.set o x):=fun z y hz h=>by
 rw [List.getElem?_set_ne (by omega)]; exact h
theorem Low.apG {b:Nat} {H:AHeap} {n T:Nat} (hT:n ≠ 0 -> b <= T):Low b H (apG H n T):=by
 unfold Go.Apx.apG
 split
 .exact Low.app _ _ _
 .rename_i hn; exact Low.set (hT hn)
def nextV (g:Gr) (x:Itm):AV:=match nextF g x with
 | some p=>.tup [encP p,bl true]
 | none=>.tup [encP ⟨emp,emp,0⟩,bl false]
set_option maxHeartbeats 4000000 in
theorem next_c (g:Gr) (o:Nat) (a:AV) (rest:List AV) (x:Itm) (R:Rl) {h:AHeap} (ho:h[o]?=some (.cells 0 (a :: .sl 4 (g.rules.map encR) g.rc :: rest))) (hR:g.rules[x.r]?=some R) (hd:x.d <= R.parts.length) (hl:R.parts.length <= 2 ^ 31) :
  AEx PP Gl 44 [.ptr o 0 0,encI x] h (.ret (nextV g x)) h:=by
 have hol:=(List.getElem?_eq_some_iff.1 ho).1
 refine enter_earley_chart_next (by simp) ?_
 have h0:∀ z,(h++[z])[o]?=some (.cells 0 (a :: .sl 4 (g.rules.map encR) g.rc :: rest)):=fun z=>by rw [List.getElem?_append_left hol]; exact ho
 simp -implicitDefEqProofs [code_earley_chart_next,res_earley_chart_next,ann_earley_chart_next,encI,h0,hR,encR]
 refine ⟨fun e=>?_,fun e=>?_⟩
 .have hn:nextF g x=none:=by
   have:R.parts[x.d]?=none:=List.getElem?_eq_none (by omega)
   simp [nextF,hR,this]
  exact retD (v:=nextV g x) (by simp [deferred,dslot]) (by simp [evalRes,evalRes1,nextV,hn,encP,emp]) (by simp [nextV,hn,encP,AV.strip,stripL_eq,AV.inb,inbL_eq]) (by simp [nextV,hn,encP,AV.strip,stripL_eq]) rfl
 .obtain ⟨p,hp⟩:∃ p,R.parts[x.d]?=some p:=⟨R.parts[x.d]'(by omega),by simp⟩
  have hn:nextF g x=some p:=by simp [nextF,hR,hp]
  simp -implicitDefEqProofs [hp,encP]
  exact retD (v:=nextV g x) (by simp [deferred,dslot]) (by simp [evalRes,evalRes1,nextV,hn,encP]) (by simp [nextV,hn,encP,AV.strip,stripL_eq,AV.inb,inbL_eq]) (by simp [nextV,hn,encP,AV.strip,stripL_eq]) rfl
def addI (L:List Itm) (x:Itm):List Itm:=if x ∈ L then L else L++[x]
def AddR (g:Gr) (tx:List ByteArray) (tc:Cap) (base:Nat) (c:CD) (x:Itm) (H:AHeap) (r:AEnd) (H':AHeap):Prop :=
 ∃ T',r=.ret (.tup []) /\ CI base g tx tc { c with L:=addI c.L x,T:=T' } H' /\ Low base H H' /\ H.length <= H'.length
set_option maxHeartbeats 4000000 in
theorem add_c (base:Nat) (g:Gr) (tx:List ByteArray) (tc:Cap) (c:CD) (x:Itm) {h:AHeap} (hc:CI base g tx tc c h) (hl:c.L.length+1 <= maxLenA) :
  ACalls PP Gl 89 [.ptr c.o 0 0,i64 (c.S.length:Int),encI x] h (AddR g tx tc base c x h):=by
 obtain ⟨o,orl,od,os,M,S,L,T,ms,Tm,m,D⟩:=c
 have hch:=hc.ch
 have hst:=hc.st
 have hit:=hc.it
 have hml:=hc.ml
 simp only [chCells] at hch hst hit hml hl
 have hfind:amapFind (.agg [i64 (x.r:Int),i64 (x.d:Int),i64 (x.h:Int)]) (amapOf encI boolV (tkeys L))=some ((afind (tkeys L) x).map boolV):=amapFind_of keyI boolV (tkeys L) x
 have hset:amapSet (.agg [i64 (x.r:Int),i64 (x.d:Int),i64 (x.h:Int)]) (.sc (.bool true)) (amapOf encI boolV (tkeys L))=some (amapOf encI boolV (aset (tkeys L) x true)):=amapSet_of keyI boolV (tkeys L) x true
 have hmg2:(msV ms m)[S.length]?=some (.mp m):=by rw [<- hml]; simp [msV]
 refine enter_earley_chart_add (by simp) ?_
 by_cases hx:x ∈ L
 .simp -implicitDefEqProofs [code_earley_chart_add,res_earley_chart_add,ann_earley_chart_add,encI,hch,hmg2,hit,hfind,tkeys_find,hx,boolV]
  exact ret1 (v:=.tup []) (by simp [deferred,dslot]) (by simp [evalRes]) ⟨T,rfl,by simpa [addI,hx] using hc,Low.refl _ _,Nat.le_refl _⟩
 .have n1:o ≠ m:=by rintro rfl; rw [hch] at hit; cases hit
  have n2:os ≠ m:=by rintro rfl; rw [hst] at hit; cases hit
  have k1:∀ y,(h.set m y)[o]?=h[o]?:=fun y=>List.getElem?_set_ne (fun e=>n1 e.symm)
  have k2:∀ y,(h.set m y)[os]?=h[os]?:=fun y=>List.getElem?_set_ne (fun e=>n2 e.symm)
  have htk:=hc.tk
  simp only at htk
  have kT:∀ y,L ≠ [] -> (h.set m y)[T]?=some (.tok L.length):=fun y hL=>by
   rw [List.getElem?_set_ne]
   .exact (htk hL).1
   .rintro rfl; have:=(htk hL).1; rw [hit] at this; cases this
  have hsg:(S.map setV++[setV (L,T)])[S.length]?=some (setV (L,T)):=by simp
  have hsl:(S.map setV++[setV (L,T)]).length=S.length+1:=by simp
  simp -implicitDefEqProofs [code_earley_chart_add,res_earley_chart_add,ann_earley_chart_add,encI,hch,hmg2,hit,hfind,hset,tkeys_find,hx,boolV,k1,k2,hst]
  obtain ⟨H1,hH1⟩:∃ H1,H1=h.set m (.amap (amapOf encI boolV (aset (tkeys L) x true))):=⟨_,rfl⟩
  rw [<- hH1]
  have e1:H1[o]?=h[o]?:=by rw [hH1]; exact k1 _
  have e2:H1[os]?=h[os]?:=by rw [hH1]; exact k2 _
  have eT:L ≠ [] -> H1[T]?=some (.tok L.length):=by rw [hH1]; exact kT _
  have eT2:L.length ≠ 0 -> ∃ q,H1[T]?=some (.tok q):=fun hn=>⟨_,eT (by rintro rfl; exact hn rfl)⟩
  have elow:Low base h H1:=by rw [hH1]; exact Low.set hc.b6
  refine appG (L.map encI) (encI x) T (by simp [setV]) (by simp [encI]) (by simpa using eT) (by simpa using hl) ?_
  simp -implicitDefEqProofs only [List.length_map]
  obtain ⟨H2,hH2⟩:∃ H2,H2=apG H1 L.length T:=⟨_,rfl⟩
  rw [<- hH2]
  have f1:H2[o]?=some (.cells 0 [.sl 1 (g.sorts.map sv) g.sc,.sl 4 (g.rules.map encR) g.rc,.mp orl,.sl 1 (tx.map sv) tc,.rf os S.length 0 (S.length+1) (.own 1),.sl 1 (msV ms m) (.tok Tm),.mp od]):=by rw [hH2]; exact apG_keep eT2 (by rw [e1]; exact hch) (by simp)
  have f2:H2[os]?=some (.cells S.length (S.map setV++[setV (L,T)])):=by rw [hH2]; exact apG_keep eT2 (by rw [e2]; exact hst) (by simp)
  simp -implicitDefEqProofs [f1,f2]
  have hput:S.map setV++apd 3 (L.map encI++[encI x]) (apT H1 L.length T) :: List.drop (S.length+1) (S.map setV++[setV (L,T)])=S.map setV++[setV (L++[x],apT H1 L.length T)]:=by
   rw [List.drop_eq_nil_of_le (by simp)]
   simp [setV]
  rw [hput]
  have hos:=(List.getElem?_eq_some_iff.1 f2).1
  have g1:∀ (z:Nat) (y:AObj),H1[z]?=some y -> (∀ q,y ≠ .tok q) -> z ≠ os -> (H2.set os (.cells S.length (S.map setV++[setV (L++[x],apT H1 L.length T)])))[z]?=some y:=fun z y hz hy hzo=>by
   rw [List.getElem?_set_ne (fun e=>hzo e.symm),hH2]; exact apG_keep eT2 hz hy
  have g2:∀ (z:Nat) (y:AObj),h[z]?=some y -> (∀ q,y ≠ .tok q) -> z ≠ os -> z ≠ m -> (H2.set os (.cells S.length (S.map setV++[setV (L++[x],apT H1 L.length T)])))[z]?=some y:=fun z y hz hy hzo hzm=>by
   refine g1 z y ?_ hy hzo
   rw [hH1,List.getElem?_set_ne (fun e=>hzm e.symm)]; exact hz
  have hml2:=(List.getElem?_eq_some_iff.1 hit).1
  have tTos:apT H1 L.length T ≠ os:=by
   unfold apT
   split
   .have:=(List.getElem?_eq_some_iff.1 (e2.trans hst)).1; omega
   .rename_i hn
    obtain ⟨q,hq⟩:=eT2 hn
    rintro rfl; rw [e2,hst] at hq; cases hq
  have htm:=hc.tm
  simp only at htm
  have htm1:H1[Tm]?=some (.tok (ms.length+1)):=by
   rw [hH1,List.getElem?_set_ne]
   .exact htm
   .rintro rfl; rw [hit] at htm; cases htm
  have tTm:apT H1 L.length T ≠ Tm:=by
   unfold apT
   split
   .have:=(List.getElem?_eq_some_iff.1 htm1).1; omega
   .rename_i hn; exact (htk (by rintro rfl; exact hn rfl)).2.1
  refine ret1 (v:=.tup []) (by simp [deferred,dslot]) (by simp [evalRes]) ⟨apT H1 L.length T,rfl,?_,?_,?_⟩
  .refine ⟨g2 _ _ hch (by simp) hc.n1 n1,g2 _ _ hc.rl (by simp) ?_ hc.n3.symm,g2 _ _ hc.dn (by simp) ?_ hc.n2.symm,?_,?_,fun _=>⟨?_,tTm,?_⟩,?_,hml,hc.n1,hc.n2,hc.n3,hc.n4,hc.b1,hc.b2,hc.b3,hc.b4,hc.b5,hc.b6⟩
   .have:=hc.rl; intro e; simp only at e this; rw [e,hst] at this; cases this
   .have:=hc.dn; intro e; simp only at e this; rw [e,hst] at this; cases this
   .simp only [addI,if_neg hx]; rw [List.getElem?_set_self hos]
   .simp only [addI,if_neg hx]
    refine g1 _ _ ?_ (by simp) n2.symm
    rw [hH1,List.getElem?_set_self hml2,tkeys_set _ _ hx]
   .simp only [addI,if_neg hx]
    rw [List.getElem?_set_ne (fun e=>tTos e.symm),hH2,apG_tok eT2]; simp
   .unfold apT
    split
    .have:=(List.getElem?_eq_some_iff.1 (e1.trans hch)).1; have:=hc.b1; simp only at this ⊢; omega
    .rename_i hn; exact (htk (by rintro rfl; exact hn rfl)).2.2
   .rw [List.getElem?_set_ne,hH2]
    .refine apG_keep' htm1 fun hn=>?_
     exact fun e=>(htk (by rintro rfl; exact hn rfl)).2.1 e.symm
    .intro e; simp only at e; rw [e] at hst; rw [hst] at htm; cases htm
  .refine (elow.trans ?_).trans (Low.set hc.b4)
   rw [hH2]; exact Low.apG fun hn=>(htk (by rintro rfl; exact hn rfl)).2.2
  .have l1:H1.length=h.length:=by rw [hH1]; simp
   have l2:=apG_len H1 L.length T
   rw [List.length_set,hH2]; omega
end Go.Apx
end
section
namespace Go.Apx
open Go.Proofs
set_option maxRecDepth 4000
structure PS2 where
 i:Nat
 c:CD
 H:AHeap
def SameC (c c':CD):Prop:=c'={ c with L:=c'.L,T:=c'.T }
theorem SameC.refl (c:CD):SameC c c:=rfl
theorem SameC.of (c:CD) (L:List Itm) (T:Nat):SameC c { c with L:=L,T:=T }:=rfl
theorem SameC.trans {c c' c'':CD} (h:SameC c c') (h':SameC c' c''):SameC c c'':=by
 unfold SameC at *
 rw [h'] ; rw [h]
theorem SameC.o {c c':CD} (h:SameC c c'):c'.o=c.o:=by rw [h]
theorem SameC.S {c c':CD} (h:SameC c c'):c'.S=c.S:=by rw [h]
theorem SameC.D {c c':CD} (h:SameC c c'):c'.D=c.D:=by rw [h]
theorem SameC.M {c c':CD} (h:SameC c c'):c'.M=c.M:=by rw [h]
def predF (L:List Itm) (k:Nat) (l:List Nat):List Itm:=l.foldl (fun L r=>addI L ⟨r,0,k⟩) L
theorem addI_le (L:List Itm) (x:Itm):(addI L x).length <= L.length+1:=by unfold addI; split <;> simp
theorem predF_le (k:Nat):∀ (l:List Nat) (L:List Itm),(predF L k l).length <= L.length+l.length
 | [],L=>by simp [predF]
 | r :: l,L=>by
  have h1:=predF_le k l (addI L ⟨r,0,k⟩)
  have h2:=addI_le L ⟨r,0,k⟩
  simp only [predF,List.foldl_cons,List.length_cons] at h1 ⊢
  omega
theorem predF_take {L:List Itm} {k:Nat} {l:List Nat} {i r:Nat} (h:l[i]?=some r):predF L k (l.take (i+1))=addI (predF L k (l.take i)) ⟨r,0,k⟩:=by
 rw [List.take_add_one,h]; simp [predF,List.foldl_append]
theorem rulesTo_le (g:Gr) (n:Nat) (s:ByteArray):(rulesTo g n s).length <= n:=by
 unfold rulesTo
 refine Nat.le_trans (List.length_filter_le _ _) ?_
 simp
def MoreR (g:Gr) (tx:List ByteArray) (tc:Cap) (base:Nat) (c:CD) (H:AHeap) (P:List Itm -> Prop) (r:AEnd) (H':AHeap):Prop :=
 ∃ c',r=.ret (.tup []) /\ SameC c c' /\ P c'.L /\ CI base g tx tc c' H' /\ Low base H H' /\ H.length <= H'.length
set_option maxHeartbeats 4000000 in
theorem predict_c (base:Nat) (g:Gr) (tx:List ByteArray) (tc:Cap) (c:CD) (s:ByteArray) {h:AHeap} (hc:CI base g tx tc c h) (hM:RMOk g c.M g.rules.length) (hr:g.rules.length <= 1000000) (hl:c.L.length <= 1000000) (hS:c.S.length <= 1000000) :
  ACalls PP Gl 62 [.ptr c.o 0 0,.sc (.string s),i64 (c.S.length:Int)] h (MoreR g tx tc base c h (fun L=>L=predF c.L c.S.length (rulesTo g g.rules.length s))):=by
 have hch:=hc.ch
 have hrl:=hc.rl
 have hg:=hM.get s
 simp only [chCells] at hch
 have hlen:=rulesTo_le g g.rules.length s
 refine enter_earley_chart_predict (by simp) ?_
 cases hf:sfind c.M s with
 | none =>
  rw [hf] at hg
  have he:rulesTo g g.rules.length s=[]:=by
   by_cases e:rulesTo g g.rules.length s=[]
   .exact e
   .rw [if_neg e] at hg; cases hg
  simp -implicitDefEqProofs [code_earley_chart_predict,res_earley_chart_predict,ann_earley_chart_predict,hch,hrl,hf]
  refine AWp.cnt 0 [0,2,13,14] (fun i=>[(15,i64 (i:Int))]) (fun _=>h) (fun _=>True) mixed trivial (le_of (by simp [dslot])) rfl (fun i hi=>by omega) fun _=>?_
  simp -implicitDefEqProofs [lp0_earley_chart_predict]
  exact ret1 (v:=.tup []) (by simp [deferred,dslot]) (by simp [evalRes]) ⟨c,rfl,SameC.refl c,by rw [he]; rfl,hc,Low.refl _ _,Nat.le_refl _⟩
 | some v =>
  rw [hf] at hg
  obtain ⟨l,t⟩:=v
  have he:l=rulesTo g g.rules.length s /\ l ≠ []:=by
   by_cases e:rulesTo g g.rules.length s=[]
   .rw [if_pos e] at hg; cases hg
   .rw [if_neg e] at hg
    have:l=rulesTo g g.rules.length s:=Option.some.inj hg
    exact ⟨this,by rw [this]; exact e⟩
  obtain ⟨a,l',hll⟩:∃ a l',l=a :: l':=by cases l with | nil=>exact (he.2 rfl).elim | cons a l'=>exact ⟨a,l',rfl⟩
  have hap:rulesV (l,t)=.sl 1 (i64s l) (.tok t):=by rw [hll]; simp [rulesV,i64s]
  simp -implicitDefEqProofs [code_earley_chart_predict,res_earley_chart_predict,ann_earley_chart_predict,hch,hrl,hf,hap]
  have hil:(i64s l).length=l.length:=by simp [i64s]
  have hl2:l.length <= 1000000:=by rw [he.1]; omega
  refine AWp.till (S:=PS2) ⟨0,c,h⟩ (fun st=>l.length - st.i) [0,2,13,14] (fun st=>[(15,i64 (st.i:Int))]) (fun st=>st.H)
   (fun st=>st.i <= l.length /\ SameC c st.c /\ st.c.L=predF c.L c.S.length (l.take st.i) /\ CI base g tx tc st.c st.H /\ Low base h st.H /\ h.length <= st.H.length) mixed ⟨by simp,SameC.refl c,by simp [predF],hc,Low.refl _ _,Nat.le_refl _⟩ (le_of (by simp [dslot])) rfl ?_
  rintro ⟨i,c1,H⟩ ⟨z1,z2,z3,z4,z5,z6⟩
  simp only at z1 z2 z3 z4 z5 z6
  by_cases hi:i < l.length
  .obtain ⟨r,hr1⟩:∃ r,l[i]?=some r:=⟨l[i],by simp [hi]⟩
   have hr2:(i64s l)[i]?=some (i64 (r:Int)):=by simp [i64s,hr1]
   have hlt:(i:Int) < (i64s l).length:=by omega
   have wi:IntKind.i64.wrap ((i:Int)+1)=(i:Int)+1:=IntWalk.i64_in _ (by omega)
   have hb:=predF_le c.S.length (l.take i) c.L
   have hadd:=add_c base g tx tc c1 ⟨r,0,c.S.length⟩ z4 (by rw [z3]; simp at hb; unfold maxLenA; omega)
   rw [z2.o,z2.S] at hadd
   simp -implicitDefEqProofs [lp0_earley_chart_predict,hlt,hr2]
   refine callr hadd (by simp [encI]) rfl ?_
   rintro r1 H' ⟨T',rfl,hc',hlow,hlen'⟩
   simp -implicitDefEqProofs [wi]
   exact ⟨⟨i+1,_,H'⟩,by simp; omega,⟨by simp; omega,z2.trans (SameC.of c1 _ _),by simp only; rw [predF_take hr1,<- z3],hc',z5.trans hlow,by simp only; omega⟩,le_of (by simp [dslot]),rfl⟩
  .have hno:¬ (i:Int) < (i64s l).length:=by omega
   simp -implicitDefEqProofs [lp0_earley_chart_predict,hno]
   refine ret1 (v:=.tup []) (by simp [deferred,dslot]) (by simp [evalRes]) ⟨c1,rfl,z2,?_,z4,z5,z6⟩
   simp only; rw [z3,List.take_of_length_le (by omega),he.1]
set_option maxHeartbeats 4000000 in
theorem open_c (base:Nat) (g:Gr) (tx:List ByteArray) (tc:Cap) (c:CD) {h:AHeap} (hc:CI base g tx tc c h) (hS:c.S.length <= 1000000) :
  ACalls PP Gl 61 [.ptr c.o 0 0] h (fun r H'=>r=.ret (.tup []) /\ CI base g tx tc { c with S:=c.S++[(c.L,c.T)],L:=[],T:=0,ms:=c.ms++[c.m],m:=h.length } H' /\ Low base h H' /\ h.length <= H'.length):=by
 obtain ⟨o,orl,od,os,M,S,L,T,ms,Tm,m,D⟩:=c
 have hch:=hc.ch
 have hst:=hc.st
 have hml:=hc.ml
 have htm:=hc.tm
 simp only [chCells] at hch hst hml hS htm
 have n1:=hc.n1
 simp only at n1
 refine enter_earley_chart_open (by simp) ?_
 have hsl:(S.map setV++[setV (L,T)]).length=S.length+1:=by simp
 have k1:∀ y,(h.set os y)[o]?=h[o]?:=fun y=>List.getElem?_set_ne (fun e=>n1 e.symm)
 have hS4:S.length <= 4294967294:=by omega
 have hos:=(List.getElem?_eq_some_iff.1 hst).1
 have hol:=(List.getElem?_eq_some_iff.1 hch).1
 have htl:=(List.getElem?_eq_some_iff.1 htm).1
 have nTo:Tm ≠ o:=by rintro rfl; rw [hch] at htm; cases htm
 have nTs:Tm ≠ os:=by rintro rfl; rw [hst] at htm; cases htm
 have k2:∀ y z,((h.set os y).set o z)[o]?=some z:=fun y z=>by rw [List.getElem?_set_self (by simpa using hol)]
 have k3:∀ y z x,((h.set os y).set o z++[x])[o]?=some z:=fun y z x=>by rw [List.getElem?_append_left (by simpa using hol)]; exact k2 y z
 simp -implicitDefEqProofs [code_earley_chart_open,res_earley_chart_open,ann_earley_chart_open,hch,hst,k1,k2,maxLenA,hS4]
 have keep:∀ (y z:AObj) (k:Nat) (x:AObj),h[k]?=some x -> k ≠ os -> k ≠ o -> ((h.set os y).set o z++[.amap []])[k]?=some x:=fun y z k x hk h1 h2=>by
  rw [List.getElem?_append_left (by simpa using (List.getElem?_eq_some_iff.1 hk).1),List.getElem?_set_ne (fun e=>h2 e.symm),List.getElem?_set_ne (fun e=>h1 e.symm)]; exact hk
 have kos:∀ (y z:AObj),((h.set os y).set o z++[.amap []])[os]?=some y:=fun y z=>by
  rw [List.getElem?_append_left (by simpa using hos),List.getElem?_set_ne n1,List.getElem?_set_self hos]
 have kmm:∀ (y z:AObj),((h.set os y).set o z++[.amap []])[h.length]?=some (.amap []):=fun y z=>by
  rw [List.getElem?_append_right (by simp)]; simp
 have hlow:∀ (y z:AObj),Low base h ((h.set os y).set o z++[.amap []]):=fun y z=>((Low.set hc.b4).trans (Low.set hc.b1)).trans (Low.app _ _ _)
 obtain ⟨H1,hH1⟩:∃ H1,H1=(List.set h os (AObj.cells (S.length+1) (List.map setV S++[setV (L,T),AV.sl 0 [] Cap.nil]))).set o
    (AObj.cells 0 [AV.sl 1 (List.map sv g.sorts) g.sc,AV.sl 4 (List.map encR g.rules) g.rc,AV.mp orl,AV.sl 1 (List.map sv tx) tc,AV.rf os (S.length+1) 0 (S.length+1+1) (RCap.own 1),AV.sl 1 (msV ms m) (Cap.tok Tm),AV.mp od])++[AObj.amap []]:=⟨_,rfl⟩
 have f1:=k3 (AObj.cells (S.length+1) (List.map setV S++[setV (L,T),AV.sl 0 [] Cap.nil])) (AObj.cells 0 [AV.sl 1 (List.map sv g.sorts) g.sc,AV.sl 4 (List.map encR g.rules) g.rc,AV.mp orl,AV.sl 1 (List.map sv tx) tc,AV.rf os (S.length+1) 0 (S.length+1+1) (RCap.own 1),AV.sl 1 (msV ms m) (Cap.tok Tm),AV.mp od]) (AObj.amap [])
 have f2:=fun k x=>keep (AObj.cells (S.length+1) (List.map setV S++[setV (L,T),AV.sl 0 [] Cap.nil])) (AObj.cells 0 [AV.sl 1 (List.map sv g.sorts) g.sc,AV.sl 4 (List.map encR g.rules) g.rc,AV.mp orl,AV.sl 1 (List.map sv tx) tc,AV.rf os (S.length+1) 0 (S.length+1+1) (RCap.own 1),AV.sl 1 (msV ms m) (Cap.tok Tm),AV.mp od]) k x
 have f3:=kos (AObj.cells (S.length+1) (List.map setV S++[setV (L,T),AV.sl 0 [] Cap.nil])) (AObj.cells 0 [AV.sl 1 (List.map sv g.sorts) g.sc,AV.sl 4 (List.map encR g.rules) g.rc,AV.mp orl,AV.sl 1 (List.map sv tx) tc,AV.rf os (S.length+1) 0 (S.length+1+1) (RCap.own 1),AV.sl 1 (msV ms m) (Cap.tok Tm),AV.mp od])
 have f4:=kmm (AObj.cells (S.length+1) (List.map setV S++[setV (L,T),AV.sl 0 [] Cap.nil])) (AObj.cells 0 [AV.sl 1 (List.map sv g.sorts) g.sc,AV.sl 4 (List.map encR g.rules) g.rc,AV.mp orl,AV.sl 1 (List.map sv tx) tc,AV.rf os (S.length+1) 0 (S.length+1+1) (RCap.own 1),AV.sl 1 (msV ms m) (Cap.tok Tm),AV.mp od])
 have f5:=hlow (AObj.cells (S.length+1) (List.map setV S++[setV (L,T),AV.sl 0 [] Cap.nil])) (AObj.cells 0 [AV.sl 1 (List.map sv g.sorts) g.sc,AV.sl 4 (List.map encR g.rules) g.rc,AV.mp orl,AV.sl 1 (List.map sv tx) tc,AV.rf os (S.length+1) 0 (S.length+1+1) (RCap.own 1),AV.sl 1 (msV ms m) (Cap.tok Tm),AV.mp od])
 have f6:H1.length=h.length+1:=by rw [hH1]; simp
 rw [<- hH1] at f1 f2 f3 f4 f5 ⊢
 have ftm:=f2 _ _ htm nTs nTo
 refine appTok (msV ms m) (.mp h.length) Tm (by simp) (by simp) (by rw [ftm,msV_length]) (by rw [msV_length]; unfold maxLenA; omega) ?_
 have g1:∀ y k x,H1[k]?=some x -> k ≠ Tm -> (H1.set Tm y)[k]?=some x:=fun y k x hk h1=>by rw [List.getElem?_set_ne (fun e=>h1 e.symm)]; exact hk
 have g2:=fun y=>g1 y _ _ f1 (fun e=>nTo e.symm)
 simp -implicitDefEqProofs [g2]
 have hmsv:msV ms m++[AV.mp h.length]=msV (ms++[m]) h.length:=by simp [msV]
 rw [hmsv]
 have hlt:=(List.getElem?_eq_some_iff.1 ftm).1
 have hmol:=(List.getElem?_eq_some_iff.1 hc.it).1
 have hd:=hc.dn
 have hr:=hc.rl
 have nrs:orl ≠ os:=by rintro rfl; simp only at hr; rw [hst] at hr; cases hr
 have nro:orl ≠ o:=by rintro rfl; simp only at hr; rw [hch] at hr; cases hr
 have nds:od ≠ os:=by rintro rfl; simp only at hd; rw [hst] at hd; cases hd
 have ndo:od ≠ o:=by rintro rfl; simp only at hd; rw [hch] at hd; cases hd
 have nrT:orl ≠ Tm:=by rintro rfl; simp only at hr; rw [htm] at hr; cases hr
 have ndT:od ≠ Tm:=by rintro rfl; simp only at hd; rw [htm] at hd; cases hd
 have hrl2:=(List.getElem?_eq_some_iff.1 hr).1
 have hdl2:=(List.getElem?_eq_some_iff.1 hd).1
 simp only at hrl2 hdl2
 refine ret1 (v:=.tup []) (by simp [deferred,dslot]) (by simp [evalRes]) ⟨rfl,?_,?_,?_⟩
 .have fin:∀ (y y':AObj) (k:Nat) (x:AObj),H1[k]?=some x -> k ≠ Tm -> k ≠ o -> ((H1.set Tm y).set o y')[k]?=some x:=fun y y' k x hk h1 h2=>by
   rw [List.getElem?_set_ne (fun e=>h2 e.symm)]; exact g1 y k x hk h1
  refine ⟨?_,fin _ _ _ _ (f2 _ _ hr nrs nro) nrT nro,fin _ _ _ _ (f2 _ _ hd nds ndo) ndT ndo,?_,?_,by simp,?_,by simp [hml],hc.n1,?_,?_,hc.n4,hc.b1,hc.b2,hc.b3,hc.b4,hc.b5,?_⟩
  .simp only [chCells]
   rw [List.getElem?_set_self (by simp; omega)]; simp
  .have:=fin (.tok ((msV ms m).length+1)) (AObj.cells 0 [AV.sl 1 (List.map sv g.sorts) g.sc,AV.sl 4 (List.map encR g.rules) g.rc,AV.mp orl,AV.sl 1 (List.map sv tx) tc,AV.rf os (S.length+1) 0 (S.length+1+1) (RCap.own 1),AV.sl 1 (msV (ms++[m]) h.length) (Cap.tok Tm),AV.mp od]) os _ f3 (fun e=>nTs e.symm) n1.symm
   simp only [List.length_append,List.length_singleton,List.map_append,List.map_cons,List.map_nil,List.append_assoc] at this ⊢
   exact this
  .exact fin _ _ _ _ f4 (by simp only; omega) (by simp only; omega)
  .simp only
   rw [List.getElem?_set_ne (fun e=>nTo e.symm),List.getElem?_set_self hlt,msV_length]; simp
  .simp only; omega
  .simp only; omega
  .have:=hc.b1; simp only at this ⊢; omega
 .exact (f5.trans (Low.set hc.b5)).trans (Low.set hc.b1)
 .simp; omega
end Go.Apx
end
section
namespace Go.Apx
open Go.Proofs
set_option maxRecDepth 4000
structure Snd (g:Gr) (tx:List ByteArray) (k:Nat) (x:Itm):Prop where
 ex:∃ R:Rl,g.rules[x.r]?=some R /\ x.d <= R.parts.length /\ x.h <= k /\ k <= tx.length /\ DerP g tx (R.parts.take x.d) x.h k
 it:It g tx k x
theorem Snd.adv {g:Gr} {tx:List ByteArray} {i k:Nat} {x:Itm} {p:Pt} (h:Snd g tx i x) (hn:nextF g x=some p) (hs:p.sort ≠ emp) (hd:Der g tx p.sort i k) (hk:k <= tx.length):Snd g tx k x.adv:=by
 obtain ⟨R,hR,h1,h2,h3,h4⟩:=h.ex
 have hp:R.parts[x.d]?=some p:=by simpa [nextF,hR] using hn
 have hlt:=(List.getElem?_eq_some_iff.1 hp).1
 have hle:=hd.le.1
 refine ⟨⟨R,hR,by simp [Itm.adv]; omega,by simp [Itm.adv]; omega,hk,?_⟩,.comp h.it hn hs hd⟩
 simp only [Itm.adv]
 rw [List.take_add_one,hp]
 exact h4.append (.arg' hs hd (.nil _))
theorem Snd.scan {g:Gr} {tx:List ByteArray} {k:Nat} {x:Itm} {p:Pt} (h:Snd g tx k x) (hn:nextF g x=some p) (hs:p.sort=emp) (ht:tx[k]?=some p.sym):Snd g tx (k+1) x.adv:=by
 obtain ⟨R,hR,h1,h2,h3,h4⟩:=h.ex
 have hp:R.parts[x.d]?=some p:=by simpa [nextF,hR] using hn
 have hlt:=(List.getElem?_eq_some_iff.1 hp).1
 have hk:=(List.getElem?_eq_some_iff.1 ht).1
 refine ⟨⟨R,hR,by simp [Itm.adv]; omega,by simp [Itm.adv]; omega,by omega,?_⟩,.scan h.it hn hs ht⟩
 simp only [Itm.adv]
 rw [List.take_add_one,hp]
 exact h4.append (.sym hs ht (.nil _))
theorem Snd.begin {g:Gr} {tx:List ByteArray} {k r:Nat} {R:Rl} (hR:g.rules[r]?=some R) (hk:k <= tx.length) (hi:It g tx k ⟨r,0,k⟩):Snd g tx k ⟨r,0,k⟩:=⟨⟨R,hR,by simp,by simp,hk,by simpa using DerP.nil k⟩,hi⟩
theorem nodup_le:∀ (B:Nat) (l:List Nat),l.Nodup -> (∀ x ∈ l,x < B) -> l.length <= B
 | 0,l,_,h=>by
  cases l with
  | nil=>simp
  | cons a l=>have:=h a (by simp); omega
 | B+1,l,hn,h=>by
  by_cases hB:B ∈ l
  .have h1:=nodup_le B (l.erase B) (hn.erase B) (fun x hx=>by
    have h2:=h x (List.mem_of_mem_erase hx)
    have h3:x ≠ B:=by rintro rfl; exact (hn.not_mem_erase hx)
    omega)
   rw [List.length_erase_of_mem hB] at h1
   omega
  .have:=nodup_le B l hn (fun x hx=>by
    have h2:=h x hx
    have h3:x ≠ B:=by rintro rfl; exact hB hx
    omega)
   omega
structure BdG (g:Gr) (tx:List ByteArray):Prop where
 r:g.rules.length <= 100
 p:∀ R ∈ g.rules,R.parts.length <= 10
 n:tx.length <= 300
def codeI (x:Itm):Nat:=(x.r * 11+x.d) * 301+x.h
theorem Snd.code {g:Gr} {tx:List ByteArray} {k:Nat} {x:Itm} (hb:BdG g tx) (h:Snd g tx k x):codeI x < 331100 /\ x.d < 11 /\ x.h < 301 /\ x.r < 100:=by
 obtain ⟨R,hR,h1,h2,h3,_⟩:=h.ex
 have h4:=(List.getElem?_eq_some_iff.1 hR).1
 have h5:=hb.p R (List.mem_of_getElem? hR)
 have h6:=hb.r
 have h7:=hb.n
 refine ⟨?_,by omega,by omega,by omega⟩
 have:x.r * 11+x.d <= 1099:=by omega
 have:=Nat.mul_le_mul_right 301 this
 unfold codeI; omega
theorem code_inj {x y:Itm} (hx:x.d < 11 /\ x.h < 301) (hy:y.d < 11 /\ y.h < 301) (h:codeI x=codeI y):x=y:=by
 obtain ⟨r,d,a⟩:=x
 obtain ⟨r',d',a'⟩:=y
 simp only [codeI] at hx hy h
 have e1:r * 11+d=r' * 11+d':=by omega
 have e2:a=a':=by omega
 have e3:r=r':=by omega
 have e4:d=d':=by omega
 simp [e2,e3,e4]
theorem snd_bound {g:Gr} {tx:List ByteArray} {k:Nat} {L:List Itm} (hb:BdG g tx) (hs:∀ x ∈ L,Snd g tx k x) (hn:L.Nodup):L.length <= 331100:=by
 have h1:(L.map codeI).Nodup:=by
  induction L with
  | nil=>simp
  | cons a L ih =>
   rw [List.map_cons,List.nodup_cons]
   rw [List.nodup_cons] at hn
   refine ⟨fun hm=>?_,ih (fun x hx=>hs x (by simp [hx])) hn.2⟩
   obtain ⟨b,hb1,hb2⟩:=List.mem_map.1 hm
   have c1:=(hs a (by simp)).code hb
   have c2:=(hs b (by simp [hb1])).code hb
   have:=code_inj ⟨c2.2.1,c2.2.2.1⟩ ⟨c1.2.1,c1.2.2.1⟩ hb2
   subst this
   exact hn.1 hb1
 have:=nodup_le 331100 (L.map codeI) h1 (fun x hx=>by
  obtain ⟨y,hy,rfl⟩:=List.mem_map.1 hx
  exact ((hs y hy).code hb).1)
 simpa using this
structure LI (g:Gr) (tx:List ByteArray) (S:List (List Itm × Nat)) (L:List Itm):Prop where
 s0:∀ (k:Nat) (p:List Itm × Nat),S[k]?=some p -> (∀ x ∈ p.1,Snd g tx k x) /\ p.1.Nodup
 sL:∀ x ∈ L,Snd g tx S.length x
 nd:L.Nodup
 n:S.length <= tx.length
theorem addI_nodup {L:List Itm} {x:Itm} (h:L.Nodup):(addI L x).Nodup:=by
 unfold addI
 split
 .exact h
 .rename_i hx
  rw [List.nodup_append]
  exact ⟨h,by simp,fun a ha b hb=>by simp at hb; subst hb; rintro rfl; exact hx ha⟩
theorem addI_mem {L:List Itm} {x y:Itm}:y ∈ addI L x ↔ y ∈ L \/ y=x:=by
 unfold addI
 split
 .rename_i hx; exact ⟨.inl,fun h=>by rcases h with h | rfl; exact h; exact hx⟩
 .simp
theorem addI_ext (L:List Itm) (x:Itm):∃ M,addI L x=L++M:=by
 unfold addI
 split
 .exact ⟨[],by simp⟩
 .exact ⟨[x],rfl⟩
theorem LI.add {g:Gr} {tx:List ByteArray} {S:List (List Itm × Nat)} {L:List Itm} {x:Itm} (h:LI g tx S L) (hx:Snd g tx S.length x):LI g tx S (addI L x) :=
 ⟨h.s0,fun y hy=>by rcases addI_mem.1 hy with hy | rfl; exact h.sL y hy; exact hx,addI_nodup h.nd,h.n⟩
def plc (S:List (List Itm × Nat)) (L:List Itm) (k:Nat):List Itm:=((S.map (·.1))++[L]).getD k []
theorem plc_last (S:List (List Itm × Nat)) (L:List Itm):plc S L S.length=L:=by simp [plc,List.getD]
theorem plc_lt {S:List (List Itm × Nat)} {L:List Itm} {k:Nat} {p:List Itm × Nat} (h:S[k]?=some p):plc S L k=p.1:=by
 have:=(List.getElem?_eq_some_iff.1 h).1
 simp only [plc,List.getD]
 rw [List.getElem?_append_left (by simpa using this)]
 simp [h]
theorem LI.place {g:Gr} {tx:List ByteArray} {S:List (List Itm × Nat)} {L:List Itm} (h:LI g tx S L) {k:Nat} (hk:k <= S.length):(∀ x ∈ plc S L k,Snd g tx k x) /\ (plc S L k).Nodup:=by
 rcases Nat.lt_or_eq_of_le hk with hk | rfl
 .obtain ⟨p,hp⟩:∃ p,S[k]?=some p:=⟨S[k],by simp [hk]⟩
  rw [plc_lt hp]; exact h.s0 k p hp
 .rw [plc_last]; exact ⟨h.sL,h.nd⟩
theorem set_get (S:List (List Itm × Nat)) (L:List Itm) (T k:Nat) (hk:k <= S.length):∃ t,(S.map setV++[setV (L,T)])[k]?=some (setV (plc S L k,t)):=by
 rcases Nat.lt_or_eq_of_le hk with hk | rfl
 .obtain ⟨p,hp⟩:∃ p,S[k]?=some p:=⟨S[k],by simp [hk]⟩
  refine ⟨p.2,?_⟩
  rw [plc_lt hp,List.getElem?_append_left (by simpa using hk)]
  simp [hp]
 .exact ⟨T,by rw [plc_last]; simp⟩
set_option maxHeartbeats 4000000 in
theorem open0_c (base:Nat) (g:Gr) (tx:List ByteArray) (tc:Cap) (o orl od:Nat) (M:RM) {h:AHeap} (hch:h[o]?=some (.cells 0 (chCells g tx tc orl od (.sl 0 [] .nil) (.sl 0 [] .nil)))) (hr:h[orl]?=some (.amap (smap rulesV M))) (hd:h[od]?=some (.amap [])) (hb:base <= o) (hb2:base <= orl) (hb3:base <= od) (hne:od ≠ orl) :
  ACalls PP Gl 61 [.ptr o 0 0] h (fun r H'=>r=.ret (.tup []) /\ CI base g tx tc ⟨o,orl,od,h.length,M,[],[],0,[],h.length+2,h.length+1,[]⟩ H' /\ Low base h H' /\ h.length <= H'.length):=by
 simp only [chCells] at hch
 have hol:=(List.getElem?_eq_some_iff.1 hch).1
 have hrl:=(List.getElem?_eq_some_iff.1 hr).1
 have hdl:=(List.getElem?_eq_some_iff.1 hd).1
 refine enter_earley_chart_open (by simp) ?_
 have k1:∀ y,(h++[y])[o]?=h[o]?:=fun y=>List.getElem?_append_left hol
 have k2:∀ y z,((h++[y]).set o z)[o]?=some z:=fun y z=>by rw [List.getElem?_set_self (by simp; omega)]
 simp -implicitDefEqProofs [code_earley_chart_open,res_earley_chart_open,ann_earley_chart_open,hch,k1,k2,maxLenA]
 have hset:∀ y z,(h++[y]).set o z=h.set o z++[y]:=fun y z=>by rw [List.set_append_left _ _ hol]
 rw [hset]
 refine appNil (.mp (h.length+1)) (by simp) (by simp) ?_
 obtain ⟨z1,hz1⟩:∃ z1,z1=AObj.cells 0 [.sl 1 (g.sorts.map sv) g.sc,.sl 4 (g.rules.map encR) g.rc,.mp orl,.sl 1 (tx.map sv) tc,.rf h.length 0 0 1 (.own 1),.sl 0 [] .nil,.mp od]:=⟨_,rfl⟩
 rw [<- hz1]
 have e1:h.set o z1++[AObj.cells 0 [AV.sl 0 [] Cap.nil]]++[AObj.amap []]++[AObj.tok 1]=h.set o z1++[AObj.cells 0 [AV.sl 0 [] Cap.nil],AObj.amap [],AObj.tok 1]:=by simp
 rw [e1]
 have k3:(h.set o z1++[AObj.cells 0 [AV.sl 0 [] Cap.nil],AObj.amap [],AObj.tok 1])[o]?=some z1:=by rw [List.getElem?_append_left (by simpa using hol),List.getElem?_set_self hol]
 rw [hz1] at k3
 rw [<- hz1] at k3
 have k4:∀ (w:AObj) (k:Nat) (x:AObj),h[k]?=some x -> k ≠ o -> ((h.set o z1++[AObj.cells 0 [AV.sl 0 [] Cap.nil],AObj.amap [],AObj.tok 1]).set o w)[k]?=some x:=fun w k x hk h1=>by
  have:=(List.getElem?_eq_some_iff.1 hk).1
  rw [List.getElem?_set_ne (fun e=>h1 e.symm),List.getElem?_append_left (by simpa using this),List.getElem?_set_ne (fun e=>h1 e.symm)]; exact hk
 have k5:∀ (w:AObj) (k:Nat),((h.set o z1++[AObj.cells 0 [AV.sl 0 [] Cap.nil],AObj.amap [],AObj.tok 1]).set o w)[h.length+k]?=[AObj.cells 0 [AV.sl 0 [] Cap.nil],AObj.amap [],AObj.tok 1][k]?:=fun w k=>by
  rw [List.getElem?_set_ne (by omega),List.getElem?_append_right (by simp)]; simp
 have k6:∀ (w:AObj),((h.set o z1++[AObj.cells 0 [AV.sl 0 [] Cap.nil],AObj.amap [],AObj.tok 1]).set o w)[o]?=some w:=fun w=>by
  rw [List.getElem?_set_self (by simp; omega)]
 have k7:∀ (w:AObj),Low base h ((h.set o z1++[AObj.cells 0 [AV.sl 0 [] Cap.nil],AObj.amap [],AObj.tok 1]).set o w):=fun w=>((Low.set hb).trans (Low.app _ _ _)).trans (Low.set hb)
 have k8:∀ (w:AObj),((h.set o z1++[AObj.cells 0 [AV.sl 0 [] Cap.nil],AObj.amap [],AObj.tok 1]).set o w).length=h.length+3:=fun w=>by simp
 generalize h.set o z1++[AObj.cells 0 [AV.sl 0 [] Cap.nil],AObj.amap [],AObj.tok 1]=H1 at *
 rw [hz1] at k3
 simp -implicitDefEqProofs [k3]
 have nro:orl ≠ o:=by rintro rfl; rw [hch] at hr; cases hr
 have ndo:od ≠ o:=by rintro rfl; rw [hch] at hd; cases hd
 refine ret1 (v:=.tup []) (by simp [deferred,dslot]) (by simp [evalRes]) ⟨rfl,⟨?_,k4 _ _ _ hr nro,k4 _ _ _ hd ndo,?_,?_,by simp,?_,rfl,?_,?_,?_,hne,hb,hb2,hb3,?_,?_,?_⟩,k7 _,by rw [k8]; omega⟩
 .simp only [chCells]; rw [k6]; rfl
 .have:=k5 (AObj.cells 0 [.sl 1 (g.sorts.map sv) g.sc,.sl 4 (g.rules.map encR) g.rc,.mp orl,.sl 1 (tx.map sv) tc,.rf h.length 0 0 1 (.own 1),.sl 1 [.mp (h.length+1)] (.tok (h.length+2)),.mp od]) 0
  simpa [setV] using this
 .have:=k5 (AObj.cells 0 [.sl 1 (g.sorts.map sv) g.sc,.sl 4 (g.rules.map encR) g.rc,.mp orl,.sl 1 (tx.map sv) tc,.rf h.length 0 0 1 (.own 1),.sl 1 [.mp (h.length+1)] (.tok (h.length+2)),.mp od]) 1
  simpa [amapOf,tkeys] using this
 .have:=k5 (AObj.cells 0 [.sl 1 (g.sorts.map sv) g.sc,.sl 4 (g.rules.map encR) g.rc,.mp orl,.sl 1 (tx.map sv) tc,.rf h.length 0 0 1 (.own 1),.sl 1 [.mp (h.length+1)] (.tok (h.length+2)),.mp od]) 2
  simpa using this
 all_goals simp only; omega
end Go.Apx
end
section
namespace Go.Apx
open Go.Proofs
set_option maxRecDepth 4000
def AdvP (g:Gr) (tx:List ByteArray) (S:List (List Itm × Nat)) (L:List Itm) (s:Sp) (n:Nat) (L':List Itm):Prop :=
 LI g tx S L' /\ (∃ M,L'=L++M) /\ ∀ i z p,i < n -> (plc S L' s.i)[i]?=some z -> nextF g z=some p -> p.sort=s.s -> z.adv ∈ L'
theorem plc_ext {S:List (List Itm × Nat)} {L M:List Itm} {k:Nat} (hk:k <= S.length):∃ M',plc S (L++M) k=plc S L k++M':=by
 rcases Nat.lt_or_eq_of_le hk with hk | rfl
 .obtain ⟨p,hp⟩:∃ p,S[k]?=some p:=⟨S[k],by simp [hk]⟩
  exact ⟨[],by rw [plc_lt hp,plc_lt hp]; simp⟩
 .exact ⟨M,by rw [plc_last,plc_last]⟩
set_option maxHeartbeats 4000000 in
theorem advance_c (base:Nat) (g:Gr) (tx:List ByteArray) (tc:Cap) (c:CD) (s:Sp) {h:AHeap} (hc:CI base g tx tc c h) (hb:BdG g tx) (hI:LI g tx c.S c.L) (hsi:s.i <= c.S.length) (hsj:s.j=c.S.length) (hse:s.s ≠ emp) (hD:Der g tx s.s s.i s.j) :
  ACalls PP Gl 90 [.ptr c.o 0 0,encSp s] h (MoreR g tx tc base c h (fun L'=>LI g tx c.S L' /\ (∃ M,L'=c.L++M) /\ ∀ z p,z ∈ plc c.S L' s.i -> nextF g z=some p -> p.sort=s.s -> z.adv ∈ L')):=by
 refine enter_earley_chart_advance (by simp) ?_
 simp -implicitDefEqProofs [code_earley_chart_advance,res_earley_chart_advance,ann_earley_chart_advance]
 have hSn:=hI.n
 have hn:=hb.n
 refine AWp.till (S:=PS2) ⟨0,c,h⟩ (fun st=>331101 - st.i) [0,3] (fun st=>[(4,i64 (st.i:Int))]) (fun st=>st.H)
  (fun st=>st.i <= (plc c.S st.c.L s.i).length /\ SameC c st.c /\ AdvP g tx c.S c.L s st.i st.c.L /\ CI base g tx tc st.c st.H /\ Low base h st.H /\ h.length <= st.H.length) mixed ⟨by simp,SameC.refl c,⟨hI,⟨[],by simp⟩,fun i z p hi=>by simp at hi⟩,hc,Low.refl _ _,Nat.le_refl _⟩ (le_of (by simp [dslot])) rfl ?_
 rintro ⟨i,c1,H⟩ ⟨z1,z2,⟨z3,z4,z5⟩,z6,z7,z8⟩
 simp only at z1 z2 z3 z4 z5 z6 z7 z8
 have hch:=z6.ch
 have hst:=z6.st
 simp only [chCells] at hch
 rw [z2.o,z2.S] at hch
 rw [z2.S] at hst
 obtain ⟨t,ht⟩:=set_get c.S c1.L c1.T s.i hsi
 have hcl:(c.S.map setV++[setV (c1.L,c1.T)]).length=c.S.length+1:=by simp
 have hpl:=z3.place hsi
 have hbd:=snd_bound hb hpl.1 hpl.2
 have hbL:=snd_bound hb z3.sL z3.nd
 generalize hl:plc c.S c1.L s.i=l at *
 generalize c.S.map setV++[setV (c1.L,c1.T)]=cs at *
 have hsi2:s.i < c.S.length+1:=by omega
 have ht2:cs[s.i]'(by omega)=setV (l,t):=(List.getElem?_eq_some_iff.1 ht).2
 by_cases hi:i < l.length
 case neg =>
  simp -implicitDefEqProofs [lp0_earley_chart_advance,hch,hst,ht,ht2,hcl,hsi2,encSp]
  have hno:¬ (i:Int) < l.length:=by omega
  simp -implicitDefEqProofs [setV,apd,hno]
  refine ret1 (v:=.tup []) (by simp [deferred,dslot]) (by simp [evalRes]) ⟨c1,rfl,z2,⟨z3,z4,fun z p hz hn hp=>?_⟩,z6,z7,z8⟩
  rw [hl] at hz
  obtain ⟨j,hj⟩:=List.getElem?_of_mem hz
  have:=(List.getElem?_eq_some_iff.1 hj).1
  exact z5 j z p (by omega) hj hn hp
 obtain ⟨x,hx⟩:∃ x,l[i]?=some x:=⟨l[i],by simp [hi]⟩
 have hle:setV (l,t)=.sl 3 (l.map encI) (.tok t):=by
  cases l with
  | nil=>simp at hi
  | cons a l=>rfl
 have hlt:(i:Int) < l.length:=by omega
 have hxm:=List.mem_of_getElem? hx
 have hsx:=hpl.1 x hxm
 obtain ⟨R,hR,hd1,hd2,hd3,hd4⟩:=hsx.ex
 have hR10:=hb.p R (List.mem_of_getElem? hR)
 have wi:IntKind.i64.wrap ((i:Int)+1)=(i:Int)+1:=IntWalk.i64_in _ (by omega)
 have hnext:=next_c (h:=H) g c.o (.sl 1 (g.sorts.map sv) g.sc) _ x R hch hR hd1 (by omega)
 have skip:(∀ p,nextF g x=some p -> p.sort ≠ s.s) -> i+1 <= l.length /\ SameC c c1 /\ AdvP g tx c.S c.L s (i+1) c1.L /\ CI base g tx tc c1 H /\ Low base h H /\ h.length <= H.length:=fun hsk =>
  ⟨hi,z2,⟨z3,z4,fun j z p hj hz hn hp=>by
   rw [hl] at hz
   by_cases hji:j < i
   .exact z5 j z p hji hz hn hp
   .have:j=i:=by omega
    subst this
    rw [hx] at hz
    have:=Option.some.inj hz
    subst this
    exact (hsk p hn hp).elim⟩,z6,z7,z8⟩
 cases hnx:nextF g x with
 | none =>
  simp -implicitDefEqProofs [lp0_earley_chart_advance,hch,hst,ht,ht2,hcl,hsi2,encSp,hle,hlt,hx,encI]
  refine callk hnext (by simp [encI]) rfl ?_
  simp -implicitDefEqProofs [nextV,hnx,wi,encP]
  exact ⟨⟨i+1,c1,H⟩,by simp; omega,by simpa only [hl] using skip (by simp [hnx]),le_of (by simp [dslot]),rfl⟩
 | some p =>
  by_cases hps:p.sort=s.s
  .simp -implicitDefEqProofs [lp0_earley_chart_advance,hch,hst,ht,ht2,hcl,hsi2,encSp,hle,hlt,hx,encI]
   refine callk hnext (by simp [encI]) rfl ?_
   simp -implicitDefEqProofs [nextV,hnx,wi,encP,hps]
   have hpe:p.sort ≠ emp:=by rw [hps]; exact hse
   have hsn:=hsx.adv hnx hpe (by rw [hps,<- hsj]; exact hD) hSn
   have hadd:=add_c base g tx tc c1 x.adv z6 (by unfold maxLenA; omega)
   rw [z2.o,z2.S,<- hsj] at hadd
   have wd:IntKind.i64.wrap ((x.d:Int)+1)=(x.d:Int)+1:=IntWalk.i64_in _ (by omega)
   rw [wd]
   refine callr hadd (by simp [encI,Itm.adv]) rfl ?_
   rintro r1 H' ⟨T',rfl,hc',hlow,hlen'⟩
   simp -implicitDefEqProofs [wi]
   obtain ⟨Mx,hMx⟩:=addI_ext c1.L x.adv
   obtain ⟨My,hMy⟩:=z4
   refine ⟨⟨i+1,{ c1 with L:=addI c1.L x.adv,T:=T' },H'⟩,by simp; omega,⟨?_,z2.trans (SameC.of c1 _ _),⟨z3.add hsn,⟨My++Mx,by simp only; rw [hMx,hMy,List.append_assoc]⟩,fun j z q hj hz hn hq=>?_⟩,hc',z7.trans hlow,by simp only; omega⟩,le_of (by simp [dslot]),rfl⟩
   .simp only
    rw [hMx]
    obtain ⟨M',hM'⟩:=plc_ext (S:=c.S) (L:=c1.L) (M:=Mx) hsi
    rw [hM',hl]; simp; omega
   .simp only at hj hz ⊢
    rw [hMx] at hz
    obtain ⟨M',hM'⟩:=plc_ext (S:=c.S) (L:=c1.L) (M:=Mx) hsi
    rw [hM',hl,List.getElem?_append_left (by omega)] at hz
    by_cases hji:j < i
    .exact addI_mem.2 (.inl (z5 j z q hji hz hn hq))
    .have:j=i:=by omega
     subst this
     rw [hx] at hz
     have:=Option.some.inj hz
     subst this
     exact addI_mem.2 (.inr rfl)
  .simp -implicitDefEqProofs [lp0_earley_chart_advance,hch,hst,ht,ht2,hcl,hsi2,encSp,hle,hlt,hx,encI]
   refine callk hnext (by simp [encI]) rfl ?_
   simp -implicitDefEqProofs [nextV,hnx,wi,encP,hps]
   exact ⟨⟨i+1,c1,H⟩,by simp; omega,by simpa only [hl] using skip (fun q hq=>by rw [hnx] at hq; cases hq; exact hps),le_of (by simp [dslot]),rfl⟩
end Go.Apx
end
section
namespace Go.Apx
open Go.Proofs
set_option maxRecDepth 4000
structure CloseI (g:Gr) (tx:List ByteArray) (S:List (List Itm × Nat)) (L:List Itm) (D:List Sp) (n:Nat):Prop where
 li:LI g tx S L
 dr:∀ s ∈ D,Der g tx s.s s.i s.j /\ s.j <= S.length /\ s.s ≠ emp
 p1:∀ (j:Nat) (x:Itm) (p:Pt),j < n -> L[j]?=some x -> nextF g x=some p -> p.sort ≠ emp -> ∀ (r:Nat) (R:Rl),g.rules[r]?=some R -> R.sort=p.sort /\ g.us R=true -> (⟨r,0,S.length⟩:Itm) ∈ L
 p2:∀ (j:Nat) (x:Itm) (R:Rl),j < n -> L[j]?=some x -> g.rules[x.r]?=some R -> x.d=R.parts.length -> (⟨R.sort,x.h,S.length⟩:Sp) ∈ D
 p3:∀ s ∈ D,s.j=S.length -> ∀ (j:Nat) (x:Itm) (p:Pt),(s.i < S.length \/ j < n) -> (plc S L s.i)[j]?=some x -> nextF g x=some p -> p.sort=s.s -> x.adv ∈ L
theorem plc_low {S:List (List Itm × Nat)} {L L':List Itm} {k:Nat} (hk:k < S.length):plc S L k=plc S L' k:=by
 obtain ⟨p,hp⟩:∃ p,S[k]?=some p:=⟨S[k],by simp [hk]⟩
 rw [plc_lt hp,plc_lt hp]
theorem CloseI.next {g:Gr} {tx:List ByteArray} {S:List (List Itm × Nat)} {L M:List Itm} {D E:List Sp} {i:Nat} {x:Itm} (h:CloseI g tx S L D i) (hx:L[i]?=some x) (hli:LI g tx S (L++M))
  (hE:∀ s ∈ E,Der g tx s.s s.i s.j /\ s.j <= S.length /\ s.s ≠ emp)
  (h1:∀ p,nextF g x=some p -> p.sort ≠ emp -> ∀ (r:Nat) (R:Rl),g.rules[r]?=some R -> R.sort=p.sort /\ g.us R=true -> (⟨r,0,S.length⟩:Itm) ∈ L++M)
  (h2:∀ R,g.rules[x.r]?=some R -> x.d=R.parts.length -> (⟨R.sort,x.h,S.length⟩:Sp) ∈ D++E)
  (h3:∀ s ∈ D,s.j=S.length -> s.i=S.length -> ∀ p,nextF g x=some p -> p.sort=s.s -> x.adv ∈ L++M)
  (h4:∀ s ∈ E,∀ z p,z ∈ plc S (L++M) s.i -> nextF g z=some p -> p.sort=s.s -> z.adv ∈ L++M):CloseI g tx S (L++M) (D++E) (i+1):=by
 have hil:=(List.getElem?_eq_some_iff.1 hx).1
 have old:∀ (j:Nat) (y:Itm),j < i+1 -> (L++M)[j]?=some y -> (j < i /\ L[j]?=some y) \/ (j=i /\ y=x):=fun j y hj hy=>by
  rw [List.getElem?_append_left (by omega)] at hy
  by_cases hji:j < i
  .exact .inl ⟨hji,hy⟩
  .have:j=i:=by omega
   subst this
   rw [hx] at hy
   exact .inr ⟨rfl,(Option.some.inj hy).symm⟩
 refine ⟨hli,fun s hs=>?_,fun j y p hj hy hn hp r R hr he=>?_,fun j y R hj hy hr hd=>?_,fun s hs hsj j y p hj hy hn hp=>?_⟩
 .rcases List.mem_append.1 hs with hs | hs
  .exact h.dr s hs
  .exact hE s hs
 .rcases old j y hj hy with ⟨h5,h6⟩ | ⟨rfl,rfl⟩
  .exact List.mem_append.2 (.inl (h.p1 j y p h5 h6 hn hp r R hr he))
  .exact h1 p hn hp r R hr he
 .rcases old j y hj hy with ⟨h5,h6⟩ | ⟨rfl,rfl⟩
  .exact List.mem_append.2 (.inl (h.p2 j y R h5 h6 hr hd))
  .exact h2 R hr hd
 .rcases List.mem_append.1 hs with hs | hs
  .rcases Nat.lt_or_ge s.i S.length with hlt | hge
   .rw [plc_low (L':=L) hlt] at hy
    exact List.mem_append.2 (.inl (h.p3 s hs hsj j y p (.inl hlt) hy hn hp))
   .have hle:=(h.dr s hs).1.le.1
    have hsi:s.i=S.length:=by omega
    rw [hsi,plc_last] at hy
    rcases old j y (by omega) hy with ⟨h5,h6⟩ | ⟨rfl,rfl⟩
    .exact List.mem_append.2 (.inl (h.p3 s hs hsj j y p (.inr h5) (by rw [hsi,plc_last]; exact h6) hn hp))
    .exact h3 s hs hsj hsi p hn hp
  .exact h4 s hs y p (List.mem_of_getElem? hy) hn hp
theorem CloseI.stay {g:Gr} {tx:List ByteArray} {S:List (List Itm × Nat)} {L:List Itm} {D:List Sp} {i:Nat} {x:Itm} (h:CloseI g tx S L D i) (hx:L[i]?=some x)
  (h1:∀ p,nextF g x=some p -> p.sort=emp) (h2:∀ R,g.rules[x.r]?=some R -> x.d=R.parts.length -> (⟨R.sort,x.h,S.length⟩:Sp) ∈ D):CloseI g tx S L D (i+1):=by
 have:=h.next (M:=[]) (E:=[]) hx (by simpa using h.li) (by simp) (fun p hn hp=>(hp (h1 p hn)).elim) (by simpa using h2) (fun s hs hj hi p hn hp=>((h.dr s hs).2.2 (by rw [<- hp]; exact h1 p hn)).elim) (by simp)
 simpa using this
def SameD (c c':CD):Prop:=c'={ c with L:=c'.L,T:=c'.T,D:=c'.D }
theorem SameD.refl (c:CD):SameD c c:=rfl
theorem SameC.toD {c c':CD} (h:SameC c c'):SameD c c':=by unfold SameD; rw [h]
theorem SameD.trans {c c' c'':CD} (h:SameD c c') (h':SameD c' c''):SameD c c'':=by
 unfold SameD at *
 rw [h'] ; rw [h]
theorem SameD.o {c c':CD} (h:SameD c c'):c'.o=c.o:=by rw [h]
theorem SameD.S {c c':CD} (h:SameD c c'):c'.S=c.S:=by rw [h]
theorem SameD.M {c c':CD} (h:SameD c c'):c'.M=c.M:=by rw [h]
theorem CI.done {base:Nat} {g:Gr} {tx:List ByteArray} {tc:Cap} {c:CD} {H:AHeap} (h:CI base g tx tc c H) {s:Sp} (hs:s ∉ c.D) :
  CI base g tx tc { c with D:=c.D++[s] } (H.set c.od (.amap (amapOf encSp boolV (aset (tkeys c.D) s true)))):=by
 have hd:=h.dn
 have keep:∀ (y:AObj) (z:Nat) (x:AObj),H[z]?=some x -> z ≠ c.od -> (H.set c.od y)[z]?=some x:=fun y z x hz hzo=>by
  rw [List.getElem?_set_ne (fun e=>hzo e.symm)]; exact hz
 have nc:∀ (z gg:Nat) (cs:List AV),H[z]?=some (.cells gg cs) -> z ≠ c.od:=fun z gg cs hz e=>by rw [e,hd] at hz; cases hz
 have nt:∀ (z n:Nat),H[z]?=some (.tok n) -> z ≠ c.od:=fun z n hz e=>by rw [e,hd] at hz; cases hz
 refine ⟨keep _ _ _ h.ch (nc _ _ _ h.ch),keep _ _ _ h.rl h.n4.symm,?_,keep _ _ _ h.st (nc _ _ _ h.st),keep _ _ _ h.it h.n2,fun hl=>⟨keep _ _ _ (h.tk hl).1 (nt _ _ (h.tk hl).1),(h.tk hl).2⟩,keep _ _ _ h.tm (nt _ _ h.tm),h.ml,h.n1,h.n2,h.n3,h.n4,h.b1,h.b2,h.b3,h.b4,h.b5,h.b6⟩
 simp only
 rw [List.getElem?_set_self (List.getElem?_eq_some_iff.1 hd).1,tkeys_set _ _ hs]
theorem predF_ext (k:Nat):∀ (l:List Nat) (L:List Itm),∃ M,predF L k l=L++M
 | [],L=>⟨[],by simp [predF]⟩
 | r :: l,L=>by
  obtain ⟨M1,h1⟩:=addI_ext L ⟨r,0,k⟩
  obtain ⟨M2,h2⟩:=predF_ext k l (addI L ⟨r,0,k⟩)
  refine ⟨M1++M2,?_⟩
  show predF (addI L ⟨r,0,k⟩) k l=_
  rw [h2,h1,List.append_assoc]
theorem predF_mem {k:Nat}:∀ {l:List Nat} {L:List Itm} {y:Itm},y ∈ predF L k l ↔ y ∈ L \/ ∃ r ∈ l,y=⟨r,0,k⟩
 | [],L,y=>by simp [predF]
 | r :: l,L,y=>by
  show y ∈ predF (addI L ⟨r,0,k⟩) k l ↔ _
  rw [predF_mem,addI_mem]
  simp [or_assoc]
theorem rulesTo_mem {g:Gr} {s:ByteArray} {r:Nat}:r ∈ rulesTo g g.rules.length s ↔ ∃ R,g.rules[r]?=some R /\ (R.sort=s /\ g.us R=true):=by
 unfold rulesTo
 rw [List.mem_filter]
 constructor
 .rintro ⟨h1,h2⟩
  cases hR:g.rules[r]? with
  | none=>rw [hR] at h2; simp at h2
  | some R=>rw [hR] at h2; exact ⟨R,rfl,by simpa using h2⟩
 .rintro ⟨R,hR,he⟩
  exact ⟨by simp [(List.getElem?_eq_some_iff.1 hR).1],by rw [hR]; simpa using he⟩
theorem LI.pred {g:Gr} {tx:List ByteArray} {S:List (List Itm × Nat)} {L:List Itm} (h:LI g tx S L) (s:ByteArray) (hit:∀ (r:Nat) (R:Rl),g.rules[r]?=some R -> R.sort=s /\ g.us R=true -> It g tx S.length ⟨r,0,S.length⟩):LI g tx S (predF L S.length (rulesTo g g.rules.length s)):=by
 have:∀ (l:List Nat) (L:List Itm),LI g tx S L -> (∀ r ∈ l,∃ R,g.rules[r]?=some R /\ It g tx S.length ⟨r,0,S.length⟩) -> LI g tx S (predF L S.length l):=by
  intro l
  induction l with
  | nil=>intro L h _; exact h
  | cons r l ih =>
   intro L h hr
   obtain ⟨R,hR,hi⟩:=hr r (by simp)
   exact ih _ (h.add (Snd.begin hR h.n hi)) (fun r' hr'=>hr r' (by simp [hr']))
 exact this _ _ h (fun r hr=>by obtain ⟨R,hR,he⟩:=rulesTo_mem.1 hr; exact ⟨R,hR,hit r R hR he⟩)
def CloseR (g:Gr) (tx:List ByteArray) (tc:Cap) (base:Nat) (c:CD) (H:AHeap) (r:AEnd) (H':AHeap):Prop :=
 ∃ c',r=.ret (.tup []) /\ SameD c c' /\ CI base g tx tc c' H' /\ Low base H H' /\ H.length <= H'.length /\ CloseI g tx c.S c'.L c'.D c'.L.length /\ (∃ M,c'.L=c.L++M) /\ ∃ E,c'.D=c.D++E /\ ∀ s ∈ E,s.j=c.S.length
structure CloseS (g:Gr) (tx:List ByteArray) (tc:Cap) (base:Nat) (c:CD) (h:AHeap) (st:PS2):Prop where
 i:st.i <= st.c.L.length
 same:SameD c st.c
 cl:CloseI g tx c.S st.c.L st.c.D st.i
 ci:CI base g tx tc st.c st.H
 low:Low base h st.H
 len:h.length <= st.H.length
 ext:∃ M,st.c.L=c.L++M
 dn:∃ E,st.c.D=c.D++E /\ ∀ s ∈ E,s.j=c.S.length
set_option maxHeartbeats 4000000 in
theorem close_c (base:Nat) (g:Gr) (tx:List ByteArray) (tc:Cap) (c:CD) {h:AHeap} (hc:CI base g tx tc c h) (hM:RMOk g c.M g.rules.length) (hb:BdG g tx) (hse:∀ R ∈ g.rules,R.sort ≠ emp) (hI:CloseI g tx c.S c.L c.D 0) :
  ACalls PP Gl 63 [.ptr c.o 0 0,i64 (c.S.length:Int)] h (CloseR g tx tc base c h):=by
 refine enter_earley_chart_close (by simp) ?_
 simp -implicitDefEqProofs [code_earley_chart_close,res_earley_chart_close,ann_earley_chart_close]
 have hSn:=hI.li.n
 have hn:=hb.n
 refine AWp.till (S:=PS2) ⟨0,c,h⟩ (fun st=>331101 - st.i) [0,1] (fun st=>[(4,i64 (st.i:Int))]) (fun st=>st.H) (CloseS g tx tc base c h) mixed
  ⟨by simp,SameD.refl c,hI,hc,Low.refl _ _,Nat.le_refl _,⟨[],by simp⟩,[],by simp⟩ (le_of (by simp [dslot])) rfl ?_
 rintro ⟨i,c1,H⟩ ⟨z1,z2,z3,z4,z5,z6,z7,z8⟩
 simp only at z1 z2 z3 z4 z5 z6 z7 z8
 have hch:=z4.ch
 have hst:=z4.st
 have hdn:=z4.dn
 simp only [chCells] at hch
 rw [z2.o,z2.S] at hch
 rw [z2.S] at hst
 have ht:(c.S.map setV++[setV (c1.L,c1.T)])[c.S.length]?=some (setV (c1.L,c1.T)):=by simp
 have hcl:(c.S.map setV++[setV (c1.L,c1.T)]).length=c.S.length+1:=by simp
 have hbL:=snd_bound hb z3.li.sL z3.li.nd
 generalize c.S.map setV++[setV (c1.L,c1.T)]=cs at *
 have ht2:cs[c.S.length]'(by omega)=setV (c1.L,c1.T):=(List.getElem?_eq_some_iff.1 ht).2
 by_cases hi:i < c1.L.length
 case neg =>
  simp -implicitDefEqProofs [lp0_earley_chart_close,hch,hst,ht,ht2,hcl]
  have hno:¬ (i:Int) < c1.L.length:=by omega
  simp -implicitDefEqProofs [setV,apd,hno]
  have hii:i=c1.L.length:=by omega
  exact ret1 (v:=.tup []) (by simp [deferred,dslot]) (by simp [evalRes]) ⟨c1,rfl,z2,z4,z5,z6,by rw [<- hii]; exact z3,z7,z8⟩
 obtain ⟨x,hx⟩:∃ x,c1.L[i]?=some x:=⟨c1.L[i],by simp [hi]⟩
 have hle:setV (c1.L,c1.T)=.sl 3 (c1.L.map encI) (.tok c1.T):=by
  cases hL:c1.L with
  | nil=>rw [hL] at hi; simp at hi
  | cons a l=>rfl
 have hlt:(i:Int) < c1.L.length:=by omega
 have hxm:=List.mem_of_getElem? hx
 have hsx:=z3.li.sL x hxm
 obtain ⟨R,hR,hd1,hd2,hd3,hd4⟩:=hsx.ex
 have hRm:=List.mem_of_getElem? hR
 have hR10:=hb.p R hRm
 have wi:IntKind.i64.wrap ((i:Int)+1)=(i:Int)+1:=IntWalk.i64_in _ (by omega)
 have hnext:=next_c (h:=H) g c.o (.sl 1 (g.sorts.map sv) g.sc) _ x R hch hR hd1 (by omega)
 cases hnx:nextF g x with
 | none =>
  have hdone:x.d=R.parts.length:=by
   have:R.parts[x.d]?=none:=by simpa [nextF,hR] using hnx
   have:=List.getElem?_eq_none_iff.1 this
   omega
  obtain ⟨s,hs⟩:∃ s:Sp,s=⟨R.sort,x.h,c.S.length⟩:=⟨_,rfl⟩
  have hfind:amapFind (.agg [.sc (.string R.sort),i64 (x.h:Int),i64 (c.S.length:Int)]) (amapOf encSp boolV (tkeys c1.D))=some ((afind (tkeys c1.D) s).map boolV):=by rw [hs]; exact amapFind_of keySp boolV (tkeys c1.D) ⟨R.sort,x.h,c.S.length⟩
  have hset:amapSet (.agg [.sc (.string R.sort),i64 (x.h:Int),i64 (c.S.length:Int)]) (.sc (.bool true)) (amapOf encSp boolV (tkeys c1.D))=some (amapOf encSp boolV (aset (tkeys c1.D) s true)):=by rw [hs]; exact amapSet_of keySp boolV (tkeys c1.D) ⟨R.sort,x.h,c.S.length⟩ true
  by_cases hsD:s ∈ c1.D
  .simp -implicitDefEqProofs [lp0_earley_chart_close,hch,hst,ht,ht2,hcl,hle,hlt,hx,encI]
   refine callk hnext (by simp [encI]) rfl ?_
   simp -implicitDefEqProofs [nextV,hnx,wi,encP,hch,hR,encR,hdn,hfind,tkeys_find,hsD,boolV]
   exact ⟨⟨i+1,c1,H⟩,by simp; omega,⟨hi,z2,z3.stay hx (fun p hn=>by rw [hnx] at hn; cases hn) (fun R' hR' _=>by rw [hR] at hR'; cases hR'; rw [<- hs]; exact hsD),z4,z5,z6,z7,z8⟩,le_of (by simp [dslot]),rfl⟩
  .simp -implicitDefEqProofs [lp0_earley_chart_close,hch,hst,ht,ht2,hcl,hle,hlt,hx,encI]
   refine callk hnext (by simp [encI]) rfl ?_
   simp -implicitDefEqProofs [nextV,hnx,wi,encP,hch,hR,encR,hdn,hfind,hset,tkeys_find,hsD,boolV]
   have hsder:Der g tx s.s s.i s.j:=by
    rw [hs]
    exact ⟨x.r,R,hR,rfl,by have:=hd4 ; rw [List.take_of_length_le (by omega)] at this; exact this⟩
   have hCI:=z4.done hsD
   obtain ⟨c1',hc1⟩:∃ c1':CD,c1'={ c1 with D:=c1.D++[s] }:=⟨_,rfl⟩
   rw [<- hc1] at hCI
   have q1:c1'.o=c.o:=by rw [hc1]; exact z2.o
   have q2:c1'.S=c.S:=by rw [hc1]; exact z2.S
   have q3:c1'.L=c1.L:=by rw [hc1]
   have q4:c1'.D=c1.D++[s]:=by rw [hc1]
   have q5:SameD c1 c1':=by rw [hc1]; rfl
   have hadv:=advance_c base g tx tc c1' s hCI hb (by rw [q2,q3]; exact z3.li) (by rw [hs,q2]; omega) (by rw [hs,q2]) (by rw [hs]; exact hse R hRm) hsder
   rw [q1,q2,q3] at hadv
   refine callr hadv (by rw [hs]; simp [encSp]) rfl ?_
   rintro r1 H' ⟨c2,rfl,hsame,⟨a1,⟨M,a2⟩,a3⟩,a4,a5,a6⟩
   simp -implicitDefEqProofs [wi]
   have hD2:c2.D=c1.D++[s]:=hsame.D.trans q4
   have hnext2:=z3.next (M:=M) (E:=[s]) hx (by rw [<- a2]; exact a1) (fun s' hs'=>by simp at hs'; subst hs'; exact ⟨hsder,by rw [hs]; exact Nat.le_refl _,by rw [hs]; exact hse R hRm⟩) (fun p hn=>by rw [hnx] at hn; cases hn)
    (fun R' hR' _=>by rw [hR] at hR'; cases hR'; rw [<- hs]; simp) (fun s' hs' _ _ p hn=>by rw [hnx] at hn; cases hn) (fun s' hs' z p hz hn hp=>by simp at hs'; subst hs'; rw [<- a2] at hz ⊢; exact a3 z p hz hn hp)
   rw [<- a2,<- hD2] at hnext2
   obtain ⟨M0,hM0⟩:=z7
   obtain ⟨E0,hE0,hE1⟩:=z8
   exact ⟨⟨i+1,c2,H'⟩,by simp; omega,⟨by simp only; rw [a2]; simp; omega,(z2.trans q5).trans hsame.toD,hnext2,a4,(z5.trans (Low.set z4.b3)).trans a5,by simp only [List.length_set] at a6 ⊢; omega,⟨M0++M,by simp only; rw [a2,hM0,List.append_assoc]⟩,⟨E0++[s],by simp only; rw [hD2,hE0,List.append_assoc],fun s' hs'=>by
    rcases List.mem_append.1 hs' with h' | h'
    .exact hE1 s' h'
    .simp at h'; subst h'; rw [hs]⟩⟩,le_of (by simp [dslot]),rfl⟩
 | some p =>
  by_cases hps:p.sort=⟨#[]⟩
  .simp -implicitDefEqProofs [lp0_earley_chart_close,hch,hst,ht,ht2,hcl,hle,hlt,hx,encI]
   refine callk hnext (by simp [encI]) rfl ?_
   simp -implicitDefEqProofs [nextV,hnx,wi,encP,hps]
   have hnd:∀ R',g.rules[x.r]?=some R' -> x.d=R'.parts.length -> (⟨R'.sort,x.h,c.S.length⟩:Sp) ∈ c1.D:=fun R' hR' hd=>by
    have:R'.parts[x.d]?=none:=List.getElem?_eq_none (by omega)
    simp [nextF,hR',this] at hnx
   exact ⟨⟨i+1,c1,H⟩,by simp; omega,⟨hi,z2,z3.stay hx (fun q hn=>by rw [hnx] at hn; cases hn; exact hps) hnd,z4,z5,z6,z7,z8⟩,le_of (by simp [dslot]),rfl⟩
  .simp -implicitDefEqProofs [lp0_earley_chart_close,hch,hst,ht,ht2,hcl,hle,hlt,hx,encI]
   refine callk hnext (by simp [encI]) rfl ?_
   simp -implicitDefEqProofs [nextV,hnx,wi,encP,hps]
   have hpred:=predict_c base g tx tc c1 p.sort z4 (by rw [z2.M]; exact hM) (by have:=hb.r; omega) (by omega) (by rw [z2.S]; omega)
   rw [z2.o,z2.S] at hpred
   refine callr hpred (by simp) rfl ?_
   rintro r1 H' ⟨c2,rfl,hsame,hL2,a4,a5,a6⟩
   have hD2:c2.D=c1.D:=hsame.D
   have ho2:c2.o=c.o:=hsame.o.trans z2.o
   have hS2:c2.S=c.S:=hsame.S.trans z2.S
   have hch2:=a4.ch
   have hdn2:=a4.dn
   simp only [chCells] at hch2
   rw [ho2] at hch2
   rw [hD2] at hdn2
   have hL2':c2.L=predF c1.L c.S.length (rulesTo g g.rules.length p.sort):=hL2
   obtain ⟨M1,hM1⟩:=predF_ext c.S.length (rulesTo g g.rules.length p.sort) c1.L
   have hLI2:LI g tx c.S c2.L:=by rw [hL2']; exact z3.li.pred p.sort fun r R' hR' he=>.pred hsx.it hnx hps hR' he
   have hbL2:=snd_bound hb hLI2.sL hLI2.nd
   have hrule:∀ (r:Nat) (R:Rl),g.rules[r]?=some R -> R.sort=p.sort /\ g.us R=true -> (⟨r,0,c.S.length⟩:Itm) ∈ c2.L:=fun r R' hR' he=>by
    rw [hL2']; exact predF_mem.2 (.inr ⟨r,rulesTo_mem.2 ⟨R',hR',he⟩,rfl⟩)
   have hnd:∀ R',g.rules[x.r]?=some R' -> x.d ≠ R'.parts.length:=fun R' hR' hd=>by
    have:R'.parts[x.d]?=none:=List.getElem?_eq_none (by omega)
    simp [nextF,hR',this] at hnx
   obtain ⟨s,hs⟩:∃ s:Sp,s=⟨p.sort,c.S.length,c.S.length⟩:=⟨_,rfl⟩
   have hfind:amapFind (.agg [.sc (.string p.sort),i64 (c.S.length:Int),i64 (c.S.length:Int)]) (amapOf encSp boolV (tkeys c1.D))=some ((afind (tkeys c1.D) s).map boolV):=by rw [hs]; exact amapFind_of keySp boolV (tkeys c1.D) ⟨p.sort,c.S.length,c.S.length⟩
   obtain ⟨M0,hM0⟩:=z7
   have hML:c2.L=c1.L++M1:=by rw [hL2',hM1]
   by_cases hsD:s ∈ c1.D
   .simp -implicitDefEqProofs [hch2,hdn2,hfind,tkeys_find,hsD,boolV]
    have hdr:=z3.dr s hsD
    have hsn:Snd g tx c.S.length x.adv:=by
     have:=hsx.adv (k:=c.S.length) hnx hps (by have:=hdr.1; rw [hs] at this; exact this) hSn
     exact this
    have hadd:=add_c base g tx tc c2 x.adv a4 (by unfold maxLenA; omega)
    rw [ho2,hS2] at hadd
    have wd:IntKind.i64.wrap ((x.d:Int)+1)=(x.d:Int)+1:=IntWalk.i64_in _ (by omega)
    rw [wd]
    refine callr hadd (by simp [encI,Itm.adv]) rfl ?_
    rintro r1 H2 ⟨T',rfl,b4,b5,b6⟩
    simp -implicitDefEqProofs [wi]
    obtain ⟨M2,hM2⟩:=addI_ext c2.L x.adv
    have hML2:addI c2.L x.adv=c1.L++(M1++M2):=by rw [hM2,hML,List.append_assoc]
    have hnext2:=z3.next (M:=M1++M2) (E:=[]) hx (by rw [<- hML2]; exact hLI2.add hsn) (by simp)
     (fun q hn hq r R' hR' he=>by rw [hnx] at hn; cases hn; rw [<- hML2]; exact addI_mem.2 (.inl (hrule r R' hR' he)))
     (fun R' hR' hd=>(hnd R' hR' hd).elim)
     (fun s' hs' _ _ q hn hq=>by rw [<- hML2]; exact addI_mem.2 (.inr rfl)) (by simp)
    rw [<- hML2,List.append_nil] at hnext2
    refine ⟨⟨i+1,{ c2 with L:=addI c2.L x.adv,T:=T' },H2⟩,by simp; omega,⟨by simp only; rw [hML2]; simp; omega,(z2.trans hsame.toD).trans (SameC.of c2 _ _).toD,?_,b4,(z5.trans a5).trans b5,by simp only; omega,⟨M0++(M1++M2),by simp only; rw [hML2,hM0,List.append_assoc]⟩,?_⟩,le_of (by simp [dslot]),rfl⟩
    .simp only; rw [hD2]; exact hnext2
    .simp only; rw [hD2]; exact z8
   .simp -implicitDefEqProofs [hch2,hdn2,hfind,tkeys_find,hsD,boolV,wi]
    have hnext2:=z3.next (M:=M1) (E:=[]) hx (by rw [<- hML]; exact hLI2) (by simp)
     (fun q hn hq r R' hR' he=>by rw [hnx] at hn; cases hn; rw [<- hML]; exact hrule r R' hR' he)
     (fun R' hR' hd=>(hnd R' hR' hd).elim)
     (fun s' hs' hj hi' q hn hq=>by
      rw [hnx] at hn; cases hn
      obtain ⟨a,b,d⟩:=s'
      simp only at hj hi' hq
      exact (hsD (by rw [hs,hq,<- hi']; rw [hj,<- hi'] at hs'; exact hs')).elim) (by simp)
    rw [<- hML,List.append_nil] at hnext2
    refine ⟨⟨i+1,c2,H'⟩,by simp; omega,⟨by simp only; rw [hML]; simp; omega,z2.trans hsame.toD,by simp only; rw [hD2]; exact hnext2,a4,z5.trans a5,by simp only; omega,⟨M0++M1,by simp only; rw [hML,hM0,List.append_assoc]⟩,?_⟩,le_of (by simp [dslot]),rfl⟩
    simp only; rw [hD2]; exact z8
end Go.Apx
end
section
namespace Go.Apx
open Go.Proofs
set_option maxRecDepth 4000
def scanX (g:Gr) (tx:List ByteArray) (k:Nat) (x:Itm):Option Itm:=match nextF g x with
 | some p=>if p.sort=emp /\ tx[k]?=some p.sym then some x.adv else none
 | none=>none
def scanF (g:Gr) (tx:List ByteArray) (k:Nat) (L:List Itm):List Itm:=L.filterMap (scanX g tx k)
theorem scanF_take {g:Gr} {tx:List ByteArray} {k:Nat} {L:List Itm} {i:Nat} {x:Itm} (h:L[i]?=some x):scanF g tx k (L.take (i+1))=scanF g tx k (L.take i)++(scanX g tx k x).toList:=by
 rw [List.take_add_one,h]
 simp only [scanF,List.filterMap_append,Option.toList_some]
 cases hs:scanX g tx k x <;> simp [List.filterMap_cons,hs]
theorem scanF_le (g:Gr) (tx:List ByteArray) (k:Nat) (L:List Itm):(scanF g tx k L).length <= L.length:=List.length_filterMap_le _ _
def addL (L l:List Itm):List Itm:=l.foldl addI L
theorem addL_take {L l:List Itm} {i:Nat} {x:Itm} (h:l[i]?=some x):addL L (l.take (i+1))=addI (addL L (l.take i)) x:=by
 rw [List.take_add_one,h]; simp [addL,List.foldl_append]
theorem addL_mem:∀ {l L:List Itm} {y:Itm},y ∈ addL L l ↔ y ∈ L \/ y ∈ l
 | [],L,y=>by simp [addL]
 | x :: l,L,y=>by
  show y ∈ addL (addI L x) l ↔ _
  rw [addL_mem,addI_mem]
  simp [or_assoc]
theorem addL_nodup:∀ {l L:List Itm},L.Nodup -> (addL L l).Nodup
 | [],L,h=>h
 | x :: l,L,h=>by show (addL (addI L x) l).Nodup; exact addL_nodup (addI_nodup h)
theorem addL_le:∀ (l L:List Itm),(addL L l).length <= L.length+l.length
 | [],L=>by simp [addL]
 | x :: l,L=>by
  have h1:=addL_le l (addI L x)
  have h2:=addI_le L x
  show (addL (addI L x) l).length <= _
  simp only [List.length_cons]; omega
theorem CI.apG {base:Nat} {g:Gr} {tx:List ByteArray} {tc:Cap} {c:CD} {H:AHeap} (h:CI base g tx tc c H) {n T:Nat} (hT:n ≠ 0 -> (∃ q,H[T]?=some (.tok q)) /\ T ≠ c.Tm /\ (c.L ≠ [] -> T ≠ c.T)):CI base g tx tc c (Go.Apx.apG H n T):=by
 have hT1:n ≠ 0 -> ∃ q,H[T]?=some (.tok q):=fun hn=>(hT hn).1
 exact ⟨apG_keep hT1 h.ch (by simp),apG_keep hT1 h.rl (by simp),apG_keep hT1 h.dn (by simp),apG_keep hT1 h.st (by simp),apG_keep hT1 h.it (by simp),fun hl=>⟨apG_keep' (h.tk hl).1 (fun hn=>((hT hn).2.2 hl).symm),(h.tk hl).2⟩,apG_keep' h.tm (fun hn=>(hT hn).2.1.symm),h.ml,h.n1,h.n2,h.n3,h.n4,h.b1,h.b2,h.b3,h.b4,h.b5,h.b6⟩
structure SC1 where
 i:Nat
 T:Nat
 H:AHeap
structure ScanS (g:Gr) (tx:List ByteArray) (tc:Cap) (base:Nat) (c:CD) (h:AHeap) (st:SC1):Prop where
 i:st.i <= c.L.length
 ci:CI base g tx tc c st.H
 low:Low base h st.H
 len:h.length <= st.H.length
 tk:scanF g tx c.S.length (c.L.take st.i) ≠ [] -> st.H[st.T]?=some (.tok (scanF g tx c.S.length (c.L.take st.i)).length) /\ h.length <= st.T
structure ScanT (g:Gr) (tx:List ByteArray) (tc:Cap) (base:Nat) (c c0:CD) (l:List Itm) (h:AHeap) (st:PS2):Prop where
 i:st.i <= l.length
 same:SameC c0 st.c
 ll:st.c.L=addL [] (l.take st.i)
 ci:CI base g tx tc st.c st.H
 low:Low base h st.H
 len:h.length <= st.H.length
def ScanR (g:Gr) (tx:List ByteArray) (tc:Cap) (base:Nat) (c:CD) (H:AHeap) (r:AEnd) (H':AHeap):Prop :=
 Low base H H' /\ H.length <= H'.length /\
  ((scanF g tx c.S.length c.L=[] /\ r=.ret (bl false) /\ CI base g tx tc c H') \/
   (scanF g tx c.S.length c.L ≠ [] /\ r=.ret (bl true) /\ ∃ c',CI base g tx tc c' H' /\ c'.o=c.o /\ c'.S=c.S++[(c.L,c.T)] /\ c'.D=c.D /\ c'.M=c.M /\ c'.orl=c.orl /\ c'.od=c.od /\ c'.L=addL [] (scanF g tx c.S.length c.L)))
set_option maxHeartbeats 4000000 in
theorem scan_c (base:Nat) (g:Gr) (tx:List ByteArray) (tc:Cap) (c:CD) {h:AHeap} (hc:CI base g tx tc c h) (hb:BdG g tx) (hI:LI g tx c.S c.L) (hat:c.S.length < tx.length) :
  ACalls PP Gl 64 [.ptr c.o 0 0,i64 (c.S.length:Int)] h (ScanR g tx tc base c h):=by
 have hch:=hc.ch
 have hst:=hc.st
 simp only [chCells] at hch
 have hSn:=hI.n
 have hn:=hb.n
 have hbL:=snd_bound hb hI.sL hI.nd
 have ht:(c.S.map setV++[setV (c.L,c.T)])[c.S.length]?=some (setV (c.L,c.T)):=by simp
 have hcl:(c.S.map setV++[setV (c.L,c.T)]).length=c.S.length+1:=by simp
 have hbase:base <= h.length:=by have:=hc.b1; have:=(List.getElem?_eq_some_iff.1 hch).1; omega
 have hTm:=(List.getElem?_eq_some_iff.1 hc.tm).1
 generalize c.S.map setV++[setV (c.L,c.T)]=cs at *
 have ht2:cs[c.S.length]'(by omega)=setV (c.L,c.T):=(List.getElem?_eq_some_iff.1 ht).2
 obtain ⟨v,hv⟩:∃ v,v=setV (c.L,c.T):=⟨_,rfl⟩
 have hvl:∃ k cc,v=.sl k (c.L.map encI) cc /\ (c.L ≠ [] -> k=3):=⟨_,_,hv,fun hne=>by simp [hne]⟩
 rw [<- hv] at ht2 ht
 obtain ⟨vk,vc,hvv,hvk⟩:=hvl
 refine enter_earley_chart_scan (by simp) ?_
 simp -implicitDefEqProofs [code_earley_chart_scan,res_earley_chart_scan,ann_earley_chart_scan,hch,hst,ht,ht2,hcl,hvv]
 refine AWp.till (S:=SC1) ⟨0,0,h⟩ (fun st=>c.L.length - st.i) [0,1,18,19,4] (fun st=>[(5,apd 3 ((scanF g tx c.S.length (c.L.take st.i)).map encI) st.T),(20,i64 (st.i:Int))]) (fun st=>st.H)
  (ScanS g tx tc base c h) mixed
  ⟨by simp,hc,Low.refl _ _,Nat.le_refl _,by simp [scanF]⟩ (le_of (by simp [dslot,scanF])) rfl ?_
 rintro ⟨i,T,H⟩ ⟨z1,z2,z3,z4,z5⟩
 simp only at z1 z2 z3 z4 z5
 by_cases hi:i < c.L.length
 case neg =>
  have hno:¬ (i:Int) < c.L.length:=by omega
  simp -implicitDefEqProofs [lp0_earley_chart_scan,hno]
  rw [List.take_of_length_le (by omega)] at z5
  rw [List.take_of_length_le (by omega)]
  have hsl:=scanF_le g tx c.S.length c.L
  obtain ⟨l,hl⟩:∃ l,l=scanF g tx c.S.length c.L:=⟨_,rfl⟩
  rw [<- hl] at z5 hsl ⊢
  by_cases hle:l=[]
  .rw [hle]
   simp -implicitDefEqProofs
   refine ret1 (v:=bl false) (by simp [deferred,dslot]) (by simp [evalRes,evalRes1]) ⟨z3,z4,.inl ⟨by rw [<- hl,hle],rfl,z2⟩⟩
  have hap:apd 3 (l.map encI) T=.sl 3 (l.map encI) (.tok T):=by
   cases l with
   | nil=>exact (hle rfl).elim
   | cons a l=>rfl
  have hll0:¬ (l.length:Int)=0:=by have:=List.length_pos_iff.2 hle; omega
  simp -implicitDefEqProofs [hap,hle,hll0]
  refine callr (open_c base g tx tc c z2 (by omega)) (by simp) rfl ?_
  rintro r1 H2 ⟨rfl,y2,y3,y4⟩
  simp -implicitDefEqProofs
  obtain ⟨c0,hc0⟩:∃ c0:CD,c0={ c with S:=c.S++[(c.L,c.T)],L:=[],T:=0,ms:=c.ms++[c.m],m:=H.length }:=⟨_,rfl⟩
  rw [<- hc0] at y2
  have q1:c0.o=c.o:=by rw [hc0]
  have q2:c0.S=c.S++[(c.L,c.T)]:=by rw [hc0]
  have q3:c0.L=[]:=by rw [hc0]
  refine AWp.till (S:=PS2) ⟨0,c0,H2⟩ (fun st=>l.length - st.i) [0,1,65,66,4] (fun st=>[(67,i64 (st.i:Int))]) (fun st=>st.H) (ScanT g tx tc base c c0 l h) mixed
   ⟨by simp,SameC.refl c0,by simp [q3,addL],y2,z3.trans y3,by simp only; omega⟩ (le_of (by simp [dslot])) rfl ?_
  rintro ⟨j,c1,H3⟩ ⟨x1,x2,x3,x4,x5,x6⟩
  simp only at x1 x2 x3 x4 x5 x6
  by_cases hj:j < l.length
  .obtain ⟨y,hy⟩:∃ y,l[j]?=some y:=⟨l[j],by simp [hj]⟩
   have hlt:(j:Int) < l.length:=by omega
   have wj:IntKind.i64.wrap ((j:Int)+1)=(j:Int)+1:=IntWalk.i64_in _ (by omega)
   have hla:=addL_le (l.take j) []
   have hadd:=add_c base g tx tc c1 y x4 (by rw [x3]; simp at hla; unfold maxLenA; omega)
   rw [x2.o,q1,x2.S,q2] at hadd
   have wat:IntKind.i64.wrap ((c.S.length:Int)+1)=(c.S.length:Int)+1:=IntWalk.i64_in _ (by omega)
   simp -implicitDefEqProofs [lp1_earley_chart_scan,hlt,hy,encI,wat]
   refine callr hadd (by simp [encI]) rfl ?_
   rintro r1 H4 ⟨T',rfl,b4,b5,b6⟩
   simp -implicitDefEqProofs [wj]
   exact ⟨⟨j+1,{ c1 with L:=addI c1.L y,T:=T' },H4⟩,by simp; omega,⟨hj,x2.trans (SameC.of c1 _ _),by simp only; rw [addL_take hy,<- x3],b4,x5.trans b5,by simp only; omega⟩,le_of (by simp [dslot]),rfl⟩
  .have hno2:¬ (j:Int) < l.length:=by omega
   simp -implicitDefEqProofs [lp1_earley_chart_scan,hno2]
   rw [List.take_of_length_le (by omega)] at x3
   refine ret1 (v:=bl true) (by simp [deferred,dslot]) (by simp [evalRes,evalRes1]) ⟨x5,x6,.inr ⟨by rw [<- hl]; exact hle,rfl,c1,x4,x2.o.trans q1,x2.S.trans q2,?_,?_,?_,?_,by rw [<- hl]; exact x3⟩⟩
   .rw [x2.D,hc0]
   .rw [x2.M,hc0]
   .rw [x2,hc0]
   .rw [x2,hc0]
 obtain ⟨x,hx⟩:∃ x,c.L[i]?=some x:=⟨c.L[i],by simp [hi]⟩
 have hlt:(i:Int) < c.L.length:=by omega
 have hvk3:=hvk (by intro e; rw [e] at hi; simp at hi)
 subst hvk3
 have hxm:=List.mem_of_getElem? hx
 have hsx:=hI.sL x hxm
 obtain ⟨R,hR,hd1,hd2,hd3,hd4⟩:=hsx.ex
 have hRm:=List.mem_of_getElem? hR
 have hR10:=hb.p R hRm
 have wi:IntKind.i64.wrap ((i:Int)+1)=(i:Int)+1:=IntWalk.i64_in _ (by omega)
 have hchH:=z2.ch
 simp only [chCells] at hchH
 have hnext:=next_c (h:=H) g c.o (.sl 1 (g.sorts.map sv) g.sc) _ x R hchH hR hd1 (by omega)
 have htk:=scanF_take (g:=g) (tx:=tx) (k:=c.S.length) hx
 have skip:scanX g tx c.S.length x=none -> ScanS g tx tc base c h ⟨i+1,T,H⟩:=fun e=>by
  refine ⟨hi,z2,z3,z4,?_⟩
  simp only; rw [htk,e,Option.toList_none,List.append_nil]
  exact z5
 obtain ⟨t,htt⟩:∃ t,tx[c.S.length]?=some t:=⟨tx[c.S.length],by simp⟩
 cases hnx:nextF g x with
 | none =>
  simp -implicitDefEqProofs [lp0_earley_chart_scan,hlt,hx,encI]
  refine callk hnext (by simp [encI]) rfl ?_
  simp -implicitDefEqProofs [nextV,hnx,wi,encP]
  have hsk:scanX g tx c.S.length x=none:=by simp [scanX,hnx]
  exact ⟨⟨i+1,T,H⟩,by simp; omega,skip hsk,le_of (by simp [dslot,htk,hsk]),rfl⟩
 | some p =>
  by_cases hps:p.sort=⟨#[]⟩
  .by_cases hpt:p.sym=t
   .simp -implicitDefEqProofs [lp0_earley_chart_scan,hlt,hx,encI]
    refine callk hnext (by simp [encI]) rfl ?_
    simp -implicitDefEqProofs [nextV,hnx,wi,encP,hps,hchH,htt,hpt,sv]
    have hsx2:scanX g tx c.S.length x=some x.adv:=by simp [scanX,hnx,hps,emp,htt,hpt]
    have wd:IntKind.i64.wrap ((x.d:Int)+1)=(x.d:Int)+1:=IntWalk.i64_in _ (by omega)
    have hsl:=scanF_le g tx c.S.length (c.L.take i)
    refine appG ((scanF g tx c.S.length (c.L.take i)).map encI) (encI x.adv) T (by simp) (by simp [encI,Itm.adv,wd]) (fun hne=>by simpa using (z5 (by simpa using hne)).1) (by simp at hsl ⊢; unfold maxLenA; omega) ?_
    simp -implicitDefEqProofs [wi]
    rw [hsx2,Option.toList_some] at htk
    have hTT:(scanF g tx c.S.length (c.L.take i)).length ≠ 0 -> ∃ q,H[T]?=some (.tok q):=fun hne=>⟨_,(z5 (by rintro e; rw [e] at hne; exact hne rfl)).1⟩
    have hTh:(scanF g tx c.S.length (c.L.take i)).length ≠ 0 -> h.length <= T:=fun hne=>(z5 (by rintro e; rw [e] at hne; exact hne rfl)).2
    refine ⟨⟨i+1,apT H (scanF g tx c.S.length (c.L.take i)).length T,apG H (scanF g tx c.S.length (c.L.take i)).length T⟩,by simp; omega,⟨hi,z2.apG fun hne=>⟨hTT hne,?_,fun hLe=>?_⟩,z3.trans (Low.apG fun hne=>Nat.le_trans hbase (hTh hne)),Nat.le_trans z4 (apG_len _ _ _),fun _=>?_⟩,le_of (by simp [dslot,htk]),rfl⟩
    .have:=hTh hne; omega
    .have:=hTh hne; have:=(List.getElem?_eq_some_iff.1 (hc.tk hLe).1).1; omega
    .simp only
     rw [htk,apG_tok hTT]
     refine ⟨by simp,?_⟩
     unfold apT
     split
     .exact z4
     .rename_i hne; exact hTh hne
   .simp -implicitDefEqProofs [lp0_earley_chart_scan,hlt,hx,encI]
    refine callk hnext (by simp [encI]) rfl ?_
    simp -implicitDefEqProofs [nextV,hnx,wi,encP,hps,hchH,htt,hpt,sv]
    have hsk:scanX g tx c.S.length x=none:=by simp [scanX,hnx,htt]; intro _ e; exact hpt e.symm
    exact ⟨⟨i+1,T,H⟩,by simp; omega,skip hsk,le_of (by simp [dslot,htk,hsk]),rfl⟩
  .simp -implicitDefEqProofs [lp0_earley_chart_scan,hlt,hx,encI]
   refine callk hnext (by simp [encI]) rfl ?_
   simp -implicitDefEqProofs [nextV,hnx,wi,encP,hps]
   have hsk:scanX g tx c.S.length x=none:=by simp [scanX,hnx,emp,hps]
   exact ⟨⟨i+1,T,H⟩,by simp; omega,skip hsk,le_of (by simp [dslot,htk,hsk]),rfl⟩
end Go.Apx
end
section
namespace Go.Apx
open Go.Proofs
set_option maxRecDepth 4000
structure NC (g:Gr) (tx:List ByteArray) (s0:ByteArray) (S:List (List Itm × Nat)) (L:List Itm) (D:List Sp):Prop where
 li:LI g tx S L
 dr:∀ s ∈ D,Der g tx s.s s.i s.j /\ s.j < S.length /\ s.s ≠ emp
 f1:∀ (k:Nat) (x:Itm) (p:Pt),k < S.length -> x ∈ plc S L k -> nextF g x=some p -> p.sort ≠ emp -> ∀ (r:Nat) (R:Rl),g.rules[r]?=some R -> R.sort=p.sort /\ g.us R=true -> (⟨r,0,k⟩:Itm) ∈ plc S L k
 f2:∀ (k:Nat) (x:Itm) (R:Rl),k < S.length -> x ∈ plc S L k -> g.rules[x.r]?=some R -> x.d=R.parts.length -> (⟨R.sort,x.h,k⟩:Sp) ∈ D
 f3:∀ s ∈ D,∀ (x:Itm) (p:Pt),x ∈ plc S L s.i -> nextF g x=some p -> p.sort=s.s -> x.adv ∈ plc S L s.j
 f4:∀ (k:Nat) (x:Itm) (p:Pt),k < S.length -> x ∈ plc S L k -> nextF g x=some p -> p.sort=emp -> tx[k]?=some p.sym -> x.adv ∈ plc S L (k+1)
 bg:∀ (r:Nat) (R:Rl),g.rules[r]?=some R -> R.sort=s0 /\ g.us R=true -> (⟨r,0,0⟩:Itm) ∈ plc S L 0
 ne:S ≠ [] -> L ≠ []
theorem NC.close0 {g:Gr} {tx:List ByteArray} {s0:ByteArray} {S:List (List Itm × Nat)} {L:List Itm} {D:List Sp} (h:NC g tx s0 S L D):CloseI g tx S L D 0 :=
 ⟨h.li,fun s hs=>⟨(h.dr s hs).1,Nat.le_of_lt (h.dr s hs).2.1,(h.dr s hs).2.2⟩,fun j x p hj=>by omega,fun j x R hj=>by omega,fun s hs hj=>by have:=(h.dr s hs).2.1; omega⟩
structure NF (g:Gr) (tx:List ByteArray) (s0:ByteArray) (S:List (List Itm × Nat)) (L:List Itm) (D:List Sp):Prop where
 li:LI g tx S L
 dr:∀ s ∈ D,Der g tx s.s s.i s.j /\ s.j <= S.length /\ s.s ≠ emp
 f1:∀ (k:Nat) (x:Itm) (p:Pt),k <= S.length -> x ∈ plc S L k -> nextF g x=some p -> p.sort ≠ emp -> ∀ (r:Nat) (R:Rl),g.rules[r]?=some R -> R.sort=p.sort /\ g.us R=true -> (⟨r,0,k⟩:Itm) ∈ plc S L k
 f2:∀ (k:Nat) (x:Itm) (R:Rl),k <= S.length -> x ∈ plc S L k -> g.rules[x.r]?=some R -> x.d=R.parts.length -> (⟨R.sort,x.h,k⟩:Sp) ∈ D
 f3:∀ s ∈ D,∀ (x:Itm) (p:Pt),x ∈ plc S L s.i -> nextF g x=some p -> p.sort=s.s -> x.adv ∈ plc S L s.j
 f4:∀ (k:Nat) (x:Itm) (p:Pt),k < S.length -> x ∈ plc S L k -> nextF g x=some p -> p.sort=emp -> tx[k]?=some p.sym -> x.adv ∈ plc S L (k+1)
 bg:∀ (r:Nat) (R:Rl),g.rules[r]?=some R -> R.sort=s0 /\ g.us R=true -> (⟨r,0,0⟩:Itm) ∈ plc S L 0
 ne:S ≠ [] -> L ≠ []
theorem plc_mono {S:List (List Itm × Nat)} {L M:List Itm} {k:Nat} (hk:k <= S.length) {x:Itm} (hx:x ∈ plc S L k):x ∈ plc S (L++M) k:=by
 obtain ⟨M',h⟩:=plc_ext (S:=S) (L:=L) (M:=M) hk
 rw [h]; exact List.mem_append.2 (.inl hx)
theorem NC.closed {g:Gr} {tx:List ByteArray} {s0:ByteArray} {S:List (List Itm × Nat)} {L M:List Itm} {D E:List Sp} (h:NC g tx s0 S L D) (hc:CloseI g tx S (L++M) (D++E) (L++M).length) (hE:∀ s ∈ E,s.j=S.length):NF g tx s0 S (L++M) (D++E):=by
 have low:∀ {k:Nat} {x:Itm},k < S.length -> (x ∈ plc S (L++M) k ↔ x ∈ plc S L k):=fun hk=>by rw [plc_low (L:=L++M) (L':=L) hk]
 refine ⟨hc.li,hc.dr,fun k x p hk hx hn hp r R hr he=>?_,fun k x R hk hx hr hd=>?_,fun s hs x p hx hn hp=>?_,fun k x p hk hx hn hp ht=>?_,fun r R hr he=>plc_mono (Nat.zero_le _) (h.bg r R hr he),fun hS hL=>h.ne hS (List.append_eq_nil_iff.1 hL).1⟩
 .rcases Nat.lt_or_eq_of_le hk with hk | rfl
  .exact (low hk).2 (h.f1 k x p hk ((low hk).1 hx) hn hp r R hr he)
  .rw [plc_last] at hx ⊢
   obtain ⟨j,hj⟩:=List.getElem?_of_mem hx
   exact hc.p1 j x p (List.getElem?_eq_some_iff.1 hj).1 hj hn hp r R hr he
 .rcases Nat.lt_or_eq_of_le hk with hk | rfl
  .exact List.mem_append.2 (.inl (h.f2 k x R hk ((low hk).1 hx) hr hd))
  .rw [plc_last] at hx
   obtain ⟨j,hj⟩:=List.getElem?_of_mem hx
   exact hc.p2 j x R (List.getElem?_eq_some_iff.1 hj).1 hj hr hd
 .have hdr:=hc.dr s hs
  have hle:=hdr.1.le.1
  rcases Nat.lt_or_eq_of_le hdr.2.1 with hj | hj
  .have hsD:s ∈ D:=by
    rcases List.mem_append.1 hs with h' | h'
    .exact h'
    .have:=hE s h'; omega
   exact (low hj).2 (h.f3 s hsD x p ((low (by omega)).1 hx) hn hp)
  .rw [hj,plc_last]
   obtain ⟨a,ha⟩:=List.getElem?_of_mem hx
   refine hc.p3 s hs hj a x p ?_ ha hn hp
   rcases Nat.lt_or_ge s.i S.length with h' | h'
   .exact .inl h'
   .have:s.i=S.length:=by omega
    rw [this,plc_last] at ha
    exact .inr (List.getElem?_eq_some_iff.1 ha).1
 .have:=h.f4 k x p hk ((low hk).1 hx) hn hp ht
  exact plc_mono (by omega) this
theorem NF.next {g:Gr} {tx:List ByteArray} {s0:ByteArray} {S:List (List Itm × Nat)} {L:List Itm} {D:List Sp} (h:NF g tx s0 S L D) (T:Nat) (hat:S.length < tx.length) (hsc:scanF g tx S.length L ≠ []):NC g tx s0 (S++[(L,T)]) (addL [] (scanF g tx S.length L)) D:=by
 have same:∀ {k:Nat},k <= S.length -> plc (S++[(L,T)]) (addL [] (scanF g tx S.length L)) k=plc S L k:=fun {k} hk=>by
  rcases Nat.lt_or_eq_of_le hk with hk | rfl
  .obtain ⟨p,hp⟩:∃ p,S[k]?=some p:=⟨S[k],by simp [hk]⟩
   rw [plc_lt hp,plc_lt (p:=p) (by rw [List.getElem?_append_left hk]; exact hp)]
  .rw [plc_last,plc_lt (p:=(L,T)) (by simp)]
 have last:plc (S++[(L,T)]) (addL [] (scanF g tx S.length L)) (S.length+1)=addL [] (scanF g tx S.length L):=by
  have:=plc_last (S++[(L,T)]) (addL [] (scanF g tx S.length L))
  simpa using this
 have mem:∀ y,y ∈ addL [] (scanF g tx S.length L) ↔ ∃ x p,x ∈ L /\ nextF g x=some p /\ p.sort=emp /\ tx[S.length]?=some p.sym /\ y=x.adv:=fun y=>by
  rw [addL_mem]
  simp only [List.not_mem_nil,false_or,scanF,List.mem_filterMap]
  constructor
  .rintro ⟨x,hx,hy⟩
   unfold scanX at hy
   cases hn:nextF g x with
   | none=>rw [hn] at hy; cases hy
   | some p =>
    rw [hn] at hy
    simp only at hy
    split at hy
    .rename_i hc; cases hy; exact ⟨x,p,hx,hn,hc.1,hc.2,rfl⟩
    .cases hy
  .rintro ⟨x,p,hx,hn,hp,ht,rfl⟩
   exact ⟨x,hx,by simp [scanX,hn,hp,ht]⟩
 have hsl:(S++[(L,T)]).length=S.length+1:=by simp
 refine ⟨⟨fun k p hp=>?_,fun y hy=>?_,addL_nodup (by simp),by rw [hsl]; omega⟩,fun s hs=>?_,fun k x p hk hx hn hp r R hr he=>?_,fun k x R hk hx hr hd=>?_,fun s hs x p hx hn hp=>?_,fun k x p hk hx hn hp ht=>?_,fun r R hr he=>?_,fun _ hL=>?_⟩
 .by_cases hk:k < S.length
  .rw [List.getElem?_append_left hk] at hp; exact h.li.s0 k p hp
  .rw [List.getElem?_append_right (by omega)] at hp
   have hk0:k - S.length=0:=by
    have:=(List.getElem?_eq_some_iff.1 hp).1
    simp at this; omega
   rw [hk0] at hp
   simp at hp
   subst hp
   have:k=S.length:=by omega
   subst this
   exact ⟨h.li.sL,h.li.nd⟩
 .obtain ⟨x,p,hx,hn,hp,ht,rfl⟩:=(mem y).1 hy
  rw [hsl]
  exact (h.li.sL x hx).scan hn hp ht
 .have:=h.dr s hs
  exact ⟨this.1,by rw [hsl]; omega,this.2.2⟩
 .rw [hsl] at hk
  rw [same (by omega)] at hx ⊢
  exact h.f1 k x p (by omega) hx hn hp r R hr he
 .rw [hsl] at hk
  rw [same (by omega)] at hx
  exact h.f2 k x R (by omega) hx hr hd
 .have hdr:=h.dr s hs
  have hle:=hdr.1.le.1
  rw [same (by omega)] at hx
  rw [same (by omega)]
  exact h.f3 s hs x p hx hn hp
 .rw [hsl] at hk
  rw [same (by omega)] at hx
  rcases Nat.lt_or_ge k S.length with h' | h'
  .rw [same (by omega)]
   exact h.f4 k x p h' hx hn hp ht
  .have:k=S.length:=by omega
   subst this
   rw [plc_last] at hx
   rw [last]
   exact (mem _).2 ⟨x,p,hx,hn,hp,ht,rfl⟩
 .rw [same (by omega)]; exact h.bg r R hr he
 .obtain ⟨y,hy⟩:=List.exists_mem_of_ne_nil _ hsc
  have:y ∈ addL [] (scanF g tx S.length L):=by rw [addL_mem]; exact .inr hy
  rw [hL] at this; cases this
theorem NF.all {g:Gr} {tx:List ByteArray} {s0:ByteArray} {S:List (List Itm × Nat)} {L:List Itm} {D:List Sp} (h:NF g tx s0 S L D) (hus:UsOk g tx) (he:S.length=tx.length \/ scanF g tx S.length L=[]) :
  Closed g tx (fun k x=>x ∈ plc S L k) (fun s i j=>(⟨s,i,j⟩:Sp) ∈ D) /\ Begun g (fun k x=>x ∈ plc S L k) s0 0:=by
 have hle:∀ {k:Nat} {x:Itm},x ∈ plc S L k -> k <= S.length:=fun {k x} hx=>by
  rcases Nat.lt_or_ge S.length k with h' | h'
  .exfalso
   unfold plc at hx
   rw [List.getD,List.getElem?_eq_none (by simp; omega)] at hx
   simp at hx
  .exact h'
 refine ⟨⟨fun k x p hx hn hp r R hr he=>h.f1 k x p (hle hx) hx hn hp r R hr he,fun k x p hx hn hp ht=>?_,fun k x R hx hr hd=>h.f2 k x R (hle hx) hx hr hd,fun s i k x p hD hx hn hp hs=>h.f3 _ hD x p hx hn hp,fun k x hx=>?_,fun s i k hD=>⟨(h.dr _ hD).1,Nat.le_trans (h.dr _ hD).2.1 h.li.n⟩,hus,fun k x hx=>((h.li.place (hle hx)).1 x hx).it⟩,h.bg⟩
 .rcases Nat.lt_or_eq_of_le (hle hx) with hk | rfl
  .exact h.f4 k x p hk hx hn hp ht
  .exfalso
   rcases he with he | he
   .have:=(List.getElem?_eq_some_iff.1 ht).1; omega
   .rw [plc_last] at hx
    have:x.adv ∈ scanF g tx S.length L:=by
     unfold scanF
     exact List.mem_filterMap.2 ⟨x,hx,by simp [scanX,hn,hp,ht]⟩
    rw [he] at this; cases this
 .have:=((h.li.place (hle hx)).1 x hx).ex
  exact this
theorem NC.first {g:Gr} {tx:List ByteArray} (s0:ByteArray) (hst:g.st=s0):NC g tx s0 [] (predF [] 0 (rulesTo g g.rules.length s0)) []:=by
 have hli:LI g tx [] []:=⟨fun k p hp=>by simp at hp,by simp,by simp,by simp⟩
 refine ⟨hli.pred s0 fun r R hR he=>.start hR (by rw [hst]; exact he),by simp,fun k x p hk=>by simp at hk,fun k x R hk=>by simp at hk,by simp,fun k x p hk=>by simp at hk,fun r R hr he=>?_,fun h=>(h rfl).elim⟩
 have:=plc_last [] (predF [] 0 (rulesTo g g.rules.length s0))
 simp only [List.length_nil] at this
 rw [this]
 exact predF_mem.2 (.inr ⟨r,rulesTo_mem.2 ⟨R,hr,he⟩,rfl⟩)
end Go.Apx
end
section
namespace Go.Apx
open Go.Proofs
set_option maxRecDepth 4000
theorem any_c (r:Rl) {h:AHeap}:AEx PP Gl 30 [encR r] h (.ret (bl true)) h:=by
 refine enter_earley_any (by simp) ?_
 simp -implicitDefEqProofs [code_earley_any,res_earley_any,ann_earley_any,encR]
 exact retE (v:=bl true) (by simp [deferred,dslot]) (by simp [evalRes,evalRes1]) rfl rfl
theorem rulesTo_succ {g:Gr} {n:Nat} {R:Rl} (hR:g.rules[n]?=some R) (s:ByteArray):rulesTo g (n+1) s=rulesTo g n s++(if R.sort=s /\ g.us R=true then [n] else []):=by
 unfold rulesTo
 rw [List.range_succ,List.filter_append]
 congr 1
 by_cases e:R.sort=s <;> by_cases e2:g.us R=true <;> simp [List.filter_cons,hR,e,e2]
structure RMI (g:Gr) (M:RM) (n:Nat) (base:Nat) (H:AHeap):Prop where
 ok:RMOk g M n
 tk:∀ s v,sfind M s=some v -> H[v.2]?=some (.tok v.1.length) /\ base <= v.2
 dj:∀ s s' v v',sfind M s=some v -> sfind M s'=some v' -> v.2=v'.2 -> s=s'
theorem rmok_getD {g:Gr} {M:RM} {n:Nat} (h:RMOk g M n) (s:ByteArray):((sfind M s).getD ([],0)).1=rulesTo g n s:=by
 have:=h.get s
 cases hf:sfind M s with
 | none =>
  rw [hf] at this
  by_cases e:rulesTo g n s=[]
  .rw [e]; rfl
  .rw [if_neg e] at this; cases this
 | some v =>
  rw [hf] at this
  by_cases e:rulesTo g n s=[]
  .rw [if_pos e] at this; cases this
  .rw [if_neg e] at this; exact Option.some.inj this
theorem RMI.add {g:Gr} {M:RM} {n base:Nat} {H:AHeap} {R:Rl} (h:RMI g M n base H) (hR:g.rules[n]?=some R) (hu:g.us R=true) (hb:base <= H.length) {orl:Nat} {y:AObj} (ho:∃ es,H[orl]?=some (.amap es)) :
  RMI g (sset M R.sort (rulesTo g n R.sort++[n],apT H (rulesTo g n R.sort).length ((sfind M R.sort).getD ([],0)).2)) (n+1) base ((apG H (rulesTo g n R.sort).length ((sfind M R.sort).getD ([],0)).2).set orl y):=by
 obtain ⟨es,ho⟩:=ho
 have hg:=rmok_getD h.ok R.sort
 obtain ⟨v,hv⟩:∃ v,v=(sfind M R.sort).getD ([],0):=⟨_,rfl⟩
 rw [<- hv] at hg ⊢
 have hT:(rulesTo g n R.sort).length ≠ 0 -> sfind M R.sort=some v:=fun hn=>by
  cases hf:sfind M R.sort with
  | none=>rw [hf] at hv; simp at hv; subst hv; rw [<- hg] at hn; simp at hn
  | some w=>rw [hf] at hv; simp at hv; rw [hv]
 have hT2:(rulesTo g n R.sort).length ≠ 0 -> ∃ q,H[v.2]?=some (.tok q):=fun hn=>⟨_,(h.tk _ _ (hT hn)).1⟩
 have hnew:(apG H (rulesTo g n R.sort).length v.2)[apT H (rulesTo g n R.sort).length v.2]?=some (.tok ((rulesTo g n R.sort).length+1)):=apG_tok hT2
 have hno:apT H (rulesTo g n R.sort).length v.2 ≠ orl:=by
  unfold apT
  split
  .have:=(List.getElem?_eq_some_iff.1 ho).1; omega
  .rename_i hn
   obtain ⟨q,hq⟩:=hT2 hn
   rintro rfl; rw [ho] at hq; cases hq
 have hother:∀ s w,sfind M s=some w -> s ≠ R.sort -> apT H (rulesTo g n R.sort).length v.2 ≠ w.2:=fun s w hw hs=>by
  unfold apT
  split
  .have:=(List.getElem?_eq_some_iff.1 (h.tk s w hw).1).1; omega
  .rename_i hn; intro e; exact hs (h.dj _ _ _ _ (hT hn) hw e).symm
 refine ⟨⟨fun s=>?_⟩,fun s w hw=>?_,fun s s' w w' hw hw' he=>?_⟩
 .rw [sfind_sset,rulesTo_succ hR]
  by_cases e:s=R.sort
  .subst e; simp [hu]
  .have e2:¬ R.sort=s:=fun e'=>e e'.symm
   have e3:¬ (R.sort=s /\ g.us R=true):=fun h=>e2 h.1
   simp only [if_neg e,if_neg e3,List.append_nil]; exact h.ok.get s
 .rw [sfind_sset] at hw
  by_cases e:s=R.sort
  .rw [if_pos e] at hw
   cases hw
   simp only
   refine ⟨by rw [List.getElem?_set_ne (fun e=>hno e.symm),hnew]; simp,?_⟩
   unfold apT
   split
   .exact hb
   .rename_i hn; exact (h.tk _ _ (hT hn)).2
  .rw [if_neg e] at hw
   have hw1:=h.tk s w hw
   refine ⟨?_,hw1.2⟩
   rw [List.getElem?_set_ne (by rintro rfl; rw [ho] at hw1; cases hw1.1)]
   exact apG_keep' hw1.1 (fun hn e'=>e (h.dj _ _ _ _ (hT hn) hw e'.symm).symm)
 .rw [sfind_sset] at hw hw'
  by_cases e:s=R.sort
  .by_cases e':s'=R.sort
   .rw [e,e']
   .rw [if_pos e] at hw; rw [if_neg e'] at hw'
    cases hw
    exact (hother s' w' hw' e' he).elim
  .by_cases e':s'=R.sort
   .rw [if_neg e] at hw; rw [if_pos e'] at hw'
    cases hw'
    exact (hother s w hw e he.symm).elim
   .rw [if_neg e] at hw; rw [if_neg e'] at hw'
    exact h.dj _ _ _ _ hw hw' he
theorem RMI.pass {g:Gr} {M:RM} {n base:Nat} {H:AHeap} {R:Rl} (h:RMI g M n base H) (hR:g.rules[n]?=some R) (hu:g.us R=false):RMI g M (n+1) base H :=
 ⟨⟨fun s=>by
  have e:rulesTo g (n+1) s=rulesTo g n s:=by rw [rulesTo_succ hR]; simp [hu]
  rw [e]; exact h.ok.get s⟩,h.tk,h.dj⟩
structure NS0 where
 i:Nat
 M:RM
 H:AHeap
structure N0I (g:Gr) (tx:List ByteArray) (tc:Cap) (h:AHeap) (st:NS0):Prop where
 i:st.i <= g.rules.length
 ch:st.H[h.length+2]?=some (.cells 0 (chCells g tx tc h.length (h.length+1) (.sl 0 [] .nil) (.sl 0 [] .nil)))
 rl:st.H[h.length]?=some (.amap (smap rulesV st.M))
 dn:st.H[h.length+1]?=some (.amap [])
 rm:RMI g st.M st.i h.length st.H
 low:Low h.length h st.H
structure NS1 where
 c:CD
 H:AHeap
structure N1I (g:Gr) (tx:List ByteArray) (tc:Cap) (s:ByteArray) (h:AHeap) (st:NS1):Prop where
 ci:CI h.length g tx tc st.c st.H
 o:st.c.o=h.length+2
 M:RMOk g st.c.M g.rules.length
 nc:NC g tx s st.c.S st.c.L st.c.D
 low:Low h.length h st.H
def ChartR (g:Gr) (tx:List ByteArray) (tc:Cap) (s:ByteArray) (h:AHeap) (r:AEnd) (H':AHeap):Prop :=
 ∃ c,r=.ret (.ptr c.o 0 0) /\ CI h.length g tx tc c H' /\ RMOk g c.M g.rules.length /\ Low h.length h H' /\ NF g tx s c.S c.L c.D /\ (c.S.length=tx.length \/ scanF g tx c.S.length c.L=[])
set_option maxHeartbeats 4000000 in
theorem newChart_c (g:Gr) (tx:List ByteArray) (tc:Cap) (s:ByteArray) (fid:FuncId) (fa fb:List AV) {h:AHeap} (hb:BdG g tx) (hse:∀ R ∈ g.rules,R.sort ≠ emp) (hst:g.st=s) (hu:∀ R ∈ g.rules,∀ H:AHeap,AEx PP Gl fid (fa++[encR R]++fb) H (.ret (bl (g.us R))) H) :
  ACalls PP Gl 29 [encG g,.sc (.string s),.sl 1 (tx.map sv) tc,.fn (.func fid) fa fb] h (ChartR g tx tc s h):=by
 have hn:=hb.n
 have hr:=hb.r
 refine enter_earley_newChart (by simp) ?_
 simp -implicitDefEqProofs [code_earley_newChart,res_earley_newChart,ann_earley_newChart,encG]
 have k0:∀ a b c:AObj,(h++[a,b,c])[h.length]?=some a:=fun a b c=>by simp
 have k1:∀ a b c:AObj,(h++[a,b,c])[h.length+1]?=some b:=fun a b c=>by rw [List.getElem?_append_right (by omega)]; simp
 have k2:∀ a b c:AObj,(h++[a,b,c])[h.length+2]?=some c:=fun a b c=>by rw [List.getElem?_append_right (by omega)]; simp
 refine AWp.till (S:=NS0) ⟨0,[],h++[.amap [],.amap [],.cells 0 (chCells g tx tc h.length (h.length+1) (.sl 0 [] .nil) (.sl 0 [] .nil))]⟩ (fun st=>g.rules.length - st.i) [1,2,3,9,20,21] (fun st=>[(22,i64 (st.i:Int))]) (fun st=>st.H) (N0I g tx tc h) mixed
  ⟨by simp,k2 _ _ _,k0 _ _ _,k1 _ _ _,⟨⟨fun s=>by simp [sfind,rulesTo]⟩,fun s v hv=>by simp [sfind] at hv,fun s s' v v' hv=>by simp [sfind] at hv⟩,Low.app _ _ _⟩ (le_of (by simp [dslot])) (by simp [chCells]) ?_
 rintro ⟨i,M,H⟩ ⟨z1,z2,z3,z4,z5,z6⟩
 simp only at z1 z2 z3 z4 z5 z6
 have hol:=(List.getElem?_eq_some_iff.1 z2).1
 by_cases hi:i < g.rules.length
 case neg =>
  have hno:¬ (i:Int) < g.rules.length:=by omega
  have hii:i=g.rules.length:=by omega
  simp -implicitDefEqProofs [lp0_earley_newChart,hno]
  have hop:=open0_c h.length g tx tc (h.length+2) h.length (h.length+1) M (h:=H) z2 z3 z4 (by omega) (by omega) (by omega) (by omega)
  refine callr hop (by simp) rfl ?_
  rintro r1 H2 ⟨rfl,y1,y2,y3⟩
  simp -implicitDefEqProofs
  obtain ⟨c0,hc0⟩:∃ c0:CD,c0=⟨h.length+2,h.length,h.length+1,H.length,M,[],[],0,[],H.length+2,H.length+1,[]⟩:=⟨_,rfl⟩
  rw [<- hc0] at y1
  have q1:c0.o=h.length+2:=by rw [hc0]
  have q2:c0.S=[]:=by rw [hc0]
  have q3:c0.L=[]:=by rw [hc0]
  have q4:c0.D=[]:=by rw [hc0]
  have q5:RMOk g c0.M g.rules.length:=by rw [hc0]; simp only; rw [<- hii]; exact z5.ok
  have hpred:=predict_c h.length g tx tc c0 s y1 q5 (by omega) (by rw [q3]; simp) (by rw [q2]; simp)
  rw [q1,q2,q3] at hpred
  refine callr hpred (by simp) rfl ?_
  rintro r1 H3 ⟨c1,rfl,hsame,hL1,x1,x2,x3⟩
  simp -implicitDefEqProofs
  refine AWp.till (S:=NS1) ⟨c1,H3⟩ (fun st=>tx.length+1 - st.c.S.length) [2,9] (fun st=>[(12,i64 (st.c.S.length:Int))]) (fun st=>st.H) (N1I g tx tc s h) mixed
   ⟨x1,hsame.o.trans q1,by rw [hsame.M]; exact q5,by simp only; rw [hsame.S,hsame.D,hL1,q2,q4]; exact NC.first s hst,(z6.trans y2).trans x2⟩ (le_of (by simp [dslot,hsame.S,q2])) rfl ?_
  rintro ⟨c,H⟩ ⟨v1,v2,v3,v4,v5⟩
  simp only at v1 v2 v3 v4 v5
  have hSn:=v4.li.n
  have hcl:=close_c h.length g tx tc c v1 v3 hb hse v4.close0
  rw [v2] at hcl
  simp -implicitDefEqProofs [lp1_earley_newChart]
  refine callr hcl (by simp) rfl ?_
  rintro r1 H4 ⟨c2,rfl,w1,w2,w3,w4,w5,⟨Mx,w6⟩,E,w7,w8⟩
  rw [w6,w7] at w5
  have hNF:=v4.closed w5 w8
  rw [<- w6,<- w7] at hNF
  have u1:c2.S=c.S:=w1.S
  have u2:c2.o=h.length+2:=w1.o.trans v2
  by_cases he:c.S.length=tx.length
  .have hei:(c.S.length:Int)=tx.length:=by omega
   simp -implicitDefEqProofs [hei]
   refine ret1 (v:=.ptr (h.length+2) 0 0) (by simp [deferred,dslot]) (by simp [evalRes,evalRes1]) ⟨c2,by rw [u2],w2,by rw [w1.M]; exact v3,v5.trans w3,by rw [u1]; exact hNF,.inl (by rw [u1]; exact he)⟩
  .have hei:¬ (c.S.length:Int)=tx.length:=by omega
   have hsc:=scan_c h.length g tx tc c2 w2 hb (by rw [u1]; exact hNF.li) (by rw [u1]; omega)
   rw [u2,u1] at hsc
   simp -implicitDefEqProofs [hei]
   refine callr hsc (by simp) rfl ?_
   rintro r1 H5 ⟨t1,t2,⟨t3,rfl,t4⟩ | ⟨t3,rfl,c3,t4,t5,t6,t7,t8,t9,t10,t11⟩⟩
   .simp -implicitDefEqProofs
    refine ret1 (v:=.ptr (h.length+2) 0 0) (by simp [deferred,dslot]) (by simp [evalRes,evalRes1]) ⟨c2,by rw [u2],t4,by rw [w1.M]; exact v3,(v5.trans w3).trans t1,by rw [u1]; exact hNF,.inr t3⟩
   .have wi:IntKind.i64.wrap ((c.S.length:Int)+1)=(c.S.length:Int)+1:=IntWalk.i64_in _ (by omega)
    simp -implicitDefEqProofs [wi]
    have hnext:=hNF.next c2.T (by omega) (by rw [<- u1]; exact t3)
    rw [u1] at t6 t11
    rw [<- t6,<- t11,<- t7] at hnext
    have t6l:c3.S.length=c.S.length+1:=by rw [t6]; simp
    exact ⟨⟨c3,H5⟩,by simp only; omega,⟨t4,t5.trans u2,by rw [t8,w1.M]; exact v3,hnext,(v5.trans w3).trans t1⟩,le_of (by simp [dslot,t6l]),rfl⟩
 obtain ⟨R,hR⟩:∃ R,g.rules[i]?=some R:=⟨g.rules[i],by simp [hi]⟩
 have hlt:(i:Int) < g.rules.length:=by omega
 have wi:IntKind.i64.wrap ((i:Int)+1)=(i:Int)+1:=IntWalk.i64_in _ (by omega)
 obtain ⟨l,hl⟩:∃ l,l=rulesTo g i R.sort:=⟨_,rfl⟩
 obtain ⟨t,ht⟩:∃ t,t=((sfind M R.sort).getD ([],0)).2:=⟨_,rfl⟩
 have hle:l.length <= i:=by rw [hl]; exact rulesTo_le g i R.sort
 have hgd:(Option.map rulesV (sfind M R.sort)).getD (.sl 0 [] .nil)=apd 1 (i64s l) t:=by
  have:=rmok_getD z5.ok R.sort
  rw [hl,<- this,ht]
  cases sfind M R.sort <;> rfl
 have hT:l ≠ [] -> H[t]?=some (.tok l.length):=fun hne=>by
  have:=rmok_getD z5.ok R.sort
  cases hf:sfind M R.sort with
  | none=>rw [hf] at this; exfalso; apply hne; rw [hl,<- this]; rfl
  | some v =>
   rw [hf] at this ht
   have h1:=(z5.tk _ _ hf).1
   simp at this ht
   rw [ht,hl,<- this]; exact h1
 have hT2:l.length ≠ 0 -> ∃ q,H[t]?=some (.tok q):=fun hne=>⟨_,hT (by rintro rfl; exact hne rfl)⟩
 have hTb:l.length ≠ 0 -> h.length <= t:=fun hne=>by
  have:=rmok_getD z5.ok R.sort
  cases hf:sfind M R.sort with
  | none=>rw [hf] at this; exfalso; rw [hl,<- this] at hne; exact hne rfl
  | some v =>
   rw [hf] at ht
   simp at ht
   rw [ht]; exact (z5.tk _ _ hf).2
 have hrm:=fun hus=>z5.add hR hus (by omega) (orl:=h.length) (y:=.amap (smap rulesV (sset M R.sort (l++[i],apT H l.length t)))) ⟨_,z3⟩
 simp only [<- hl,<- ht] at hrm
 have hch2:=z2
 simp only [chCells] at hch2
 simp -implicitDefEqProofs [lp0_earley_newChart,hlt,hR,encR]
 refine callk (hu R (List.mem_of_getElem? hR) H) (by simp [encR]) rfl ?_
 cases hus:g.us R with
 | false =>
  simp -implicitDefEqProofs [wi]
  exact ⟨⟨i+1,M,H⟩,by simp; omega,⟨hi,z2,z3,z4,z5.pass hR hus,z6⟩,le_of (by simp [dslot]),rfl⟩
 | true =>
 have hrm:=hrm hus
 simp -implicitDefEqProofs [hch2,z3]
 rw [hgd]
 refine appG (i64s l) (i64 (i:Int)) t (by simp) (by simp) (fun hne=>by simpa [i64s] using hT (by simpa [i64s] using hne)) (by simp [i64s]; unfold maxLenA; omega) ?_
 have hil:(i64s l).length=l.length:=by simp [i64s]
 rw [hil]
 obtain ⟨H2,hH2⟩:∃ H2,H2=apG H l.length t:=⟨_,rfl⟩
 obtain ⟨t2,ht2⟩:∃ t2,t2=apT H l.length t:=⟨_,rfl⟩
 rw [<- hH2,<- ht2]
 rw [<- hH2,<- ht2] at hrm
 have f1:H2[h.length+2]?=some (.cells 0 (chCells g tx tc h.length (h.length+1) (.sl 0 [] .nil) (.sl 0 [] .nil))):=by rw [hH2]; exact apG_keep hT2 z2 (by simp)
 have f2:H2[h.length]?=some (.amap (smap rulesV M)):=by rw [hH2]; exact apG_keep hT2 z3 (by simp)
 have f3:H2[h.length+1]?=some (.amap []):=by rw [hH2]; exact apG_keep hT2 z4 (by simp)
 have f1':=f1
 simp only [chCells] at f1'
 have hset:amapSet (.sc (.string R.sort)) (apd 1 (i64s l++[i64 (i:Int)]) t2) (smap rulesV M)=some (smap rulesV (sset M R.sort (l++[i],t2))):=by
  have:=amapSet_smap rulesV M R.sort (l++[i],t2)
  simpa [rulesV,i64s] using this
 simp -implicitDefEqProofs [f1',f2,hgd,hset,wi]
 have keep:∀ (y:AObj) (z:Nat),z ≠ h.length -> (H2.set h.length y)[z]?=H2[z]?:=fun y z hz=>List.getElem?_set_ne (fun e=>hz e.symm)
 refine ⟨⟨i+1,sset M R.sort (l++[i],t2),H2.set h.length (.amap (smap rulesV (sset M R.sort (l++[i],t2))))⟩,by simp; omega,⟨hi,?_,?_,?_,hrm,?_⟩,le_of (by simp [dslot]),rfl⟩
 .simp only; rw [keep _ _ (by omega)]; exact f1
 .simp only; rw [List.getElem?_set_self (List.getElem?_eq_some_iff.1 f2).1]
 .simp only; rw [keep _ _ (by omega)]; exact f3
 .refine (z6.trans ?_).trans (Low.set (Nat.le_refl _))
  rw [hH2]; exact Low.apG hTb
end Go.Apx
end
section
namespace Go.Apx
open Go.Proofs
set_option maxRecDepth 4000
structure KD where
 ok:Nat
 oc:Nat
 orl:Nat
 od:Nat
 onum:Nat
 orest:Nat
 M:RM
 D:List Sp
def natV (n:Nat):AV:=i64 (n:Int)
def numM (L:List Sp):List (Sp × Nat):=L.zipIdx
def spsV (L:List Sp) (T:Nat):AV:=apd 3 (L.map encSp) T
abbrev DD (k:KD) (s:ByteArray) (i j:Nat):Prop:=(⟨s,i,j⟩:Sp) ∈ k.D
def MemoOk (g:Gr) (tx:List ByteArray) (k:KD) (Mk:List (K4 × Bool)):Prop:=∀ (x:K4) (v:Bool),afind Mk x=some v -> ∀ R,g.rules[x.r]?=some R -> (v=true ↔ PX (DD k) tx (R.parts.drop x.d) x.i x.j)
structure PK (base:Nat) (g:Gr) (tx:List ByteArray) (tc:Cap) (k:KD) (L:List Sp) (T:Nat) (Mk:List (K4 × Bool)) (H:AHeap):Prop where
 pk:H[k.ok]?=some (.cells 0 [.ptr k.oc 0 0,.mp k.onum,spsV L T,.mp k.orest])
 ch:∃ a b,H[k.oc]?=some (.cells 0 (chCells g tx tc k.orl k.od a b))
 rl:H[k.orl]?=some (.amap (smap rulesV k.M))
 dn:H[k.od]?=some (.amap (amapOf encSp boolV (tkeys k.D)))
 nm:H[k.onum]?=some (.amap (amapOf encSp natV (numM L)))
 rs:H[k.orest]?=some (.amap (amapOf encK boolV Mk))
 tk:L ≠ [] -> H[T]?=some (.tok L.length) /\ base <= T
 memo:MemoOk g tx k Mk
 n1:k.orest ≠ k.orl
 n2:k.orest ≠ k.od
 n3:k.orest ≠ k.onum
 n4:k.onum ≠ k.orl
 n5:k.onum ≠ k.od
 n6:k.ok ≠ k.oc
 b1:base <= k.ok
 b2:base <= k.onum
 b3:base <= k.orest
def But (e:Nat) (H H':AHeap):Prop:=∀ z,z ≠ e -> H'[z]?=H[z]?
theorem But.refl (e:Nat) (H:AHeap):But e H H:=fun _ _=>rfl
theorem But.trans {e:Nat} {H H' H'':AHeap} (h:But e H H') (h':But e H' H''):But e H H'':=fun z hz=>(h' z hz).trans (h z hz)
theorem But.set (e:Nat) (H:AHeap) (x:AObj):But e H (H.set e x):=fun z hz=>List.getElem?_set_ne (fun e'=>hz e'.symm)
theorem PK.memoSet {base:Nat} {g:Gr} {tx:List ByteArray} {tc:Cap} {k:KD} {L:List Sp} {T:Nat} {Mk:List (K4 × Bool)} {H:AHeap} (h:PK base g tx tc k L T Mk H) (x:K4) (v:Bool) (hv:∀ R,g.rules[x.r]?=some R -> (v=true ↔ PX (DD k) tx (R.parts.drop x.d) x.i x.j)) :
  PK base g tx tc k L T (aset Mk x v) (H.set k.orest (.amap (amapOf encK boolV (aset Mk x v)))):=by
 have keep:∀ (y:AObj) (z:Nat) (w:AObj),H[z]?=some w -> z ≠ k.orest -> (H.set k.orest y)[z]?=some w:=fun y z w hz hzo=>by
  rw [List.getElem?_set_ne (fun e=>hzo e.symm)]; exact hz
 have nc:∀ (z gg:Nat) (cs:List AV),H[z]?=some (.cells gg cs) -> z ≠ k.orest:=fun z gg cs hz e=>by rw [e,h.rs] at hz; cases hz
 have nt:∀ (z n:Nat),H[z]?=some (.tok n) -> z ≠ k.orest:=fun z n hz e=>by rw [e,h.rs] at hz; cases hz
 obtain ⟨a,b,hch⟩:=h.ch
 refine ⟨keep _ _ _ h.pk (nc _ _ _ h.pk),⟨a,b,keep _ _ _ hch (nc _ _ _ hch)⟩,keep _ _ _ h.rl h.n1.symm,keep _ _ _ h.dn h.n2.symm,keep _ _ _ h.nm h.n3.symm,?_,fun hl=>⟨keep _ _ _ (h.tk hl).1 (nt _ _ (h.tk hl).1),(h.tk hl).2⟩,fun y w hy R hR=>?_,h.n1,h.n2,h.n3,h.n4,h.n5,h.n6,h.b1,h.b2,h.b3⟩
 .rw [List.getElem?_set_self (List.getElem?_eq_some_iff.1 h.rs).1]
 .rw [afind_aset] at hy
  by_cases e:y=x
  .rw [if_pos e] at hy
   subst e
   cases hy
   exact hv R hR
  .rw [if_neg e] at hy
   exact h.memo y w hy R hR
theorem PX_le2 {X:ByteArray -> Nat -> Nat -> Prop} {tx:List ByteArray} (hx:∀ s i j,X s i j -> i <= j):∀ {ps:List Pt} {i j:Nat},PX X tx ps i j -> i <= j
 | [],i,j,h=>by simp only [PX] at h; omega
 | p :: ps,i,j,h=>by
  simp only [PX] at h
  rcases h with ⟨_,_,h⟩ | ⟨_,k,h1,h2⟩
  .have:=PX_le2 hx h; omega
  .have:=PX_le2 hx h2; have:=hx _ _ _ h1; omega
structure LS where
 e:Nat
 v:Bool
 Mk:List (K4 × Bool)
 H:AHeap
def LeadR (base:Nat) (g:Gr) (tx:List ByteArray) (tc:Cap) (k:KD) (L:List Sp) (T:Nat) (ps:List Pt) (i j:Nat) (H:AHeap) (r:AEnd) (H':AHeap):Prop :=
 ∃ (b:Bool) (Mk':List (K4 × Bool)),r=.ret (bl b) /\ (b=true ↔ PX (DD k) tx ps i j) /\ PK base g tx tc k L T Mk' H' /\ But k.orest H H' /\ H'.length=H.length
structure LeadI (base:Nat) (g:Gr) (tx:List ByteArray) (tc:Cap) (k:KD) (L:List Sp) (T:Nat) (p:Pt) (ps:List Pt) (i j:Nat) (h:AHeap) (st:LS):Prop where
 pk:PK base g tx tc k L T st.Mk st.H
 bt:But k.orest h st.H
 ln:st.H.length=h.length
 e:st.e <= j+1 \/ st.e=i
 ie:i <= st.e
 v:st.v=true ↔ ∃ m,m < st.e /\ DD k p.sort i m /\ PX (DD k) tx ps m j
theorem drop_get {α:Type} {l r:List α} {a:α} {d:Nat} (h:l.drop d=a :: r):l[d]?=some a /\ l.drop (d+1)=r:=by
 have h1:(l.drop d)[0]?=some a:=by rw [h]; rfl
 rw [List.getElem?_drop] at h1
 refine ⟨by simpa using h1,?_⟩
 rw [<- List.drop_drop,h]; rfl
set_option maxHeartbeats 4000000 in
theorem leads_c (base:Nat) (g:Gr) (tx:List ByteArray) (tc:Cap) (k:KD) (L:List Sp) (T:Nat) (r:Nat) (R:Rl) (hR:g.rules[r]?=some R) (hRl:R.parts.length <= 1000) (hn:tx.length <= 1000) (hD:∀ s i j,DD k s i j -> i <= j) :
  ∀ (ps:List Pt) (d i j:Nat) (Mk:List (K4 × Bool)) {h:AHeap},R.parts.drop d=ps -> d <= R.parts.length -> i <= tx.length -> j <= tx.length -> PK base g tx tc k L T Mk h ->
  ACalls PP Gl 93 [.ptr k.ok 0 0,i64 (r:Int),i64 (d:Int),i64 (i:Int),i64 (j:Int)] h (LeadR base g tx tc k L T ps i j h):=by
 intro ps
 induction ps with
 | nil =>
  intro d i j Mk h hd hdl hi hj hk
  have hdd:d=R.parts.length:=by
   have:=List.drop_eq_nil_iff.1 hd; omega
  subst hdd
  obtain ⟨a,b,hch⟩:=hk.ch
  have hpk:=hk.pk
  have hrs:=hk.rs
  simp only [chCells] at hch
  have hfind:amapFind (.agg [i64 (r:Int),i64 (R.parts.length:Int),i64 (i:Int),i64 (j:Int)]) (amapOf encK boolV Mk)=some ((afind Mk ⟨r,R.parts.length,i,j⟩).map boolV):=amapFind_of keyK boolV Mk ⟨r,R.parts.length,i,j⟩
  have hset:∀ b,amapSet (.agg [i64 (r:Int),i64 (R.parts.length:Int),i64 (i:Int),i64 (j:Int)]) (.sc (.bool b)) (amapOf encK boolV Mk)=some (amapOf encK boolV (aset Mk ⟨r,R.parts.length,i,j⟩ b)):=fun b=>amapSet_of keyK boolV Mk ⟨r,R.parts.length,i,j⟩ b
  refine enter_earley_packer_leads (by simp) ?_
  cases hf:afind Mk ⟨r,R.parts.length,i,j⟩ with
  | some v =>
   simp -implicitDefEqProofs [code_earley_packer_leads,res_earley_packer_leads,ann_earley_packer_leads,hpk,hrs,hfind,hf,boolV]
   refine ret1 (v:=bl v) (by simp [deferred,dslot]) (by simp [evalRes,evalRes1]) ⟨v,Mk,rfl,?_,hk,But.refl _ _,rfl⟩
   rw [<- hd]; exact hk.memo _ _ hf R hR
  | none =>
   simp -implicitDefEqProofs [code_earley_packer_leads,res_earley_packer_leads,ann_earley_packer_leads,hpk,hrs,hfind,hf,boolV,hch,hR,encR,hset]
   have hdec:decide ((i:Int)=(j:Int))=decide (i=j):=by rw [Bool.eq_iff_iff]; simp; omega
   rw [hdec]
   refine ret1 (v:=bl (decide (i=j))) (by simp [deferred,dslot]) (by simp [evalRes,evalRes1]) ⟨decide (i=j),aset Mk ⟨r,R.parts.length,i,j⟩ (decide (i=j)),rfl,by simp [PX],?_,But.set _ _ _,by simp⟩
   exact hk.memoSet ⟨r,R.parts.length,i,j⟩ (decide (i=j)) (fun R' hR'=>by
    simp only at hR'; rw [hR] at hR'; cases hR'
    simp only; rw [hd]; simp [PX])
 | cons p ps ih =>
  intro d i j Mk h hd hdl hi hj hk
  obtain ⟨hp,hd1⟩:=drop_get hd
  have hdlt:=(List.getElem?_eq_some_iff.1 hp).1
  obtain ⟨a,b,hch⟩:=hk.ch
  have hpk:=hk.pk
  have hrs:=hk.rs
  have hdn:=hk.dn
  simp only [chCells] at hch
  have hfind:amapFind (.agg [i64 (r:Int),i64 (d:Int),i64 (i:Int),i64 (j:Int)]) (amapOf encK boolV Mk)=some ((afind Mk ⟨r,d,i,j⟩).map boolV):=amapFind_of keyK boolV Mk ⟨r,d,i,j⟩
  have hset:∀ Mk b,amapSet (.agg [i64 (r:Int),i64 (d:Int),i64 (i:Int),i64 (j:Int)]) (.sc (.bool b)) (amapOf encK boolV Mk)=some (amapOf encK boolV (aset Mk ⟨r,d,i,j⟩ b)):=fun Mk b=>amapSet_of keyK boolV Mk ⟨r,d,i,j⟩ b
  have hdno:¬ (d:Int)=R.parts.length:=by omega
  have wd:IntKind.i64.wrap ((d:Int)+1)=(d:Int)+1:=IntWalk.i64_in _ (by omega)
  have hold:∀ (Mk':List (K4 × Bool)) (H':AHeap) (v:Bool),PK base g tx tc k L T Mk' H' -> But k.orest h H' -> H'.length=h.length -> (v=true ↔ PX (DD k) tx (p :: ps) i j) ->
    LeadR base g tx tc k L T (p :: ps) i j h (.ret (bl v)) (H'.set k.orest (.amap (amapOf encK boolV (aset Mk' ⟨r,d,i,j⟩ v)))):=fun Mk' H' v h1 h2 h3 h4 =>
   ⟨v,_,rfl,h4,h1.memoSet ⟨r,d,i,j⟩ v (fun R' hR'=>by
    simp only at hR'; rw [hR] at hR'; cases hR'
    simp only; rw [hd]; exact h4),h2.trans (But.set _ _ _),by simpa using h3⟩
  refine enter_earley_packer_leads (by simp) ?_
  cases hf:afind Mk ⟨r,d,i,j⟩ with
  | some v =>
   simp -implicitDefEqProofs [code_earley_packer_leads,res_earley_packer_leads,ann_earley_packer_leads,hpk,hrs,hfind,hf,boolV]
   refine ret1 (v:=bl v) (by simp [deferred,dslot]) (by simp [evalRes,evalRes1]) ⟨v,Mk,rfl,?_,hk,But.refl _ _,rfl⟩
   rw [<- hd]; exact hk.memo _ _ hf R hR
  | none =>
   by_cases hps:p.sort=⟨#[]⟩
   .have hpx:PX (DD k) tx (p :: ps) i j ↔ tx[i]?=some p.sym /\ PX (DD k) tx ps (i+1) j:=by simp [PX,hps,emp]
    by_cases hij:i < j
    .have hije:(i:Int) < j:=by omega
     obtain ⟨t,ht⟩:∃ t,tx[i]?=some t:=⟨tx[i]'(by omega),by simp⟩
     by_cases hts:t=p.sym
     .have wi:IntKind.i64.wrap ((i:Int)+1)=(i:Int)+1:=IntWalk.i64_in _ (by omega)
      simp -implicitDefEqProofs [code_earley_packer_leads,res_earley_packer_leads,ann_earley_packer_leads,hpk,hrs,hfind,hf,boolV,hch,hR,encR,hdno,hp,encP,hps,hij,hije,ht,hts,sv,wd,wi]
      refine callr (ih (d+1) (i+1) j Mk (h:=h) hd1 (by omega) (by omega) hj hk) (by simp) rfl ?_
      rintro r1 H' ⟨b',Mk',rfl,y1,y2,y3,y4⟩
      have hpk':=y2.pk
      have hrs':=y2.rs
      simp -implicitDefEqProofs [hpk',hrs',hset]
      exact ret1 (v:=bl b') (by simp [deferred,dslot]) (by simp [evalRes,evalRes1]) (hold Mk' H' b' y2 y3 y4 (by rw [hpx,ht,y1]; simp [hts]))
     .simp -implicitDefEqProofs [code_earley_packer_leads,res_earley_packer_leads,ann_earley_packer_leads,hpk,hrs,hfind,hf,boolV,hch,hR,encR,hdno,hp,encP,hps,hij,hije,ht,hts,sv,hset]
      exact ret1 (v:=bl false) (by simp [deferred,dslot]) (by simp [evalRes,evalRes1]) (hold Mk h false hk (But.refl _ _) rfl (by rw [hpx,ht]; simp [hts]))
    .have hije:¬ (i:Int) < j:=by omega
     simp -implicitDefEqProofs [code_earley_packer_leads,res_earley_packer_leads,ann_earley_packer_leads,hpk,hrs,hfind,hf,boolV,hch,hR,encR,hdno,hp,encP,hps,hij,hije,hset]
     exact ret1 (v:=bl false) (by simp [deferred,dslot]) (by simp [evalRes,evalRes1]) (hold Mk h false hk (But.refl _ _) rfl (by
      rw [hpx]; simp; intro _ h2; have:=PX_le2 hD h2; omega))
   .simp -implicitDefEqProofs [code_earley_packer_leads,res_earley_packer_leads,ann_earley_packer_leads,hpk,hrs,hfind,hf,boolV,hch,hR,encR,hdno,hp,encP,hps]
    refine AWp.till (S:=LS) ⟨i,false,Mk,h⟩ (fun st=>j+1 - st.e) [0,1,2,3,4,11,16] (fun st=>[(14,bl st.v),(17,i64 (st.e:Int))]) (fun st=>st.H) (LeadI base g tx tc k L T p ps i j h) mixed
     ⟨hk,But.refl _ _,rfl,.inr rfl,Nat.le_refl _,by simp only [Bool.false_eq_true,false_iff]; rintro ⟨m,h1,h2,h3⟩; have:=hD _ _ _ h2; omega⟩ (le_of (by simp [dslot])) rfl ?_
    have hpx:PX (DD k) tx (p :: ps) i j ↔ ∃ m,DD k p.sort i m /\ PX (DD k) tx ps m j:=by simp [PX,hps,emp]
    rintro ⟨e,v,Mk1,H⟩ ⟨z1,z2,z3,z4,z5,z6⟩
    simp only at z1 z2 z3 z4 z5 z6
    obtain ⟨a1,b1,hch1⟩:=z1.ch
    have hpk1:=z1.pk
    have hrs1:=z1.rs
    have hdn1:=z1.dn
    simp only [chCells] at hch1
    have fin:∀ v',(v'=true ↔ PX (DD k) tx (p :: ps) i j) -> LeadR base g tx tc k L T (p :: ps) i j h (.ret (bl v')) (H.set k.orest (.amap (amapOf encK boolV (aset Mk1 ⟨r,d,i,j⟩ v')))):=fun v' hv'=>hold Mk1 H v' z1 z2 z3 hv'
    by_cases hej:e <= j
    .have hee:(e:Int) <= j:=by omega
     cases v with
     | true =>
      simp -implicitDefEqProofs [lp0_earley_packer_leads,hee,hpk1,hrs1,hset]
      refine ret1 (v:=bl true) (by simp [deferred,dslot]) (by simp [evalRes,evalRes1]) (fin true ?_)
      obtain ⟨m,h1,h2,h3⟩:=z6.1 rfl
      simp only [true_iff]; rw [hpx]; exact ⟨m,h2,h3⟩
     | false =>
      have we:IntKind.i64.wrap ((e:Int)+1)=(e:Int)+1:=IntWalk.i64_in _ (by omega)
      have hfd:amapFind (.agg [.sc (.string p.sort),i64 (i:Int),i64 (e:Int)]) (amapOf encSp boolV (tkeys k.D))=some ((afind (tkeys k.D) ⟨p.sort,i,e⟩).map boolV):=amapFind_of keySp boolV (tkeys k.D) ⟨p.sort,i,e⟩
      by_cases hDe:(⟨p.sort,i,e⟩:Sp) ∈ k.D
      .simp -implicitDefEqProofs [lp0_earley_packer_leads,hee,hpk1,hch1,hdn1,hfd,tkeys_find,hDe,boolV,wd]
       refine callr (ih (d+1) e j Mk1 (h:=H) hd1 (by omega) (by omega) hj z1) (by simp) rfl ?_
       rintro r1 H' ⟨b',Mk',rfl,y1,y2,y3,y4⟩
       obtain ⟨a2,b2,hch2⟩:=y2.ch
       have hpk2:=y2.pk
       have hdn2:=y2.dn
       simp only [chCells] at hch2
       simp -implicitDefEqProofs [hpk2,hch2,hdn2,hfd,tkeys_find,hDe,boolV,we]
       refine ⟨⟨e+1,b',Mk',H'⟩,by simp; omega,⟨y2,z2.trans y3,by simp only; omega,.inl (by simp only; omega),by simp only; omega,?_⟩,le_of (by simp [dslot]),rfl⟩
       simp only
       rw [y1]
       constructor
       .intro h1; exact ⟨e,by omega,hDe,h1⟩
       .rintro ⟨m,h1,h2,h3⟩
        by_cases hme:m < e
        .have:=z6.2 ⟨m,hme,h2,h3⟩; cases this
        .have:m=e:=by omega
         subst this; exact h3
      .simp -implicitDefEqProofs [lp0_earley_packer_leads,hee,hpk1,hch1,hdn1,hfd,tkeys_find,hDe,boolV,we]
       refine ⟨⟨e+1,false,Mk1,H⟩,by simp; omega,⟨z1,z2,z3,.inl (by simp only; omega),by simp only; omega,?_⟩,le_of (by simp [dslot]),rfl⟩
       simp only [Bool.false_eq_true,false_iff]
       rintro ⟨m,h1,h2,h3⟩
       by_cases hme:m < e
       .have:=z6.2 ⟨m,hme,h2,h3⟩; cases this
       .have:m=e:=by omega
        subst this; exact hDe h2
    .have hee:¬ (e:Int) <= j:=by omega
     simp -implicitDefEqProofs [lp0_earley_packer_leads,hee,hpk1,hrs1,hset]
     refine ret1 (v:=bl v) (by simp [deferred,dslot]) (by simp [evalRes,evalRes1]) (fin v ?_)
     rw [z6,hpx]
     constructor
     .rintro ⟨m,h1,h2,h3⟩; exact ⟨m,h2,h3⟩
     .rintro ⟨m,h2,h3⟩
      have:=PX_le2 hD h3
      exact ⟨m,by omega,h2,h3⟩
end Go.Apx
end
