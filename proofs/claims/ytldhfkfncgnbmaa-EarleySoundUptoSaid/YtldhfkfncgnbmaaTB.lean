/- Walks: the trees of a node are yielded, one behind the other. -/
import Derived.Test.YtldhfkfncgnbmaaTA
set_option linter.unusedVariables false
set_option linter.unusedSimpArgs false
set_option linter.unnecessarySimpa false
section
namespace Go.Apx
open Go.Proofs
set_option maxRecDepth 4000
mutual
def encU:Tr -> AV
 | .node l ks c=>.agg [.sc (.string l),.sl (if ks=[] then 0 else 2) (encUs ks) (if ks=[] then .nil else c)]
def encUs:List Tr -> List AV
 | []=>[]
 | t :: r=>encU t :: encUs r
end
theorem encUs_map:∀ l,encUs l=l.map encU
 | []=>rfl
 | t :: r=>by simp [encUs,encUs_map r]
@[simp] theorem isPend_encU (t:Tr):(encU t).isPend=false:=by cases t; simp [encU]
def sliceU (xs:List Tr) (c:Cap):AV:=.sl (if xs=[] then 0 else 2) (xs.map encU) (if xs=[] then .nil else c)
theorem encU_eq (l:ByteArray) (ks:List Tr) (c:Cap):encU (.node l ks c)=.agg [.sc (.string l),sliceU ks c]:=by simp [encU,sliceU,encUs_map]
@[simp] theorem one_sliceU (xs:List Tr) (c:Cap):(sliceU xs c).one=true:=rfl
theorem ones_encU (x:Tr):∀ y ∈ (encU x).cells,y.one=true:=by
 cases x; intro y hy; simp [encU_eq,AV.cells,sliceU] at hy; rcases hy with rfl | rfl <;> rfl
theorem cells_encU (x:Tr):(encU x).cells.length=2:=by cases x; simp [encU_eq,AV.cells]
inductive U (g:Gr):RT -> Tr -> Prop
 | mk {r:Int} {R:Rl} {ts:List RT} {xs:List Tr} {c:Cap} (hr:ruleNo g r=some R) (hl:ts.length=xs.length) (h:∀ (i:Nat) (t:RT) (x:Tr),ts[i]?=some t -> xs[i]?=some x -> U g t x):U g (.node r ts) (.node R.label xs c)
def Us (g:Gr) (ts:List RT) (xs:List Tr):Prop:=ts.length=xs.length /\ ∀ (i:Nat) (t:RT) (x:Tr),ts[i]?=some t -> xs[i]?=some x -> U g t x
theorem Us.snoc {g:Gr} {ts:List RT} {xs:List Tr} {t:RT} {x:Tr} (h:Us g ts xs) (hx:U g t x):Us g (ts++[t]) (xs++[x]):=by
 refine ⟨by simp [h.1],fun i a b ha hb=>?_⟩
 have h1:=h.1
 by_cases e:i < ts.length
 .rw [List.getElem?_append_left e] at ha
  rw [List.getElem?_append_left (by omega)] at hb
  exact h.2 i a b ha hb
 .rw [List.getElem?_append_right (by omega)] at ha hb
  rw [<- h1] at hb
  cases hz:i - ts.length with
  | zero=>rw [hz] at ha hb; simp at ha hb; subst ha hb; exact hx
  | succ n=>rw [hz] at ha; simp at ha
def isTok:AObj -> Bool | .tok _=>true | .cells _ cs=>decide (2 <= cs.length) | _=>false
def Kq (b:Nat) (H H':AHeap):Prop:=∀ (z:Nat) (x:AObj),b <= z -> isTok x=false -> H[z]?=some x -> H'[z]?=some x
def Kt (b:Nat) (H H':AHeap):Prop:=∀ (z:Nat) (x:AObj),(z < b \/ isTok x=true) -> H[z]?=some x -> H'[z]?=some x
theorem Kq.refl (b:Nat) (H:AHeap):Kq b H H:=fun _ _ _ _ h=>h
theorem Kq.trans {b:Nat} {H H' H2:AHeap} (h:Kq b H H') (h':Kq b H' H2):Kq b H H2:=fun z x hz hn hx=>h' z x hz hn (h z x hz hn hx)
theorem Kt.trans {b:Nat} {H H' H2:AHeap} (h:Kt b H H') (h':Kt b H' H2):Kt b H H2:=fun z x hz hx=>h' z x hz (h z x hz hx)
theorem Kt.le {b b':Nat} {H H':AHeap} (h:Kt b' H H') (hb:b <= b'):Kt b H H':=fun z x hz hx=>h z x (hz.imp (fun h=>by omega) id) hx
theorem Kp.kt {b:Nat} {H H':AHeap} (h:Kp H H'):Kt b H H':=fun z x _ hx=>h z x hx
theorem Kp.kq {b:Nat} {H H':AHeap} (h:Kp H H'):Kq b H H':=fun z x _ _ hx=>h z x hx
theorem Kt.set {b o:Nat} {H:AHeap} {x y:AObj} (h:b <= o) (hx:H[o]?=some x) (hn:isTok x=false):Kt b H (H.set o y):=fun z u hz hu=>by
 rw [List.getElem?_set_ne]
 .exact hu
 .rintro rfl
  rw [hx] at hu; cases hu
  rcases hz with hz | hz
  .omega
  .rw [hn] at hz; cases hz
structure Con (f:FO) (L:Nat -> List RT) (g:Gr) (oc ol o b:Nat) (J:List RT -> AHeap -> Prop) (D:AHeap -> Prop) (Adm:List RT -> Prop):Prop where
 lm:∀ ts h,J ts h -> LM f L g oc ol h
 lp:∀ ts h,J ts h -> isLoop h o=true
 ge:∀ ts h,J ts h -> b <= h.length
 dge:∀ h,D h -> b <= h.length
 mono:∀ ts h h',J ts h -> Kt b h h' -> b <= h'.length -> J ts h'
 dmono:∀ h h',D h -> Kt b h h' -> b <= h'.length -> D h'
 yield:∀ ts t x h,J ts h -> U g t x -> Adm (ts++[t]) -> AYields PP Gl o [encU x] h (fun r h'=>Kq b h h' /\ h.length <= h'.length /\ ((r=.ret (bl true) /\ J (ts++[t]) h') \/ (r=.ret (bl false) /\ D h')))
def Okd (R:Nat) (J:List RT -> AHeap -> Prop) (ts all:List RT):Prop:=∀ pre t post,all=pre++t :: post -> (∃ h,J (ts++pre) h) -> okR R t=true
def wayL (L:Nat -> List RT) (r:Int) (p:List RT) (ks:List Nat):List RT:=(combos L ks).map fun q=>.node r (p++q)
theorem wayL_cons (L:Nat -> List RT) (r:Int) (p:List RT) (k:Nat) (ks:List Nat):wayL L r p (k :: ks)=(L k).flatMap fun t=>wayL L r (p++[t]) ks:=by
 unfold wayL
 simp only [combos,List.map_flatMap,List.map_map]
 refine flatMap_congr' fun t _=>?_
 refine List.map_congr_left fun q _=>?_
 simp
def WayR (b:Nat) (J:List RT -> AHeap -> Prop) (D:AHeap -> Prop) (ts:List RT) (H:AHeap) (r:AEnd) (H':AHeap):Prop :=
 Kq b H H' /\ H.length <= H'.length /\ ((r=.ret (bl true) /\ J ts H') \/ (r=.ret (bl false) /\ D H'))
def EachR (b:Nat) (J:List RT -> AHeap -> Prop) (D:AHeap -> Prop) (ts:List RT) (H:AHeap) (r:AEnd) (H':AHeap):Prop :=
 r=.ret (.tup []) /\ Kq b H H' /\ H.length <= H'.length /\ (J ts H' \/ D H')
theorem each0_c (ol k:Nat) {h:AHeap}:AEx PP Gl 54 [.ptr ol 0 0,i64 (k:Int)] h (.ret (.fn (.func 85) [] [.ip (.ptr ol 0 0),.ip (i64 (k:Int))])) h:=by
 refine enter_earley_lister_each (by simp) ?_
 simp -implicitDefEqProofs [code_earley_lister_each,res_earley_lister_each,ann_earley_lister_each]
 exact retE (by simp [deferred,dslot]) rfl rfl rfl
theorem appNilL {C:Cx} {k b:Nat} {x y:Opd} {d:Option Nat} {env:Env} {H:AHeap} {K:Env -> AHeap -> Prop} (xs:List AV) (hx:evalOpd C.G env x=some (.sl 0 [] .nil)) (hy:(evalOpd C.G env y).bind (elems H k)=some xs) (hne:xs ≠ []) (hm:xs.length <= maxLenA)
  (hK:K (putD env d (.sl k xs (.tok H.length))) (H++[.tok xs.length])):appW C k b x y d env H K:=by
 unfold appW
 have he:evalOp C.G env H (.append k b x y)=some (.sl k xs (.tok H.length),H++[.tok xs.length]):=by
  simp only [evalOp,hx,hy]; simp [hne,hm]
 rw [he]; exact hK
theorem appNil0 {C:Cx} {k b:Nat} {x y:Opd} {d:Option Nat} {env:Env} {H:AHeap} {K:Env -> AHeap -> Prop} (hx:evalOpd C.G env x=some (.sl 0 [] .nil)) (hy:(evalOpd C.G env y).bind (elems H k)=some [])
  (hK:K (putD env d (.sl 0 [] .nil)) H):appW C k b x y d env H K:=by
 unfold appW
 have he:evalOp C.G env H (.append k b x y)=some (.sl 0 [] .nil,H):=by
  simp only [evalOp,hx,hy]; simp
 rw [he]; exact hK
structure JIn (L:Nat -> List RT) (r:Int) (p:List RT) (ks:List Nat) (b:Nat) (J:List RT -> AHeap -> Prop) (ts:List RT) (h:AHeap) (E:Env) (X:LoopX) (pre:List RT) (H:AHeap):Prop where
 j:J (ts++pre.flatMap fun t=>wayL L r (p++[t]) ks) H
 c:H[h.length]?=some (.cells 0 [bl false])
 q:H[h.length+1]?=some .queue
 lp:H[h.length+2]?=some (.loop E X .ready none)
 kb:Kq b h H
 len:h.length+3 <= H.length
structure DIn (b:Nat) (D:AHeap -> Prop) (h:AHeap) (E:Env) (X:LoopX) (H:AHeap):Prop where
 d:D H
 c:H[h.length]?=some (.cells 0 [bl false])
 q:H[h.length+1]?=some .queue
 lp:H[h.length+2]?=some (.loop E X .done (some .ret))
 kb:Kq b h H
 len:h.length+3 <= H.length
set_option maxHeartbeats 8000000 in
theorem way_c (f:FO) (hf:FoOk f) (hF:fmdF f=true) (L:Nat -> List RT) (g:Gr) (hg:g.rules.length <= 2 ^ 31) (oc ol:Nat) (w:FW) (hkl:w.kids.length <= 1100000) (hkz:∀ k ∈ w.kids,0 <= k /\ k < f.nodes.length /\ Rz f k.toNat)
  (heach:∀ k ∈ (wnF w).2,∀ (o b:Nat) (J:List RT -> AHeap -> Prop) (D:AHeap -> Prop) (Adm:List RT -> Prop),Con f L g oc ol o b J D Adm -> ∀ (ts:List RT) {h:AHeap},J ts h -> Okd g.rules.length J ts (L k) -> (∀ q,q <+: ts++L k -> Adm q) ->
   ACalls PP Gl 85 [.yld o,.ip (.ptr ol 0 0),.ip (i64 (k:Int))] h (EachR b J D (ts++L k) h))
  (o b:Nat) (J:List RT -> AHeap -> Prop) (D:AHeap -> Prop) (Adm:List RT -> Prop) (hC:Con f L g oc ol o b J D Adm) :
  ∀ (ks:List Nat) (p:List RT) (xs:List Tr) (c:Cap) (ts:List RT) {h:AHeap},c ≠ .nil -> (wnF w).2.drop p.length=ks -> p.length <= (wnF w).2.length -> Us g p xs -> 0 < (combos L ks).length -> J ts h -> Okd g.rules.length J ts (wayL L w.rule p ks) -> (∀ q,q <+: ts++wayL L w.rule p ks -> Adm q) ->
   ACalls PP Gl 86 [.ptr ol 0 0,encFW w,sliceU xs c,.yld o] h (WayR b J D (ts++wayL L w.rule p ks) h):=by
 intro ks
 induction ks with
 | nil =>
  intro p xs c ts h hcn hd hpl hus hcb hJ hok hadm
  have hlen:p.length=w.kids.length:=by
   have:=List.drop_eq_nil_iff.1 hd
   simp [wnF] at this hpl; omega
  have hxl:=hus.1
  have h0:=hok [] (.node w.rule p) [] (by simp [wayL,combos]) ⟨h,by simpa using hJ⟩
  have hr:∃ (r:Nat) (R:Rl),w.rule=(r:Int) /\ r < g.rules.length /\ g.rules[r]?=some R:=by
   simp only [okR,Bool.and_eq_true,decide_eq_true_eq] at h0
   obtain ⟨⟨h1,h2⟩,_⟩:=h0
   exact ⟨w.rule.toNat,g.rules[w.rule.toNat]'(by omega),by omega,by omega,by simp⟩
  obtain ⟨r,R,hr1,hr2,hr3⟩:=hr
  have hlm:=(hC.lm ts h hJ).l
  obtain ⟨H0,hH0⟩:∃ H0,H0=h++[AObj.cells 0 [AV.sc (Value.bool false)]]:=⟨_,rfl⟩
  have kp0:Kp h H0:=by rw [hH0]; exact Kp.app _ _
  have hl0:H0.length=h.length+1:=by rw [hH0]; simp
  have hml:=kp0 _ _ hlm
  have hle:(xs.length:Int)=w.kids.length:=by omega
  refine enter_earley_lister_way (by simp) ?_
  have hr4:g.rules[r]'hr2=R:=(List.getElem?_eq_some_iff.1 hr3).2
  have hge:=hC.ge ts h hJ
  have hJ0:J ts H0:=hC.mono ts h H0 hJ kp0.kt (by omega)
  have hwl:wayL L w.rule p []=[.node w.rule p]:=by simp [wayL,combos]
  have hU:∀ c',U g (.node w.rule p) (.node R.label xs c'):=fun c'=>.mk (by rw [hr1]; simp [ruleNo,hr3]) hxl hus.2
  have h0f:H0[h.length]?=some (.cells 0 [bl false]):=by rw [hH0]; simp
  have hrest:∀ (H1:AHeap),Kp H0 H1 -> ∀ (c':Cap) (r2:AEnd) (H2:AHeap),(Kq b H1 H2 /\ H1.length <= H2.length /\ ((r2=.ret (bl true) /\ J (ts++[.node w.rule p]) H2) \/ (r2=.ret (bl false) /\ D H2))) ->
    ∃ v:Bool,r2=.ret (bl v) /\ H2[h.length]?=some (.cells 0 [bl false]) /\ WayR b J D (ts++wayL L w.rule p []) h (.ret (bl v)) (H2.set h.length (.cells 0 [bl v])):=fun H1 kp1 c' r2 H2 ⟨k1,k2,k3⟩=>by
   have hl1:H0.length <= H1.length:=by
    have:=kp1 h.length _ h0f
    have:=lt_of this; omega
   have hcell:=k1 h.length _ hge rfl (kp1 _ _ h0f)
   have hkb:∀ y,Kq b h (H2.set h.length y):=fun y z x hz hn hx=>by
    have:=lt_of hx
    rw [List.getElem?_set_ne (by omega)]
    exact k1 z x hz hn (kp1 _ _ (kp0 _ _ hx))
   rcases k3 with ⟨rfl,k3⟩ | ⟨rfl,k3⟩
   .refine ⟨true,rfl,hcell,hkb _,by simp; omega,.inl ⟨rfl,?_⟩⟩
    rw [hwl]
    exact hC.mono _ _ _ k3 (Kt.set hge hcell rfl) (by simp; omega)
   .refine ⟨false,rfl,hcell,hkb _,by simp; omega,.inr ⟨rfl,?_⟩⟩
    exact hC.dmono _ _ k3 (Kt.set hge hcell rfl) (by simp; omega)
  by_cases hxe:xs=[]
  .subst hxe
   simp -implicitDefEqProofs [code_earley_lister_way,res_earley_lister_way,ann_earley_lister_way,<- hH0,encFW,sliceU,hle.symm,hml,hr1,hr2,hr3,hr4,encR]
   refine appNil0 (by simp) (by simp [elems]) ?_
   have hyl:=hC.yield ts _ _ H0 hJ0 (hU .any) (hadm _ (by rw [hwl]; exact List.prefix_refl _))
   simp only [encU_eq,sliceU,if_true,List.map_nil] at hyl
   simp -implicitDefEqProofs [hml]
   refine ⟨hC.lp ts H0 hJ0,yieldk hyl ?_⟩
   intro r2 H2 hres
   obtain ⟨v,rfl,hcell,hW⟩:=hrest H0 (fun _ _ h=>h) .any r2 H2 hres
   simp -implicitDefEqProofs [hcell]
   have hg:(H2.set h.length (.cells 0 [bl v]))[h.length]?=some (.cells 0 [bl v]):=List.getElem?_set_self (lt_of hcell)
   rw [<- hr1]
   exact ret1 (v:=bl v) (by simp [deferred,dslot]) (by simp [evalRes,evalRes1,hg]) hW
  .simp -implicitDefEqProofs [code_earley_lister_way,res_earley_lister_way,ann_earley_lister_way,<- hH0,encFW,sliceU,hxe,hle,hml,hr1,hr2,hr3,hr4,encR]
   refine appNilL (xs.map encU) (by simp) (by simp [elems]) (by simpa using hxe) (by simp; unfold maxLenA; omega) ?_
   obtain ⟨H1,hH1⟩:∃ H1,H1=H0++[AObj.tok (xs.map encU).length]:=⟨_,rfl⟩
   have kp1:Kp H0 H1:=by rw [hH1]; exact Kp.app _ _
   have hJ1:J ts H1:=hC.mono ts H0 H1 hJ0 kp1.kt (by rw [hH1]; simp; omega)
   have hml1:=kp1 _ _ hml
   rw [<- hH1]
   have hyl:=hC.yield ts _ _ H1 hJ1 (hU (.tok H0.length)) (hadm _ (by rw [hwl]; exact List.prefix_refl _))
   simp only [encU_eq,sliceU,if_neg hxe] at hyl
   simp -implicitDefEqProofs [hml1]
   refine ⟨hC.lp ts H1 hJ1,yieldk hyl ?_⟩
   intro r2 H2 hres
   obtain ⟨v,rfl,hcell,hW⟩:=hrest H1 kp1 .any r2 H2 hres
   simp -implicitDefEqProofs [hcell]
   have hg:(H2.set h.length (.cells 0 [bl v]))[h.length]?=some (.cells 0 [bl v]):=List.getElem?_set_self (lt_of hcell)
   rw [<- hr1]
   exact ret1 (v:=bl v) (by simp [deferred,dslot]) (by simp [evalRes,evalRes1,hg]) hW
 | cons k ks ih =>
  intro p xs c ts h hcn hd hpl hus hcb hJ hok hadm
  have hxl:=hus.1
  have hkp:(wnF w).2[p.length]?=some k:=by
   have:((wnF w).2.drop p.length)[0]?=some k:=by rw [hd]; rfl
   rw [List.getElem?_drop] at this; simpa using this
  have hpl2:=(List.getElem?_eq_some_iff.1 hkp).1
  have hwk:w.kids[p.length]?=some (k:Int):=by
   simp only [wnF,List.getElem?_map,Option.map_eq_some_iff] at hkp
   obtain ⟨x,hx,hxk⟩:=hkp
   have:=(hkz x (List.mem_of_getElem? hx)).1
   rw [hx]; congr 1; omega
  have hkin:k ∈ (wnF w).2:=List.mem_of_getElem? hkp
  have hd1:(wnF w).2.drop (p.length+1)=ks:=by rw [<- List.drop_drop,hd]; rfl
  have hlw:(wnF w).2.length=w.kids.length:=by simp [wnF]
  have hno:¬ (xs.length:Int)=w.kids.length:=by omega
  have hge:=hC.ge ts h hJ
  obtain ⟨H0,hH0⟩:∃ H0,H0=h++[AObj.cells 0 [AV.sc (Value.bool false)]]:=⟨_,rfl⟩
  have kp0:Kp h H0:=by rw [hH0]; exact Kp.app _ _
  have hl0:H0.length=h.length+1:=by rw [hH0]; simp
  have h0f:H0[h.length]?=some (.cells 0 [bl false]):=by rw [hH0]; simp
  have hwk2:w.kids[xs.length]?=some (k:Int):=by rw [<- hxl]; exact hwk
  have hkc:0 < (L k).length /\ 0 < (combos L ks).length:=by
   rw [combos_len] at hcb
   exact ⟨Nat.pos_of_mul_pos_right hcb,Nat.pos_of_mul_pos_left hcb⟩
  refine enter_earley_lister_way (by simp) ?_
  simp -implicitDefEqProofs [code_earley_lister_way,res_earley_lister_way,ann_earley_lister_way,<- hH0,encFW,sliceU,hno,hwk2]
  refine callk (each0_c ol k) rfl rfl ?_
  simp -implicitDefEqProofs
  refine AWp.rangeF (gf:=85) (fa:=[]) (fb:=[.ip (.ptr ol 0 0),.ip (i64 (k:Int))]) (dl:=[]) rfl (by simp) (by simp [noPend]) (by simp [deferred,dslot]) ?_
  intro X hX
  generalize hE:Env.del _ dslot=E
  have e4:E.get 4=some (.ip (.ptr ol 0 0)):=by rw [<- hE,Env.get_del]; simp [dslot]
  have e5:E.get 5=some (.ip (encFW w)):=by rw [<- hE,Env.get_del]; simp [dslot,encFW]
  have e6:E.get 6=some (.ip (sliceU xs c)):=by rw [<- hE,Env.get_del]; simp [dslot,sliceU]
  have e7:E.get 7=some (.ip (.yld o)):=by rw [<- hE,Env.get_del]; simp [dslot]
  have e8:E.get 8=some (.ptr h.length 0 0):=by rw [<- hE,Env.get_del]; simp [dslot]
  have ed:E.get dslot=none:=by rw [<- hE,Env.get_del]; simp
  rw [hl0]
  obtain ⟨H1,hH1⟩:∃ H1,H1=H0++[.queue]++[.loop E X .ready none]:=⟨_,rfl⟩
  have kp1:Kp H0 H1:=by rw [hH1,List.append_assoc]; exact Kp.app _ _
  have hl1:H1.length=h.length+3:=by rw [hH1]; simp; omega
  have hq1:H1[h.length+1]?=some .queue:=by rw [hH1,List.append_assoc,<- hl0]; simp
  have hlp1:H1[h.length+2]?=some (.loop E X .ready none):=by rw [hH1,List.append_assoc,show h.length+2=H0.length+1 by omega]; simp
  rw [<- hH1]
  have hall:=wayL_cons L w.rule p k ks
  obtain ⟨W,hW⟩:∃ W:RT -> List RT,W=fun t=>wayL L w.rule (p++[t]) ks:=⟨_,rfl⟩
  have hWne:∀ t,∃ q rest,W t=.node w.rule (p++[t]++q) :: rest:=fun t=>by
   rw [hW]
   show ∃ q rest,wayL L w.rule (p++[t]) ks=_
   unfold wayL
   cases hc:combos L ks with
   | nil=>rw [hc] at hkc; simp at hkc
   | cons q r=>exact ⟨q,_,rfl⟩
  rw [<- hW] at hall
  have hCin:Con f L g oc ol (h.length+2) (h.length+3) (JIn L w.rule p ks b J ts h E X) (DIn b D h E X) (fun q=>q <+: L k):=by
   refine ⟨fun pre H hj=>hC.lm _ _ hj.j,fun pre H hj=>by simp [isLoop,hj.lp],fun pre H hj=>hj.len,fun H hj=>hj.len,fun pre H H' hj hka hlen=>?_,fun H H' hj hka hlen=>?_,?_⟩
   .exact ⟨hC.mono _ _ _ hj.j (hka.le (by omega)) (by omega),hka _ _ (.inl (by omega)) hj.c,hka _ _ (.inl (by omega)) hj.q,hka _ _ (.inl (by omega)) hj.lp,fun z x hz hn hx=>hka z x (.inl (by have:=lt_of hx; omega)) (hj.kb z x hz hn hx),hlen⟩
   .exact ⟨hC.dmono _ _ hj.d (hka.le (by omega)) (by omega),hka _ _ (.inl (by omega)) hj.c,hka _ _ (.inl (by omega)) hj.q,hka _ _ (.inl (by omega)) hj.lp,fun z x hz hn hx=>hka z x (.inl (by have:=lt_of hx; omega)) (hj.kb z x hz hn hx),hlen⟩
   intro pre t x H hj hut hpre
   obtain ⟨post,hpost⟩:=hpre
   have hLk:L k=pre++t :: post:=by rw [<- hpost]; simp
   have hsplit:wayL L w.rule p (k :: ks)=pre.flatMap W++(W t++post.flatMap W):=by rw [hall,hLk]; simp
   refine ayields_of_code (C:=⟨PP,Gl,54,ann_earley_lister_way,H.length,some (h.length+2)⟩) (env:=E) (X:=X) (st:=.ready) (pd:=none) (ps:=[39]) hj.lp hX rfl ed rfl rfl (codeWp_sound mixed ?_)
   have hones:(∀ y:AV,y ∈ (encU x).cells -> y.one=true)=True:=eq_true (ones_encU x)
   simp -implicitDefEqProofs [ra0_earley_lister_way,beginP,hj.lp,hones,cells_encU x]
   refine codeWp_sound mixed ?_
   obtain ⟨HB,hHB⟩:∃ HB,HB=H.set (h.length+2) (.loop E X .busy none):=⟨_,rfl⟩
   have hBl:HB.length=H.length:=by rw [hHB]; simp
   have hlenH:=hj.len
   have hjB:J (ts++pre.flatMap W) HB:=by
    have:=hj.j
    rw [<- hW] at this
    refine hC.mono _ _ _ this ?_ (by omega)
    rw [hHB]; exact Kt.set (by omega) hj.lp rfl
   have hlmB:=(hC.lm _ _ hjB).l
   rw [<- hHB]
   have hx2:∃ lb xk xc,encU x=.agg [.sc (.string lb),sliceU xk xc]:=by cases x with | node lb xk xc=>exact ⟨lb,xk,xc,encU_eq _ _ _⟩
   obtain ⟨lb,xk,xc,hx2⟩:=hx2
   have hB1:HB[h.length]?=some (.cells 0 [bl false]):=by rw [hHB,List.getElem?_set_ne (by omega)]; exact hj.c
   have hB2:HB[h.length+1]?=some .queue:=by rw [hHB,List.getElem?_set_ne (by omega)]; exact hj.q
   have hB3:HB[h.length+2]?=some (.loop E X .busy none):=by rw [hHB,List.getElem?_set_self (by omega)]
   have hBk:Kq b h HB:=fun z y hz hn hy=>by
    have:=lt_of hy
    rw [hHB,List.getElem?_set_ne (by omega)]; exact hj.kb z y hz hn hy
   have hBk3:Kq (h.length+3) H HB:=fun z y hz hn hy=>by rw [hHB,List.getElem?_set_ne (by omega)]; exact hy
   have hokt:Okd g.rules.length J (ts++pre.flatMap W) (wayL L w.rule (p++[t]) ks):=fun pre' t' post' he ⟨H',hJ'⟩=>by
    refine hok (pre.flatMap W++pre') t' (post'++post.flatMap W) ?_ ⟨H',by simpa [List.append_assoc] using hJ'⟩
    rw [hsplit,show W t=pre'++t' :: post' by rw [hW]; exact he]
    simp [List.append_assoc]
   have hadmt:∀ q,q <+: (ts++pre.flatMap W)++wayL L w.rule (p++[t]) ks -> Adm q:=fun q hq=>by
    refine hadm q (hq.trans ?_)
    rw [hsplit,show wayL L w.rule (p++[t]) ks=W t by rw [hW]]
    exact ⟨post.flatMap W,by simp [List.append_assoc]⟩
   have hnxt:ts++(pre++[t]).flatMap W=(ts++pre.flatMap W)++wayL L w.rule (p++[t]) ks:=by rw [show wayL L w.rule (p++[t]) ks=W t by rw [hW]]; simp [List.append_assoc]
   have hihc:∀ (HT:AHeap) (c':Cap),c' ≠ .nil -> Kp HB HT -> ACalls PP Gl 86 [.ptr ol 0 0,encFW w,sliceU (xs++[x]) c',.yld o] HT (WayR b J D ((ts++pre.flatMap W)++wayL L w.rule (p++[t]) ks) HT):=fun HT c' hc' hk=>by
    have hlt:HB.length <= HT.length:=by
     have h1:HB[HB.length - 1]?=some (HB[HB.length - 1]'(by omega)):=by simp
     have:=lt_of (hk _ _ h1); omega
    refine ih (p++[t]) (xs++[x]) c' (ts++pre.flatMap W) hc' (by simpa using hd1) (by simp; omega) (hus.snoc hut) hkc.2 (hC.mono _ _ _ hjB hk.kt (by omega)) hokt hadmt
   have hback:∀ (HT:AHeap) (r3:AEnd) (H3:AHeap),Kp HB HT -> WayR b J D ((ts++pre.flatMap W)++wayL L w.rule (p++[t]) ks) HT r3 H3 ->
     H3[h.length+2]?=some (.loop E X .busy none) /\ H3[h.length]?=some (.cells 0 [bl false]) /\
     ((r3=.ret (bl true) /\ Kq (h.length+3) H (H3.set (h.length+2) (.loop E X .ready none)) /\ H.length <= (H3.set (h.length+2) (.loop E X .ready none)).length /\ JIn L w.rule p ks b J ts h E X (pre++[t]) (H3.set (h.length+2) (.loop E X .ready none))) \/
      (r3=.ret (bl false) /\ Kq (h.length+3) H ((H3.set h.length (.cells 0 [bl false])).set (h.length+2) (.loop E X .done (some .ret))) /\ H.length <= ((H3.set h.length (.cells 0 [bl false])).set (h.length+2) (.loop E X .done (some .ret))).length /\
       DIn b D h E X ((H3.set h.length (.cells 0 [bl false])).set (h.length+2) (.loop E X .done (some .ret))))):=fun HT r3 H3 hk ⟨k1,k2,k3⟩=>by
    have hlt:HB.length <= HT.length:=by
     have h1:HB[HB.length - 1]?=some (HB[HB.length - 1]'(by omega)):=by simp
     have:=lt_of (hk _ _ h1); omega
    have g1:=k1 _ _ (by omega) rfl (hk _ _ hB1)
    have g2:=k1 _ _ (by omega) rfl (hk _ _ hB2)
    have g3:=k1 _ _ (by omega) rfl (hk _ _ hB3)
    have g4:Kq b h H3:=fun z y hz hn hy=>k1 z y hz hn (hk _ _ (hBk z y hz hn hy))
    have g5:Kq (h.length+3) H H3:=fun z y hz hn hy=>k1 z y (by omega) hn (hk _ _ (hBk3 z y hz hn hy))
    refine ⟨g3,g1,?_⟩
    rcases k3 with ⟨rfl,k3⟩ | ⟨rfl,k3⟩
    .refine .inl ⟨rfl,fun z y hz hn hy=>by rw [List.getElem?_set_ne (by omega)]; exact g5 z y hz hn hy,by simp; omega,?_,?_,?_,?_,fun z y hz hn hy=>?_,by simp; omega⟩
     .rw [<- hW,hnxt]
      exact hC.mono _ _ _ k3 (Kt.set (by omega) g3 rfl) (by simp; omega)
     .rw [List.getElem?_set_ne (by omega)]; exact g1
     .rw [List.getElem?_set_ne (by omega)]; exact g2
     .rw [List.getElem?_set_self (lt_of g3)]
     .have:=lt_of hy
      rw [List.getElem?_set_ne (by omega)]; exact g4 z y hz hn hy
    .refine .inr ⟨rfl,fun z y hz hn hy=>by rw [List.getElem?_set_ne (by omega),List.getElem?_set_ne (by omega)]; exact g5 z y hz hn hy,by simp; omega,?_,?_,?_,?_,fun z y hz hn hy=>?_,by simp; omega⟩
     .exact hC.dmono _ _ k3 ((Kt.set (by omega) g1 rfl).trans (Kt.set (by omega) (by rw [List.getElem?_set_ne (by omega)]; exact g3) rfl)) (by simp; omega)
     .rw [List.getElem?_set_ne (by omega),List.getElem?_set_self (lt_of g1)]
     .rw [List.getElem?_set_ne (by omega),List.getElem?_set_ne (by omega)]; exact g2
     .rw [List.getElem?_set_self (by simp; exact lt_of g3)]
     .have:=lt_of hy
      rw [List.getElem?_set_ne (by omega),List.getElem?_set_ne (by omega)]; exact g4 z y hz hn hy
   have htk:List.take xs.length (xs.map encU)=xs.map encU:=List.take_of_length_le (by simp)
   by_cases hxe:xs=[]
   .subst hxe
    have hs6:sliceU [] c=.sl 0 [] .nil:=rfl
    simp -implicitDefEqProofs [rb0_earley_lister_way,e4,e5,e6,e7,e8,hs6,hx2,encFW]
    refine appNil (encU x) (by simp) (by simp [elems,hx2]) ?_
    simp -implicitDefEqProofs
    refine callr (hihc (HB++[.tok 1]) (.tok HB.length) (by simp) (Kp.app _ _)) (by simp [encFW,sliceU,hx2]) rfl ?_
    intro r3 H3 hres
    obtain ⟨g3,g1,⟨rfl,hq⟩ | ⟨rfl,hq⟩⟩:=hback _ r3 H3 (Kp.app _ _) hres
    .simp -implicitDefEqProofs [roundP,g3]
     exact ⟨hq.1,by simpa using hq.2.1,hq.2.2⟩
    .have g4:(H3.set h.length (.cells 0 [bl false]))[h.length+2]?=some (.loop E X .busy none):=by rw [List.getElem?_set_ne (by omega)]; exact g3
     simp -implicitDefEqProofs [roundP,e8,g3,g1,g4]
     exact ⟨hq.1,by simpa using hq.2.1,hq.2.2⟩
   .have hs6:sliceU xs c=.sl 2 (xs.map encU) c:=by simp [sliceU,hxe]
    simp -implicitDefEqProofs [rb0_earley_lister_way,e4,e5,e6,e7,e8,hs6,hx2,encFW,hxe,hcn,htk]
    refine appFull (xs.map encU) [encU x] (by simp) (by simp [elems,hx2]) (by simp) (by simp; unfold maxLenA; omega) ?_
    simp -implicitDefEqProofs
    have hn1:xs++[x] ≠ []:=by simp
    refine callr (hihc (HB++[.tok (xs.length+1)]) (.tok HB.length) (by simp) (Kp.app _ _)) (by simp [encFW,sliceU,hx2]) (by simp) ?_
    intro r3 H3 hres
    obtain ⟨g3,g1,⟨rfl,hq⟩ | ⟨rfl,hq⟩⟩:=hback _ r3 H3 (Kp.app _ _) hres
    .simp -implicitDefEqProofs [roundP,g3]
     exact ⟨hq.1,by simpa using hq.2.1,hq.2.2⟩
    .have g4:(H3.set h.length (.cells 0 [bl false]))[h.length+2]?=some (.loop E X .busy none):=by rw [List.getElem?_set_ne (by omega)]; exact g3
     simp -implicitDefEqProofs [roundP,e8,g3,g1,g4]
     exact ⟨hq.1,by simpa using hq.2.1,hq.2.2⟩
  have hokin:Okd g.rules.length (JIn L w.rule p ks b J ts h E X) [] (L k):=fun pre t post he ⟨H',hj'⟩=>by
   have hj:=hj'.j
   rw [<- hW] at hj
   obtain ⟨q,rest,hWt⟩:=hWne t
   have:=hok (pre.flatMap W) (.node w.rule (p++[t]++q)) (rest++post.flatMap W) (by rw [hall,he]; simp [hWt]) ⟨H',by simpa using hj⟩
   simp only [okR,Bool.and_eq_true] at this
   exact oksR_all.1 this.2 t (by simp)
  have hj0:JIn L w.rule p ks b J ts h E X [] H1:=⟨by simpa using (hC.mono ts h H1 hJ (kp0.trans kp1).kt (by omega)),kp1 _ _ h0f,hq1,hlp1,(kp0.trans kp1).kq,by omega⟩
  have hec:=heach k hkin (h.length+2) (h.length+3) _ _ _ hCin [] (h:=H1) hj0 hokin (fun q hq=>by simpa using hq)
  refine iterk ⟨_,hec,fun _ _ h=>h⟩ rfl rfl ?_
  rintro r2 H3 ⟨rfl,k1,k2,hres⟩
  have hkb0:∀ (H':AHeap) (x y z:AObj),Kq b h H' -> Kq b h (((H'.set (h.length+2) x).set h.length y).set (h.length+1) z):=fun H' x y z hk a u ha hn hu=>by
   have:=lt_of hu
   rw [List.getElem?_set_ne (by omega),List.getElem?_set_ne (by omega),List.getElem?_set_ne (by omega)]; exact hk a u ha hn hu
  have hka0:∀ (H':AHeap) (x y z a1 a2 a3:AObj),H'[h.length+2]?=some a1 -> isTok a1=false -> H'[h.length]?=some a2 -> isTok a2=false -> H'[h.length+1]?=some a3 -> isTok a3=false -> Kt b H' (((H'.set (h.length+2) x).set h.length y).set (h.length+1) z):=fun H' x y z a1 a2 a3 p1 q1 p2 q2 p3 q3 =>
   ((Kt.set (by omega) p1 q1).trans (Kt.set (by omega) (by rw [List.getElem?_set_ne (by omega)]; exact p2) q2)).trans (Kt.set (by omega) (by rw [List.getElem?_set_ne (by omega),List.getElem?_set_ne (by omega)]; exact p3) q3)
  rcases hres with hj | hj
  .have hlp:=hj.lp
   have hc3:=hj.c
   have hq3:=hj.q
   have hl3:=hj.len
   have u1:(H3.set (h.length+2) .dead)[h.length]?=some (.cells 0 [bl false]):=by rw [List.getElem?_set_ne (by omega)]; exact hc3
   have u2:((H3.set (h.length+2) .dead).set h.length (.cells 0 [bl true]))[h.length+1]?=some .queue:=by rw [List.getElem?_set_ne (by omega),List.getElem?_set_ne (by omega)]; exact hq3
   have u3:(((H3.set (h.length+2) .dead).set h.length (.cells 0 [bl true])).set (h.length+1) .dead)[h.length]?=some (.cells 0 [bl true]):=by rw [List.getElem?_set_ne (by omega),List.getElem?_set_self (by simp; omega)]
   simp -implicitDefEqProofs [rangeEnd,hlp,dslot,u1]
   refine retDefer [.it (h.length+1)] (by simp [deferred,dslot]) (leaveIt (by simp [isQueue,u2]) ⟨bl true,by simp [evalRes,evalRes1,u3],.inl ⟨hkb0 _ _ _ _ hj.kb,by simp; omega,.inl ⟨rfl,?_⟩⟩⟩)
   have hjj:=hj.j
   rw [<- hW,List.nil_append,<- hall] at hjj
   exact hC.mono _ _ _ hjj (hka0 _ _ _ _ _ _ _ hlp rfl hc3 rfl hq3 rfl) (by simp; omega)
  .have hlp:=hj.lp
   have hc3:=hj.c
   have hq3:=hj.q
   have hl3:=hj.len
   have u2:(H3.set (h.length+2) .dead)[h.length+1]?=some .queue:=by rw [List.getElem?_set_ne (by omega)]; exact hq3
   have u3:((H3.set (h.length+2) .dead).set (h.length+1) .dead)[h.length]?=some (.cells 0 [bl false]):=by rw [List.getElem?_set_ne (by omega),List.getElem?_set_ne (by omega)]; exact hc3
   simp -implicitDefEqProofs [rangeEnd,hlp,dslot]
   refine retDefer [.it (h.length+1)] (by simp [deferred,dslot]) (leaveIt (by simp [isQueue,u2]) ⟨bl false,by simp [evalRes,evalRes1,u3],.inl ⟨fun a u ha hn hu=>?_,by simp; omega,.inr ⟨rfl,?_⟩⟩⟩)
   .have:=lt_of hu
    rw [List.getElem?_set_ne (by omega),List.getElem?_set_ne (by omega)]; exact hj.kb a u ha hn hu
   .exact hC.dmono _ _ hj.d ((Kt.set (by omega) hlp rfl).trans (Kt.set (by omega) (by rw [List.getElem?_set_ne (by omega)]; exact hq3) rfl)) (by simp; omega)
end Go.Apx
end
section
namespace Go.Apx
open Go.Proofs
set_option maxRecDepth 4000
structure YS where
 q:Nat
 H:AHeap
theorem stepL_take {L:Nat -> List RT} {wl:List (Int × List Nat)} {q:Nat} {w:Int × List Nat} (h:wl[q]?=some w):stepL L (wl.take (q+1))=stepL L (wl.take q)++wayL L w.1 [] w.2:=by
 rw [List.take_add_one,h]
 simp [stepL,wayL]
theorem stepL_append {L:Nat -> List RT} (a b:List (Int × List Nat)):stepL L (a++b)=stepL L a++stepL L b:=by simp [stepL]
set_option maxHeartbeats 8000000 in
theorem each_c (f:FO) (hf:FoOk f) (hF:fmdF f=true) (L:Nat -> List RT) (hL:∀ i,Wl (wsF f) i -> L i=stepL L (wsF f i)) (g:Gr) (hg:g.rules.length <= 2 ^ 31) (oc ol:Nat) (i:Nat) (hw:Wl (wsF f) i) :
  i < f.nodes.length -> Rz f i -> ∀ (o b:Nat) (J:List RT -> AHeap -> Prop) (D:AHeap -> Prop) (Adm:List RT -> Prop),Con f L g oc ol o b J D Adm -> ∀ (ts:List RT) {h:AHeap},J ts h -> Okd g.rules.length J ts (L i) -> (∀ q,q <+: ts++L i -> Adm q) ->
   ACalls PP Gl 85 [.yld o,.ip (.ptr ol 0 0),.ip (i64 (i:Int))] h (EachR b J D (ts++L i) h):=by
 induction hw with
 | mk i hwk ih =>
 have hwi:Wl (wsF f) i:=.mk i hwk
 intro hi hrz o b J D Adm hC ts h hJ hok hadm
 obtain ⟨nd,hnd⟩:∃ nd,f.nodes[i]?=some nd:=⟨f.nodes[i],by simp [hi]⟩
 have hnd2:f.nodes[i]'hi=nd:=(List.getElem?_eq_some_iff.1 hnd).2
 have hws:=wsF_at hnd
 have hfn:=hf.n
 have hlm:=hC.lm ts h hJ
 have hml:=hlm.l
 obtain ⟨oS,oT,gS,gT,rS,rT,tr,c1,c2,c3,c4⟩:=hlm.x
 have hLi:=hL i hwi
 refine enter_earley_lister_each_1 (by simp) ?_
 simp -implicitDefEqProofs [code_earley_lister_each_1,res_earley_lister_each_1,ann_earley_lister_each_1,hml,c1,hnd,hnd2,hi,encFN]
 refine AWp.till (S:=YS) ⟨0,h⟩ (fun s=>nd.ways.length - s.q) [0,1,17,18] (fun s=>[(19,i64 (s.q:Int))]) (fun s=>s.H)
  (fun s=>s.q <= nd.ways.length /\ J (ts++stepL L ((wsF f i).take s.q)) s.H /\ Kq b h s.H /\ h.length <= s.H.length) mixed ⟨by simp,by simpa [stepL] using hJ,Kq.refl _ _,Nat.le_refl _⟩ (le_of (by simp [dslot])) rfl ?_
 rintro ⟨q,H⟩ ⟨z1,z2,z3,z4⟩
 simp only at z1 z2 z3 z4
 by_cases hq:q < nd.ways.length
 case neg =>
  have hno:¬ (q:Int) < nd.ways.length:=by omega
  have hqq:(wsF f i).take q=wsF f i:=List.take_of_length_le (by rw [hws]; simp; omega)
  rw [hqq,<- hLi] at z2
  simp -implicitDefEqProofs [lp0_earley_lister_each_1,hno]
  exact ret1 (v:=.tup []) (by simp [deferred,dslot]) (by simp [evalRes]) ⟨rfl,z3,z4,.inl z2⟩
 obtain ⟨w,hwq⟩:∃ w,nd.ways[q]?=some w:=⟨nd.ways[q],by simp [hq]⟩
 have hwq2:nd.ways[q]'hq=w:=(List.getElem?_eq_some_iff.1 hwq).2
 have hwm:=List.mem_of_getElem? hwq
 have hltq:(q:Int) < nd.ways.length:=by omega
 have hne:nd.ways ≠ []:=by intro e; rw [e] at hq; simp at hq
 have wq:=wrap1 (n:=q) (by have:=(hf.ncap nd (List.mem_of_getElem? hnd)).2; omega)
 have hkl:=(hf.wcap nd (List.mem_of_getElem? hnd) w hwm).2
 have hkz:=kid_rz hF hrz hnd hwm
 have hwsq:(wsF f i)[q]?=some (wnF w):=by rw [hws,List.getElem?_map,hwq]; rfl
 have hst:=stepL_take (L:=L) hwsq
 have hlmH:=hC.lm _ _ z2
 have hpe:=prodF_eq L (wnF w).2
 have hcut:∃ rest,stepL L (wsF f i)=stepL L ((wsF f i).take q)++(wayL L (wnF w).1 [] (wnF w).2++rest):=by
  refine ⟨stepL L ((wsF f i).drop (q+1)),?_⟩
  rw [<- List.append_assoc,<- hst]
  have:=stepL_append (L:=L) ((wsF f i).take (q+1)) ((wsF f i).drop (q+1))
  rw [List.take_append_drop] at this; exact this
 obtain ⟨rest,hcut⟩:=hcut
 simp -implicitDefEqProofs [lp0_earley_lister_each_1,hltq,hwq,hwq2,hq,hne,encFW]
 refine callk (product_c f hfn L g oc ol w hkl hkz hlmH) (by simp [encFW]) rfl ?_
 by_cases hp0:prodF (cnt L) (wnF w).2=0
 .have hp0':(prodF (cnt L) (wnF w).2:Int)=0:=by omega
  have hce:combos L (wnF w).2=[]:=List.eq_nil_of_length_eq_zero (by rw [hp0] at hpe; unfold many at hpe; omega)
  have hwe:wayL L (wnF w).1 [] (wnF w).2=[]:=by simp [wayL,hce]
  simp -implicitDefEqProofs [hp0,wq]
  refine ⟨⟨q+1,H⟩,by simp; omega,⟨by simp; omega,?_,z3,z4⟩,le_of (by simp [dslot]),rfl⟩
  simp only; rw [hst,hwe,List.append_nil]; exact z2
 have hp0':¬ (prodF (cnt L) (wnF w).2:Int)=0:=by omega
 have hcb:0 < (combos L (wnF w).2).length:=by rw [hpe] at hp0; omega
 have hokw:Okd g.rules.length J (ts++stepL L ((wsF f i).take q)) (wayL L w.rule [] (wnF w).2):=fun pre t post he ⟨H',hj⟩ =>
  hok (stepL L ((wsF f i).take q)++pre) t (post++rest) (by rw [hLi,hcut,show wayL L (wnF w).1 [] (wnF w).2=pre++t :: post from he]; simp [List.append_assoc]) ⟨H',by simpa [List.append_assoc] using hj⟩
 have hadw:∀ x,x <+: (ts++stepL L ((wsF f i).take q))++wayL L w.rule [] (wnF w).2 -> Adm x:=fun x hx=>by
  refine hadm x (hx.trans ⟨rest,?_⟩)
  rw [hLi,hcut]
  simp [List.append_assoc]; rfl
 have hway:=way_c f hf hF L g hg oc ol w hkl hkz (fun k hk o b J D Adm hC ts h hJ hok hadm=>by
  have hs:Stp (wsF f) i k:=⟨wnF w,List.mem_of_getElem? hwsq,hk⟩
  exact ih k hs (stp_lt hF hs) (hrz.kid hs) o b J D Adm hC ts hJ hok hadm) o b J D Adm hC (wnF w).2 [] [] .any (ts++stepL L ((wsF f i).take q)) (h:=H) (by simp) (by simp) (by simp) ⟨rfl,by simp⟩ hcb z2 hokw hadw
 simp -implicitDefEqProofs [hp0]
 refine callr hway (by simp [encFW,sliceU]) rfl ?_
 rintro r H1 ⟨k1,k2,⟨rfl,k3⟩ | ⟨rfl,k3⟩⟩
 .simp -implicitDefEqProofs [wq]
  refine ⟨⟨q+1,H1⟩,by simp; omega,⟨by simp; omega,?_,z3.trans k1,by simp only; omega⟩,le_of (by simp [dslot]),rfl⟩
  simp only; rw [hst,<- List.append_assoc]; exact k3
 .simp -implicitDefEqProofs
  exact ret1 (v:=.tup []) (by simp [deferred,dslot]) (by simp [evalRes]) ⟨rfl,z3.trans k1,by omega,.inr k3⟩
def labR (g:Gr) (r:Int):ByteArray:=match ruleNo g r with | some R=>R.label | none=>⟨#[]⟩
mutual
def canR (g:Gr):RT -> Tr
 | .node r ts=>.node (labR g r) (canRs g ts) .any
def canRs (g:Gr):List RT -> List Tr
 | []=>[]
 | t :: r=>canR g t :: canRs g r
end
theorem canRs_map (g:Gr):∀ l,canRs g l=l.map (canR g)
 | []=>rfl
 | t :: r=>by simp [canRs,canRs_map g r]
theorem encU_can (g:Gr) (r:Int) (ts:List RT):encU (canR g (.node r ts))=.agg [.sc (.string (labR g r)),grown 2 (ts.map fun t=>encU (canR g t))]:=by
 rw [canR,encU_eq,canRs_map]
 simp only [sliceU,grown,List.map_map]
 cases ts <;> rfl
theorem strip_grown (k:Nat) (es:List AV) (h:stripL es=es):(grown k es).strip=grown k es:=by
 cases es with
 | nil=>rfl
 | cons a l=>simp only [grown,if_neg (List.cons_ne_nil a l),AV.strip,h]; rfl
mutual
theorem strip_can (g:Gr):∀ t:RT,(encU (canR g t)).strip=encU (canR g t)
 | .node r ts=>by
  rw [encU_can]
  simp only [AV.strip,stripL]
  rw [strip_grown 2 _ (strip_cans g ts)]
theorem strip_cans (g:Gr):∀ l:List RT,stripL (l.map fun t=>encU (canR g t))=l.map fun t=>encU (canR g t)
 | []=>rfl
 | t :: r=>by simp only [List.map_cons,stripL,strip_can g t,strip_cans g r]
end
mutual
theorem inb_can (g:Gr) (n:Nat):∀ t:RT,(encU (canR g t)).inb n=true
 | .node r ts=>by
  rw [encU_can]
  simp only [AV.inb,inbL]
  rw [inb_grown n 2 _ (inb_cans g n ts)]; rfl
theorem inb_cans (g:Gr) (n:Nat):∀ l:List RT,inbL n (l.map fun t=>encU (canR g t))=true
 | []=>rfl
 | t :: r=>by simp only [List.map_cons,inbL,inb_can g n t,inb_cans g n r]; rfl
end
theorem len_sizes:∀ ts:List RT,ts.length <= sizesR ts
 | []=>Nat.le_refl _
 | .node r ks :: l=>by
  have:=len_sizes l
  simp only [sizesR,sizeR,List.length_cons]; omega
theorem size_mem {t:RT}:∀ {l:List RT},t ∈ l -> sizeR t <= sizesR l
 | x :: l,h=>by
  simp only [sizesR]
  rcases List.mem_cons.1 h with rfl | h
  .omega
  .have:=size_mem h; omega
structure XS where
 i:Nat
 T:Nat
 H:AHeap
structure XI (g:Gr) (ts:List RT) (l:ByteArray) (h:AHeap) (s:XS):Prop where
 i:s.i <= ts.length
 o:s.H[h.length]?=some (.cells 0 [.sc (.string l),apd 2 ((ts.take s.i).map fun t=>encU (canR g t)) s.T])
 tk:s.i ≠ 0 -> s.H[s.T]?=some (.tok s.i) /\ h.length < s.T
 low:Low h.length h s.H
set_option maxHeartbeats 8000000 in
theorem copied_c (g:Gr) {t:RT} {x:Tr} (hu:U g t x):sizeR t <= 1000000 -> ∀ {h:AHeap},AEx PP Gl 55 [encU x] h (.ret (encU (canR g t))) h:=by
 induction hu with
 | @mk r R ts xs c hr hl hk ih =>
 intro hsz h
 have hlab:labR g r=R.label:=by simp [labR,hr]
 refine enter_earley_copied (by simp) ?_
 rw [encU_eq]
 have hlen:((xs.map encU).length:Int)=ts.length:=by simp [hl]
 simp -implicitDefEqProofs [code_earley_copied,res_earley_copied,ann_earley_copied,sliceU]
 refine AWp.till (S:=XS) ⟨0,0,h++[.cells 0 [.sc (.string R.label),.sl 0 [] .nil]]⟩ (fun s=>ts.length - s.i) [2,3,10,11] (fun s=>[(12,i64 (s.i:Int))]) (fun s=>s.H) (XI g ts R.label h) mixed
  ⟨by simp,by simp,by simp,Low.app _ _ _⟩ (le_of (by simp [dslot])) rfl ?_
 rintro ⟨i,T,H⟩ ⟨z1,z2,z3,z4⟩
 simp only at z1 z2 z3 z4
 by_cases hi:i < ts.length
 case neg =>
  have hno:¬ (i:Int) < xs.length:=by omega
  have hii:ts.take i=ts:=List.take_of_length_le (by omega)
  rw [hii] at z2
  have hfin:(AV.agg [.sc (.string R.label),apd 2 (ts.map fun t=>encU (canR g t)) T]).strip=encU (canR g (.node r ts)):=by
   rw [encU_can,hlab]; simp only [AV.strip,stripL,strip_apd 2 _ _ _ (strip_cans g ts)]
  simp -implicitDefEqProofs [lp0_earley_copied,hno,z2]
  refine retCut (v:=.agg [.sc (.string R.label),apd 2 (ts.map fun t=>encU (canR g t)) T]) h.length (by simp [deferred,dslot]) (by simp [evalRes,evalRes1]) (Nat.le_refl _) (Nat.le_of_lt (lt_of z2)) (by rw [hfin]; exact inb_can g _ _) z4.cl ?_
  rw [z4.take,hfin]
  exact ⟨rfl,rfl⟩
 obtain ⟨t,ht⟩:∃ t,ts[i]?=some t:=⟨ts[i],by simp [hi]⟩
 obtain ⟨x,hx⟩:∃ x,xs[i]?=some x:=⟨xs[i]'(by omega),by simp⟩
 have hx2:xs[i]'(by omega)=x:=(List.getElem?_eq_some_iff.1 hx).2
 have hxne:xs ≠ []:=by intro e; rw [e] at hx; simp at hx
 have hlt:(i:Int) < xs.length:=by omega
 have hix:i < xs.length:=by omega
 have hszl:=len_sizes ts
 have hszm:=size_mem (List.mem_of_getElem? ht)
 simp only [sizeR] at hsz
 have wi:=wrap1 (n:=i) (by omega)
 have hne2:(if xs=[] then 0 else 2)=2:=if_neg hxne
 have hx3:∃ lb xk xc,encU x=.agg [.sc (.string lb),sliceU xk xc]:=by cases x with | node lb xk xc=>exact ⟨lb,xk,xc,encU_eq _ _ _⟩
 obtain ⟨lb,xk,xc,hx3⟩:=hx3
 have hT2:i ≠ 0 -> ∃ q,H[T]?=some (.tok q):=fun hn0=>⟨_,(z3 hn0).1⟩
 have hlk:(ts.take i).length=i:=by simp; omega
 simp -implicitDefEqProofs [lp0_earley_copied,hlt,hix,hx,hx2,hx3,hxne,z2]
 refine callk (ih i t x ht hx (by omega)) (by simp [hx3]) rfl ?_
 have hcan:∃ lt kt,encU (canR g t)=.agg [.sc (.string lt),kt] /\ kt.isPend=false /\ kt.one=true:=by
  cases t with
  | node r' ts'=>exact ⟨_,_,encU_can g r' ts',by simp [grown],by simp [grown]⟩
 obtain ⟨lt,kt,hcan,hk1,hk2⟩:=hcan
 simp -implicitDefEqProofs [z2,hcan,hk1,hk2]
 refine appG ((ts.take i).map fun t=>encU (canR g t)) (encU (canR g t)) T (by simp) (by simp [elems,hcan]) (fun hne=>by
  rw [List.length_map,hlk]
  exact (z3 (fun e=>hne (by rw [e]; simp))).1) (by rw [List.length_map,hlk]; unfold maxLenA; omega) ?_
 rw [List.length_map,hlk]
 obtain ⟨H3,hH3⟩:∃ H3,H3=apG H i T:=⟨_,rfl⟩
 obtain ⟨T2,hTe⟩:∃ T2,T2=apT H i T:=⟨_,rfl⟩
 rw [<- hH3,<- hTe]
 have o3:H3[h.length]?=some (.cells 0 [.sc (.string R.label),apd 2 ((ts.take i).map fun t=>encU (canR g t)) T]):=by rw [hH3]; exact apG_keep hT2 z2 (by simp)
 have htke:(ts.take i).map (fun t=>encU (canR g t))++[encU (canR g t)]=(ts.take (i+1)).map fun t=>encU (canR g t):=by rw [List.take_add_one,ht]; simp
 rw [htke]
 simp -implicitDefEqProofs [o3,wi]
 have hT2H:T2 ≠ h.length:=by
  rw [hTe]; unfold apT
  split
  .have:=lt_of z2; omega
  .rename_i hn0; exact Nat.ne_of_gt (z3 hn0).2
 refine ⟨⟨i+1,T2,H3.set h.length (.cells 0 [.sc (.string R.label),apd 2 ((ts.take (i+1)).map fun t=>encU (canR g t)) T2])⟩,by simp; omega,⟨by simp; omega,?_,fun _=>⟨?_,?_⟩,?_⟩,le_of (by simp [dslot]),by simp⟩
 .simp only; rw [List.getElem?_set_self (lt_of o3)]
 .simp only
  rw [List.getElem?_set_ne (fun e=>hT2H e.symm),hH3,hTe,apG_tok hT2]
 .simp only
  rw [hTe]; unfold apT
  split
  .exact lt_of z2
  .rename_i hn0; exact (z3 hn0).2
 .exact z4.trans ((show Low h.length H H3 by rw [hH3]; exact Low.apG fun hn0=>Nat.le_of_lt (z3 hn0).2).trans (Low.set (Nat.le_refl _)))
end Go.Apx
end
section
namespace Go.Apx
open Go.Proofs
set_option maxRecDepth 4000
def bigR (t:RT):Bool:=decide (4000 < sizeR t)
def dpR (t:RT):Bool:=decide (100 < deepR t)
def treesE (R:Nat) (ts:List RT):Int:=if ts.all (okR R)=true then (if ts.any bigR=true then 4 else if ts.any dpR=true then 9 else 0) else 2
def TrE (g:Gr) (f:FO) (L:Nat -> List RT) (most e:Int):Prop :=
 (checkF g ≠ 0 /\ e=checkF g) \/ (checkF g=0 /\ (((fmdF f=false \/ f.nodes.length=0) /\ e=2) \/ (fmdF f=true /\ 0 < f.nodes.length /\ ((¬ Wl (wsF f) 0 /\ e=161) \/
  (Wl (wsF f) 0 /\ (((most < 0 \/ 200 < most) /\ e=3) \/ (0 <= most /\ most <= 200 /\ e=treesE g.rules.length ((L 0).take most.toNat))))))))
theorem any_take {α:Type} {p:α -> Bool} {l:List α} {i:Nat} {x:α} (h:l[i]?=some x):(l.take (i+1)).any p=((l.take i).any p || p x):=by
 rw [List.take_add_one,h]; simp [List.any_append]
end Go.Apx
end
