/- Walks: the trees of a node are yielded, one behind the other. -/
import Derived.Test.YtldhfkfncgnbmaaTA
section
namespace Go.Apx
open Go.Proofs
set_option maxRecDepth 4000
mutual
def encU:Tr -> AV
 | .node l ks c=>.agg [.sc (.string l),.sl (if ks=[] then 0 else 2) (encUs ks) (if ks=[] then .nil else c)]
def encUs:List Tr -> List AV
 | []=>[]
 | t :: r=>encU t :: encUs r
end
theorem encUs_map:∀ l,encUs l=l.map encU
 | []=>rfl
 | t :: r=>by simp [encUs,encUs_map r]
@[simp] theorem isPend_encU (t:Tr):(encU t).isPend=false:=by cases t; simp [encU]
def sliceU (xs:List Tr) (c:Cap):AV:=.sl (if xs=[] then 0 else 2) (xs.map encU) (if xs=[] then .nil else c)
theorem encU_eq (l:ByteArray) (ks:List Tr) (c:Cap):encU (.node l ks c)=.agg [.sc (.string l),sliceU ks c]:=by simp [encU,sliceU,encUs_map]
@[simp] theorem one_sliceU (xs:List Tr) (c:Cap):(sliceU xs c).one=true:=rfl
theorem ones_encU (x:Tr):∀ y ∈ (encU x).cells,y.one=true:=by
 cases x; intro y hy; simp [encU_eq,AV.cells,sliceU] at hy; rcases hy with rfl | rfl <;> rfl
theorem cells_encU (x:Tr):(encU x).cells.length=2:=by cases x; simp [encU_eq,AV.cells]
inductive U (g:Gr):RT -> Tr -> Prop
 | mk {r:Int} {R:Rl} {ts:List RT} {xs:List Tr} {c:Cap} (hr:ruleNo g r=some R) (hl:ts.length=xs.length) (h:∀ (i:Nat) (t:RT) (x:Tr),ts[i]?=some t -> xs[i]?=some x -> U g t x):U g (.node r ts) (.node R.label xs c)
def Us (g:Gr) (ts:List RT) (xs:List Tr):Prop:=ts.length=xs.length /\ ∀ (i:Nat) (t:RT) (x:Tr),ts[i]?=some t -> xs[i]?=some x -> U g t x
theorem Us.snoc {g:Gr} {ts:List RT} {xs:List Tr} {t:RT} {x:Tr} (h:Us g ts xs) (hx:U g t x):Us g (ts++[t]) (xs++[x]):=by
 refine ⟨by simp [h.1],fun i a b ha hb=>?_⟩
 have h1:=h.1
 by_cases e:i < ts.length
 .rw [List.getElem?_append_left e] at ha
  rw [List.getElem?_append_left (by omega)] at hb
  exact h.2 i a b ha hb
 .rw [List.getElem?_append_right (by omega)] at ha hb
  rw [<- h1] at hb
  cases hz:i - ts.length with
  | zero=>rw [hz] at ha hb; simp at ha hb; subst ha hb; exact hx
  | succ n=>rw [hz] at ha; simp at ha
def isTok:AObj -> Bool | .tok _=>true | .cells _ cs=>decide (2 <= cs.length) | _=>false
def Kq (b:Nat) (H H':AHeap):Prop:=∀ (z:Nat) (x:AObj),b <= z -> isTok x=false -> H[z]?=some x -> H'[z]?=some x
def Kt (b:Nat) (H H':AHeap):Prop:=∀ (z:Nat) (x:AObj),(z < b \/ isTok x=true) -> H[z]?=some x -> H'[z]?=some x
theorem Kq.refl (b:Nat) (H:AHeap):Kq b H H:=fun _ _ _ _ h=>h
theorem Kq.trans {b:Nat} {H H' H2:AHeap} (h:Kq b H H') (h':Kq b H' H2):Kq b H H2:=fun z x hz hn hx=>h' z x hz hn (h z x hz hn hx)
theorem Kt.trans {b:Nat} {H H' H2:AHeap} (h:Kt b H H') (h':Kt b H' H2):Kt b H H2:=fun z x hz hx=>h' z x hz (h z x hz hx)
theorem Kt.le {b b':Nat} {H H':AHeap} (h:Kt b' H H') (hb:b <= b'):Kt b H H':=fun z x hz hx=>h z x (hz.imp (fun h=>by omega) id) hx
theorem Kp.kt {b:Nat} {H H':AHeap} (h:Kp H H'):Kt b H H':=fun z x _ hx=>h z x hx
theorem Kp.kq {b:Nat} {H H':AHeap} (h:Kp H H'):Kq b H H':=fun z x _ _ hx=>h z x hx
theorem Kt.set {b o:Nat} {H:AHeap} {x y:AObj} (h:b <= o) (hx:H[o]?=some x) (hn:isTok x=false):Kt b H (H.set o y):=fun z u hz hu=>by
 rw [List.getElem?_set_ne]
 .exact hu
 .rintro rfl
  rw [hx] at hu; cases hu
  rcases hz with hz | hz
  .omega
  .rw [hn] at hz; cases hz
structure Con (f:FO) (L:Nat -> List RT) (g:Gr) (oc ol o b:Nat) (J:List RT -> AHeap -> Prop) (D:AHeap -> Prop) (Adm:List RT -> Prop):Prop where
 lm:∀ ts h,J ts h -> LM f L g oc ol h
 lp:∀ ts h,J ts h -> isLoop h o=true
 ge:∀ ts h,J ts h -> b <= h.length
 dge:∀ h,D h -> b <= h.length
 mono:∀ ts h h',J ts h -> Kt b h h' -> b <= h'.length -> J ts h'
 dmono:∀ h h',D h -> Kt b h h' -> b <= h'.length -> D h'
 yield:∀ ts t x h,J ts h -> U g t x -> Adm (ts++[t]) -> AYields PP Gl o [encU x] h (fun r h'=>Kq b h h' /\ h.length <= h'.length /\ ((r=.ret (bl true) /\ J (ts++[t]) h') \/ (r=.ret (bl false) /\ D h')))
def Okd (R:Nat) (J:List RT -> AHeap -> Prop) (ts all:List RT):Prop:=∀ pre t post,all=pre++t :: post -> (∃ h,J (ts++pre) h) -> okR R t=true
def wayL (L:Nat -> List RT) (r:Int) (p:List RT) (ks:List Nat):List RT:=(combos L ks).map fun q=>.node r (p++q)
theorem wayL_cons (L:Nat -> List RT) (r:Int) (p:List RT) (k:Nat) (ks:List Nat):wayL L r p (k :: ks)=(L k).flatMap fun t=>wayL L r (p++[t]) ks:=by
 unfold wayL
 simp only [combos,List.map_flatMap,List.map_map]
 refine flatMap_congr' fun t _=>?_
 refine List.map_congr_left fun q _=>?_
 simp
def WayR (b:Nat) (J:List RT -> AHeap -> Prop) (D:AHeap -> Prop) (ts:List RT) (H:AHeap) (r:AEnd) (H':AHeap):Prop :=
 Kq b H H' /\ H.length <= H'.length /\ ((r=.ret (bl true) /\ J ts H') \/ (r=.ret (bl false) /\ D H'))
def EachR (b:Nat) (J:List RT -> AHeap -> Prop) (D:AHeap -> Prop) (ts:List RT) (H:AHeap) (r:AEnd) (H':AHeap):Prop :=
 r=.ret (.tup []) /\ Kq b H H' /\ H.length <= H'.length /\ (J ts H' \/ D H')
theorem each0_c (ol k:Nat) {h:AHeap}:AEx PP Gl 54 [.ptr ol 0 0,i64 (k:Int)] h (.ret (.fn (.func 85) [] [.ip (.ptr ol 0 0),.ip (i64 (k:Int))])) h:=by
 refine enter_earley_lister_each (by simp) ?_
 simp -implicitDefEqProofs [code_earley_lister_each,res_earley_lister_each,ann_earley_lister_each]
 exact retE (by simp [deferred,dslot]) rfl rfl rfl
theorem appNilL {C:Cx} {k b:Nat} {x y:Opd} {d:Option Nat} {env:Env} {H:AHeap} {K:Env -> AHeap -> Prop} (xs:List AV) (hx:evalOpd C.G env x=some (.sl 0 [] .nil)) (hy:(evalOpd C.G env y).bind (elems H k)=some xs) (hne:xs ≠ []) (hm:xs.length <= maxLenA)
  (hK:K (putD env d (.sl k xs (.tok H.length))) (H++[.tok xs.length])):appW C k b x y d env H K:=by
 unfold appW
 have he:evalOp C.G env H (.append k b x y)=some (.sl k xs (.tok H.length),H++[.tok xs.length]):=by
  simp only [evalOp,hx,hy]; simp [hne,hm]
 rw [he]; exact hK
theorem appNil0 {C:Cx} {k b:Nat} {x y:Opd} {d:Option Nat} {env:Env} {H:AHeap} {K:Env -> AHeap -> Prop} (hx:evalOpd C.G env x=some (.sl 0 [] .nil)) (hy:(evalOpd C.G env y).bind (elems H k)=some [])
  (hK:K (putD env d (.sl 0 [] .nil)) H):appW C k b x y d env H K:=by
 unfold appW
 have he:evalOp C.G env H (.append k b x y)=some (.sl 0 [] .nil,H):=by
  simp only [evalOp,hx,hy]; simp
 rw [he]; exact hK
structure JIn (L:Nat -> List RT) (r:Int) (p:List RT) (ks:List Nat) (b:Nat) (J:List RT -> AHeap -> Prop) (ts:List RT) (h:AHeap) (E:Env) (X:LoopX) (pre:List RT) (H:AHeap):Prop where
 j:J (ts++pre.flatMap fun t=>wayL L r (p++[t]) ks) H
 c:H[h.length]?=some (.cells 0 [bl false])
 q:H[h.length+1]?=some .queue
 lp:H[h.length+2]?=some (.loop E X .ready none)
 kb:Kq b h H
 len:h.length+3 <= H.length
structure DIn (b:Nat) (D:AHeap -> Prop) (h:AHeap) (E:Env) (X:LoopX) (H:AHeap):Prop where
 d:D H
 c:H[h.length]?=some (.cells 0 [bl false])
 q:H[h.length+1]?=some .queue
 lp:H[h.length+2]?=some (.loop E X .done (some .ret))
 kb:Kq b h H
 len:h.length+3 <= H.length
set_option maxHeartbeats 8000000 in
theorem way_c (f:FO) (hf:FoOk f) (hF:fmdF f=true) (L:Nat -> List RT) (g:Gr) (hg:g.rules.length <= 2 ^ 31) (oc ol:Nat) (w:FW) (hkl:w.kids.length <= 1100000) (hkz:∀ k ∈ w.kids,0 <= k /\ k < f.nodes.length /\ Rz f k.toNat)
  (heach:∀ k ∈ (wnF w).2,∀ (o b:Nat) (J:List RT -> AHeap -> Prop) (D:AHeap -> Prop) (Adm:List RT -> Prop),Con f L g oc ol o b J D Adm -> ∀ (ts:List RT) {h:AHeap},J ts h -> Okd g.rules.length J ts (L k) -> (∀ q,q <+: ts++L k -> Adm q) ->
   ACalls PP Gl 85 [.yld o,.ip (.ptr ol 0 0),.ip (i64 (k:Int))] h (EachR b J D (ts++L k) h))
  (o b:Nat) (J:List RT -> AHeap -> Prop) (D:AHeap -> Prop) (Adm:List RT -> Prop) (hC:Con f L g oc ol o b J D Adm) :
  ∀ (ks:List Nat) (p:List RT) (xs:List Tr) (c:Cap) (ts:List RT) {h:AHeap},c ≠ .nil -> (wnF w).2.drop p.length=ks -> p.length <= (wnF w).2.length -> Us g p xs -> 0 < (combos L ks).length -> J ts h -> Okd g.rules.length J ts (wayL L w.rule p ks) -> (∀ q,q <+: ts++wayL L w.rule p ks -> Adm q) ->
   ACalls PP Gl 86 [.ptr ol 0 0,encFW w,sliceU xs c,.yld o] h (WayR b J D (ts++wayL L w.rule p ks) h):=by
 intro ks
 induction ks with
 | nil =>
  intro p xs c ts h hcn hd hpl hus hcb hJ hok hadm
  have hlen:p.length=w.kids.length:=by
   have:=List.drop_eq_nil_iff.1 hd
   simp [wnF] at this hpl; omega
  have hxl:=hus.1
  have h0:=hok [] (.node w.rule p) [] (by simp [wayL,combos]) ⟨h,by simpa using hJ⟩
  have hr:∃ (r:Nat) (R:Rl),w.rule=(r:Int) /\ r < g.rules.length /\ g.rules[r]?=some R:=by
   simp only [okR,Bool.and_eq_true,decide_eq_true_eq] at h0
   obtain ⟨⟨h1,h2⟩,_⟩:=h0
   exact ⟨w.rule.toNat,g.rules[w.rule.toNat]'(by omega),by omega,by omega,by simp⟩
  obtain ⟨r,R,hr1,hr2,hr3⟩:=hr
  have hlm:=(hC.lm ts h hJ).l
  obtain ⟨H0,hH0⟩:∃ H0,H0=h++[AObj.cells 0 [AV.sc (Value.bool false)]]:=⟨_,rfl⟩
  have kp0:Kp h H0:=by rw [hH0]; exact Kp.app _ _
  have hl0:H0.length=h.length+1:=by rw [hH0]; simp
  have hml:=kp0 _ _ hlm
  have hle:(xs.length:Int)=w.kids.length:=by omega
  refine enter_earley_lister_way (by simp) ?_
  have hr4:g.rules[r]'hr2=R:=(List.getElem?_eq_some_iff.1 hr3).2
  have hge:=hC.ge ts h hJ
  have hJ0:J ts H0:=hC.mono ts h H0 hJ kp0.kt (by omega)
  have hwl:wayL L w.rule p []=[.node w.rule p]:=by simp [wayL,combos]
  have hU:∀ c',U g (.node w.rule p) (.node R.label xs c'):=fun c'=>.mk (by rw [hr1]; simp [ruleNo,hr3]) hxl hus.2
  have h0f:H0[h.length]?=some (.cells 0 [bl false]):=by rw [hH0]; simp
  have hrest:∀ (H1:AHeap),Kp H0 H1 -> ∀ (c':Cap) (r2:AEnd) (H2:AHeap),(Kq b H1 H2 /\ H1.length <= H2.length /\ ((r2=.ret (bl true) /\ J (ts++[.node w.rule p]) H2) \/ (r2=.ret (bl false) /\ D H2))) ->
    ∃ v:Bool,r2=.ret (bl v) /\ H2[h.length]?=some (.cells 0 [bl false]) /\ WayR b J D (ts++wayL L w.rule p []) h (.ret (bl v)) (H2.set h.length (.cells 0 [bl v])):=fun H1 kp1 c' r2 H2 ⟨k1,k2,k3⟩=>by
   have hl1:H0.length <= H1.length:=by
    have:=kp1 h.length _ h0f
    have:=lt_of this; omega
   have hcell:=k1 h.length _ hge rfl (kp1 _ _ h0f)
   have hkb:∀ y,Kq b h (H2.set h.length y):=fun y z x hz hn hx=>by
    have:=lt_of hx
    rw [List.getElem?_set_ne (by omega)]
    exact k1 z x hz hn (kp1 _ _ (kp0 _ _ hx))
   rcases k3 with ⟨rfl,k3⟩ | ⟨rfl,k3⟩
   .refine ⟨true,rfl,hcell,hkb _,by simp; omega,.inl ⟨rfl,?_⟩⟩
    rw [hwl]
    exact hC.mono _ _ _ k3 (Kt.set hge hcell rfl) (by simp; omega)
   .refine ⟨false,rfl,hcell,hkb _,by simp; omega,.inr ⟨rfl,?_⟩⟩
    exact hC.dmono _ _ k3 (Kt.set hge hcell rfl) (by simp; omega)
  by_cases hxe:xs=[]
  .subst hxe
   simp -implicitDefEqProofs [code_earley_lister_way,res_earley_lister_way,ann_earley_lister_way,<- hH0,encFW,sliceU,hle.symm,hml,hr1,hr2,hr3,hr4,encR]
   refine appNil0 (by simp) (by simp [elems]) ?_
   have hyl:=hC.yield ts _ _ H0 hJ0 (hU .any) (hadm _ (by rw [hwl]; exact List.prefix_refl _))
   simp only [encU_eq,sliceU,if_true,List.map_nil] at hyl
   simp -implicitDefEqProofs [hml]
   refine ⟨hC.lp ts H0 hJ0,yieldk hyl ?_⟩
   intro r2 H2 hres
   obtain ⟨v,rfl,hcell,hW⟩:=hrest H0 (fun _ _ h=>h) .any r2 H2 hres
   simp -implicitDefEqProofs [hcell]
   have hg:(H2.set h.length (.cells 0 [bl v]))[h.length]?=some (.cells 0 [bl v]):=List.getElem?_set_self (lt_of hcell)
   rw [<- hr1]
   exact ret1 (v:=bl v) (by simp [deferred,dslot]) (by simp [evalRes,evalRes1,hg]) hW
  .simp -implicitDefEqProofs [code_earley_lister_way,res_earley_lister_way,ann_earley_lister_way,<- hH0,encFW,sliceU,hxe,hle,hml,hr1,hr2,hr3,hr4,encR]
   refine appNilL (xs.map encU) (by simp) (by simp [elems]) (by simpa using hxe) (by simp; unfold maxLenA; omega) ?_
   obtain ⟨H1,hH1⟩:∃ H1,H1=H0++[AObj.tok (xs.map encU).length]:=⟨_,rfl⟩
   have kp1:Kp H0 H1:=by rw [hH1]; exact Kp.app _ _
   have hJ1:J ts H1:=hC.mono ts H0 H1 hJ0 kp1.kt (by rw [hH1]; simp; omega)
   have hml1:=kp1 _ _ hml
   rw [<- hH1]
   have hyl:=hC.yield ts _ _ H1 hJ1 (hU (.tok H0.length)) (hadm _ (by rw [hwl]; exact List.prefix_refl _))
   simp only [encU_eq,sliceU,if_neg hxe] at hyl
   simp -implicitDefEqProofs [hml1]
   refine ⟨hC.lp ts H1 hJ1,yieldk hyl ?_⟩
   intro r2 H2 hres
   obtain ⟨v,rfl,hcell,hW⟩:=hrest H1 kp1 .any r2 H2 hres
   simp -implicitDefEqProofs [hcell]
   have hg:(H2.set h.length (.cells 0 [bl v]))[h.length]?=some (.cells 0 [bl v]):=List.getElem?_set_self (lt_of hcell)
   rw [<- hr1]
   exact ret1 (v:=bl v) (by simp [deferred,dslot]) (by simp [evalRes,evalRes1,hg]) hW
 | cons k ks ih =>
  intro p xs c ts h hcn hd hpl hus hcb hJ hok hadm
  have hxl:=hus.1
  have hkp:(wnF w).2[p.length]?=some k:=by
   have:((wnF w).2.drop p.length)[0]?=some k:=by rw [hd]; rfl
   rw [List.getElem?_drop] at this; simpa using this
  have hpl2:=(List.getElem?_eq_some_iff.1 hkp).1
  have hwk:w.kids[p.length]?=some (k:Int):=by
   simp only [wnF,List.getElem?_map,Option.map_eq_some_iff] at hkp
   obtain ⟨x,hx,hxk⟩:=hkp
   have:=(hkz x (List.mem_of_getElem? hx)).1
   rw [hx]; congr 1; omega
  have hkin:k ∈ (wnF w).2:=List.mem_of_getElem? hkp
  have hd1:(wnF w).2.drop (p.length+1)=ks:=by rw [<- List.drop_drop,hd]; rfl
  have hlw:(wnF w).2.length=w.kids.length:=by simp [wnF]
  have hno:¬ (xs.length:Int)=w.kids.length:=by omega
  have hge:=hC.ge ts h hJ
  obtain ⟨H0,hH0⟩:∃ H0,H0=h++[AObj.cells 0 [AV.sc (Value.bool false)]]:=⟨_,rfl⟩
  have kp0:Kp h H0:=by rw [hH0]; exact Kp.app _ _
  have hl0:H0.length=h.length+1:=by rw [hH0]; simp
  have h0f:H0[h.length]?=some (.cells 0 [bl false]):=by rw [hH0]; simp
  have hwk2:w.kids[xs.length]?=some (k:Int):=by rw [<- hxl]; exact hwk
  have hkc:0 < (L k).length /\ 0 < (combos L ks).length:=by
   rw [combos_len] at hcb
   exact ⟨Nat.pos_of_mul_pos_right hcb,Nat.pos_of_mul_pos_left hcb⟩
  refine enter_earley_lister_way (by simp) ?_
  simp -implicitDefEqProofs [code_earley_lister_way,res_earley_lister_way,ann_earley_lister_way,<- hH0,encFW,sliceU,hno,hwk2]
  refine callk (each0_c ol k) rfl rfl ?_
  simp -implicitDefEqProofs
  refine AWp.rangeF (gf:=85) (fa:=[]) (fb:=[.ip (.ptr ol 0 0),.ip (i64 (k:Int))]) (dl:=[]) rfl (by simp) (by simp [noPend]) (by simp [deferred,dslot]) ?_
  intro X hX
  generalize hE:Env.del _ dslot=E
  have e4:E.get 4=some (.ip (.ptr ol 0 0)):=by rw [<- hE,Env.get_del]; simp [dslot]
  have e5:E.get 5=some (.ip (encFW w)):=by rw [<- hE,Env.get_del]; simp [dslot,encFW]
  have e6:E.get 6=some (.ip (sliceU xs c)):=by rw [<- hE,Env.get_del]; simp [dslot,sliceU]
  have e7:E.get 7=some (.ip (.yld o)):=by rw [<- hE,Env.get_del]; simp [dslot]
  have e8:E.get 8=some (.ptr h.length 0 0):=by rw [<- hE,Env.get_del]; simp [dslot]
  have ed:E.get dslot=none:=by rw [<- hE,Env.get_del]; simp
  rw [hl0]
  obtain ⟨H1,hH1⟩:∃ H1,H1=H0++[.queue]++[.loop E X .ready none]:=⟨_,rfl⟩
  have kp1:Kp H0 H1:=by rw [hH1,List.append_assoc]; exact Kp.app _ _
  have hl1:H1.length=h.length+3:=by rw [hH1]; simp; omega
  have hq1:H1[h.length+1]?=some .queue:=by rw [hH1,List.append_assoc,<- hl0]; simp
  have hlp1:H1[h.length+2]?=some (.loop E X .ready none):=by rw [hH1,List.append_assoc,show h.length+2=H0.length+1 by omega]; simp
  rw [<- hH1]
  have hall:=wayL_cons L w.rule p k ks
  obtain ⟨W,hW⟩:∃ W:RT -> List RT,W=fun t=>wayL L w.rule (p++[t]) ks:=⟨_,rfl⟩
  have hWne:∀ t,∃ q rest,W t=.node w.rule (p++[t]++q) :: rest:=fun t=>by
   rw [hW]
   show ∃ q rest,wayL L w.rule (p++[t]) ks=_
   unfold wayL
   cases hc:combos L ks with
   | nil=>rw [hc] at hkc; simp at hkc
   | cons q r=>exact ⟨q,_,rfl⟩
  rw [<- hW] at hall
  have hCin:Con f L g oc ol (h.length+2) (h.length+3) (JIn L w.rule p ks b J ts h E X) (DIn b D h E X) (fun q=>q <+: L k):=by
   refine ⟨fun pre H hj=>hC.lm _ _ hj.j,fun pre H hj=>by simp [isLoop,hj.lp],fun pre H hj=>hj.len,fun H hj=>hj.len,fun pre H H' hj hka hlen=>?_,fun H H' hj hka hlen=>?_,?_⟩
   .exact ⟨hC.mono _ _ _ hj.j (hka.le (by omega)) (by omega),hka _ _ (.inl (by omega)) hj.c,hka _ _ (.inl (by omega)) hj.q,hka _ _ (.inl (by omega)) hj.lp,fun z x hz hn hx=>hka z x (.inl (by have:=lt_of hx; omega)) (hj.kb z x hz hn hx),hlen⟩
   .exact ⟨hC.dmono _ _ hj.d (hka.le (by omega)) (by omega),hka _ _ (.inl (by omega)) hj.c,hka _ _ (.inl (by omega)) hj.q,hka _ _ (.inl (by omega)) hj.lp,fun z x hz hn hx=>hka z x (.inl (by have:=lt_of hx; omega)) (hj.kb z x hz hn hx),hlen⟩
   intro pre t x H hj hut hpre
   obtain ⟨post,hpost⟩:=hpre
   have hLk:L k=pre++t :: post:=by rw [<- hpost]; simp
   have hsplit:wayL L w.rule p (k :: ks)=pre.flatMap W++(W t++post.flatMap W):=by rw [hall,hLk]; simp
   refine ayields_of_code (C:=⟨PP,Gl,54,ann_earley_lister_way,H.length,some (h.length+2)⟩) (env:=E) (X:=X) (st:=.ready) (pd:=none) (ps:=[39]) hj.lp hX rfl ed rfl rfl (codeWp_sound mixed ?_)
   have hones:(∀ y:AV,y ∈ (encU x).cells -> y.one=true)=True:=eq_true (ones_encU x)
   simp -implicitDefEqProofs [ra0_earley_lister_way,beginP,hj.lp,hones,cells_encU x]
   refine codeWp_sound mixed ?_
   obtain ⟨HB,hHB⟩:∃ HB,HB=H.set (h.length+2) (.loop E X .busy none):=⟨_,rfl⟩
   have hBl:HB.length=H.length:=by rw [hHB]; simp
   have hlenH:=hj.len
   have hjB:J (ts++pre.flatMap W) HB:=by
    have:=hj.j
    rw [<- hW] at this
    refine hC.mono _ _ _ this ?_ (by omega)
    rw [hHB]; exact Kt.set (by omega) hj.lp rfl
   have hlmB:=(hC.lm _ _ hjB).l
   rw [<- hHB]
   have hx2:∃ lb xk xc,encU x=.agg [.sc (.string lb),sliceU xk xc]:=by cases x with | node lb xk xc=>exact ⟨lb,xk,xc,encU_eq _ _ _⟩
   obtain ⟨lb,xk,xc,hx2⟩:=hx2
   have hB1:HB[h.length]?=some (.cells 0 [bl false]):=by rw [hHB,List.getElem?_set_ne (by omega)]; exact hj.c
   have hB2:HB[h.length+1]?=some .queue:=by rw [hHB,List.getElem?_set_ne (by omega)]; exact hj.q
   have hB3:HB[h.length+2]?=some (.loop E X .busy none):=by rw [hHB,List.getElem?_set_self (by omega)]
   have hBk:Kq b h HB:=fun z y hz hn hy=>by
    have:=lt_of hy
    rw [hHB,List.getElem?_set_ne (by omega)]; exact hj.kb z y hz hn hy
   have hBk3:Kq (h.length+3) H HB:=fun z y hz hn hy=>by rw [hHB,List.getElem?_set_ne (by omega)]; exact hy
   have hokt:Okd g.rules.length J (ts++pre.flatMap W) (wayL L w.rule (p++[t]) ks):=fun pre' t' post' he ⟨H',hJ'⟩=>by
    refine hok (pre.flatMap W++pre') t' (post'++post.flatMap W) ?_ ⟨H',by simpa [List.append_assoc] using hJ'⟩
    rw [hsplit,show W t=pre'++t' :: post' by rw [hW]; exact he]
    simp [List.append_assoc]
   have hadmt:∀ q,q <+: (ts++pre.flatMap W)++wayL L w.rule (p++[t]) ks -> Adm q:=fun q hq=>by
    refine hadm q (hq.trans ?_)
    rw [hsplit,show wayL L w.rule (p++[t]) ks=W t by rw [hW]]
    exact ⟨post.flatMap W,by simp [List.append_assoc]⟩
   have hnxt:ts++(pre++[t]).flatMap W=(ts++pre.flatMap W)++wayL L w.rule (p++[t]) ks:=by rw [show wayL L w.rule (p++[t]) ks=W t by rw [hW]]; simp [List.append_assoc]
   have hihc:∀ (HT:AHeap) (c':Cap),c' ≠ .nil -> Kp HB HT -> ACalls PP Gl 86 [.ptr ol 0 0,encFW w,sliceU (xs++[x]) c',.yld o] HT (WayR b J D ((ts++pre.flatMap W)++wayL L w.rule (p++[t]) ks) HT):=fun HT c' hc' hk=>by
    have hlt:HB.length <= HT.length:=by
     have h1:HB[HB.length - 1]?=some (HB[HB.length - 1]'(by omega)):=by simp
     have:=lt_of (hk _ _ h1); omega
    refine ih (p++[t]) (xs++[x]) c' (ts++pre.flatMap W) hc' (by simpa using hd1) (by simp; omega) (hus.snoc hut) hkc.2 (hC.mono _ _ _ hjB hk.kt (by omega)) hokt hadmt
   have hback:∀ (HT:AHeap) (r3:AEnd) (H3:AHeap),Kp HB HT -> WayR b J D ((ts++pre.flatMap W)++wayL L w.rule (p++[t]) ks) HT r3 H3 ->
     H3[h.length+2]?=some (.loop E X .busy none) /\ H3[h.length]?=some (.cells 0 [bl false]) /\
     ((r3=.ret (bl true) /\ Kq (h.length+3) H (H3.set (h.length+2) (.loop E X .ready none)) /\ H.length <= (H3.set (h.length+2) (.loop E X .ready none)).length /\ JIn L w.rule p ks b J ts h E X (pre++[t]) (H3.set (h.length+2) (.loop E X .ready none))) \/
      (r3=.ret (bl false) /\ Kq (h.length+3) H ((H3.set h.length (.cells 0 [bl false])).set (h.length+2) (.loop E X .done (some .ret))) /\ H.length <= ((H3.set h.length (.cells 0 [bl false])).set (h.length+2) (.loop E X .done (some .ret))).length /\
       DIn b D h E X ((H3.set h.length (.cells 0 [bl false])).set (h.length+2) (.loop E X .done (some .ret))))):=fun HT r3 H3 hk ⟨k1,k2,k3⟩=>by
    have hlt:HB.length <= HT.length:=by
     have h1:HB[HB.length - 1]?=some (HB[HB.length - 1]'(by omega)):=by simp
     have:=lt_of (hk _ _ h1); omega
    have g1:=k1 _ _ (by omega) rfl (hk _ _ hB1)
    have g2:=k1 _ _ (by omega) rfl (hk _ _ hB2)
    have g3:=k1 _ _ (by omega) rfl (hk _ _ hB3)
    have g4:Kq b h H3:=fun z y hz hn hy=>k1 z y hz hn (hk _ _ (hBk z y hz hn hy))
    have g5:Kq (h.length+3) H H3:=fun z y hz hn hy=>k1 z y (by omega) hn (hk _ _ (hBk3 z y hz hn hy))
    refine ⟨g3,g1,?_⟩
    rcases k3 with ⟨rfl,k3⟩ | ⟨rfl,k3⟩
    .refine .inl ⟨rfl,fun z y hz hn hy=>by rw [List.getElem?_set_ne (by omega)]; exact g5 z y hz hn hy,by simp; omega,?_,?_,?_,?_,fun z y hz hn hy=>?_,by simp; omega⟩
     .rw [<- hW,hnxt]
      exact hC.mono _ _ _ k3 (Kt.set (by omega) g3 rfl) (by simp; omega)
     .rw [List.getElem?_set_ne (by omega)]; exact g1
     .rw [List.getElem?_set_ne (by omega)]; exact g2
     .rw [List.getElem?_set_self (lt_of g3)]
     .have:=lt_of hy
      rw [List.getElem?_set_ne (by omega)]; exact g4 z y hz hn hy
    .refine .inr ⟨rfl,fun z y hz hn hy=>by rw [List.getElem?_set_ne (by omega),List.getElem?_set_ne (by omega)]; exact g5 z y hz hn hy,by simp; omega,?_,?_,?_,?_,fun z y hz hn hy=>?_,by simp; omega⟩
     .exact hC.dmono _ _ k3 ((Kt.set (by omega) g1 rfl).trans (Kt.set (by omega) (by rw [List.getElem?_set_ne (by omega)]; exact g3) rfl)) (by simp; omega)
     .rw [List.getElem?_set_ne (by omega),List.getElem?_set_self (lt_of g1)]
     .rw [List.getElem?_set_ne (by omega),List.getElem?_set_ne (by omega)]; exact g2
     .rw [List.getElem?_set_self (by simp; exact lt_of g3)]
     .have:=lt_of hy
      rw [List.getElem?_set_ne (by omega),List.getElem?_set_ne (by omega)]; exact g4 z y hz hn hy
   have htk:List.take xs.length (xs.map encU)=xs.map encU:=List.take_of_length_le (by simp)
   by_cases hxe:xs=[]
   .subst hxe
    have hs6:sliceU [] c=.sl 0 [] .nil:=rfl
    simp -implicitDefEqProofs [rb0_earley_lister_way,e4,e5,e6,e7,e8,hs6,hx2,encFW]
    refine appNil (encU x) (by simp) (by simp [elems,hx2]) ?_
    simp -implicitDefEqProofs
    refine callr (hihc (HB++[.tok 1]) (.tok HB.length) (by simp) (Kp.app _ _)) (by simp [encFW,sliceU,hx2]) rfl ?_
    intro r3 H3 hres
    obtain ⟨g3,g1,⟨rfl,hq⟩ | ⟨rfl,hq⟩⟩:=hback _ r3 H3 (Kp.app _ _) hres
    .simp -implicitDefEqProofs [roundP,g3]
     exact ⟨hq.1,by simpa using hq.2.1,hq.2.2⟩
    .have g4:(H3.set h.length (.cells 0 [bl false]))[h.length+2]?=some (.loop E X .busy none):=by rw [List.getElem?_set_ne (by omega)]; exact g3
     simp -implicitDefEqProofs [roundP,e8,g3,g1,g4]
     exact ⟨hq.1,by simpa using hq.2.1,hq.2.2⟩
   .have hs6:sliceU xs c=.sl 2 (xs.map encU) c:=by simp [sliceU,hxe]
    simp -implicitDefEqProofs [rb0_earley_lister_way,e4,e5,e6,e7,e8,hs6,hx2,encFW,hxe,hcn,htk]
    refine appFull (xs.map encU) [encU x] (by simp) (by simp [elems,hx2]) (by simp) (by simp; unfold maxLenA; omega) ?_
    simp -implicitDefEqProofs
    have hn1:xs++[x] ≠ []:=by simp
    refine callr (hihc (HB++[.tok (xs.length+1)]) (.tok HB.length) (by simp) (Kp.app _ _)) (by simp [encFW,sliceU,hx2]) (by simp) ?_
    intro r3 H3 hres
    obtain ⟨g3,g1,⟨rfl,hq⟩ | ⟨rfl,hq⟩⟩:=hback _ r3 H3 (Kp.app _ _) hres
    .simp -implicitDefEqProofs [roundP,g3]
     exact ⟨hq.1,by simpa using hq.2.1,hq.2.2⟩
    .have g4:(H3.set h.length (.cells 0 [bl false]))[h.length+2]?=some (.loop E X .busy none):=by rw [List.getElem?_set_ne (by omega)]; exact g3
     simp -implicitDefEqProofs [roundP,e8,g3,g1,g4]
     exact ⟨hq.1,by simpa using hq.2.1,hq.2.2⟩
  have hokin:Okd g.rules.length (JIn L w.rule p ks b J ts h E X) [] (L k):=fun pre t post he ⟨H',hj'⟩=>by
   have hj:=hj'.j
   rw [<- hW] at hj
   obtain ⟨q,rest,hWt⟩:=hWne t
   have:=hok (pre.flatMap W) (.node w.rule (p++[t]++q)) (rest++post.flatMap W) (by rw [hall,he]; simp [hWt]) ⟨H',by simpa using hj⟩
   simp only [okR,Bool.and_eq_true] at this
   exact oksR_all.1 this.2 t (by simp)
  have hj0:JIn L w.rule p ks b J ts h E X [] H1:=⟨by simpa using (hC.mono ts h H1 hJ (kp0.trans kp1).kt (by omega)),kp1 _ _ h0f,hq1,hlp1,(kp0.trans kp1).kq,by omega⟩
  have hec:=heach k hkin (h.length+2) (h.length+3) _ _ _ hCin [] (h:=H1) hj0 hokin (fun q hq=>by simpa using hq)
  refine iterk ⟨_,hec,fun _ _ h=>h⟩ rfl rfl ?_
  rintro r2 H3 ⟨rfl,k1,k2,hres⟩
  have hkb0:∀ (H':AHeap) (x y z:AObj),Kq b h H' -> Kq b h (((H'.set (h.length+2) x).set h.length y).set (h.length+1) z):=fun H' x y z hk a u ha hn hu=>by
   have:=lt_of hu
   rw [List.getElem?_set_ne (by omega),List.getElem?_set_ne (by omega),List.getElem?_set_ne (by omega)]; exact hk a u ha hn hu
  have hka0:∀ (H':AHeap) (x y z a1 a2 a3:AObj),H'[h.length+2]?=some a1 -> isTok a1=false -> H'[h.length]?=some a2 -> isTok a2=false -> H'[h.length+1]?=some a3 -> isTok a3=false -> Kt b H' (((H'.set (h.length+2) x).set h.length y).set (h.length+1) z):=fun H' x y z a1 a2 a3 p1 q1 p2 q2 p3 q3 =>
   ((Kt.set (by omega) p1 q1).trans (Kt.set (by omega) (by rw [List.getElem?_set_ne (by omega)]; exact p2) q2)).trans (Kt.set (by omega) (by rw [List.getElem?_set_ne (by omega),List.getElem?_set_ne (by omega)]; exact p3) q3)
  rcases hres with hj | hj
  .have hlp:=hj.lp
   have hc3:=hj.c
   have hq3:=hj.q
   have hl3:=hj.len
   have u1:(H3.set (h.length+2) .dead)[h.length]?=some (.cells 0 [bl false]):=by rw [List.getElem?_set_ne (by omega)]; exact hc3
   have u2:((H3.set (h.length+2) .dead).set h.length (.cells 0 [bl true]))[h.length+1]?=some .queue:=by rw [List.getElem?_set_ne (by omega),List.getElem?_set_ne (by omega)]; exact hq3
   have u3:(((H3.set (h.length+2) .dead).set h.length (.cells 0 [bl true])).set (h.length+1) .dead)[h.length]?=some (.cells 0 [bl true]):=by rw [List.getElem?_set_ne (by omega),List.getElem?_set_self (by simp; omega)]
   simp -implicitDefEqProofs [rangeEnd,hlp,dslot,u1]
   refine retDefer [.it (h.length+1)] (by simp [deferred,dslot]) (leaveIt (by simp [isQueue,u2]) ⟨bl true,by simp [evalRes,evalRes1,u3],.inl ⟨hkb0 _ _ _ _ hj.kb,by simp; omega,.inl ⟨rfl,?_⟩⟩⟩)
   have hjj:=hj.j
   rw [<- hW,List.nil_append,<- hall] at hjj
   exact hC.mono _ _ _ hjj (hka0 _ _ _ _ _ _ _ hlp rfl hc3 rfl hq3 rfl) (by simp; omega)
  .have hlp:=hj.lp
   have hc3:=hj.c
   have hq3:=hj.q
   have hl3:=hj.len
   have u2:(H3.set (h.length+2) .dead)[h.length+1]?=some .queue:=by rw [List.getElem?_set_ne (by omega)]; exact hq3
   have u3:((H3.set (h.length+2) .dead).set (h.length+1) .dead)[h.length]?=some (.cells 0 [bl false]):=by rw [List.getElem?_set_ne (by omega),List.getElem?_set_ne (by omega)]; exact hc3
   simp -implicitDefEqProofs [rangeEnd,hlp,dslot]
   refine retDefer [.it (h.length+1)] (by simp [deferred,dslot]) (leaveIt (by simp [isQueue,u2]) ⟨bl false,by simp [evalRes,evalRes1,u3],.inl ⟨fun a u ha hn hu=>?_,by simp; omega,.inr ⟨rfl,?_⟩⟩⟩)
   .have:=lt_of hu
    rw [List.getElem?_set_ne (by omega),List.getElem?_set_ne (by omega)]; exact hj.kb a u ha hn hu
   .exact hC.dmono _ _ hj.d ((Kt.set (by omega) hlp rfl).trans (Kt.set (by omega) (by rw [List.getElem?_set_ne (by omega)]; exact hq3) rfl)) (by simp; omega)
end Go.Apx
end
section
namespace Go.Apx
open Go.Proofs
set_option maxRecDepth 4000
structure YS where
 q:Nat
 H:AHeap
theorem stepL_take {L:Nat -> List RT} {wl:List (Int × List Nat)} {q:Nat} {w:Int × List Nat} (h:wl[q]?=some w):stepL L (wl.take (q+1))=stepL L (wl.take q)++wayL L w.1 [] w.2:=by
 rw [List.take_add_one,h]
 simp [stepL,wayL]
theorem stepL_append {L:Nat -> List RT} (a b:List (Int × List Nat)):stepL L (a++b)=stepL L a++stepL L b:=by simp [stepL]
set_option maxHeartbeats 8000000 in
theorem each_c (f:FO) (hf:FoOk f) (hF:fmdF f=true) (L:Nat -> List RT) (hL:∀ i,Wl (wsF f) i -> L i=stepL L (wsF f i)) (g:Gr) (hg:g.rules.length <= 2 ^ 31) (oc ol:Nat) (i:Nat) (hw:Wl (wsF f) i) :
  i < f.nodes.length -> Rz f i -> ∀ (o b:Nat) (J:List RT -> AHeap -> Prop) (D:AHeap -> Prop) (Adm:List RT -> Prop),Con f L g oc ol o b J D Adm -> ∀ (ts:List RT) {h:AHeap},J ts h -> Okd g.rules.length J ts (L i) -> (∀ q,q <+: ts++L i -> Adm q) ->
   ACalls PP Gl 85 [.yld o,.ip (.ptr ol 0 0),.ip (i64 (i:Int))] h (EachR b J D (ts++L i) h):=by
 induction hw with
 | mk i hwk ih =>
 have hwi:Wl (wsF f) i:=.mk i hwk
 intro hi hrz o b J D Adm hC ts h hJ hok hadm
 obtain ⟨nd,hnd⟩:∃ nd,f.nodes[i]?=some nd:=⟨f.nodes[i],by simp [hi]⟩
 have hnd2:f.nodes[i]'hi=nd:=(List.getElem?_eq_some_iff.1 hnd).2
 have hws:=wsF_at hnd
 have hfn:=hf.n
 have hlm:=hC.lm ts h hJ
 have hml:=hlm.l
 obtain ⟨oS,oT,gS,gT,rS,rT,tr,c1,c2,c3,c4⟩:=hlm.x
 have hLi:=hL i hwi
 refine enter_earley_lister_each_1 (by simp) ?_
 simp -implicitDefEqProofs [code_earley_lister_each_1,res_earley_lister_each_1,ann_earley_lister_each_1,hml,c1,hnd,hnd2,hi,encFN]
 refine AWp.till (S:=YS) ⟨0,h⟩ (fun s=>nd.ways.length - s.q) [0,1,17,18] (fun s=>[(19,i64 (s.q:Int))]) (fun s=>s.H)
  (fun s=>s.q <= nd.ways.length /\ J (ts++stepL L ((wsF f i).take s.q)) s.H /\ Kq b h s.H /\ h.length <= s.H.length) mixed ⟨by simp,by simpa [stepL] using hJ,Kq.refl _ _,Nat.le_refl _⟩ (le_of (by simp [dslot])) rfl ?_
 rintro ⟨q,H⟩ ⟨z1,z2,z3,z4⟩
 simp only at z1 z2 z3 z4
 by_cases hq:q < nd.ways.length
 case neg =>
  have hno:¬ (q:Int) < nd.ways.length:=by omega
  have hqq:(wsF f i).take q=wsF f i:=List.take_of_length_le (by rw [hws]; simp; omega)
  rw [hqq,<- hLi] at z2
  simp -implicitDefEqProofs [lp0_earley_lister_each_1,hno]
  exact ret1 (v:=.tup []) (by simp [deferred,dslot]) (by simp [evalRes]) ⟨rfl,z3,z4,.inl z2⟩
 obtain ⟨w,hwq⟩:∃ w,nd.ways[q]?=some w:=⟨nd.ways[q],by simp [hq]⟩
 have hwq2:nd.ways[q]'hq=w:=(List.getElem?_eq_some_iff.1 hwq).2
 have hwm:=List.mem_of_getElem? hwq
 have hltq:(q:Int) < nd.ways.length:=by omega
 have hne:nd.ways ≠ []:=by intro e; rw [e] at hq; simp at hq
 have wq:=wrap1 (n:=q) (by have:=(hf.ncap nd (List.mem_of_getElem? hnd)).2; omega)
 have hkl:=(hf.wcap nd (List.mem_of_getElem? hnd) w hwm).2
 have hkz:=kid_rz hF hrz hnd hwm
 have hwsq:(wsF f i)[q]?=some (wnF w):=by rw [hws,List.getElem?_map,hwq]; rfl
 have hst:=stepL_take (L:=L) hwsq
 have hlmH:=hC.lm _ _ z2
 have hpe:=prodF_eq L (wnF w).2
 have hcut:∃ rest,stepL L (wsF f i)=stepL L ((wsF f i).take q)++(wayL L (wnF w).1 [] (wnF w).2++rest):=by
  refine ⟨stepL L ((wsF f i).drop (q+1)),?_⟩
  rw [<- List.append_assoc,<- hst]
  have:=stepL_append (L:=L) ((wsF f i).take (q+1)) ((wsF f i).drop (q+1))
  rw [List.take_append_drop] at this; exact this
 obtain ⟨rest,hcut⟩:=hcut
 simp -implicitDefEqProofs [lp0_earley_lister_each_1,hltq,hwq,hwq2,hq,hne,encFW]
 refine callk (product_c f hfn L g oc ol w hkl hkz hlmH) (by simp [encFW]) rfl ?_
 by_cases hp0:prodF (cnt L) (wnF w).2=0
 .have hp0':(prodF (cnt L) (wnF w).2:Int)=0:=by omega
  have hce:combos L (wnF w).2=[]:=List.eq_nil_of_length_eq_zero (by rw [hp0] at hpe; unfold many at hpe; omega)
  have hwe:wayL L (wnF w).1 [] (wnF w).2=[]:=by simp [wayL,hce]
  simp -implicitDefEqProofs [hp0,wq]
  refine ⟨⟨q+1,H⟩,by simp; omega,⟨by simp; omega,?_,z3,z4⟩,le_of (by simp [dslot]),rfl⟩
  simp only; rw [hst,hwe,List.append_nil]; exact z2
 have hp0':¬ (prodF (cnt L) (wnF w).2:Int)=0:=by omega
 have hcb:0 < (combos L (wnF w).2).length:=by rw [hpe] at hp0; omega
 have hokw:Okd g.rules.length J (ts++stepL L ((wsF f i).take q)) (wayL L w.rule [] (wnF w).2):=fun pre t post he ⟨H',hj⟩ =>
  hok (stepL L ((wsF f i).take q)++pre) t (post++rest) (by rw [hLi,hcut,show wayL L (wnF w).1 [] (wnF w).2=pre++t :: post from he]; simp [List.append_assoc]) ⟨H',by simpa [List.append_assoc] using hj⟩
 have hadw:∀ x,x <+: (ts++stepL L ((wsF f i).take q))++wayL L w.rule [] (wnF w).2 -> Adm x:=fun x hx=>by
  refine hadm x (hx.trans ⟨rest,?_⟩)
  rw [hLi,hcut]
  simp [List.append_assoc]; rfl
 have hway:=way_c f hf hF L g hg oc ol w hkl hkz (fun k hk o b J D Adm hC ts h hJ hok hadm=>by
  have hs:Stp (wsF f) i k:=⟨wnF w,List.mem_of_getElem? hwsq,hk⟩
  exact ih k hs (stp_lt hF hs) (hrz.kid hs) o b J D Adm hC ts hJ hok hadm) o b J D Adm hC (wnF w).2 [] [] .any (ts++stepL L ((wsF f i).take q)) (h:=H) (by simp) (by simp) (by simp) ⟨rfl,by simp⟩ hcb z2 hokw hadw
 simp -implicitDefEqProofs [hp0]
 refine callr hway (by simp [encFW,sliceU]) rfl ?_
 rintro r H1 ⟨k1,k2,⟨rfl,k3⟩ | ⟨rfl,k3⟩⟩
 .simp -implicitDefEqProofs [wq]
  refine ⟨⟨q+1,H1⟩,by simp; omega,⟨by simp; omega,?_,z3.trans k1,by simp only; omega⟩,le_of (by simp [dslot]),rfl⟩
  simp only; rw [hst,<- List.append_assoc]; exact k3
 .simp -implicitDefEqProofs
  exact ret1 (v:=.tup []) (by simp [deferred,dslot]) (by simp [evalRes]) ⟨rfl,z3.trans k1,by omega,.inr k3⟩
def labR (g:Gr) (r:Int):ByteArray:=match ruleNo g r with | some R=>R.label | none=>⟨#[]⟩
mutual
def canR (g:Gr):RT -> Tr
 | .node r ts=>.node (labR g r) (canRs g ts) .any
def canRs (g:Gr):List RT -> List Tr
 | []=>[]
 | t :: r=>canR g t :: canRs g r
end
theorem canRs_map (g:Gr):∀ l,canRs g l=l.map (canR g)
 | []=>rfl
 | t :: r=>by simp [canRs,canRs_map g r]
theorem encU_can (g:Gr) (r:Int) (ts:List RT):encU (canR g (.node r ts))=.agg [.sc (.string (labR g r)),grown 2 (ts.map fun t=>encU (canR g t))]:=by
 rw [canR,encU_eq,canRs_map]
 simp only [sliceU,grown,List.map_map]
 cases ts <;> rfl
theorem strip_grown (k:Nat) (es:List AV) (h:stripL es=es):(grown k es).strip=grown k es:=by
 cases es with
 | nil=>rfl
 | cons a l=>simp only [grown,if_neg (List.cons_ne_nil a l),AV.strip,h]; rfl
mutual
theorem strip_can (g:Gr):∀ t:RT,(encU (canR g t)).strip=encU (canR g t)
 | .node r ts=>by
  rw [encU_can]
  simp only [AV.strip,stripL]
  rw [strip_grown 2 _ (strip_cans g ts)]
theorem strip_cans (g:Gr):∀ l:List RT,stripL (l.map fun t=>encU (canR g t))=l.map fun t=>encU (canR g t)
 | []=>rfl
 | t :: r=>by simp only [List.map_cons,stripL,strip_can g t,strip_cans g r]
end
mutual
theorem inb_can (g:Gr) (n:Nat):∀ t:RT,(encU (canR g t)).inb n=true
 | .node r ts=>by
  rw [encU_can]
  simp only [AV.inb,inbL]
  rw [inb_grown n 2 _ (inb_cans g n ts)]; rfl
theorem inb_cans (g:Gr) (n:Nat):∀ l:List RT,inbL n (l.map fun t=>encU (canR g t))=true
 | []=>rfl
 | t :: r=>by simp only [List.map_cons,inbL,inb_can g n t,inb_cans g n r]; rfl
end
theorem len_sizes:∀ ts:List RT,ts.length <= sizesR ts
 | []=>Nat.le_refl _
 | .node r ks :: l=>by
  have:=len_sizes l
  simp only [sizesR,sizeR,List.length_cons]; omega
theorem size_mem {t:RT}:∀ {l:List RT},t ∈ l -> sizeR t <= sizesR l
 | x :: l,h=>by
  simp only [sizesR]
  rcases List.mem_cons.1 h with rfl | h
  .omega
  .have:=size_mem h; omega
structure XS where
 i:Nat
 T:Nat
 H:AHeap
structure XI (g:Gr) (ts:List RT) (l:ByteArray) (h:AHeap) (s:XS):Prop where
 i:s.i <= ts.length
 o:s.H[h.length]?=some (.cells 0 [.sc (.string l),apd 2 ((ts.take s.i).map fun t=>encU (canR g t)) s.T])
 tk:s.i ≠ 0 -> s.H[s.T]?=some (.tok s.i) /\ h.length < s.T
 low:Low h.length h s.H
set_option maxHeartbeats 8000000 in
theorem copied_c (g:Gr) {t:RT} {x:Tr} (hu:U g t x):sizeR t <= 1000000 -> ∀ {h:AHeap},AEx PP Gl 55 [encU x] h (.ret (encU (canR g t))) h:=by
 induction hu with
 | @mk r R ts xs c hr hl hk ih =>
 intro hsz h
 have hlab:labR g r=R.label:=by simp [labR,hr]
 refine enter_earley_copied (by simp) ?_
 rw [encU_eq]
 have hlen:((xs.map encU).length:Int)=ts.length:=by simp [hl]
 simp -implicitDefEqProofs [code_earley_copied,res_earley_copied,ann_earley_copied,sliceU]
 refine AWp.till (S:=XS) ⟨0,0,h++[.cells 0 [.sc (.string R.label),.sl 0 [] .nil]]⟩ (fun s=>ts.length - s.i) [2,3,10,11] (fun s=>[(12,i64 (s.i:Int))]) (fun s=>s.H) (XI g ts R.label h) mixed
  ⟨by simp,by simp,by simp,Low.app _ _ _⟩ (le_of (by simp [dslot])) rfl ?_
 rintro ⟨i,T,H⟩ ⟨z1,z2,z3,z4⟩
 simp only at z1 z2 z3 z4
 by_cases hi:i < ts.length
 case neg =>
  have hno:¬ (i:Int) < xs.length:=by omega
  have hii:ts.take i=ts:=List.take_of_length_le (by omega)
  rw [hii] at z2
  have hfin:(AV.agg [.sc (.string R.label),apd 2 (ts.map fun t=>encU (canR g t)) T]).strip=encU (canR g (.node r ts)):=by
   rw [encU_can,hlab]; simp only [AV.strip,stripL,strip_apd 2 _ _ _ (strip_cans g ts)]
  simp -implicitDefEqProofs [lp0_earley_copied,hno,z2]
  refine retCut (v:=.agg [.sc (.string R.label),apd 2 (ts.map fun t=>encU (canR g t)) T]) h.length (by simp [deferred,dslot]) (by simp [evalRes,evalRes1]) (Nat.le_refl _) (Nat.le_of_lt (lt_of z2)) (by rw [hfin]; exact inb_can g _ _) z4.cl ?_
  rw [z4.take,hfin]
  exact ⟨rfl,rfl⟩
 obtain ⟨t,ht⟩:∃ t,ts[i]?=some t:=⟨ts[i],by simp [hi]⟩
 obtain ⟨x,hx⟩:∃ x,xs[i]?=some x:=⟨xs[i]'(by omega),by simp⟩
 have hx2:xs[i]'(by omega)=x:=(List.getElem?_eq_some_iff.1 hx).2
 have hxne:xs ≠ []:=by intro e; rw [e] at hx; simp at hx
 have hlt:(i:Int) < xs.length:=by omega
 have hix:i < xs.length:=by omega
 have hszl:=len_sizes ts
 have hszm:=size_mem (List.mem_of_getElem? ht)
 simp only [sizeR] at hsz
 have wi:=wrap1 (n:=i) (by omega)
 have hne2:(if xs=[] then 0 else 2)=2:=if_neg hxne
 have hx3:∃ lb xk xc,encU x=.agg [.sc (.string lb),sliceU xk xc]:=by cases x with | node lb xk xc=>exact ⟨lb,xk,xc,encU_eq _ _ _⟩
 obtain ⟨lb,xk,xc,hx3⟩:=hx3
 have hT2:i ≠ 0 -> ∃ q,H[T]?=some (.tok q):=fun hn0=>⟨_,(z3 hn0).1⟩
 have hlk:(ts.take i).length=i:=by simp; omega
 simp -implicitDefEqProofs [lp0_earley_copied,hlt,hix,hx,hx2,hx3,hxne,z2]
 refine callk (ih i t x ht hx (by omega)) (by simp [hx3]) rfl ?_
 have hcan:∃ lt kt,encU (canR g t)=.agg [.sc (.string lt),kt] /\ kt.isPend=false /\ kt.one=true:=by
  cases t with
  | node r' ts'=>exact ⟨_,_,encU_can g r' ts',by simp [grown],by simp [grown]⟩
 obtain ⟨lt,kt,hcan,hk1,hk2⟩:=hcan
 simp -implicitDefEqProofs [z2,hcan,hk1,hk2]
 refine appG ((ts.take i).map fun t=>encU (canR g t)) (encU (canR g t)) T (by simp) (by simp [elems,hcan]) (fun hne=>by
  rw [List.length_map,hlk]
  exact (z3 (fun e=>hne (by rw [e]; simp))).1) (by rw [List.length_map,hlk]; unfold maxLenA; omega) ?_
 rw [List.length_map,hlk]
 obtain ⟨H3,hH3⟩:∃ H3,H3=apG H i T:=⟨_,rfl⟩
 obtain ⟨T2,hTe⟩:∃ T2,T2=apT H i T:=⟨_,rfl⟩
 rw [<- hH3,<- hTe]
 have o3:H3[h.length]?=some (.cells 0 [.sc (.string R.label),apd 2 ((ts.take i).map fun t=>encU (canR g t)) T]):=by rw [hH3]; exact apG_keep hT2 z2 (by simp)
 have htke:(ts.take i).map (fun t=>encU (canR g t))++[encU (canR g t)]=(ts.take (i+1)).map fun t=>encU (canR g t):=by rw [List.take_add_one,ht]; simp
 rw [htke]
 simp -implicitDefEqProofs [o3,wi]
 have hT2H:T2 ≠ h.length:=by
  rw [hTe]; unfold apT
  split
  .have:=lt_of z2; omega
  .rename_i hn0; exact Nat.ne_of_gt (z3 hn0).2
 refine ⟨⟨i+1,T2,H3.set h.length (.cells 0 [.sc (.string R.label),apd 2 ((ts.take (i+1)).map fun t=>encU (canR g t)) T2])⟩,by simp; omega,⟨by simp; omega,?_,fun _=>⟨?_,?_⟩,?_⟩,le_of (by simp [dslot]),by simp⟩
 .simp only; rw [List.getElem?_set_self (lt_of o3)]
 .simp only
  rw [List.getElem?_set_ne (fun e=>hT2H e.symm),hH3,hTe,apG_tok hT2]
 .simp only
  rw [hTe]; unfold apT
  split
  .exact lt_of z2
  .rename_i hn0; exact (z3 hn0).2
 .exact z4.trans ((show Low h.length H H3 by rw [hH3]; exact Low.apG fun hn0=>Nat.le_of_lt (z3 hn0).2).trans (Low.set (Nat.le_refl _)))
end Go.Apx
end
section
namespace Go.Apx
open Go.Proofs
set_option maxRecDepth 4000
theorem appQ {C:Cx} {k b:Nat} {x y:Opd} {d:Option Nat} {env:Env} {H:AHeap} {K:Env -> AHeap -> Prop} (es:List AV) (v:AV) (c:Cap) (hc:c=.full \/ ∃ T,c=.tok T /\ H[T]?=some (.tok es.length))
  (hx:evalOpd C.G env x=some (.sl k es c)) (hy:(evalOpd C.G env y).bind (elems H k)=some [v]) (hm:es.length+1 <= maxLenA)
  (hK:∀ T H',((c=.tok T /\ H'=H.set T (.tok (es.length+1))) \/ (T=H.length /\ H'=H++[.tok (es.length+1)])) -> H'[T]?=some (.tok (es.length+1)) -> K (putD env d (.sl k (es++[v]) (.tok T))) H'):appW C k b x y d env H K:=by
 rcases hc with rfl | ⟨T,rfl,hT⟩
 .exact appFull es [v] hx hy (by simp) (by simpa using hm) (hK _ _ (.inr ⟨rfl,rfl⟩) (by simp))
 .exact appTok es v T hx hy hT hm (hK _ _ (.inl ⟨rfl,rfl⟩) (List.getElem?_set_self (lt_of hT)))
structure BS where
 i:Nat
 q:List Nat
 M:List Bool
 c:Cap
 H:AHeap
structure BI (f:FO) (fr:Nat) (h:AHeap) (s:BS):Prop where
 ml:s.M.length=f.nodes.length
 om:s.H[h.length]?=some (.cells 0 (s.M.map bl))
 kp:Kp h s.H
 cp:s.c=.full \/ ∃ T,s.c=.tok T /\ s.H[T]?=some (.tok (i64s (fr :: s.q)).length) /\ h.length < T
 mem:∀ k:Nat,k ∈ s.q ↔ s.M[k]?=some true
 cnt:s.q.length=s.M.countP (· == true)
 snd:∀ k ∈ s.q,Rch (wsF f) fr k
theorem BI.len {f:FO} {fr:Nat} {h:AHeap} {s:BS} (hb:BI f fr h s):s.q.length <= f.nodes.length:=by
 have:=List.countP_le_length (p:=(· == true)) (l:=s.M)
 rw [hb.cnt,<- hb.ml]; exact this
theorem bls_set (l:List Bool) (i:Nat):(l.map bl).set i (bl true)=(l.set i true).map bl:=by simp [List.map_set]
theorem bls_at {l:List Bool} {i:Nat} {x:Bool} (h:l[i]?=some x):(l.map bl)[i]?=some (bl x):=by simp [h]
theorem BI.mark {f:FO} {fr:Nat} {h:AHeap} {i i':Nat} {Q:List Nat} {M:List Bool} {c:Cap} {H:AHeap} {k T:Nat} {H':AHeap} (hb:BI f fr h ⟨i,Q,M,c,H⟩) (hk:M[k]?=some false) (hr:Rch (wsF f) fr k)
  (hT:(c=.tok T /\ H'=(H.set h.length (.cells 0 ((M.set k true).map bl))).set T (.tok ((i64s (fr :: Q)).length+1))) \/ (T=(H.set h.length (.cells 0 ((M.set k true).map bl))).length /\ H'=H.set h.length (.cells 0 ((M.set k true).map bl))++[.tok ((i64s (fr :: Q)).length+1)])):BI f fr h ⟨i',Q++[k],M.set k true,.tok T,H'⟩:=by
 have hkl:=(List.getElem?_eq_some_iff.1 hk).1
 have hol:=lt_of hb.om
 simp only at hol
 have hTb:h.length < T:=by
  rcases hT with ⟨rfl,_⟩ | ⟨rfl,_⟩
  .rcases hb.cp with h1 | ⟨T',h1,_,h2⟩
   .cases h1
   .cases h1; exact h2
  .simp; exact hol
 have hTl:c=.tok T -> T < H.length:=fun e=>by
  rcases hb.cp with h1 | ⟨T',h1,h2,_⟩
  .simp only at h1; rw [h1] at e; cases e
  .simp only at h1 h2; rw [h1] at e; cases e; exact lt_of h2
 refine ⟨by simpa using hb.ml,?_,fun z x hz=>?_,.inr ⟨T,rfl,?_,hTb⟩,fun j=>?_,?_,fun j hj=>?_⟩
 .simp only
  rcases hT with ⟨e,rfl⟩ | ⟨e,rfl⟩
  .rw [List.getElem?_set_ne (by omega),List.getElem?_set_self hol]
  .rw [List.getElem?_append_left (by simp; exact hol),List.getElem?_set_self hol]
 .have hzl:=lt_of hz
  have h1:=hb.kp z x hz
  simp only at h1 ⊢
  rcases hT with ⟨e,rfl⟩ | ⟨e,rfl⟩
  .rw [List.getElem?_set_ne (by omega),List.getElem?_set_ne (by omega)]; exact h1
  .rw [List.getElem?_append_left (by simp; exact lt_of h1),List.getElem?_set_ne (by omega)]; exact h1
 .simp only
  have e2:(i64s (fr :: (Q++[k]))).length=(i64s (fr :: Q)).length+1:=by simp [i64s]
  rw [e2]
  rcases hT with ⟨e,rfl⟩ | ⟨e,rfl⟩
  .rw [List.getElem?_set_self (by simp; exact hTl e)]
  .rw [e]; simp
 .have h1:=hb.mem j
  simp only at h1 ⊢
  rw [List.mem_append,h1]
  by_cases e:k=j
  .subst e; rw [List.getElem?_set_self hkl]; simp
  .rw [List.getElem?_set_ne e]; simp [Ne.symm e]
 .have h1:=hb.cnt
  simp only at h1 ⊢
  obtain ⟨_,hk2⟩:=List.getElem?_eq_some_iff.1 hk
  rw [List.length_append,h1,List.countP_set hkl]
  simp [hk2]
 .simp only at hj
  rcases List.mem_append.1 hj with h1 | h1
  .exact hb.snd j h1
  .simp at h1; subst h1; exact hr
def MkW (M:List Bool) (l:List FW):Prop:=∀ w ∈ l,∀ k ∈ w.kids,M[k.toNat]?=some true
def MkK (M:List Bool) (l:List Int):Prop:=∀ k ∈ l,M[k.toNat]?=some true
def MkQ (f:FO) (M:List Bool) (l:List Nat):Prop:=∀ x ∈ l,∀ k,Stp (wsF f) x k -> M[k]?=some true
theorem mk_set {M:List Bool} {k j:Nat} (h:M[j]?=some true) (hk:k < M.length):(M.set k true)[j]?=some true:=by
 by_cases e:k=j
 .subst e; exact List.getElem?_set_self hk
 .rw [List.getElem?_set_ne e]; exact h
def BeyR (f:FO) (fr:Nat) (h:AHeap) (r:AEnd) (h':AHeap):Prop :=
 ∃ M:List Bool,r=.ret (.rf h.length 0 0 f.nodes.length .full) /\ h'[h.length]?=some (.cells 0 (M.map bl)) /\ Kp h h' /\ M.length=f.nodes.length /\ ∀ k:Nat,M[k]?=some true ↔ Rch (wsF f) fr k
set_option maxHeartbeats 8000000 in
theorem beyond_c (f:FO) (hf:FoOk f) (hF:fmdF f=true) (fr:Nat) (hfr:fr < f.nodes.length) {h:AHeap}:ACalls PP Gl 83 [encFO f,i64 (fr:Int)] h (BeyR f fr h):=by
 have hfn:=hf.n
 have hml:f.nodes.length <= maxLenA:=by unfold maxLenA; omega
 have hrep:List.replicate f.nodes.length (AV.sc (Value.bool false))=(List.replicate f.nodes.length false).map bl:=by simp
 refine enter_ref14_beyond (by simp) ?_
 simp -implicitDefEqProofs [code_ref14_beyond,res_ref14_beyond,ann_ref14_beyond,encFO,hml]
 refine AWp.till (S:=BS) ⟨0,[],List.replicate f.nodes.length false,.full,h++[.cells 0 ((List.replicate f.nodes.length false).map bl)]⟩ (fun s=>f.nodes.length+2 - s.i) [2,5] (fun s=>[(6,.sl 1 (i64s (fr :: s.q)) s.c),(7,i64 (s.i:Int))]) (fun s=>s.H)
  (fun s=>s.i <= s.q.length+1 /\ BI f fr h s /\ MkQ f s.M ((fr :: s.q).take s.i)) mixed ⟨by simp,⟨by simp,by simp,Kp.app _ _,.inl rfl,fun k=>?_,?_,by simp⟩,by simp [MkQ]⟩ (le_of (by simp [dslot,i64s])) (by simp) ?_
 .constructor
  .intro hk; cases hk
  .intro hk; have:=List.mem_of_getElem? hk; have:=(List.mem_replicate.1 this).2; cases this
 .simp [List.countP_replicate]
 rintro ⟨i,Q,M,c,H⟩ ⟨z1,z2,z3⟩
 simp only at z1 z2 z3
 have hql:=z2.len
 simp only at hql
 have hil:(i64s (fr :: Q)).length=Q.length+1:=by simp [i64s]
 by_cases hi:i < Q.length+1
 case neg =>
  have hno:¬ (i:Int) < (Q.length:Int)+1:=by omega
  have hii:i=Q.length+1:=by omega
  have hno2:¬ (i:Int) < (i64s (fr :: Q)).length:=by rw [hil]; omega
  have hfin:∀ k:Nat,M[k]?=some true ↔ Rch (wsF f) fr k:=fun k=>by
   constructor
   .intro hk; exact z2.snd k ((z2.mem k).2 hk)
   .have hall:MkQ f M (fr :: Q):=by rw [hii,List.take_of_length_le (by simp)] at z3; exact z3
    have hgo:∀ x y,Rch (wsF f) x y -> x ∈ fr :: Q -> M[y]?=some true:=fun x y hr=>by
     induction hr with
     | one hs=>exact fun hx=>hall _ hx _ hs
     | cons hs _ ih=>exact fun hx=>ih (List.mem_cons_of_mem _ ((z2.mem _).2 (hall _ hx _ hs)))
    exact fun hr=>hgo fr k hr (by simp)
  simp -implicitDefEqProofs [lp0_ref14_beyond,hno,hno2]
  exact ret1 (v:=.rf h.length 0 0 f.nodes.length .full) (by simp [deferred,dslot]) (by simp [evalRes,evalRes1]) ⟨M,rfl,z2.om,z2.kp,z2.ml,hfin⟩
 have hlt2:(i:Int) < (i64s (fr :: Q)).length:=by rw [hil]; omega
 obtain ⟨x,hx⟩:∃ x,(fr :: Q)[i]?=some x:=⟨(fr :: Q)[i]'(by simp; omega),by simp⟩
 have hxa:=i64s_at hx
 have hxl:x < f.nodes.length:=by
  rcases List.mem_cons.1 (List.mem_of_getElem? hx) with rfl | hm
  .exact hfr
  .exact rch_lt hF (z2.snd x hm)
 have hxr:∀ k,Stp (wsF f) x k -> Rch (wsF f) fr k:=fun k hk=>by
  rcases List.mem_cons.1 (List.mem_of_getElem? hx) with rfl | hm
  .exact .one hk
  .exact (z2.snd x hm).trans (.one hk)
 obtain ⟨nd,hnd⟩:∃ nd,f.nodes[x]?=some nd:=⟨f.nodes[x],by simp [hxl]⟩
 have hnd2:f.nodes[x]'hxl=nd:=(List.getElem?_eq_some_iff.1 hnd).2
 have hws:=wsF_at hnd
 have hwl:=(hf.ncap nd (List.mem_of_getElem? hnd)).2
 have wi:=wrap1 (n:=i) (by omega)
 have hlt3:(i:Int) < (Q.length:Int)+1:=by omega
 simp -implicitDefEqProofs [lp0_ref14_beyond,hlt2,hlt3,hxa,hnd,hnd2,hxl,encFN]
 refine AWp.till (S:=BS) ⟨0,Q,M,c,H⟩ (fun s=>nd.ways.length - s.i) [2,5,7,8] (fun s=>[(6,.sl 1 (i64s (fr :: s.q)) s.c),(9,i64 (s.i:Int))]) (fun s=>s.H)
  (fun s=>s.i <= nd.ways.length /\ BI f fr h s /\ (Q <+: s.q) /\ MkQ f s.M ((fr :: Q).take i) /\ MkW s.M (nd.ways.take s.i)) mixed ⟨by simp,⟨z2.ml,z2.om,z2.kp,z2.cp,z2.mem,z2.cnt,z2.snd⟩,List.prefix_refl _,z3,by simp [MkW]⟩ (le_of (by simp [dslot])) rfl ?_
 rintro ⟨a,Q1,M1,c1,H1⟩ ⟨y1,y2,y3,y4,y5⟩
 simp only at y1 y2 y3 y4 y5
 by_cases ha:a < nd.ways.length
 case neg =>
  have hno:¬ (a:Int) < nd.ways.length:=by omega
  simp -implicitDefEqProofs [lp1_ref14_beyond,hno,wi]
  have hq1:Q.length <= Q1.length:=y3.length_le
  refine ⟨⟨i+1,Q1,M1,c1,H1⟩,by simp; omega,⟨by simp; omega,⟨y2.ml,y2.om,y2.kp,y2.cp,y2.mem,y2.cnt,y2.snd⟩,?_⟩,le_of (by simp [dslot]),rfl⟩
  simp only
  obtain ⟨Q2,rfl⟩:=y3
  have ht:(fr :: (Q++Q2)).take (i+1)=(fr :: Q).take (i+1):=by
   rw [<- List.cons_append,List.take_append_of_le_length (by simp; omega)]
  rw [ht,List.take_add_one,hx]
  intro z hz k hk
  rcases List.mem_append.1 hz with hz | hz
  .exact y4 z hz k hk
  .simp at hz; subst hz
   obtain ⟨w,hw,hkw⟩:=hk
   rw [hws] at hw
   obtain ⟨w',hw',rfl⟩:=List.mem_map.1 hw
   obtain ⟨v,hv,rfl⟩:=List.mem_map.1 hkw
   exact y5 w' (by rw [List.take_of_length_le (by omega)]; exact hw') v hv
 obtain ⟨w,hwa⟩:∃ w,nd.ways[a]?=some w:=⟨nd.ways[a],by simp [ha]⟩
 have hwa2:nd.ways[a]'ha=w:=(List.getElem?_eq_some_iff.1 hwa).2
 have hwm:=List.mem_of_getElem? hwa
 have hlta:(a:Int) < nd.ways.length:=by omega
 have wa:=wrap1 (n:=a) (by omega)
 have hkl:=(hf.wcap nd (List.mem_of_getElem? hnd) w hwm).2
 have hkin:=fmd_kid hF hnd hwm
 simp -implicitDefEqProofs [lp1_ref14_beyond,hlta]
 refine AWp.till (S:=BS) ⟨0,Q1,M1,c1,H1⟩ (fun s=>w.kids.length - s.i) [2,5,7,8,9] (fun s=>[(6,.sl 1 (i64s (fr :: s.q)) s.c),(10,i64 (s.i:Int))]) (fun s=>s.H)
  (fun s=>s.i <= w.kids.length /\ BI f fr h s /\ (Q <+: s.q) /\ MkQ f s.M ((fr :: Q).take i) /\ MkW s.M (nd.ways.take a) /\ MkK s.M (w.kids.take s.i)) mixed ⟨by simp,⟨y2.ml,y2.om,y2.kp,y2.cp,y2.mem,y2.cnt,y2.snd⟩,y3,y4,y5,by simp [MkK]⟩ (le_of (by simp [dslot])) rfl ?_
 rintro ⟨j,Q2,M2,c2,H2⟩ ⟨x1,x2,x3,x4,x5,x6⟩
 simp only at x1 x2 x3 x4 x5 x6
 by_cases hj:j < w.kids.length
 case neg =>
  have hno:¬ (j:Int) < w.kids.length:=by omega
  simp -implicitDefEqProofs [lp2_ref14_beyond,hwa,hwa2,ha,encFW,hno,wa]
  refine ⟨⟨a+1,Q2,M2,c2,H2⟩,by simp; omega,⟨by simp; omega,⟨x2.ml,x2.om,x2.kp,x2.cp,x2.mem,x2.cnt,x2.snd⟩,x3,x4,?_⟩,le_of (by simp [dslot]),rfl⟩
  simp only
  rw [List.take_add_one,hwa]
  intro v hv
  rcases List.mem_append.1 hv with hv | hv
  .exact x5 v hv
  .simp at hv; subst hv
   rw [List.take_of_length_le (by omega)] at x6; exact x6
 obtain ⟨v,hvj⟩:∃ v,w.kids[j]?=some v:=⟨w.kids[j],by simp [hj]⟩
 have hvj2:w.kids[j]'hj=v:=(List.getElem?_eq_some_iff.1 hvj).2
 have hvm:=List.mem_of_getElem? hvj
 have hvin:=hkin v hvm
 obtain ⟨m,rfl⟩:∃ m:Nat,v=(m:Int):=⟨v.toNat,by omega⟩
 have hltj:(j:Int) < w.kids.length:=by omega
 have wj:=wrap1 (n:=j) (by omega)
 have hstp:Stp (wsF f) x m:=stp_of hnd hwm hvm
 have hmn:m < f.nodes.length:=by omega
 have hmM:m < M2.length:=by have:=x2.ml; simp only at this; omega
 obtain ⟨b,hb⟩:∃ b,M2[m]?=some b:=⟨M2[m],by simp [hmM]⟩
 have hom:=x2.om
 simp only at hom
 have hba:=bls_at hb
 have hkx:∀ M':List Bool,MkK M' (w.kids.take j) -> M'[m]?=some true -> MkK M' (w.kids.take (j+1)):=fun M' h1 h2 k hk=>by
  rw [List.take_add_one,hvj] at hk
  rcases List.mem_append.1 hk with hk | hk
  .exact h1 k hk
  .simp at hk; subst hk; simpa using h2
 cases b with
 | true =>
  simp -implicitDefEqProofs [lp2_ref14_beyond,hwa,hwa2,ha,encFW,hltj,hvj,hvj2,hj,hom,hba,hmn,wj]
  exact ⟨⟨j+1,Q2,M2,c2,H2⟩,by simp; omega,⟨by simp; omega,⟨x2.ml,x2.om,x2.kp,x2.cp,x2.mem,x2.cnt,x2.snd⟩,x3,x4,x5,hkx M2 x6 hb⟩,le_of (by simp [dslot]),rfl⟩
 | false =>
  have hm1:m+1 <= M2.length:=hmM
  have hput:List.take m (M2.map bl)++AV.sc (Value.bool true) :: List.drop (m+1) (M2.map bl)=(M2.set m true).map bl:=by
   rw [<- bls_set]; exact put_eq (M2.map bl) m (bl true) (by simp; omega)
  have hq2:=x2.len
  simp only at hq2
  have hol:=lt_of hom
  simp -implicitDefEqProofs [lp2_ref14_beyond,hwa,hwa2,ha,encFW,hltj,hvj,hvj2,hj,hom,hba,hmn,wj,hm1,hput]
  refine appQ (i64s (fr :: Q2)) (i64 (m:Int)) c2 ?_ (by simp) (by simp [elems]) (by simp [i64s]; unfold maxLenA; omega) fun T H' hT hT2=>?_
  .rcases x2.cp with h1 | ⟨T,h1,h2,h3⟩
   .exact .inl h1
   .exact .inr ⟨T,h1,by simp only at h2; rw [List.getElem?_set_ne (by omega)]; exact h2⟩
  have hset:∀ q:Nat,M2[q]?=some true -> (M2.set m true)[q]?=some true:=fun q hq=>mk_set hq hmM
  simp -implicitDefEqProofs [wj]
  refine ⟨⟨j+1,Q2++[m],M2.set m true,.tok T,H'⟩,by simp; omega,⟨by simp; omega,x2.mark hb (hxr m hstp) (by rw [<- bls_set]; exact hT),x3.trans (List.prefix_append _ _),fun z hz k hk=>hset _ (x4 z hz k hk),fun v hv k hk=>hset _ (x5 v hv k hk),hkx _ (fun k hk=>hset _ (x6 k hk)) (List.getElem?_set_self hmM)⟩,le_of (by simp [dslot,i64s]),rfl⟩
end Go.Apx
end
section
namespace Go.Apx
open Go.Proofs
set_option maxRecDepth 4000
abbrev TP:=ByteArray × AV
def tpC (x:TP):List AV:=[.sc (.string x.1),x.2]
def encTP (x:TP):AV:=.agg [.sc (.string x.1),x.2]
theorem tpC_flat (l:List TP):(l.flatMap tpC).length=l.length * 2:=by
 induction l with
 | nil=>rfl
 | cons x l ih=>rw [List.flatMap_cons,List.length_append,ih]; simp [tpC]; omega
theorem tpC_set (l:List TP) (a:Nat) (x:TP) (h:a < l.length):(l.flatMap tpC).take (a * 2)++tpC x++(l.flatMap tpC).drop (a * 2+2)=(l.set a x).flatMap tpC:=by
 induction l generalizing a with
 | nil=>simp at h
 | cons b l ih =>
  cases a with
  | zero=>simp [List.flatMap_cons,tpC]
  | succ a =>
   have ih2:=ih a (by simpa using h)
   have e1:(a+1) * 2=(tpC b).length+a * 2:=by simp [tpC]; omega
   rw [List.flatMap_cons,e1,List.take_length_add_append,show (tpC b).length+a * 2+2=(tpC b).length+(a * 2+2) by omega,List.drop_length_add_append,List.set_cons_succ,List.flatMap_cons,<- ih2]
   simp [List.append_assoc]
theorem tpC_row (l:List TP) (a:Nat) (x:TP) (h:l[a]?=some x):((l.flatMap tpC).drop (a * 2)).take 2=tpC x:=by
 induction l generalizing a with
 | nil=>simp at h
 | cons b l ih =>
  cases a with
  | zero=>simp at h; subst h; simp [List.flatMap_cons,tpC]
  | succ a =>
   have e1:(a+1) * 2=(tpC b).length+a * 2:=by simp [tpC]; omega
   rw [List.flatMap_cons,e1,List.drop_length_add_append]
   exact ih a (by simpa using h)
inductive RTr (g:Gr) (b:Nat) (H:AHeap):RT -> TP -> Prop
 | mk {r:Int} {R:Rl} {ts:List RT} {vs:List TP} {o:Nat} (hr:ruleNo g r=some R) (ho:b <= o) (hc:H[o]?=some (.cells 0 (vs.flatMap tpC))) (hl:vs.length=ts.length)
   (h:∀ (i:Nat) (t:RT) (v:TP),ts[i]?=some t -> vs[i]?=some v -> RTr g b H t v):RTr g b H (.node r ts) (R.label,.rf o 0 0 ts.length .full)
theorem RTr.keep {g:Gr} {b:Nat} {H H':AHeap} {t:RT} {v:TP} (h:RTr g b H t v) (hk:Kb b H H'):RTr g b H' t v:=by
 induction h with
 | mk hr ho hc hl h ih=>exact .mk hr ho (hk _ _ ho hc) hl ih
theorem RTr.le {g:Gr} {b b':Nat} {H:AHeap} {t:RT} {v:TP} (h:RTr g b H t v) (hb:b' <= b):RTr g b' H t v:=by
 induction h with
 | mk hr ho hc hl h ih=>exact .mk hr (by omega) hc hl ih
theorem RTr.shape {g:Gr} {b:Nat} {H:AHeap} {t:RT} {v:TP} (h:RTr g b H t v):∃ l o n,v=(l,.rf o 0 0 n .full):=by
 cases h with
 | mk hr ho hc hl h=>exact ⟨_,_,_,rfl⟩
def RO (f:FO) (L:Nat -> List RT) (v:AV) (H:AHeap):Prop:=∃ o gg rc O,v=.rf o gg 0 f.nodes.length rc /\ H[o]?=some (.cells gg (i64s O)) /\ O.length=f.nodes.length /\ ∀ i,Rz f i -> O[i]?=some (cnt L i)
theorem RO.keep {f:FO} {L:Nat -> List RT} {v:AV} {H H':AHeap} (h:RO f L v H) (hk:Kp H H'):RO f L v H':=by
 obtain ⟨o,gg,rc,O,h1,h2,h3⟩:=h
 exact ⟨o,gg,rc,O,h1,hk _ _ h2,h3⟩
theorem RO.at {f:FO} {L:Nat -> List RT} {v:AV} {H:AHeap} (h:RO f L v H):∃ o gg rc O,v=.rf o gg 0 f.nodes.length rc /\ H[o]?=some (.cells gg (i64s O)) /\ ∀ i,Rz f i -> (i64s O)[i]?=some (i64 (cnt L i:Int)):=by
 obtain ⟨o,gg,rc,O,h1,h2,h3,h4⟩:=h
 exact ⟨o,gg,rc,O,h1,h2,fun i hi=>i64s_at (h4 i hi)⟩
def TreeR (g:Gr) (t:RT) (H:AHeap) (r:AEnd) (H':AHeap):Prop:=∃ v,r=.ret (.tup [encTP v,bl true,i64 (deepR t:Int)]) /\ RTr g H.length H' t v /\ Kp H H'
structure TS1 where
 q:Nat
 n:Nat
structure TS2 where
 c:Nat
 d:Nat
 vs:List TP
 H:AHeap
def zTP:TP:=(⟨#[]⟩,.sl 0 [] .nil)
structure TJ (g:Gr) (L:Nat -> List RT) (ks:List Nat) (p:List RT) (o:Nat) (H:AHeap) (s:TS2):Prop where
 c:s.c <= ks.length
 d:s.d=1+deepsR (p.drop s.c)
 vl:s.vs.length=ks.length
 ce:s.H[o]?=some (.cells 0 (s.vs.flatMap tpC))
 tr:∀ (i:Nat) (t:RT) (v:TP),s.c <= i -> p[i]?=some t -> s.vs[i]?=some v -> RTr g (o+1) s.H t v
 kp:∀ (z:Nat) (x:AObj),z ≠ o -> H[z]?=some x -> s.H[z]?=some x
 len:H.length <= s.H.length
set_option maxHeartbeats 8000000 in
theorem tree_c (f:FO) (hf:FoOk f) (hF:fmdF f=true) (L:Nat -> List RT) (hL:∀ i,Wl (wsF f) i -> L i=stepL L (wsF f i)) (g:Gr) (hg:g.rules.length <= 2 ^ 31) (ov:AV) (i:Nat) (hw:Wl (wsF f) i) :
  ∀ (n:Nat) (t:RT) {H:AHeap},i < f.nodes.length -> Rz f i -> n < many -> (L i)[n]?=some t -> okR g.rules.length t=true -> RO f L ov H ->
   ACalls PP Gl 57 [encG g,encFO f,ov,i64 (i:Int),i64 (n:Int)] H (TreeR g t H):=by
 induction hw with
 | mk i hwk ih =>
 have hwi:Wl (wsF f) i:=.mk i hwk
 intro n t H hi hrz hn ht hok hro
 obtain ⟨nd,hnd⟩:∃ nd,f.nodes[i]?=some nd:=⟨f.nodes[i],by simp [hi]⟩
 have hnd2:f.nodes[i]'hi=nd:=(List.getElem?_eq_some_iff.1 hnd).2
 have hws:=wsF_at hnd
 have hfn:=hf.n
 obtain ⟨H0,hH0⟩:∃ H0,H0=H++[AObj.cells 0 [AV.sc (Value.string ⟨#[]⟩),AV.sl 0 [] Cap.nil]]:=⟨_,rfl⟩
 have kp0:Kp H H0:=by rw [hH0]; exact Kp.app _ _
 have hl0:H0.length=H.length+1:=by rw [hH0]; simp
 have ho10:H0[H.length]?=some (.cells 0 [.sc (.string ⟨#[]⟩),.sl 0 [] .nil]):=by rw [hH0]; simp
 have hro0:=hro.keep kp0
 obtain ⟨oo,og,orc,O,rfl,ho1,ho2⟩:=hro0.at
 refine enter_ref14_tree (by simp) ?_
 simp -implicitDefEqProofs [code_ref14_tree,res_ref14_tree,ann_ref14_tree,<- hH0,encG,encFO]
 refine AWp.till (S:=TS1) ⟨0,n⟩ (fun st=>nd.ways.length - st.q) [2,3,5,6,10] (fun st=>[(4,i64 (st.n:Int)),(13,i64 (st.q:Int))]) (fun _=>H0)
  (fun st=>st.q <= nd.ways.length /\ st.n < many /\ (stepL L ((wsF f i).drop st.q))[st.n]?=some t) mixed ⟨by simp,hn,by rw [List.drop_zero,<- hL i hwi]; exact ht⟩ (le_of (by simp [dslot])) rfl ?_
 rintro ⟨q,m⟩ ⟨z1,z2,z3⟩
 simp only at z1 z2 z3
 by_cases hq:q < nd.ways.length
 case neg =>
  rw [List.drop_eq_nil_of_le (by rw [hws]; simp; omega)] at z3
  simp [stepL] at z3
 obtain ⟨w,hwq⟩:∃ w,nd.ways[q]?=some w:=⟨nd.ways[q],by simp [hq]⟩
 have hwq2:nd.ways[q]'hq=w:=(List.getElem?_eq_some_iff.1 hwq).2
 have hwm:=List.mem_of_getElem? hwq
 have hltq:(q:Int) < nd.ways.length:=by omega
 have wq:=wrap1 (n:=q) (by have:=(hf.ncap nd (List.mem_of_getElem? hnd)).2; omega)
 have hkl:=(hf.wcap nd (List.mem_of_getElem? hnd) w hwm).2
 have hkz:=kid_rz hF hrz hnd hwm
 have hdr:(wsF f i).drop q=wnF w :: (wsF f i).drop (q+1):=by
  have:(wsF f i)[q]?=some (wnF w):=by rw [hws,List.getElem?_map,hwq]; rfl
  obtain ⟨h1,h2⟩:=List.getElem?_eq_some_iff.1 this
  rw [List.drop_eq_getElem_cons h1,h2]
 rw [hdr,stepL_get] at z3
 have hpe:=prodF_eq L (wnF w).2
 simp -implicitDefEqProofs [lp0_ref14_tree,hltq,hwq,hwq2,hq,hnd,hnd2,hi,encFN,encFW]
 refine AWp.cnt w.kids.length [2,3,4,5,6,10,13,14] (fun j=>[(15,i64 (prodF (cnt L) ((wnF w).2.take j):Int)),(16,i64 (j:Int))]) (fun _=>H0) (fun _=>True) mixed trivial (le_of (by simp [dslot,prodF])) rfl ?_ ?_
 .intro j hj _
  obtain ⟨x,hxj⟩:∃ x,w.kids[j]?=some x:=⟨w.kids[j],by simp [hj]⟩
  have hxj2:w.kids[j]'hj=x:=(List.getElem?_eq_some_iff.1 hxj).2
  obtain ⟨k1,k2,k3⟩:=hkz x (List.mem_of_getElem? hxj)
  obtain ⟨m2,rfl⟩:∃ m2:Nat,x=(m2:Int):=⟨x.toNat,by omega⟩
  have hltj:(j:Int) < w.kids.length:=by omega
  have wj:=wrap1 (n:=j) (by omega)
  have ham:=ho2 m2 (by simpa using k3)
  have hml2:m2 < f.nodes.length:=by omega
  have hpl:=prodF_le (cnt L) ((wnF w).2.take j)
  have hcl:=cnt_le L m2
  have hmul:prodF (cnt L) ((wnF w).2.take j) * cnt L m2 <= 1000000001 * 1000000001:=Nat.mul_le_mul hpl hcl
  have wmul:IntKind.i64.wrap ((prodF (cnt L) ((wnF w).2.take j):Int) * (cnt L m2:Int))=(prodF (cnt L) ((wnF w).2.take j):Int) * (cnt L m2:Int):=IntWalk.i64_in _ (by
   rw [<- Int.natCast_mul]; omega)
  have hkj:(wnF w).2[j]?=some m2:=by simp [wnF,hxj]
  have hmx:=mx_many (prodF (cnt L) ((wnF w).2.take j) * cnt L m2) _ (Int.natCast_mul _ _).symm
  rw [<- prodF_step (c:=cnt L) hkj] at hmx
  simp -implicitDefEqProofs [lp1_ref14_tree,hltj,hxj,hxj2,hj,ho1,ham,hml2,wj,wmul,hmx]
  exact le_of (by simp [dslot])
 intro _
 have hjj:(wnF w).2.take w.kids.length=(wnF w).2:=List.take_of_length_le (by simp [wnF])
 rw [hjj]
 by_cases hm:prodF (cnt L) (wnF w).2 <= m
 .have hm':(prodF (cnt L) (wnF w).2:Int) <= m:=by omega
  have hlen:prodF (cnt L) (wnF w).2=(combos L (wnF w).2).length:=by rw [hpe] at hm ⊢; omega
  have wsub:IntKind.i64.wrap ((m:Int) - (prodF (cnt L) (wnF w).2:Int))=((m - prodF (cnt L) (wnF w).2:Nat):Int):=by
   rw [IntWalk.i64_in _ (by unfold many at *; omega)]; omega
  rw [if_neg (by omega)] at z3
  simp -implicitDefEqProofs [lp1_ref14_tree,hm',wsub,wq]
  exact ⟨⟨q+1,m - prodF (cnt L) (wnF w).2⟩,by simp; omega,⟨by simp; omega,by simp only; omega,by simp only; rw [hlen]; exact z3⟩,le_of (by simp [dslot])⟩
 have hm':¬ (prodF (cnt L) (wnF w).2:Int) <= m:=by omega
 rw [if_pos (by rw [hpe] at hm; omega)] at z3
 obtain ⟨p,hp,rfl⟩:∃ p,(combos L (wnF w).2)[m]?=some p /\ RT.node (wnF w).1 p=t:=by
  cases hp:(combos L (wnF w).2)[m]? with
  | none=>rw [hp] at z3; cases z3
  | some p=>rw [hp] at z3; exact ⟨p,rfl,Option.some.inj z3⟩
 obtain ⟨hpl,hdig⟩:=digit _ _ _ hp
 have hks:(wnF w).2.length=w.kids.length:=by simp [wnF]
 have hrr:∃ (r:Nat) (R:Rl),w.rule=(r:Int) /\ r < g.rules.length /\ g.rules[r]?=some R:=by
  simp only [okR,Bool.and_eq_true,decide_eq_true_eq] at hok
  obtain ⟨⟨h1,h2⟩,_⟩:=hok
  exact ⟨w.rule.toNat,g.rules[w.rule.toNat]'(by simp [wnF] at h1 h2; omega),by simp [wnF] at h1; omega,by simp [wnF] at h1 h2; omega,by simp⟩
 obtain ⟨r,R,hr1,hr2,hr3⟩:=hrr
 have hr4:g.rules[r]'hr2=R:=(List.getElem?_eq_some_iff.1 hr3).2
 have hokp:oksR g.rules.length p=true:=by simp only [okR,Bool.and_eq_true] at hok; exact hok.2
 have hrl:¬ (g.rules.length:Int) <= r:=by omega
 have hr0:¬ (r:Int) < 0:=by omega
 have hkm:w.kids.length <= maxLenA:=by unfold maxLenA; omega
 have wl1:IntKind.i64.wrap ((w.kids.length:Int) - 1)=(w.kids.length:Int) - 1:=IntWalk.i64_in _ (by omega)
 have hn0:dvN L (wnF w).2 m w.kids.length=m:=by
  unfold dvN; rw [List.drop_eq_nil_of_le (by omega)]; simp [combos]
 have hz:(List.replicate w.kids.length [AV.sc (Value.string ⟨#[]⟩),AV.sl 0 [] Cap.nil]).flatten=(List.replicate w.kids.length zTP).flatMap tpC:=by
  rw [List.flatMap_def,List.map_replicate]; rfl
 have hpd0:p.drop w.kids.length=[]:=List.drop_eq_nil_of_le (by omega)
 simp -implicitDefEqProofs [lp1_ref14_tree,hm',hr1,hr0,hrl,hr2,hr3,hr4,encR,hkm,wl1]
 rw [hz]
 obtain ⟨H1,hH1⟩:∃ H1,H1=H0++[AObj.cells 0 ((List.replicate w.kids.length zTP).flatMap tpC)]:=⟨_,rfl⟩
 have kp1:Kp H0 H1:=by rw [hH1]; exact Kp.app _ _
 have hl1:H1.length=H0.length+1:=by rw [hH1]; simp
 rw [<- hH1]
 refine AWp.till (S:=TS2) ⟨w.kids.length,1,List.replicate w.kids.length zTP,H1⟩ (fun s=>s.c) [2,5,6,10,14,17] (fun s=>[(4,i64 (dvN L (wnF w).2 m s.c:Int)),(18,i64 (s.d:Int)),(19,i64 ((s.c:Int) - 1))]) (fun s=>s.H)
  (TJ g L (wnF w).2 p H0.length H1) mixed ⟨by simp only; omega,by simp [hpd0,deepsR],by simp [hks],by simp [hH1],fun j t v hj ht'=>by (simp only at hj; have:=(List.getElem?_eq_some_iff.1 ht').1; omega),fun _ _ _ hx=>hx,Nat.le_refl _⟩ (le_of (by simp [dslot,hn0])) rfl ?_
 rintro ⟨c,d,vs,H2⟩ hs
 have s1:=hs.c
 have s2:=hs.d
 have s3:=hs.vl
 have s4:=hs.ce
 have s5:=hs.len
 simp only at s1 s2 s3 s4 s5
 have s6:H2[H.length]?=some (.cells 0 [.sc (.string ⟨#[]⟩),.sl 0 [] .nil]):=hs.kp _ _ (by omega) (kp1 _ _ ho10)
 cases c with
 | zero =>
  rw [List.drop_zero] at s2
  have e1:(H2.set H.length (.cells 0 [.sc (.string R.label),.rf H0.length 0 0 w.kids.length .full]))[H.length]?=some (.cells 0 [.sc (.string R.label),.rf H0.length 0 0 w.kids.length .full]):=List.getElem?_set_self (lt_of s6)
  have hpk:w.kids.length=p.length:=by omega
  simp -implicitDefEqProofs [lp2_ref14_tree,s6]
  refine ret1 (v:=.tup [encTP (R.label,.rf H0.length 0 0 w.kids.length .full),bl true,i64 (d:Int)]) (by simp [deferred,dslot]) (by simp [evalRes,evalRes1,e1,encTP]) ⟨(R.label,.rf H0.length 0 0 w.kids.length .full),by rw [s2]; rfl,?_,fun z x hz=>?_⟩
  .rw [hpk]
   refine .mk (vs:=vs) (by show ruleNo g w.rule=_; rw [hr1]; simp [ruleNo,hr3]) (by omega) ?_ (by omega) fun j t v hj hv=>?_
   .rw [List.getElem?_set_ne (by omega)]; exact s4
   .refine ((hs.tr j t v (Nat.zero_le _) hj hv).keep fun z x hz hx=>?_).le (by omega)
    rw [List.getElem?_set_ne (by omega)]; exact hx
  .have hzl:=lt_of hz
   rw [List.getElem?_set_ne (by omega)]
   exact hs.kp z x (by omega) (kp1 _ _ (kp0 _ _ hz))
 | succ c =>
  obtain ⟨x,hxc⟩:∃ x,w.kids[c]?=some x:=⟨w.kids[c]'(by omega),by simp⟩
  have hxc2:w.kids[c]'(by omega)=x:=(List.getElem?_eq_some_iff.1 hxc).2
  obtain ⟨x1,x2,x3⟩:=hkz x (List.mem_of_getElem? hxc)
  obtain ⟨k,rfl⟩:∃ k:Nat,x=(k:Int):=⟨x.toNat,by omega⟩
  have hkc:(wnF w).2[c]?=some k:=by simp [wnF,hxc]
  have hstp:Stp (wsF f) i k:=stp_of hnd hwm (List.mem_of_getElem? hxc)
  obtain ⟨tk,htk⟩:∃ tk,p[c]?=some tk:=⟨p[c]'(by omega),by simp⟩
  have hd1:=hdig c k hkc
  rw [htk] at hd1
  have hLk:0 < (L k).length:=by have:=(List.getElem?_eq_some_iff.1 hd1).1; omega
  have hlt:m / (combos L ((wnF w).2.drop (c+1))).length < many:=Nat.lt_of_le_of_lt (Nat.div_le_self _ _) z2
  obtain ⟨mc1,mc2⟩:=mod_cnt (L:=L) (k:=k) hlt
  have hcnt:0 < cnt L k:=by unfold cnt many; omega
  have hkl2:k < f.nodes.length:=by omega
  have hrz2:Rz f k:=by simpa using x3
  have hak:=ho2 k hrz2
  have hool:=lt_of ho1
  have ho1b:H2[oo]?=some (.cells og (i64s O)):=hs.kp _ _ (by omega) (kp1 _ _ ho1)
  obtain ⟨dm,hdm⟩:∃ dm,dm=dvN L (wnF w).2 m (c+1):=⟨_,rfl⟩
  rw [<- hdm]
  have hdm2:m / (combos L ((wnF w).2.drop (c+1))).length=dm:=hdm.symm
  rw [hdm2] at hlt mc1 mc2 hd1
  have hcne:¬ cnt L k=0:=by omega
  obtain ⟨r0,hr0'⟩:∃ r0,r0=dm % (L k).length:=⟨_,rfl⟩
  rw [<- hr0'] at hd1 mc1
  have htm:(dm:Int).tmod (cnt L k:Int)=(r0:Int):=by rw [<- Int.ofNat_tmod,mc1]
  have hr0m:r0 < many:=Nat.lt_of_le_of_lt (by rw [hr0']; exact Nat.mod_le _ _) hlt
  have hdn:dm / cnt L k=dvN L (wnF w).2 m c:=by
   unfold dvN
   rw [mc2,<- hdm2,Nat.div_div_eq_div_mul,Nat.mul_comm,drop_dvd hkc]
  have htd:(dm:Int).tdiv (cnt L k:Int)=(dvN L (wnF w).2 m c:Int):=by rw [<- Int.ofNat_tdiv,hdn]
  have hdp:deepR tk <= f.nodes.length+1:=deep_le hL f.nodes.length k (List.range f.nodes.length) (hwk k hstp) (by simp) (fun j hj=>List.mem_range.2 (rch_lt hF hj)) tk (List.mem_of_getElem? hd1)
  have wdn:IntKind.i64.wrap (dvN L (wnF w).2 m c:Int)=(dvN L (wnF w).2 m c:Int):=IntWalk.i64_in _ (by have:dvN L (wnF w).2 m c <= m:=Nat.div_le_self _ _; unfold many at z2; omega)
  have hokt:=oksR_all.1 hokp tk (List.mem_of_getElem? htk)
  have hro2:RO f L (.rf oo og 0 f.nodes.length orc) H2:=by
   obtain ⟨o',gg',rc',O',q1,q2,q3⟩:=hro0
   cases q1
   exact ⟨_,_,_,O',rfl,hs.kp _ _ (by omega) (kp1 _ _ q2),q3⟩
  simp -implicitDefEqProofs [lp2_ref14_tree,hxc,hxc2,ho1b,hak,hkl2,hcne,htm]
  refine callr (ih k hstp r0 tk (by omega) hrz2 hr0m hd1 hokt hro2) (by simp [encG,encFO]) rfl ?_
  rintro r3 H3 ⟨v,rfl,hrt,kp3⟩
  obtain ⟨lb,o',n',rfl⟩:=hrt.shape
  have hlen3:H2.length <= H3.length:=by have:=lt_of (kp3 _ _ (show H2[H2.length - 1]?=some (H2[H2.length - 1]'(by omega)) by simp)); omega
  have ho1c:=kp3 _ _ ho1b
  have s4c:=kp3 _ _ s4
  have ws2:IntKind.i64.wrap ((deepR tk:Int)+1)=(deepR tk:Int)+1:=IntWalk.i64_in _ (by omega)
  have hmxd:(if (d:Int) < (deepR tk:Int)+1 then (deepR tk:Int)+1 else (d:Int))=((max d (deepR tk+1):Nat):Int):=by split <;> omega
  have wc1:IntKind.i64.wrap ((c:Int) - 1)=(c:Int) - 1:=IntWalk.i64_in _ (by omega)
  have hfl:=tpC_flat vs
  have hfits:c * 2+2 <= (vs.flatMap tpC).length:=by rw [hfl]; omega
  have hput:=tpC_set vs c (lb,.rf o' 0 0 n' .full) (by omega)
  obtain ⟨X,hX⟩:∃ X,X=vs.flatMap tpC:=⟨_,rfl⟩
  rw [<- hX] at s4c hfits hput
  have hput2:List.take (c * 2) X++AV.sc (Value.string lb) :: AV.rf o' 0 0 n' .full :: List.drop (c * 2+2) X=(vs.set c (lb,.rf o' 0 0 n' .full)).flatMap tpC:=by rw [<- hput]; simp [tpC]
  have hck:c < w.kids.length:=by omega
  have s4d:(H3.set H0.length (.cells 0 ((vs.set c (lb,.rf o' 0 0 n' .full)).flatMap tpC)))[oo]?=some (.cells og (i64s O)):=by rw [List.getElem?_set_ne (by omega)]; exact ho1c
  simp -implicitDefEqProofs [encTP,ho1c,s4c,hak,hkl2,hcne,htd,wdn,ws2,hmxd,wc1,hck,hxc,hxc2,hfits,hput2,s4d]
  have hpd:p.drop c=tk :: p.drop (c+1):=by
   obtain ⟨q1,q2⟩:=List.getElem?_eq_some_iff.1 htk
   rw [List.drop_eq_getElem_cons q1,q2]
  have hdl:deepsR (p.drop c)=max (deepR tk) (deepsR (p.drop (c+1))):=by rw [hpd]; rfl
  have hkb:∀ y,Kb (H0.length+1) H2 (H3.set H0.length y):=fun y z x hz hx=>by rw [List.getElem?_set_ne (by omega)]; exact kp3 z x hx
  refine ⟨⟨c,max d (deepR tk+1),vs.set c (lb,.rf o' 0 0 n' .full),H3.set H0.length (.cells 0 ((vs.set c (lb,.rf o' 0 0 n' .full)).flatMap tpC))⟩,by simp,⟨by simp only; omega,by simp only; rw [hdl]; omega,by simp [s3],by simp only; rw [List.getElem?_set_self (lt_of s4c)],fun j t v hj ht' hv=>?_,fun z x hz hx=>?_,by simp; omega⟩,le_of (by simp [dslot]),rfl⟩
  .simp only at hj hv ⊢
   by_cases e:c=j
   .subst e
    rw [List.getElem?_set_self (by omega)] at hv
    rw [htk] at ht'
    cases ht'; cases hv
    exact (hrt.le (by omega)).keep fun z x hz hx=>by rw [List.getElem?_set_ne (by omega)]; exact hx
   .rw [List.getElem?_set_ne e] at hv
    exact (hs.tr j t v (by simp only; omega) ht' hv).keep (hkb _)
  .simp only
   rw [List.getElem?_set_ne (Ne.symm hz)]
   exact kp3 z x (hs.kp z x hz hx)
end Go.Apx
end
section
namespace Go.Apx
open Go.Proofs
set_option maxRecDepth 4000
def CntsR (f:FO) (L:Nat -> List RT) (h:AHeap) (r:AEnd) (h':AHeap):Prop :=
 Kp h h' /\ ((¬ Wl (wsF f) 0 /\ r=.ret (.tup [.sl 0 [] .nil,bl false])) \/ (Wl (wsF f) 0 /\ ∃ v,r=.ret (.tup [v,bl true]) /\ v.isPend=false /\ v.one=true /\ RO f L v h'))
structure ES where
 i:Nat
 H:AHeap
structure EI (f:FO) (L:Nat -> List RT) (M:List Bool) (om o6 o7:Nat) (h:AHeap) (O:List Nat) (Dd:List Bool) (H:AHeap):Prop where
 ol:O.length=f.nodes.length
 dl:Dd.length=f.nodes.length
 ob:∀ x ∈ O,x <= many
 dn:∀ i,Dd[i]?=some true -> O[i]?=some (cnt L i)
 m:H[om]?=some (.cells 0 (M.map bl))
 o:H[o6]?=some (.cells 0 (i64s O))
 d:H[o7]?=some (.cells 0 (Dd.map bl))
 kp:Kp h H
structure PS where
 more:Bool
 i:Nat
 O:List Nat
 Dd:List Bool
 H:AHeap
structure QS where
 b:Bool
 n:Nat
 k:Nat
def DnW (Dd:List Bool) (l:List FW):Prop:=∀ w ∈ l,∀ k ∈ w.kids,Dd[k.toNat]?=some true
def DnK (Dd:List Bool) (l:List Int):Prop:=∀ k ∈ l,Dd[k.toNat]?=some true
def undone (Dd:List Bool):Nat:=Dd.countP (· == false)
theorem undone_set {Dd:List Bool} {i:Nat} (h:Dd[i]?=some false):undone (Dd.set i true)+1=undone Dd:=by
 obtain ⟨h1,h2⟩:=List.getElem?_eq_some_iff.1 h
 have h3:0 < Dd.countP (· == false):=List.countP_pos_iff.2 ⟨Dd[i],List.getElem_mem h1,by simp [h2]⟩
 unfold undone
 rw [List.countP_set h1,h2]
 generalize Dd.countP (· == false)=n at h3 ⊢
 simp; omega
set_option maxHeartbeats 8000000 in
theorem counts_c (f:FO) (hf:FoOk f) (hF:fmdF f=true) (hN:0 < f.nodes.length) (L:Nat -> List RT) (hL:∀ i,Wl (wsF f) i -> L i=stepL L (wsF f i)) {h:AHeap}:ACalls PP Gl 52 [encFO f] h (CntsR f L h):=by
 have hfn:=hf.n
 have hmx:f.nodes.length <= maxLenA:=by unfold maxLenA; omega
 have hne:f.nodes ≠ []:=by intro e; rw [e] at hN; simp at hN
 refine enter_ref14_counts (by simp) ?_
 simp -implicitDefEqProofs [code_ref14_counts,res_ref14_counts,ann_ref14_counts,encFO]
 refine callr (beyond_c f hf hF 0 hN) (by simp [encFO]) rfl ?_
 rintro r0 H0 ⟨M0,rfl,b1,b2,b3,b4⟩
 have h00:0 < M0.length:=by omega
 have hput0:AV.sc (Value.bool true) :: (M0.map bl).tail=(M0.set 0 true).map bl:=by
  cases M0 with
  | nil=>simp at h00
  | cons a l=>simp
 have hcells:1 <= M0.length:=h00
 have hhl:=lt_of b1
 simp -implicitDefEqProofs [b1,b2,hN,hput0,hcells]
 obtain ⟨M,hM⟩:∃ M,M=M0.set 0 true:=⟨_,rfl⟩
 rw [bls_set,<- hM]
 have hMl:M.length=f.nodes.length:=by rw [hM]; simp [b3]
 have hMz:∀ i:Nat,M[i]?=some true ↔ Rz f i:=fun i=>by
  rw [hM]
  by_cases e:i=0
  .subst e; rw [List.getElem?_set_self h00]; simp [Rz]
  .rw [List.getElem?_set_ne (Ne.symm e),b4 i]; simp [Rz,e]
 have hMM:∀ i,i < f.nodes.length -> ∃ b,M[i]?=some b:=fun i hi=>⟨M[i]'(by omega),by simp⟩
 refine AWp.till (S:=ES) ⟨0,H0.set h.length (.cells 0 (M.map bl))⟩ (fun s=>f.nodes.length - s.i) [1,4] (fun s=>[(5,i64 (s.i:Int))]) (fun s=>s.H)
  (fun s=>s.i <= f.nodes.length /\ Kp h s.H /\ s.H[h.length]?=some (.cells 0 (M.map bl)) /\ ∀ j,j < s.i -> M[j]?=some true -> ¬ Rch (wsF f) j j) mixed ⟨by simp,fun z x hz=>?_,List.getElem?_set_self hhl,fun j hj=>absurd hj (Nat.not_lt_zero _)⟩ (le_of (by simp [dslot])) rfl ?_
 .have:=lt_of hz
  simp only; rw [List.getElem?_set_ne (by omega)]; exact b2 z x hz
 rintro ⟨i,H⟩ ⟨z1,z2,z3,z4⟩
 simp only at z1 z2 z3 z4
 by_cases hi:i < f.nodes.length
 .have hlt:(i:Int) < f.nodes.length:=by omega
  have wi:=wrap1 (n:=i) (by omega)
  obtain ⟨b,hb⟩:=hMM i hi
  have hba:=bls_at hb
  cases b with
  | false =>
   simp -implicitDefEqProofs [lp0_ref14_counts,hlt,hi,z3,hba,wi]
   refine ⟨⟨i+1,H⟩,by simp; omega,⟨by simp; omega,z2,z3,fun j hj hj2=>?_⟩,le_of (by simp [dslot]),rfl⟩
   simp only at hj
   rcases Nat.lt_succ_iff_lt_or_eq.1 hj with h1 | rfl
   .exact z4 j h1 hj2
   .rw [hb] at hj2; cases hj2
  | true =>
   simp -implicitDefEqProofs [lp0_ref14_counts,hlt,hi,z3,hba]
   refine callr (beyond_c f hf hF i hi) (by simp [encFO]) rfl ?_
   rintro r1 H1 ⟨M1,rfl,y1,y2,y3,y4⟩
   obtain ⟨b,hb1⟩:∃ b,M1[i]?=some b:=⟨M1[i]'(by omega),by simp⟩
   have hba1:=bls_at hb1
   cases b with
   | true =>
    simp -implicitDefEqProofs [hi,y1,hba1]
    refine ret1 (v:=.tup [.sl 0 [] .nil,bl false]) (by simp [deferred,dslot]) (by simp [evalRes,evalRes1]) ⟨z2.trans y2,.inl ⟨fun hw=>?_,rfl⟩⟩
    exact (((hMz i).1 hb).wl hw).irr ((y4 i).1 hb1)
   | false =>
    simp -implicitDefEqProofs [hi,y1,hba1,wi]
    refine ⟨⟨i+1,H1⟩,by simp; omega,⟨by simp; omega,z2.trans y2,y2 _ _ z3,fun j hj hj2=>?_⟩,le_of (by simp [dslot]),rfl⟩
    simp only at hj
    rcases Nat.lt_succ_iff_lt_or_eq.1 hj with h1 | rfl
    .exact z4 j h1 hj2
    .intro hr; have:=(y4 j).2 hr; rw [hb1] at this; cases this
 have hno:¬ (i:Int) < f.nodes.length:=by omega
 have hwl:Wl (wsF f) 0:=wl_of f.nodes.length 0 (List.range f.nodes.length) (by simp) (fun j hj=>List.mem_range.2 (rch_lt hF hj)) fun j hj=>z4 j (by have:=rch_lt hF hj; omega) ((hMz j).2 (.inr hj))
 have hrep1:List.replicate f.nodes.length (AV.sc (Value.int IntKind.i64 0))=i64s (List.replicate f.nodes.length 0):=by simp [i64s]
 have hrep2:List.replicate f.nodes.length (AV.sc (Value.bool false))=(List.replicate f.nodes.length false).map bl:=by simp
 obtain ⟨H6,hH6⟩:∃ H6,H6=H++[.cells 0 (i64s (List.replicate f.nodes.length 0))]++[.cells 0 ((List.replicate f.nodes.length false).map bl)]:=⟨_,rfl⟩
 simp -implicitDefEqProofs [lp0_ref14_counts,hno,hmx]
 rw [hrep1,hrep2]
 have hlH:=lt_of z3
 have hkH:Kp H H6:=by rw [hH6,List.append_assoc]; exact Kp.app _ _
 have hEI0:EI f L M h.length H.length (H.length+1) h (List.replicate f.nodes.length 0) (List.replicate f.nodes.length false) H6:=by
  refine ⟨by simp,by simp,fun x hx=>by have:=(List.mem_replicate.1 hx).2; omega,fun i hi=>?_,hkH _ _ z3,by rw [hH6,List.append_assoc]; simp,by rw [hH6,List.append_assoc]; simp,z2.trans hkH⟩
  have:=List.mem_of_getElem? hi
  have:=(List.mem_replicate.1 this).2
  cases this
 have hH6':H++[.cells 0 (i64s (List.replicate f.nodes.length 0)),.cells 0 ((List.replicate f.nodes.length false).map bl)]=H6:=by rw [hH6]; simp
 rw [hH6']
 obtain ⟨o6,ho6⟩:∃ o6,o6=H.length:=⟨_,rfl⟩
 rw [<- ho6] at hEI0 ⊢
 have hne67:o6 ≠ o6+1:=by omega
 have hm6:h.length ≠ o6 /\ h.length ≠ o6+1:=by omega
 refine AWp.till (S:=PS) ⟨true,0,List.replicate f.nodes.length 0,List.replicate f.nodes.length false,H6⟩ (fun s=>2 * undone s.Dd+(if s.more=true then 1 else 0)) [1,4,6,7] (fun s=>[(8,bl s.more)]) (fun s=>s.H)
  (fun s=>EI f L M h.length o6 (o6+1) h s.O s.Dd s.H /\ (s.more=false -> ∀ (j:Nat) (n:FN),M[j]?=some true -> f.nodes[j]?=some n -> DnW s.Dd n.ways -> s.Dd[j]?=some true)) mixed ⟨hEI0,fun hh=>by cases hh⟩ (le_of (by simp [dslot])) rfl ?_
 rintro ⟨more,i0,O,Dd,H7⟩ ⟨z5,z6⟩
 simp only at z5 z6
 cases more with
 | false =>
  have hfix:=z6 rfl
  have hall:∀ j,Wl (wsF f) j -> Rz f j -> Dd[j]?=some true:=fun j hj=>by
   induction hj with
   | mk j hk ih =>
    intro hr
    have hjl:j < f.nodes.length:=by
     have:=(List.getElem?_eq_some_iff.1 ((hMz j).2 hr)).1; omega
    obtain ⟨n,hn⟩:∃ n,f.nodes[j]?=some n:=⟨f.nodes[j],by simp [hjl]⟩
    refine hfix j n ((hMz j).2 hr) hn fun w hw k hkk=>?_
    have hin:=fmd_kid hF hn hw k hkk
    have hs:Stp (wsF f) j k.toNat:=stp_of hn hw (by rw [Int.toNat_of_nonneg hin.1]; exact hkk)
    exact ih _ hs (hr.kid hs)
  simp -implicitDefEqProofs [lp1_ref14_counts]
  exact ret1 (v:=.tup [.rf o6 0 0 f.nodes.length .full,bl true]) (by simp [deferred,dslot]) (by simp [evalRes,evalRes1]) ⟨z5.kp,.inr ⟨hwl,_,rfl,rfl,rfl,o6,0,.full,O,rfl,z5.o,z5.ol,fun j hj=>z5.dn j (hall j (hj.wl hwl) hj)⟩⟩
 | true =>
 simp -implicitDefEqProofs [lp1_ref14_counts]
 refine AWp.till (S:=PS) ⟨false,0,O,Dd,H7⟩ (fun s=>f.nodes.length - s.i) [1,4,6,7] (fun s=>[(8,bl s.more),(9,i64 (s.i:Int))]) (fun s=>s.H)
  (fun s=>s.i <= f.nodes.length /\ EI f L M h.length o6 (o6+1) h s.O s.Dd s.H /\ undone s.Dd <= undone Dd /\ (s.more=true -> undone s.Dd < undone Dd) /\
   (s.more=false -> s.Dd=Dd /\ ∀ (j:Nat) (n:FN),j < s.i -> M[j]?=some true -> f.nodes[j]?=some n -> DnW Dd n.ways -> Dd[j]?=some true)) mixed ⟨by simp,z5,Nat.le_refl _,(fun hh=>by cases hh),fun _=>⟨rfl,fun j n hj=>absurd hj (Nat.not_lt_zero _)⟩⟩ (le_of (by simp [dslot])) rfl ?_
 rintro ⟨more,i,O1,D1,H1⟩ ⟨y1,y2,y3,y4,y5⟩
 simp only at y1 y2 y3 y4 y5
 by_cases hi:i < f.nodes.length
 case neg =>
  have hno:¬ (i:Int) < f.nodes.length:=by omega
  simp -implicitDefEqProofs [lp2_ref14_counts,hno]
  refine ⟨⟨more,0,O1,D1,H1⟩,?_,⟨y2,fun hm j n hj hn hd=>?_⟩,le_of (by simp [dslot]),rfl⟩
  .cases more with
   | false=>simp; omega
   | true=>have:=y4 rfl; simp; omega
  .obtain ⟨e1,e2⟩:=y5 hm
   simp only at hd ⊢
   rw [e1] at hd ⊢
   exact e2 j n (by have:=(List.getElem?_eq_some_iff.1 hn).1; omega) hj hn hd
 obtain ⟨nd,hnd⟩:∃ nd,f.nodes[i]?=some nd:=⟨f.nodes[i],by simp [hi]⟩
 have hnd2:f.nodes[i]'hi=nd:=(List.getElem?_eq_some_iff.1 hnd).2
 have hws:=wsF_at hnd
 have hwln:=(hf.ncap nd (List.mem_of_getElem? hnd)).2
 have hlt:(i:Int) < f.nodes.length:=by omega
 have wi:=wrap1 (n:=i) (by omega)
 obtain ⟨mi,hmi⟩:=hMM i hi
 have hmia:=bls_at hmi
 have ym:=y2.m
 have yo:=y2.o
 have yd:=y2.d
 have hd1l:=y2.dl
 obtain ⟨di,hdi⟩:∃ di,D1[i]?=some di:=⟨D1[i]'(by omega),by simp⟩
 have hdia:=bls_at hdi
 obtain ⟨b0,hb0⟩:∃ b0,b0=(mi && !di):=⟨_,rfl⟩
 have hgo:∀ Q:APost,∀ env:Env,True:=fun _ _=>trivial
 have hready:(if mi=true then !di else false)=b0:=by rw [hb0]; cases mi <;> rfl
 have hcase:(mi=false /\ b0=false) \/ (mi=true /\ di=true /\ b0=false) \/ (mi=true /\ di=false /\ b0=true):=by
  rw [hb0]; cases mi <;> cases di <;> simp
 have hnext:(b0=true -> ¬ DnW D1 nd.ways) -> (more=false -> D1=Dd /\ ∀ (j:Nat) (n:FN),j < i+1 -> M[j]?=some true -> f.nodes[j]?=some n -> DnW Dd n.ways -> Dd[j]?=some true):=fun hnr hm=>by
  obtain ⟨e1,e2⟩:=y5 hm
  refine ⟨e1,fun j n hj hMj hnj hd=>?_⟩
  rcases Nat.lt_succ_iff_lt_or_eq.1 hj with h1 | rfl
  .exact e2 j n h1 hMj hnj hd
  .rw [hnd] at hnj; cases hnj
   rw [hmi] at hMj; cases hMj
   rw [<- e1] at hd ⊢
   cases di with
   | true=>exact hdi
   | false=>exact (hnr (by rw [hb0]; rfl) hd).elim
 have hstp:∀ w ∈ nd.ways,∀ k ∈ w.kids,0 <= k /\ k < f.nodes.length:=fun w hw=>fmd_kid hF hnd hw
 have hob:=y2.ob
 have hrd:b0=true -> M[i]?=some true /\ D1[i]?=some false:=fun hh=>by
  rw [hb0] at hh
  simp only [Bool.and_eq_true,Bool.not_eq_true'] at hh
  rw [hmi,hdi,hh.1,hh.2]; exact ⟨rfl,rfl⟩
 rcases hcase with ⟨hm0,hb⟩ | ⟨hm0,hd0,hb⟩ | ⟨hm0,hd0,hb⟩
 all_goals
  subst hm0
  try subst hd0
  simp -implicitDefEqProofs [lp2_ref14_counts,hlt,hi,ym,yo,yd,hmia,hdia]
  refine AWp.till (S:=QS) ⟨b0,0,0⟩ (fun s=>nd.ways.length+1 - s.k+(if s.b=true then 1 else 0)) [1,4,6,7,8,9] (fun s=>[(10,bl s.b),(11,i64 (s.n:Int)),(12,i64 (s.k:Int))]) (fun _=>H1)
   (fun s=>s.k <= nd.ways.length /\ s.n <= many /\ (s.b=true -> b0=true /\ DnW D1 (nd.ways.take s.k) /\ s.n=sumF (cnt L) ((wsF f i).take s.k)) /\ (s.b=false -> b0=true -> ¬ DnW D1 nd.ways)) mixed
   ⟨by simp,by simp,fun hbb=>⟨hbb,by simp [DnW],by simp [sumF]⟩,fun h1 h2=>by simp only at h1; rw [h1] at h2; cases h2⟩ (le_of (by simp [dslot,hb])) rfl ?_
  rintro ⟨b,n,k⟩ ⟨x1,x2,x3,x4⟩
  simp only at x1 x2 x3 x4
  cases b with
  | false =>
   simp -implicitDefEqProofs [lp3_ref14_counts,wi]
   exact ⟨⟨more,i+1,O1,D1,H1⟩,by simp; omega,⟨by simp; omega,y2,y3,y4,hnext (x4 rfl)⟩,le_of (by simp [dslot]),rfl⟩
  | true =>
  obtain ⟨x5,x6,x7⟩:=x3 rfl
  by_cases hk:k < nd.ways.length
  case neg =>
   have hno:¬ (k:Int) < nd.ways.length:=by omega
   have hkk:(wsF f i).take k=wsF f i:=List.take_of_length_le (by rw [hws]; simp; omega)
   have hkw:nd.ways.take k=nd.ways:=List.take_of_length_le (by omega)
   rw [hkk] at x7
   rw [hkw] at x6
   have hrz:Rz f i:=(hMz i).1 (hrd x5).1
   have hdif:=(hrd x5).2
   have hcn:n=cnt L i:=by rw [x7,cnt_eq hL (hrz.wl hwl)]
   have hol1:=y2.ol
   have i1:i+1 <= O1.length:=by omega
   have i2:i+1 <= D1.length:=by omega
   have p1:List.take i (i64s O1)++i64 (n:Int) :: List.drop (i+1) (i64s O1)=i64s (O1.set i n):=by
    rw [<- i64s_setN]; exact put_eq (i64s O1) i (i64 (n:Int)) (by simp; omega)
   have p2:List.take i (D1.map bl)++AV.sc (Value.bool true) :: List.drop (i+1) (D1.map bl)=(D1.set i true).map bl:=by
    rw [<- bls_set]; exact put_eq (D1.map bl) i (bl true) (by simp; omega)
   have q1:(H1.set o6 (.cells 0 (i64s (O1.set i n))))[o6+1]?=some (.cells 0 (D1.map bl)):=by rw [List.getElem?_set_ne (by omega)]; exact yd
   have hun:=undone_set hdif
   simp -implicitDefEqProofs [lp3_ref14_counts,hnd,hnd2,hi,encFN,hno,yo,i1,p1,q1,i2,p2,wi]
   refine ⟨⟨true,i+1,O1.set i n,D1.set i true,(H1.set o6 (.cells 0 (i64s (O1.set i n)))).set (o6+1) (.cells 0 ((D1.set i true).map bl))⟩,by simp; omega,⟨by simp; omega,⟨by simp [y2.ol],by simp [y2.dl],fun x hx=>?_,fun j hj=>?_,?_,?_,?_,fun z x hz=>?_⟩,by simp only; omega,fun _=>by simp only; omega,fun hh=>by cases hh⟩,le_of (by simp [dslot]),by simp only; rw [bls_set]⟩
   .rcases List.mem_or_eq_of_mem_set hx with h1 | h1
    .exact hob x h1
    .rw [h1]; exact x2
   .simp only at hj ⊢
    by_cases e:i=j
    .subst e
     rw [List.getElem?_set_self (by omega),hcn]
    .rw [List.getElem?_set_ne e] at hj ⊢
     exact y2.dn j hj
   .simp only; rw [List.getElem?_set_ne (Ne.symm hm6.2),List.getElem?_set_ne (Ne.symm hm6.1)]; exact ym
   .simp only; rw [List.getElem?_set_ne (by omega),List.getElem?_set_self (lt_of yo)]
   .simp only; rw [List.getElem?_set_self (by simp; exact lt_of yd)]
   .have hzl:=lt_of hz
    simp only
    have:=lt_of b1
    rw [List.getElem?_set_ne (by omega),List.getElem?_set_ne (by omega)]; exact y2.kp z x hz
  obtain ⟨w,hwk⟩:∃ w,nd.ways[k]?=some w:=⟨nd.ways[k],by simp [hk]⟩
  have hwk2:nd.ways[k]'hk=w:=(List.getElem?_eq_some_iff.1 hwk).2
  have hwm:=List.mem_of_getElem? hwk
  have hltk:(k:Int) < nd.ways.length:=by omega
  have wk:=wrap1 (n:=k) (by omega)
  have hkl:=(hf.wcap nd (List.mem_of_getElem? hnd) w hwm).2
  have hwsk:(wsF f i)[k]?=some (wnF w):=by rw [hws,List.getElem?_map,hwk]; rfl
  simp -implicitDefEqProofs [lp3_ref14_counts,hnd,hnd2,hi,encFN,hltk]
  refine AWp.till (S:=QS) ⟨true,1,0⟩ (fun s=>w.kids.length - s.k) [1,4,6,7,8,9,11,12] (fun s=>[(10,bl s.b),(13,i64 (s.n:Int)),(14,i64 (s.k:Int))]) (fun _=>H1)
   (fun s=>s.k <= w.kids.length /\ s.n <= many /\ (s.b=true -> DnK D1 (w.kids.take s.k) /\ s.n=prodF (cnt L) ((wnF w).2.take s.k)) /\ (s.b=false -> ¬ DnK D1 w.kids)) mixed
   ⟨by simp,by simp only; decide,fun _=>⟨by simp [DnK],by simp [prodF]⟩,fun h1=>by cases h1⟩ (le_of (by simp [dslot])) rfl ?_
  rintro ⟨b,m,j⟩ ⟨u1,u2,u3,u4⟩
  simp only at u1 u2 u3 u4
  by_cases hj:j < w.kids.length
  case neg =>
   have hno:¬ (j:Int) < w.kids.length:=by omega
   have hjj:(wnF w).2.take j=(wnF w).2:=List.take_of_length_le (by simp [wnF]; omega)
   have hjw:w.kids.take j=w.kids:=List.take_of_length_le (by omega)
   rw [hjj,hjw] at u3
   have wsum:IntKind.i64.wrap ((n:Int)+(m:Int))=(n:Int)+(m:Int):=IntWalk.i64_in _ (by unfold many at *; omega)
   have hmx2:=mx_many (n+m) _ (Int.natCast_add _ _).symm
   simp -implicitDefEqProofs [lp4_ref14_counts,hnd,hnd2,hi,encFN,hwk,hwk2,hk,encFW,hno,wsum,hmx2,wk]
   refine ⟨⟨b,min (n+m) many,k+1⟩,by cases b <;> simp <;> omega,⟨by simp; omega,Nat.min_le_right _ _,fun hbb=>?_,fun hbb _ hd=>?_⟩,le_of (by simp [dslot])⟩
   .simp only at hbb
    obtain ⟨v1,v2⟩:=u3 hbb
    refine ⟨x5,fun w' hw'=>?_,?_⟩
    .simp only at hw'
     rw [List.take_add_one,hwk] at hw'
     rcases List.mem_append.1 hw' with hw' | hw'
     .exact x6 w' hw'
     .simp at hw'; subst hw'; exact v1
    .simp only; rw [sumF_step (c:=cnt L) hwsk,<- x7,<- v2]
   .simp only at hbb
    exact u4 hbb (hd w hwm)
  obtain ⟨x,hxj⟩:∃ x,w.kids[j]?=some x:=⟨w.kids[j],by simp [hj]⟩
  have hxj2:w.kids[j]'hj=x:=(List.getElem?_eq_some_iff.1 hxj).2
  have hxm:=List.mem_of_getElem? hxj
  have hxin:=hstp w hwm x hxm
  obtain ⟨c,rfl⟩:∃ c:Nat,x=(c:Int):=⟨x.toNat,by omega⟩
  have hltj:(j:Int) < w.kids.length:=by omega
  have wj:=wrap1 (n:=j) (by omega)
  have hcn:c < f.nodes.length:=by omega
  obtain ⟨dx,hdx⟩:∃ dx,D1[c]?=some dx:=⟨D1[c]'(by omega),by simp⟩
  have hdxa:=bls_at hdx
  have hol1:=y2.ol
  obtain ⟨ov,hov⟩:∃ ov,O1[c]?=some ov:=⟨O1[c]'(by omega),by simp⟩
  have hova:=i64s_at hov
  have hovm:=hob ov (List.mem_of_getElem? hov)
  have hmul:m * ov <= 1000000001 * 1000000001:=Nat.mul_le_mul u2 hovm
  have wmul:IntKind.i64.wrap ((m:Int) * (ov:Int))=(m:Int) * (ov:Int):=IntWalk.i64_in _ (by rw [<- Int.natCast_mul]; omega)
  have hmx2:=mx_many (m * ov) _ (Int.natCast_mul _ _).symm
  have hkj:(wnF w).2[j]?=some c:=by simp [wnF,hxj]
  cases b with
  | false =>
   simp -implicitDefEqProofs [lp4_ref14_counts,hnd,hnd2,hi,encFN,hwk,hwk2,hk,encFW,hltj,hxj,hxj2,hj,yo,yd,hcn,hova,wmul,hmx2,wj]
   exact ⟨⟨false,min (m * ov) many,j+1⟩,by simp; omega,⟨by simp; omega,Nat.min_le_right _ _,fun hh=>(by cases hh),fun _=>u4 rfl⟩,le_of (by simp [dslot])⟩
  | true =>
   obtain ⟨v1,v2⟩:=u3 rfl
   cases dx with
   | false =>
    simp -implicitDefEqProofs [lp4_ref14_counts,hnd,hnd2,hi,encFN,hwk,hwk2,hk,encFW,hltj,hxj,hxj2,hj,yo,yd,hcn,hdxa,hova,wmul,hmx2,wj]
    refine ⟨⟨false,min (m * ov) many,j+1⟩,by simp; omega,⟨by simp; omega,Nat.min_le_right _ _,fun hh=>(by cases hh),fun _ hd=>?_⟩,le_of (by simp [dslot])⟩
    have:=hd _ hxm
    simp only [Int.toNat_natCast] at this
    rw [hdx] at this; cases this
   | true =>
    have hovc:ov=cnt L c:=by
     have:=y2.dn c hdx
     rw [hov] at this; exact Option.some.inj this
    simp -implicitDefEqProofs [lp4_ref14_counts,hnd,hnd2,hi,encFN,hwk,hwk2,hk,encFW,hltj,hxj,hxj2,hj,yo,yd,hcn,hdxa,hova,wmul,hmx2,wj]
    refine ⟨⟨true,min (m * ov) many,j+1⟩,by simp; omega,⟨by simp; omega,Nat.min_le_right _ _,fun _=>⟨fun y hy=>?_,?_⟩,fun hh=>by cases hh⟩,le_of (by simp [dslot])⟩
    .simp only at hy
     rw [List.take_add_one,hxj] at hy
     rcases List.mem_append.1 hy with hy | hy
     .exact v1 y hy
     .simp at hy; subst hy; simpa using hdx
    .simp only; rw [prodF_step (c:=cnt L) hkj,<- v2,hovc]
end Go.Apx
end
section
namespace Go.Apx
open Go.Proofs
set_option maxRecDepth 4000
set_option maxHeartbeats 8000000 in
theorem rCount_c (f:FO) (hf:FoOk f) (L:Nat -> List RT) (hL:∀ i,Wl (wsF f) i -> L i=stepL L (wsF f i)) {h:AHeap}:ACalls PP Gl 19 [encFO f] h (CountVR f L h):=by
 have hkr:Kp h h:=fun _ _ hz=>hz
 refine enter_ref14_Count (by simp) ?_
 simp -implicitDefEqProofs [code_ref14_Count,res_ref14_Count,ann_ref14_Count,encFO]
 refine callk (fmd_c f hf) (by simp [encFO]) rfl ?_
 cases hb:(fmdF f && decide (0 < f.nodes.length)) with
 | false =>
  simp -implicitDefEqProofs
  refine ret1 (v:=.tup [i64 0,i64 2]) (by simp [deferred,dslot]) (by simp [evalRes,evalRes1]) ⟨hkr,0,2,rfl,.inl ⟨?_,rfl,rfl⟩⟩
  simp only [Bool.and_eq_false_iff,decide_eq_false_iff_not] at hb
  rcases hb with h1 | h1
  .exact .inl h1
  .exact .inr (by omega)
 | true =>
  simp only [Bool.and_eq_true,decide_eq_true_eq] at hb
  obtain ⟨hF,hN⟩:=hb
  simp -implicitDefEqProofs
  refine callr (counts_c f hf hF hN L hL) (by simp [encFO]) rfl ?_
  rintro r H ⟨hk,⟨h1,rfl⟩ | ⟨h1,v,rfl,h2,h3,hro⟩⟩
  .simp -implicitDefEqProofs
   exact ret1 (v:=.tup [i64 0,i64 161]) (by simp [deferred,dslot]) (by simp [evalRes,evalRes1]) ⟨hk,0,161,rfl,.inr ⟨hF,hN,.inl ⟨h1,rfl,rfl⟩⟩⟩
  .obtain ⟨o,gg,rc,O,rfl,q1,q2⟩:=hro.at
   have h0:=q2 0 (.inl rfl)
   have h0h:(i64s O).head?=some (i64 (cnt L 0:Int)):=by rw [List.head?_eq_getElem?]; exact h0
   by_cases hm:(1000000001:Int) <= cnt L 0
   .simp -implicitDefEqProofs [q1,h0,h0h,hN,hm]
    exact ret1 (v:=.tup [i64 0,i64 15]) (by simp [deferred,dslot]) (by simp [evalRes,evalRes1]) ⟨hk,0,15,rfl,.inr ⟨hF,hN,.inr ⟨h1,.inl ⟨by unfold many; omega,rfl,rfl⟩⟩⟩⟩
   .simp -implicitDefEqProofs [q1,h0,h0h,hN,hm]
    exact ret1 (v:=.tup [i64 (cnt L 0:Int),i64 0]) (by simp [deferred,dslot]) (by simp [evalRes,evalRes1]) ⟨hk,_,0,rfl,.inr ⟨hF,hN,.inr ⟨h1,.inr ⟨by unfold many; omega,rfl,rfl⟩⟩⟩⟩
def enc4 (n:Nat) (v:Ms):AV:=.agg [i64 (n:Int),i64 (v.nodes:Int),i64 (v.deep:Int),.sc (.bool v.ok)]
structure KE where
 n:Nat
 v:Ms
structure KL where
 l:List KE
 T:Nat
def knE (l:List KE):List AV:=l.map fun p=>enc4 p.n p.v
def knV (x:KL):AV:=apd 4 (knE x.l) x.T
@[simp] theorem knE_len (l:List KE):(knE l).length=l.length:=by simp [knE]
structure KN (R:Nat) (L:Nat -> List RT) (N B ok gk:Nat) (Ks:List KL) (H:AHeap):Prop where
 o:H[ok]?=some (.cells gk (Ks.map knV))
 len:Ks.length=N
 tk:∀ (i:Nat) (x:KL),Ks[i]?=some x -> x.l ≠ [] -> H[x.T]?=some (.tok x.l.length) /\ B <= x.T
 nd:∀ (i j:Nat) (x y:KL),Ks[i]?=some x -> Ks[j]?=some y -> x.l ≠ [] -> y.l ≠ [] -> x.T=y.T -> i=j
 mm:∀ (i:Nat) (x:KL),Ks[i]?=some x -> ∀ p ∈ x.l,∀ t,(L i)[p.n]?=some t -> MOk R t p.v
 nb:∀ (i:Nat) (x:KL),Ks[i]?=some x -> (x.l.map (·.n)).Nodup /\ ∀ p ∈ x.l,p.n < 1000
 ob:B <= ok
theorem KN.llen {R:Nat} {L:Nat -> List RT} {N B ok gk:Nat} {Ks:List KL} {H:AHeap} (h:KN R L N B ok gk Ks H) {i:Nat} {x:KL} (hx:Ks[i]?=some x):x.l.length <= 1000:=by
 obtain ⟨h1,h2⟩:=h.nb i x hx
 have:=nodup_le 1000 (x.l.map (·.n)) h1 (fun y hy=>by
  obtain ⟨p,hp,rfl⟩:=List.mem_map.1 hy
  exact h2 p hp)
 simpa using this
def Kc (ok:Nat) (H H':AHeap):Prop:=∀ (z g:Nat) (cs:List AV),z ≠ ok -> H[z]?=some (.cells g cs) -> H'[z]?=some (.cells g cs)
theorem Kc.trans {ok:Nat} {H H' H2:AHeap} (h:Kc ok H H') (h':Kc ok H' H2):Kc ok H H2:=fun z g cs hz hx=>h' z g cs hz (h z g cs hz hx)
theorem Kp.kc {ok:Nat} {H H':AHeap} (h:Kp H H'):Kc ok H H':=fun z g cs _ hx=>h z _ hx
theorem KN.keep {R:Nat} {L:Nat -> List RT} {N B ok gk:Nat} {Ks:List KL} {H H':AHeap} (h:KN R L N B ok gk Ks H) (hk:∀ (z:Nat) (x:AObj),(z=ok \/ ∃ n,x=.tok n) -> H[z]?=some x -> H'[z]?=some x):KN R L N B ok gk Ks H' :=
 ⟨hk _ _ (.inl rfl) h.o,h.len,fun i x hx hn=>⟨hk _ _ (.inr ⟨_,rfl⟩) (h.tk i x hx hn).1,(h.tk i x hx hn).2⟩,h.nd,h.mm,h.nb,h.ob⟩
def Meas2R (f:FO) (R:Nat) (L:Nat -> List RT) (B ok gk:Nat) (rc:RCap) (i n:Nat) (t:RT) (Ks:List KL) (H:AHeap) (r:AEnd) (H':AHeap):Prop :=
 ∃ v Ks',r=.ret (.tup [enc4 n v,.rf ok gk 0 f.nodes.length rc]) /\ MOk R t v /\ KN R L f.nodes.length B ok gk Ks' H' /\ Kc ok H H' /\ Ka B H H' /\ H.length <= H'.length /\ ∀ j:Nat,j ≠ i -> ¬ Rch (wsF f) i j -> Ks'[j]?=Ks[j]?
structure MS3 where
 c:Nat
 v:Ms
 Ks:List KL
 H:AHeap
structure MI2 (f:FO) (R:Nat) (L:Nat -> List RT) (B ok gk:Nat) (i n0:Nat) (Ks:List KL) (ks:List Nat) (p:List RT) (rok:Bool) (o15:Nat) (H:AHeap) (s:MS3):Prop where
 c:s.c <= ks.length
 n:s.v.nodes <= 4001
 d:s.v.deep <= 1+deepsR (p.drop s.c)
 okk:s.v.ok=(rok && oksR R (p.drop s.c))
 eq:s.v.ok=true -> s.v.nodes=min (1+sizesR (p.drop s.c)) 4001 /\ s.v.deep=1+deepsR (p.drop s.c)
 kn:KN R L f.nodes.length B ok gk s.Ks s.H
 ho:s.H[o15]?=some (.cells 0 [i64 (n0:Int),i64 (s.v.nodes:Int),i64 (s.v.deep:Int),.sc (.bool s.v.ok)])
 kc:∀ (z g:Nat) (cs:List AV),z ≠ ok -> z ≠ o15 -> H[z]?=some (.cells g cs) -> s.H[z]?=some (.cells g cs)
 ka:Ka B H s.H
 len:H.length <= s.H.length
 sm:∀ j:Nat,¬ Rch (wsF f) i j -> s.Ks[j]?=Ks[j]?
set_option maxHeartbeats 8000000 in
theorem measured_c (f:FO) (hf:FoOk f) (hF:fmdF f=true) (L:Nat -> List RT) (hL:∀ i,Wl (wsF f) i -> L i=stepL L (wsF f i)) (g:Gr) (hg:g.rules.length <= 2 ^ 31) (ov:AV) (B ok gk:Nat) (rc:RCap) (i:Nat) (hw:Wl (wsF f) i) :
  ∀ (n:Nat) (t:RT) (Ks:List KL) {H:AHeap},i < f.nodes.length -> Rz f i -> n < 1000 -> (L i)[n]?=some t -> RO f L ov H -> KN g.rules.length L f.nodes.length B ok gk Ks H -> (∀ o gg r2,ov=.rf o gg 0 f.nodes.length r2 -> o ≠ ok) -> B <= H.length ->
   ACalls PP Gl 56 [encG g,encFO f,ov,i64 (i:Int),i64 (n:Int),.rf ok gk 0 f.nodes.length rc] H (Meas2R f g.rules.length L B ok gk rc i n t Ks H):=by
 induction hw with
 | mk i hwk ih =>
 have hwi:Wl (wsF f) i:=.mk i hwk
 intro n t Ks H hi hrz hn ht hro hkn hov hBH
 obtain ⟨nd,hnd⟩:∃ nd,f.nodes[i]?=some nd:=⟨f.nodes[i],by simp [hi]⟩
 have hnd2:f.nodes[i]'hi=nd:=(List.getElem?_eq_some_iff.1 hnd).2
 have hws:=wsF_at hnd
 have hfn:=hf.n
 obtain ⟨H0,hH0⟩:∃ H0,H0=H++[AObj.cells 0 [AV.sc (Value.int IntKind.i64 0),AV.sc (Value.int IntKind.i64 0),AV.sc (Value.int IntKind.i64 0),AV.sc (Value.bool false)]]:=⟨_,rfl⟩
 have kp0:Kp H H0:=by rw [hH0]; exact Kp.app _ _
 have hl0:H0.length=H.length+1:=by rw [hH0]; simp
 have ho12:H0[H.length]?=some (.cells 0 [i64 0,i64 0,i64 0,.sc (.bool false)]):=by rw [hH0]; simp
 have hro0:=hro.keep kp0
 have hkn0:=hkn.keep (H':=H0) fun z x _ hx=>kp0 z x hx
 obtain ⟨oo,og,orc,O,rfl,ho1,ho2⟩:=hro0.at
 have hook:=hov oo og orc rfl
 have hokl:=lt_of hkn.o
 obtain ⟨x,hx⟩:∃ x,Ks[i]?=some x:=⟨Ks[i]'(by have:=hkn.len; omega),by simp⟩
 have hxa:(Ks.map knV)[i]?=some (knV x):=by rw [List.getElem?_map,hx]; rfl
 have hkno:=hkn0.o
 have hxl:=hkn.llen hx
 refine enter_ref14_measured (by simp) ?_
 simp -implicitDefEqProofs [code_ref14_measured,res_ref14_measured,ann_ref14_measured,<- hH0,encG,encFO]
 refine AWp.cnt x.l.length [2,3,4,5,6,7,12] (fun k=>[(14,i64 (k:Int))]) (fun _=>H0) (fun k=>∀ p ∈ x.l.take k,p.n ≠ n) mixed (by simp) (le_of (by simp [dslot])) rfl ?_ ?_
 .intro k hk hz
  obtain ⟨e,he⟩:∃ e,x.l[k]?=some e:=⟨x.l[k],by simp [hk]⟩
  have hxne:x.l ≠ []:=by intro e; rw [e] at hk; simp at hk
  have hkv:knV x=.sl 4 (knE x.l) (.tok x.T):=by simp [knV,apd,knE,hxne]
  have hea:(knE x.l)[k]?=some (enc4 e.n e.v):=by simp [knE,he]
  have hltk:(k:Int) < x.l.length:=by omega
  have wk:=wrap1 (n:=k) (by omega)
  by_cases hen:e.n=n
  .have hen':(e.n:Int)=n:=by omega
   simp -implicitDefEqProofs [lp0_ref14_measured,hkno,hxa,hkv,hi,hltk,hea,enc4,hen,ho12]
   have hg2:(H0.set H.length (.cells 0 [i64 (n:Int),i64 (e.v.nodes:Int),i64 (e.v.deep:Int),.sc (.bool e.v.ok)]))[H.length]?=some (.cells 0 [i64 (n:Int),i64 (e.v.nodes:Int),i64 (e.v.deep:Int),.sc (.bool e.v.ok)]):=List.getElem?_set_self (by omega)
   refine ret1 (v:=.tup [enc4 n e.v,.rf ok gk 0 f.nodes.length rc]) (by simp [deferred,dslot]) (by simp [evalRes,evalRes1,hg2,enc4]) ⟨e.v,Ks,rfl,hkn.mm i x hx e (List.mem_of_getElem? he) t (by rw [hen]; exact ht),hkn0.keep fun z y hz hy=>?_,fun z gg cs hz hy=>?_,fun z y hz hy=>?_,by simp; omega,fun _ _ _=>rfl⟩
   .rw [List.getElem?_set_ne]
    .exact hy
    .rcases hz with rfl | ⟨q,rfl⟩
     .omega
     .rintro rfl; rw [ho12] at hy; cases hy
   .have:=lt_of hy
    rw [List.getElem?_set_ne (by omega)]; exact kp0 _ _ hy
   .have:=lt_of hy
    rw [List.getElem?_set_ne (by omega)]; exact kp0 _ _ hy
  .have hen':¬ (e.n:Int)=n:=by omega
   simp -implicitDefEqProofs [lp0_ref14_measured,hkno,hxa,hkv,hi,hltk,hea,enc4,hen',hen,wk]
   exact ⟨take_ext he (q:=fun p=>p.n ≠ n) hz hen,le_of (by simp [dslot])⟩
 intro hmiss
 rw [List.take_length] at hmiss
 have hirr:¬ Rch (wsF f) i i:=hwi.irr
 obtain ⟨H1,hH1⟩:∃ H1,H1=H0++[AObj.cells 0 [i64 (n:Int),i64 1,i64 1,.sc (.bool false)]]:=⟨_,rfl⟩
 have kp1:Kp H0 H1:=by rw [hH1]; exact Kp.app _ _
 have hl1:H1.length=H.length+2:=by rw [hH1]; simp [hl0]
 have ho15:H1[H0.length]?=some (.cells 0 [i64 (n:Int),i64 1,i64 1,.sc (.bool false)]):=by rw [hH1]; simp
 have ho121:=kp1 _ _ ho12
 have hkn1:=hkn0.keep (H':=H1) fun z x _ hx=>kp1 z x hx
 have ho1b:=kp1 _ _ ho1
 have hkvl:∀ y:KL,(knV y).isPend=false:=fun y=>isPend_apd _ _ _
 have hkd:knV x=.sl (if knE x.l=[] then 0 else 4) (knE x.l) (if knE x.l=[] then .nil else .tok x.T):=rfl
 simp -implicitDefEqProofs [lp0_ref14_measured,hkno,hxa,hi,hkd,<- hH1]
 refine AWp.till (S:=MS1) ⟨0,n⟩ (fun st=>nd.ways.length - st.q) [2,3,6,7,12,15] (fun st=>[(5,.rf ok gk 0 f.nodes.length rc),(16,i64 (st.n:Int)),(17,i64 (st.q:Int))]) (fun _=>H1)
  (fun st=>st.q <= nd.ways.length /\ st.n < 1000 /\ (stepL L ((wsF f i).drop st.q))[st.n]?=some t) mixed ⟨by simp,hn,by rw [List.drop_zero,<- hL i hwi]; exact ht⟩ (le_of (by simp [dslot])) (by simp [hH1]) ?_
 rintro ⟨q,m⟩ ⟨z1,z2,z3⟩
 simp only at z1 z2 z3
 by_cases hq:q < nd.ways.length
 case neg =>
  rw [List.drop_eq_nil_of_le (by rw [hws]; simp; omega)] at z3
  simp [stepL] at z3
 obtain ⟨w,hwq⟩:∃ w,nd.ways[q]?=some w:=⟨nd.ways[q],by simp [hq]⟩
 have hwq2:nd.ways[q]'hq=w:=(List.getElem?_eq_some_iff.1 hwq).2
 have hwm:=List.mem_of_getElem? hwq
 have hltq:(q:Int) < nd.ways.length:=by omega
 have wq:=wrap1 (n:=q) (by have:=(hf.ncap nd (List.mem_of_getElem? hnd)).2; omega)
 have hkl:=(hf.wcap nd (List.mem_of_getElem? hnd) w hwm).2
 have hkz:=kid_rz hF hrz hnd hwm
 have hdr:(wsF f i).drop q=wnF w :: (wsF f i).drop (q+1):=by
  have:(wsF f i)[q]?=some (wnF w):=by rw [hws,List.getElem?_map,hwq]; rfl
  obtain ⟨h1,h2⟩:=List.getElem?_eq_some_iff.1 this
  rw [List.drop_eq_getElem_cons h1,h2]
 rw [hdr,stepL_get] at z3
 have hpe:=prodF_eq L (wnF w).2
 have hm1000:m < many:=by unfold many; omega
 simp -implicitDefEqProofs [lp1_ref14_measured,hltq,hwq,hwq2,hq,hnd,hnd2,hi,encFN,encFW]
 refine AWp.cnt w.kids.length [2,3,5,6,7,12,15,16,17,18] (fun j=>[(19,i64 (prodF (cnt L) ((wnF w).2.take j):Int)),(20,i64 (j:Int))]) (fun _=>H1) (fun _=>True) mixed trivial (le_of (by simp [dslot,prodF])) rfl ?_ ?_
 .intro j hj _
  obtain ⟨x',hxj⟩:∃ x',w.kids[j]?=some x':=⟨w.kids[j],by simp [hj]⟩
  have hxj2:w.kids[j]'hj=x':=(List.getElem?_eq_some_iff.1 hxj).2
  obtain ⟨k1,k2,k3⟩:=hkz x' (List.mem_of_getElem? hxj)
  obtain ⟨m2,rfl⟩:∃ m2:Nat,x'=(m2:Int):=⟨x'.toNat,by omega⟩
  have hltj:(j:Int) < w.kids.length:=by omega
  have wj:=wrap1 (n:=j) (by omega)
  have ham:=ho2 m2 (by simpa using k3)
  have hml2:m2 < f.nodes.length:=by omega
  have hpl:=prodF_le (cnt L) ((wnF w).2.take j)
  have hcl:=cnt_le L m2
  have hmul:prodF (cnt L) ((wnF w).2.take j) * cnt L m2 <= 1000000001 * 1000000001:=Nat.mul_le_mul hpl hcl
  have wmul:IntKind.i64.wrap ((prodF (cnt L) ((wnF w).2.take j):Int) * (cnt L m2:Int))=(prodF (cnt L) ((wnF w).2.take j):Int) * (cnt L m2:Int):=IntWalk.i64_in _ (by
   rw [<- Int.natCast_mul]; omega)
  have hkj:(wnF w).2[j]?=some m2:=by simp [wnF,hxj]
  have hmx:=mx_many (prodF (cnt L) ((wnF w).2.take j) * cnt L m2) _ (Int.natCast_mul _ _).symm
  rw [<- prodF_step (c:=cnt L) hkj] at hmx
  simp -implicitDefEqProofs [lp2_ref14_measured,hltj,hxj,hxj2,hj,ho1b,ham,hml2,wj,wmul,hmx]
  exact le_of (by simp [dslot])
 intro _
 have hjj:(wnF w).2.take w.kids.length=(wnF w).2:=List.take_of_length_le (by simp [wnF])
 rw [hjj]
 by_cases hm:prodF (cnt L) (wnF w).2 <= m
 .have hm':(prodF (cnt L) (wnF w).2:Int) <= m:=by omega
  have hlen:prodF (cnt L) (wnF w).2=(combos L (wnF w).2).length:=by rw [hpe] at hm ⊢; omega
  have wsub:IntKind.i64.wrap ((m:Int) - (prodF (cnt L) (wnF w).2:Int))=((m - prodF (cnt L) (wnF w).2:Nat):Int):=by
   rw [IntWalk.i64_in _ (by omega)]; omega
  rw [if_neg (by omega)] at z3
  simp -implicitDefEqProofs [lp2_ref14_measured,hm',wsub,wq]
  exact ⟨⟨q+1,m - prodF (cnt L) (wnF w).2⟩,by simp; omega,⟨by simp; omega,by simp only; omega,by simp only; rw [hlen]; exact z3⟩,le_of (by simp [dslot])⟩
 have hm':¬ (prodF (cnt L) (wnF w).2:Int) <= m:=by omega
 rw [if_pos (by rw [hpe] at hm; omega)] at z3
 obtain ⟨p,hp,rfl⟩:∃ p,(combos L (wnF w).2)[m]?=some p /\ RT.node (wnF w).1 p=t:=by
  cases hp:(combos L (wnF w).2)[m]? with
  | none=>rw [hp] at z3; cases z3
  | some p=>rw [hp] at z3; exact ⟨p,rfl,Option.some.inj z3⟩
 obtain ⟨hpl,hdig⟩:=digit _ _ _ hp
 have hks:(wnF w).2.length=w.kids.length:=by simp [wnF]
 obtain ⟨rok,hrok⟩:∃ rok:Bool,rok=decide (0 <= w.rule /\ w.rule < g.rules.length):=⟨_,rfl⟩
 have hdone:∀ (s:MS3),MI2 f g.rules.length L B ok gk i n Ks (wnF w).2 p rok H0.length H1 s -> (s.c=0 \/ s.v.ok=false) -> MOk g.rules.length (.node (wnF w).1 p) s.v:=fun s hs hc=>by
  have hok:s.v.ok=okR g.rules.length (.node (wnF w).1 p):=by
   rw [hs.okk]
   have hr2:decide (0 <= (wnF w).1 /\ (wnF w).1 < (g.rules.length:Int))=rok:=hrok.symm
   simp only [okR,hr2]
   rcases hc with hc | hc
   .rw [hc,List.drop_zero]
   .have h1:=hs.okk
    rw [hc] at h1
    rw [<- h1]
    cases rok with
    | false=>simp
    | true =>
     simp only [Bool.true_and] at h1 ⊢
     cases h2:oksR g.rules.length p with
     | false=>rfl
     | true =>
      exfalso
      have h3:oksR g.rules.length (p.drop s.c)=true:=oksR_all.2 fun x hx=>oksR_all.1 h2 x (List.mem_of_mem_drop hx)
      rw [h3] at h1; cases h1
  have hdd:deepsR (p.drop s.c) <= deepsR p:=deepsR_le fun x hx=>deepsR_mem (List.mem_of_mem_drop hx)
  refine ⟨hok,hs.n,by have:=hs.d; simp only [deepR]; omega,fun hv=>?_⟩
  rcases hc with hc | hc
  .have:=hs.eq hv
   rw [hc,List.drop_zero] at this
   simpa only [sizeR,deepR] using this
  .rw [hc] at hv; cases hv
 have hrc:(¬ 0 <= w.rule /\ True /\ rok=false) \/ (0 <= w.rule /\ ¬ w.rule < g.rules.length /\ rok=false) \/ (0 <= w.rule /\ w.rule < g.rules.length /\ rok=true):=by
  by_cases e1:0 <= w.rule
  .by_cases e2:w.rule < g.rules.length
   .exact .inr (.inr ⟨e1,e2,by rw [hrok]; simp [e1,e2]⟩)
   .exact .inr (.inl ⟨e1,e2,by rw [hrok]; simp [e2]⟩)
  .exact .inl ⟨e1,trivial,by rw [hrok]; simp [e1]⟩
 have wl1:IntKind.i64.wrap ((w.kids.length:Int) - 1)=(w.kids.length:Int) - 1:=IntWalk.i64_in _ (by omega)
 have hini:MI2 f g.rules.length L B ok gk i n Ks (wnF w).2 p rok H0.length H1 ⟨w.kids.length,⟨1,1,rok⟩,Ks,H1.set H0.length (.cells 0 [i64 (n:Int),i64 1,i64 1,.sc (.bool rok)])⟩:=by
  have hd:p.drop w.kids.length=[]:=List.drop_eq_nil_of_le (by omega)
  refine ⟨by simp only; omega,by simp,by simp [hd,deepsR],by simp [hd,oksR],fun _=>by simp [hd,deepsR,sizesR],hkn1.keep fun z y hz hy=>?_,List.getElem?_set_self (by omega),fun z gg cs hz hz2 hy=>?_,fun z y hz hy=>?_,by simp,fun _ _=>rfl⟩
  .simp only
   rw [List.getElem?_set_ne]
   .exact hy
   .rcases hz with rfl | ⟨u,rfl⟩
    .omega
    .rintro rfl; rw [ho15] at hy; cases hy
  .simp only; rw [List.getElem?_set_ne (Ne.symm hz2)]; exact hy
  .simp only; rw [List.getElem?_set_ne (by omega)]; exact hy
 have hn0:dvN L (wnF w).2 m w.kids.length=m:=by
  unfold dvN; rw [List.drop_eq_nil_of_le (by omega)]; simp [combos]
 rcases hrc with ⟨q1,q2,hro'⟩ | ⟨q1,q2,hro'⟩ | ⟨q1,q2,hro'⟩
 all_goals
  simp -implicitDefEqProofs [lp2_ref14_measured,hm',q1,q2,ho15,wl1]
  refine AWp.till (S:=MS3) ⟨w.kids.length,⟨1,1,rok⟩,Ks,H1.set H0.length (.cells 0 [i64 (n:Int),i64 1,i64 1,.sc (.bool rok)])⟩ (fun s=>s.c) [2,3,6,7,12,15,18] (fun s=>[(5,.rf ok gk 0 f.nodes.length rc),(16,i64 (dvN L (wnF w).2 m s.c:Int)),(21,i64 ((s.c:Int) - 1))]) (fun s=>s.H)
   (MI2 f g.rules.length L B ok gk i n Ks (wnF w).2 p rok H0.length H1) mixed hini (le_of (by simp [dslot,hn0])) (by rw [hro']) ?_
  rintro ⟨c,⟨vn,vd,vo⟩,Ks2,H2⟩ hs
  have s1:=hs.c
  have s2:=hs.n
  have s3:=hs.okk
  have s5:=hs.ho
  have s6:=hs.len
  have s7:=hs.kn
  simp only at s1 s2 s3 s5 s6 s7
  have s4:=s7.o
  have hokl2:ok < H.length:=hokl
  have s8:=hs.kc H.length _ _ (by omega) (by omega) ho121
  simp only at s8
  have x2:Ks2[i]?=some x:=by have:=hs.sm i hirr; simp only at this; rw [this]; exact hx
  have hxa2:(Ks2.map knV)[i]?=some (knV x):=by rw [List.getElem?_map,x2]; rfl
  have hi2:i < Ks2.length:=by rw [s7.len]; exact hi
  have tokx:x.l.length ≠ 0 -> ∃ u,H2[x.T]?=some (.tok u):=fun hn0=>⟨_,(s7.tk i x x2 (by intro e; rw [e] at hn0; exact hn0 rfl)).1⟩
  obtain ⟨H3,hH3⟩:∃ H3,H3=apG H2 x.l.length x.T:=⟨_,rfl⟩
  obtain ⟨T2,hT2⟩:∃ T2,T2=apT H2 x.l.length x.T:=⟨_,rfl⟩
  obtain ⟨Ks3,hKs3⟩:∃ Ks3,Ks3=Ks2.set i ⟨x.l++[⟨n,⟨vn,vd,vo⟩⟩],T2⟩:=⟨_,rfl⟩
  have hl3:H2.length <= H3.length:=by rw [hH3]; exact apG_len _ _ _
  have hc3:∀ {z:Nat} {gg:Nat} {cs:List AV},H2[z]?=some (.cells gg cs) -> H3[z]?=some (.cells gg cs):=fun hz=>by rw [hH3]; exact apG_keep tokx hz (by simp)
  have k4:=hc3 s4
  have k5:=hc3 s5
  have k8:=hc3 s8
  have kput:List.take i (Ks2.map knV)++apd 4 (knE x.l++[enc4 n ⟨vn,vd,vo⟩]) T2 :: List.drop (i+1) (Ks2.map knV)=Ks3.map knV:=by
   rw [put_eq (Ks2.map knV) i _ (by simpa using hi2),hKs3,List.map_set]
   congr 1
   simp [knV,knE]
  have k15:(H3.set ok (.cells gk (Ks3.map knV)))[H0.length]?=some (.cells 0 [i64 (n:Int),i64 (vn:Int),i64 (vd:Int),.sc (.bool vo)]):=by rw [List.getElem?_set_ne (by omega)]; exact k5
  have k12:(H3.set ok (.cells gk (Ks3.map knV)))[H.length]?=some (.cells 0 [i64 0,i64 0,i64 0,.sc (.bool false)]):=by rw [List.getElem?_set_ne (by omega)]; exact k8
  have k9:((H3.set ok (.cells gk (Ks3.map knV))).set H.length (.cells 0 [i64 (n:Int),i64 (vn:Int),i64 (vd:Int),.sc (.bool vo)]))[H.length]?=some (.cells 0 [i64 (n:Int),i64 (vn:Int),i64 (vd:Int),.sc (.bool vo)]):=List.getElem?_set_self (lt_of k12)
  have hi1:i+1 <= Ks2.length:=hi2
  have hR:(c=0 \/ vo=false) -> Meas2R f g.rules.length L B ok gk rc i n (.node (wnF w).1 p) Ks H (.ret (.tup [enc4 n ⟨vn,vd,vo⟩,.rf ok gk 0 f.nodes.length rc])) ((H3.set ok (.cells gk (Ks3.map knV))).set H.length (.cells 0 [i64 (n:Int),i64 (vn:Int),i64 (vd:Int),.sc (.bool vo)])):=fun hc=>by
   have hmo:=hdone _ hs hc
   have ntok:∀ {z:Nat} {gg u:Nat} {cs:List AV} {y:Nat} {K:AHeap},K[z]?=some (.cells gg cs) -> K[y]?=some (.tok u) -> z ≠ y:=fun h1 h2 e=>by subst e; rw [h1] at h2; cases h2
   have htk2:H3[T2]?=some (.tok (x.l.length+1)):=by rw [hH3,hT2]; exact apG_tok tokx
   have hT2n:x.l.length=0 -> T2=H2.length:=fun h0=>by rw [hT2]; unfold apT; rw [if_pos h0]
   have hT2x:x.l.length ≠ 0 -> T2=x.T:=fun h0=>by rw [hT2]; unfold apT; rw [if_neg h0]
   have hne0:x.l.length ≠ 0 -> x.l ≠ []:=fun h0 e=>by rw [e] at h0; exact h0 rfl
   have hold:∀ (j:Nat) (y:KL),i ≠ j -> Ks2[j]?=some y -> y.l ≠ [] -> H3[y.T]?=some (.tok y.l.length) /\ B <= y.T /\ y.T ≠ T2:=fun j y hij hy hyn=>by
    obtain ⟨g1,g2⟩:=s7.tk j y hy hyn
    have g3:x.l.length ≠ 0 -> y.T ≠ x.T:=fun h0 e=>hij (s7.nd i j x y x2 hy (hne0 h0) hyn e.symm)
    refine ⟨by rw [hH3]; exact apG_keep' g1 g3,g2,?_⟩
    by_cases h0:x.l.length=0
    .rw [hT2n h0]; exact Nat.ne_of_lt (lt_of g1)
    .rw [hT2x h0]; exact g3 h0
   have hset:∀ (z:Nat) (a b:AObj),z ≠ ok -> z ≠ H.length -> ((H3.set ok a).set H.length b)[z]?=H3[z]?:=fun z a b h1 h2=>by rw [List.getElem?_set_ne (Ne.symm h2),List.getElem?_set_ne (Ne.symm h1)]
   have hKat:∀ j:Nat,i ≠ j -> Ks3[j]?=Ks2[j]?:=fun j hij=>by rw [hKs3,List.getElem?_set_ne hij]
   have hKi:Ks3[i]?=some ⟨x.l++[⟨n,⟨vn,vd,vo⟩⟩],T2⟩:=by rw [hKs3,List.getElem?_set_self hi2]
   refine ⟨⟨vn,vd,vo⟩,Ks3,rfl,hmo,⟨?_,by rw [hKs3]; simp [s7.len],fun j y hy hyn=>?_,fun a b ya yb ha hb hna hnb hT=>?_,fun j y hy e he t' ht'=>?_,fun j y hy=>?_,s7.ob⟩,fun z gg cs hz hy=>?_,fun z y hz hy=>?_,by simp; omega,fun j hj hr=>?_⟩
   .rw [List.getElem?_set_ne (by omega),List.getElem?_set_self (lt_of k4)]
   .by_cases e:i=j
    .subst e
     rw [hKi] at hy; cases hy
     rw [hset _ _ _ (ntok k4 htk2).symm (ntok k8 htk2).symm]
     refine ⟨by simpa using htk2,?_⟩
     show B <= T2
     by_cases h0:x.l.length=0
     .rw [hT2n h0]; omega
     .rw [hT2x h0]; exact (s7.tk i x x2 (hne0 h0)).2
    .rw [hKat j e] at hy
     obtain ⟨g1,g2,_⟩:=hold j y e hy hyn
     rw [hset _ _ _ (ntok k4 g1).symm (ntok k8 g1).symm]
     exact ⟨g1,g2⟩
   .by_cases e1:i=a
    .by_cases e2:i=b
     .omega
     .subst e1
      rw [hKi] at ha; cases ha
      rw [hKat b e2] at hb
      exact ((hold b yb e2 hb hnb).2.2 hT.symm).elim
    .by_cases e2:i=b
     .subst e2
      rw [hKi] at hb; cases hb
      rw [hKat a e1] at ha
      exact ((hold a ya e1 ha hna).2.2 hT).elim
     .rw [hKat a e1] at ha
      rw [hKat b e2] at hb
      exact s7.nd a b ya yb ha hb hna hnb hT
   .by_cases e1:i=j
    .subst e1
     rw [hKi] at hy; cases hy
     simp only at he
     rcases List.mem_append.1 he with he | he
     .exact s7.mm i x x2 e he t' ht'
     .simp at he; subst he
      simp only at ht'
      rw [ht] at ht'; cases ht'
      exact hmo
    .rw [hKat j e1] at hy
     exact s7.mm j y hy e he t' ht'
   .by_cases e1:i=j
    .subst e1
     rw [hKi] at hy; cases hy
     obtain ⟨g1,g2⟩:=s7.nb i x x2
     refine ⟨?_,fun e he=>?_⟩
     .simp only [List.map_append,List.map_cons,List.map_nil]
      rw [List.nodup_append]
      refine ⟨g1,by simp,fun a ha b hb=>?_⟩
      simp at hb; subst hb
      obtain ⟨e,he,rfl⟩:=List.mem_map.1 ha
      exact hmiss e he
     .simp only at he
      rcases List.mem_append.1 he with he | he
      .exact g2 e he
      .simp at he; subst he; exact hn
    .rw [hKat j e1] at hy
     exact s7.nb j y hy
   .have hzl:=lt_of hy
    rw [hset _ _ _ hz (by omega)]
    exact hc3 (hs.kc z gg cs hz (by omega) ((kp0.trans kp1) _ _ hy))
   .have:=s7.ob
    rw [hset _ _ _ (by omega) (by omega),hH3]
    exact apG_keep' (hs.ka z y hz ((kp0.trans kp1) _ _ hy)) fun h0=>by have:=(s7.tk i x x2 (hne0 h0)).2; omega
   .rw [hKat j (Ne.symm hj)]; exact hs.sm j hr
  have happ:∀ {C:Cx} {d:Option Nat} {env:Env} {K:Env -> AHeap -> Prop} {a b:Opd},evalOpd C.G env a=some (knV x) -> (evalOpd C.G env b).bind (elems H2 4)=some [enc4 n ⟨vn,vd,vo⟩] -> K (putD env d (apd 4 (knE x.l++[enc4 n ⟨vn,vd,vo⟩]) T2)) H3 -> appW C 4 32 a b d env H2 K:=fun ha hb hK=>by
   refine appG (knE x.l) (enc4 n ⟨vn,vd,vo⟩) x.T ha hb (fun hne=>?_) (by simp; unfold maxLenA; omega) ?_
   .rw [knE_len]
    exact (s7.tk i x x2 (by intro e; rw [e] at hne; exact hne rfl)).1
   .rw [knE_len,<- hH3,<- hT2]; exact hK
  cases c with
  | zero =>
   simp -implicitDefEqProofs [lp3_ref14_measured,s5,s4,hxa2,hi]
   refine happ (by simp [hkvl]) (by simp [elems,enc4]) ?_
   simp -implicitDefEqProofs [k4,hxa2,hi,hi1,kput,k15,k12]
   exact ret1 (v:=.tup [enc4 n ⟨vn,vd,vo⟩,.rf ok gk 0 f.nodes.length rc]) (by simp [deferred,dslot]) (by simp [evalRes,evalRes1,k9,enc4]) (hR (.inl rfl))
  | succ c =>
  cases vo with
  | false =>
   simp -implicitDefEqProofs [lp3_ref14_measured,s5,s4,hxa2,hi]
   refine happ (by simp [hkvl]) (by simp [elems,enc4]) ?_
   simp -implicitDefEqProofs [k4,hxa2,hi,hi1,kput,k15,k12]
   exact ret1 (v:=.tup [enc4 n ⟨vn,vd,false⟩,.rf ok gk 0 f.nodes.length rc]) (by simp [deferred,dslot]) (by simp [evalRes,evalRes1,k9,enc4]) (hR (.inr rfl))
  | true =>
  obtain ⟨y,hxc⟩:∃ y,w.kids[c]?=some y:=⟨w.kids[c]'(by omega),by simp⟩
  have hck:c < w.kids.length:=by omega
  have hxc2:w.kids[c]'hck=y:=(List.getElem?_eq_some_iff.1 hxc).2
  obtain ⟨x1',x2',x3'⟩:=hkz y (List.mem_of_getElem? hxc)
  obtain ⟨k,rfl⟩:∃ k:Nat,y=(k:Int):=⟨y.toNat,by omega⟩
  have hkc:(wnF w).2[c]?=some k:=by simp [wnF,hxc]
  have hstp:Stp (wsF f) i k:=stp_of hnd hwm (List.mem_of_getElem? hxc)
  obtain ⟨tk,htk⟩:∃ tk,p[c]?=some tk:=⟨p[c]'(by omega),by simp⟩
  have hd1:=hdig c k hkc
  rw [htk] at hd1
  have hLk:0 < (L k).length:=by have:=(List.getElem?_eq_some_iff.1 hd1).1; omega
  have hlt:m / (combos L ((wnF w).2.drop (c+1))).length < 1000:=Nat.lt_of_le_of_lt (Nat.div_le_self _ _) z2
  obtain ⟨mc1,mc2⟩:=mod_cnt (L:=L) (k:=k) (n:=m / (combos L ((wnF w).2.drop (c+1))).length) (by unfold many; omega)
  have hcnt:0 < cnt L k:=by unfold cnt many; omega
  have hkl2:k < f.nodes.length:=by omega
  have hrz2:Rz f k:=by simpa using x3'
  have hak:=ho2 k hrz2
  have hool:=lt_of ho1
  have hool2:oo < H.length:=by
   obtain ⟨o',gg',rc',O',u1,u2,u3⟩:=hro
   cases u1
   exact lt_of u2
  have ho1c:H2[oo]?=some (.cells og (i64s O)):=hs.kc _ _ _ hook (by omega) (kp1 _ _ ho1)
  obtain ⟨dm,hdm⟩:∃ dm,dm=dvN L (wnF w).2 m (c+1):=⟨_,rfl⟩
  rw [<- hdm]
  have hdm2:m / (combos L ((wnF w).2.drop (c+1))).length=dm:=hdm.symm
  rw [hdm2] at hlt mc1 mc2 hd1
  have hcne:¬ cnt L k=0:=by omega
  obtain ⟨r0,hr0'⟩:∃ r0,r0=dm % (L k).length:=⟨_,rfl⟩
  rw [<- hr0'] at hd1 mc1
  have htm:(dm:Int).tmod (cnt L k:Int)=(r0:Int):=by rw [<- Int.ofNat_tmod,mc1]
  have hr0m:r0 < 1000:=Nat.lt_of_le_of_lt (by rw [hr0']; exact Nat.mod_le _ _) hlt
  have hdn:dm / cnt L k=dvN L (wnF w).2 m c:=by
   unfold dvN
   rw [mc2,<- hdm2,Nat.div_div_eq_div_mul,Nat.mul_comm,drop_dvd hkc]
  have htd:(dm:Int).tdiv (cnt L k:Int)=(dvN L (wnF w).2 m c:Int):=by rw [<- Int.ofNat_tdiv,hdn]
  have hdp:deepR tk <= f.nodes.length+1:=deep_le hL f.nodes.length k (List.range f.nodes.length) (hwk k hstp) (by simp) (fun j hj=>List.mem_range.2 (rch_lt hF hj)) tk (List.mem_of_getElem? hd1)
  have wdn:IntKind.i64.wrap (dvN L (wnF w).2 m c:Int)=(dvN L (wnF w).2 m c:Int):=IntWalk.i64_in _ (by have:dvN L (wnF w).2 m c <= m:=Nat.div_le_self _ _; omega)
  have hro2:RO f L (.rf oo og 0 f.nodes.length orc) H2:=by
   obtain ⟨o',gg',rc',O',u1,u2,u3⟩:=hro0
   cases u1
   exact ⟨_,_,_,O',rfl,hs.kc _ _ _ hook (by omega) (kp1 _ _ u2),u3⟩
  simp -implicitDefEqProofs [lp3_ref14_measured,s5,hxc,hxc2,hck,ho1c,hak,hkl2,hcne,htm]
  refine callr (ih k hstp r0 tk Ks2 (by omega) hrz2 hr0m hd1 hro2 s7 hov (by omega)) (by simp [encG,encFO]) rfl ?_
  rintro r3 H9 ⟨⟨un,ud,uo⟩,Ks9,rfl,hmo9,hkn9,hkc9,hka9,hlen9,hsm9⟩
  have t5:=hkc9 _ _ _ (by omega) s5
  have t1:=hkc9 _ _ _ hook ho1c
  have hu1:=hmo9.n
  have hu2:=hmo9.d
  have hu3:=hmo9.ok
  have hu4:=hmo9.eq
  simp only at hu1 hu2 hu3 hu4
  have ws1:IntKind.i64.wrap ((vn:Int)+(un:Int))=(vn:Int)+(un:Int):=IntWalk.i64_in _ (by omega)
  have ws2:IntKind.i64.wrap ((ud:Int)+1)=(ud:Int)+1:=IntWalk.i64_in _ (by omega)
  have hmn:(if 4001 < (vn:Int)+(un:Int) then 4001 else (vn:Int)+(un:Int))=((min (vn+un) 4001:Nat):Int):=by split <;> omega
  have hmx:(if (vd:Int) < (ud:Int)+1 then (ud:Int)+1 else (vd:Int))=((max vd (ud+1):Nat):Int):=by split <;> omega
  have wc1:IntKind.i64.wrap ((c:Int) - 1)=(c:Int) - 1:=IntWalk.i64_in _ (by omega)
  have g1:∀ a:AObj,(H9.set H0.length a)[H0.length]?=some a:=fun a=>List.getElem?_set_self (lt_of t5)
  have g2:∀ a b:AObj,((H9.set H0.length a).set H0.length b)[H0.length]?=some b:=fun a b=>List.getElem?_set_self (by simp; exact lt_of t5)
  simp -implicitDefEqProofs [enc4,t5,t1,hak,hkl2,hcne,htd,wdn,ws1,ws2,hmn,hmx,wc1,g1,g2,hck,hxc,hxc2]
  have hpd:p.drop c=tk :: p.drop (c+1):=by
   obtain ⟨q1,q2⟩:=List.getElem?_eq_some_iff.1 htk
   rw [List.drop_eq_getElem_cons q1,q2]
  have hdl:deepsR (p.drop c)=max (deepR tk) (deepsR (p.drop (c+1))):=by rw [hpd]; rfl
  have hsl:sizesR (p.drop c)=sizeR tk+sizesR (p.drop (c+1)):=by rw [hpd]; rfl
  have hol:oksR g.rules.length (p.drop c)=(okR g.rules.length tk && oksR g.rules.length (p.drop (c+1))):=by rw [hpd]; rfl
  have hsd:=hs.d
  have hse:=hs.eq rfl
  simp only at hsd hse
  have hrk:rok=true /\ oksR g.rules.length (p.drop (c+1))=true:=by
   have:=s3.symm
   simpa using this
  refine ⟨⟨c,⟨min (vn+un) 4001,max vd (ud+1),uo⟩,Ks9,H9.set H0.length (.cells 0 [i64 (n:Int),i64 ((min (vn+un) 4001:Nat):Int),i64 ((max vd (ud+1):Nat):Int),.sc (.bool uo)])⟩,by simp,⟨by simp only; omega,by simp only; omega,?_,?_,fun huo=>?_,hkn9.keep fun z y hz hy=>?_,?_,fun z gg cs hz hz2 hy=>?_,fun z y hz hy=>?_,?_,fun j hj=>?_⟩,le_of (by simp [dslot]),rfl⟩
  .simp only; rw [hdl]; omega
  .simp only; rw [hu3,hol,hrk.1,hrk.2]; simp
  .simp only at huo ⊢
   have:=hu4 huo
   rw [hsl,hdl]; omega
  .simp only
   rw [List.getElem?_set_ne]
   .exact hy
   .rcases hz with rfl | ⟨u,rfl⟩
    .omega
    .rintro rfl; rw [t5] at hy; cases hy
  .simp only; rw [List.getElem?_set_self (lt_of t5)]
  .simp only; rw [List.getElem?_set_ne (Ne.symm hz2)]; exact hkc9 z gg cs hz (hs.kc z gg cs hz hz2 hy)
  .simp only; rw [List.getElem?_set_ne (by omega)]; exact hka9 z y hz (hs.ka z y hz hy)
  .simp only; simp; omega
  .simp only
   have hjk:j ≠ k:=fun e=>hj (e ▸ .one hstp)
   rw [hsm9 j hjk (fun hr=>hj (.cons hstp hr))]
   exact hs.sm j hj
end Go.Apx
end
section
namespace Go.Apx
open Go.Proofs
set_option maxRecDepth 4000
def bigR (t:RT):Bool:=decide (4000 < sizeR t)
def dpR (t:RT):Bool:=decide (100 < deepR t)
def treesE (R:Nat) (ts:List RT):Int:=if ts.all (okR R)=true then (if ts.any bigR=true then 4 else if ts.any dpR=true then 9 else 0) else 2
def TrE (g:Gr) (f:FO) (L:Nat -> List RT) (most e:Int):Prop :=
 (checkF g ≠ 0 /\ e=checkF g) \/ (checkF g=0 /\ (((fmdF f=false \/ f.nodes.length=0) /\ e=2) \/ (fmdF f=true /\ 0 < f.nodes.length /\ ((¬ Wl (wsF f) 0 /\ e=161) \/
  (Wl (wsF f) 0 /\ (((most < 0 \/ 200 < most) /\ e=3) \/ (0 <= most /\ most <= 200 /\ e=treesE g.rules.length ((L 0).take most.toNat))))))))
theorem TrE.same {g:Gr} {f:FO} {L:Nat -> List RT} {most e e':Int} (h:TrE g f L most e) (h':TrE g f L most e'):e=e':=by
 have hb:∀ {b:Bool},b=false -> b=true -> False:=fun h1 h2=>by rw [h1] at h2; cases h2
 rcases h with ⟨h1,rfl⟩ | ⟨h1,⟨h2,rfl⟩ | ⟨h2,h3,⟨h4,rfl⟩ | ⟨h4,⟨h5,rfl⟩ | ⟨h5,h6,rfl⟩⟩⟩⟩ <;> rcases h' with ⟨k1,rfl⟩ | ⟨k1,⟨k2,rfl⟩ | ⟨k2,k3,⟨k4,rfl⟩ | ⟨k4,⟨k5,rfl⟩ | ⟨k5,k6,rfl⟩⟩⟩⟩ <;>
  first | rfl | (exact (k1 h1).elim) | (exact (h1 k1).elim) | (exact (h4 k4).elim) | (exact (k4 h4).elim) | (rcases h2 with h2 | h2; (exact (hb h2 k2).elim); omega) | (rcases k2 with k2 | k2; (exact (hb k2 h2).elim); omega) | omega
theorem RTr.keepC {g:Gr} {b:Nat} {H H':AHeap} {t:RT} {v:TP} (h:RTr g b H t v) (hk:∀ (z:Nat) (cs:List AV),b <= z -> H[z]?=some (.cells 0 cs) -> H'[z]?=some (.cells 0 cs)):RTr g b H' t v:=by
 induction h with
 | mk hr ho hc hl h ih=>exact .mk hr ho (hk _ _ ho hc) hl ih
structure OutT (g:Gr) (b:Nat) (ts:List RT) (vs:List TP) (T:Nat) (H:AHeap):Prop where
 l:vs.length=ts.length
 tr:∀ (i:Nat) (t:RT) (v:TP),ts[i]?=some t -> vs[i]?=some v -> RTr g b H t v
def RTreesR (g:Gr) (f:FO) (L:Nat -> List RT) (most:Int) (h:AHeap) (r:AEnd) (h':AHeap):Prop :=
 Kp h h' /\ ∃ e v,r=.ret (.tup [v,i64 e]) /\ v.isPend=false /\ v.one=true /\ TrE g f L most e /\ (e ≠ 0 -> v=.sl 0 [] .nil) /\ (e=0 -> ∃ vs T,v=apd 2 (vs.map encTP) T /\ OutT g 0 ((L 0).take most.toNat) vs T h')
structure RS1 where
 i:Nat
 Ks:List KL
 H:AHeap
structure RS2 where
 i:Nat
 vs:List TP
 T:Nat
 H:AHeap
theorem any_take {α:Type} {p:α -> Bool} {l:List α} {i:Nat} {x:α} (h:l[i]?=some x):(l.take (i+1)).any p=((l.take i).any p || p x):=by
 rw [List.take_add_one,h]; simp [List.any_append]
set_option maxRecDepth 200000 in
set_option maxHeartbeats 8000000 in
theorem rTrees_c (g:Gr) (f:FO) (hf:FoOk f) (L:Nat -> List RT) (hL:∀ i,Wl (wsF f) i -> L i=stepL L (wsF f i)) (most:Int) (hs:g.sorts.length <= 2 ^ 31) (hr:g.rules.length <= 2 ^ 31) {h:AHeap} :
  ACalls PP Gl 21 [encG g,encFO f,i64 most] h (RTreesR g f L most h):=by
 have hkr:Kp h h:=fun _ _ hz=>hz
 have hfn:=hf.n
 have hmx:f.nodes.length <= maxLenA:=by unfold maxLenA; omega
 have hno:∀ (H:AHeap) (e:Int),Kp h H -> TrE g f L most e -> e ≠ 0 -> RTreesR g f L most h (.ret (.tup [.sl 0 [] .nil,i64 e])) H:=fun H e hk ht he=>⟨hk,e,_,rfl,rfl,rfl,ht,fun _=>rfl,fun h0=>(he h0).elim⟩
 refine enter_ref14_Trees (by simp) ?_
 simp -implicitDefEqProofs [code_ref14_Trees,res_ref14_Trees,ann_ref14_Trees,encG,encFO]
 refine callk (rcheck_c g hs hr) (by simp [encG]) rfl ?_
 by_cases hck:checkF g=0
 case neg =>
  simp -implicitDefEqProofs [hck]
  exact ret1 (v:=.tup [.sl 0 [] .nil,i64 (checkF g)]) (by simp [deferred,dslot]) (by simp [evalRes,evalRes1]) (hno h _ hkr (.inl ⟨hck,rfl⟩) hck)
 simp -implicitDefEqProofs [hck]
 refine callr (rCount_c f hf L hL) (by simp [encFO]) rfl ?_
 rintro r1 H1 ⟨kp1,n,e,rfl,hcnt⟩
 rcases hcnt with ⟨h1,rfl,rfl⟩ | ⟨hF,hN,⟨h1,rfl,rfl⟩ | ⟨hwl,hcnt⟩⟩
 .simp -implicitDefEqProofs
  exact ret1 (v:=.tup [.sl 0 [] .nil,i64 2]) (by simp [deferred,dslot]) (by simp [evalRes,evalRes1]) (hno H1 2 kp1 (.inr ⟨hck,.inl ⟨h1,rfl⟩⟩) (by decide))
 .simp -implicitDefEqProofs
  exact ret1 (v:=.tup [.sl 0 [] .nil,i64 161]) (by simp [deferred,dslot]) (by simp [evalRes,evalRes1]) (hno H1 161 kp1 (.inr ⟨hck,.inr ⟨hF,hN,.inl ⟨h1,rfl⟩⟩⟩) (by decide))
 have hck2:(e=15 /\ n=0 /\ cnt L 0=many) \/ (e=0 /\ n=(cnt L 0:Int)):=by
  rcases hcnt with ⟨h1,h2,h3⟩ | ⟨h1,h2,h3⟩
  .exact .inl ⟨h3,h2,by have:=cnt_le L 0; omega⟩
  .exact .inr ⟨h3,h2⟩
 rcases hck2 with ⟨rfl,rfl,hcm⟩ | ⟨rfl,rfl⟩
 all_goals
  by_cases hr1:most < 0
  .simp -implicitDefEqProofs [hr1]
   exact ret1 (v:=.tup [.sl 0 [] .nil,i64 3]) (by simp [deferred,dslot]) (by simp [evalRes,evalRes1]) (hno H1 3 kp1 (.inr ⟨hck,.inr ⟨hF,hN,.inr ⟨hwl,.inl ⟨.inl hr1,rfl⟩⟩⟩⟩) (by decide))
  by_cases hr2:200 < most
  .simp -implicitDefEqProofs [hr1,hr2]
   exact ret1 (v:=.tup [.sl 0 [] .nil,i64 3]) (by simp [deferred,dslot]) (by simp [evalRes,evalRes1]) (hno H1 3 kp1 (.inr ⟨hck,.inr ⟨hF,hN,.inr ⟨hwl,.inl ⟨.inr hr2,rfl⟩⟩⟩⟩) (by decide))
  simp -implicitDefEqProofs [hr1,hr2]
  refine callr (counts_c f hf hF hN L hL) (by simp [encFO]) rfl ?_
  rintro r2 H2 ⟨kp2,⟨h1,_⟩ | ⟨_,ov,rfl,ov1,ov2,hro⟩⟩
  .exact (h1 hwl).elim
  simp -implicitDefEqProofs [ov1,ov2,hmx]
  obtain ⟨mN,rfl⟩:∃ mN:Nat,most=(mN:Int):=⟨most.toNat,by omega⟩
  obtain ⟨ts,hts⟩:∃ ts,ts=(L 0).take mN:=⟨_,rfl⟩
  have hcl:=cnt_le L 0
  have htl:ts.length=min mN (cnt L 0):=by rw [hts]; unfold cnt many; simp; omega
  have hE:∀ e,e=treesE g.rules.length ts -> TrE g f L (mN:Int) e:=fun e he=>.inr ⟨hck,.inr ⟨hF,hN,.inr ⟨hwl,.inr ⟨by omega,by omega,by simp [he,hts]⟩⟩⟩⟩
  obtain ⟨ok,hok⟩:∃ ok,ok=H2.length:=⟨_,rfl⟩
  have hz:List.replicate f.nodes.length (AV.sl 0 [] Cap.nil)=(List.replicate f.nodes.length (⟨[],0⟩:KL)).map knV:=by
   rw [List.map_replicate]; rfl
  rw [hz,<- hok]
  try rw [show (1000000001:Int)=(cnt L 0:Int) by rw [hcm]; rfl]
  try clear hcm
  obtain ⟨Hk,hHk⟩:∃ Hk,Hk=H2++[AObj.cells 0 ((List.replicate f.nodes.length (⟨[],0⟩:KL)).map knV)]:=⟨_,rfl⟩
  have hkk:Kp H2 Hk:=by rw [hHk]; exact Kp.app _ _
  have hHkl:Hk.length=ok+1:=by rw [hHk,hok]; simp
  have hrep:∀ (j:Nat) (x:KL),(List.replicate f.nodes.length (⟨[],0⟩:KL))[j]?=some x -> x=⟨[],0⟩:=fun j x hx=>(List.mem_replicate.1 (List.mem_of_getElem? hx)).2
  have hkn0:KN g.rules.length L f.nodes.length ok ok 0 (List.replicate f.nodes.length ⟨[],0⟩) Hk:=by
   refine ⟨by rw [hHk,hok]; simp,by simp,fun j x hx hn=>?_,fun a b xa xb ha hb hna=>?_,fun j x hx p hp=>?_,fun j x hx=>?_,Nat.le_refl _⟩
   .rw [hrep j x hx] at hn; exact (hn rfl).elim
   .rw [hrep a xa ha] at hna; exact (hna rfl).elim
   .rw [hrep j x hx] at hp; cases hp
   .rw [hrep j x hx]; simp
  have hroK:∀ H',Ka ok Hk H' -> RO f L ov H':=fun H' hk=>by
   obtain ⟨o,gg,rc,O,u1,u2,u3⟩:=hro
   exact ⟨o,gg,rc,O,u1,hk _ _ (by have:=lt_of u2; omega) (hkk _ _ u2),u3⟩
  have hovk:∀ o gg r2,ov=.rf o gg 0 f.nodes.length r2 -> o ≠ ok:=fun o gg r2 he=>by
   obtain ⟨o',gg',rc,O,u1,u2,u3⟩:=hro
   rw [u1] at he; cases he
   have:=lt_of u2; omega
  have hkpK:∀ H',Ka ok Hk H' -> Kp h H':=fun H' hk z x hx=>by
   have h1:=(kp1.trans kp2) _ _ hx
   exact hk z x (by have:=lt_of h1; omega) (hkk _ _ h1)
  rw [<- hHk]
  refine AWp.till (S:=RS1) ⟨0,List.replicate f.nodes.length ⟨[],0⟩,Hk⟩ (fun s=>ts.length - s.i) [2,3,4,9,11] (fun s=>[(13,bl ((ts.take s.i).any bigR)),(14,bl ((ts.take s.i).any dpR)),(15,.rf ok 0 0 f.nodes.length .full),(16,i64 (s.i:Int))]) (fun s=>s.H)
   (fun s=>s.i <= ts.length /\ KN g.rules.length L f.nodes.length ok ok 0 s.Ks s.H /\ Ka ok Hk s.H /\ ok <= s.H.length /\ ∀ t ∈ ts.take s.i,okR g.rules.length t=true) mixed ⟨by simp,hkn0,Ka.refl _ _,by simp only; omega,by simp⟩ (le_of (by simp [dslot])) rfl ?_
  rintro ⟨i,Ks,H⟩ hinv
  have z1:i <= ts.length:=hinv.1
  have z2:KN g.rules.length L f.nodes.length ok ok 0 Ks H:=hinv.2.1
  have z3:Ka ok Hk H:=hinv.2.2.1
  have z4:ok <= H.length:=hinv.2.2.2.1
  have z5:∀ t ∈ ts.take i,okR g.rules.length t=true:=hinv.2.2.2.2
  clear hinv
  have wi:=wrap1 (n:=i) (by omega)
  by_cases hi:i < ts.length
  .have hi1:(i:Int) < cnt L 0:=by omega
   have hi1':(i:Int) < 1000000001:=by omega
   have hi2:(i:Int) < mN:=by omega
   obtain ⟨t,ht⟩:∃ t,ts[i]?=some t:=⟨ts[i],by simp [hi]⟩
   have hLt:(L 0)[i]?=some t:=by rw [hts,List.getElem?_take] at ht; split at ht; exact ht; cases ht
   have hnx:=any_take (p:=bigR) ht
   have hdx:=any_take (p:=dpR) ht
   obtain ⟨b13,hb13⟩:∃ b,(ts.take i).any bigR=b:=⟨_,rfl⟩
   obtain ⟨b14,hb14⟩:∃ b,(ts.take i).any dpR=b:=⟨_,rfl⟩
   rw [hb13] at hnx
   rw [hb14] at hdx
   rw [hb13,hb14]
   simp -implicitDefEqProofs [lp0_ref14_Trees,hi1,hi1',hi2,ov1,ov2]
   refine callr (measured_c f hf hF L hL g hr ov ok ok 0 .full 0 hwl i t Ks hN (.inl rfl) (by omega) hLt (hroK H z3) z2 hovk z4) (by simp [encG,encFO]) rfl ?_
   rintro r3 H3 ⟨⟨vn,vd,vo⟩,Ks3,rfl,hmo,hkn3,_,hka3,hlen3,_⟩
   have hm1:=hmo.ok
   have hm2:=hmo.eq
   simp only at hm1 hm2
   have hK3:=z3.trans hka3
   cases vo with
   | false =>
    simp -implicitDefEqProofs [enc4]
    refine ret1 (v:=.tup [.sl 0 [] .nil,i64 2]) (by simp [deferred,dslot]) (by simp [evalRes,evalRes1]) (hno H3 2 (hkpK _ hK3) (hE 2 ?_) (by decide))
    unfold treesE
    rw [if_neg (by rw [all_bad ht hm1.symm]; simp)]
   | true =>
    obtain ⟨hm3,hm4⟩:=hm2 rfl
    have hst:i+1 <= ts.length /\ KN g.rules.length L f.nodes.length ok ok 0 Ks3 H3 /\ Ka ok Hk H3 /\ ok <= H3.length /\ ∀ t ∈ ts.take (i+1),okR g.rules.length t=true :=
     ⟨hi,hkn3,hK3,by omega,take_ext ht (q:=fun t=>okR g.rules.length t=true) z5 hm1.symm⟩
    by_cases hbg:4000 < sizeR t <;> by_cases hdg:100 < deepR t
    all_goals
     first
      | (have hn1:(4000:Int) < vn:=by omega)
      | (have hn1:¬ (4000:Int) < vn:=by omega)
     first
      | (have hd1:(100:Int) < vd:=by omega)
      | (have hd1:¬ (100:Int) < vd:=by omega)
     cases b13 <;> cases b14
     all_goals
      simp -implicitDefEqProofs [enc4,hn1,hd1,wi]
      exact ⟨⟨i+1,Ks3,H3⟩,by simp; omega,hst,le_of (by simp [dslot,hnx,hdx,bigR,dpR,hbg,hdg]),rfl⟩
  have hii:ts.take i=ts:=List.take_of_length_le (by omega)
  rw [hii] at z5 ⊢
  have hall:ts.all (okR g.rules.length)=true:=List.all_eq_true.2 z5
  have hex:(¬ (i:Int) < cnt L 0 /\ True) \/ ((i:Int) < cnt L 0 /\ ¬ (i:Int) < mN):=by
   by_cases h1:(i:Int) < cnt L 0
   .exact .inr ⟨h1,by omega⟩
   .exact .inl ⟨h1,trivial⟩
  obtain ⟨b13,hb13⟩:∃ b,ts.any bigR=b:=⟨_,rfl⟩
  obtain ⟨b14,hb14⟩:∃ b,ts.any dpR=b:=⟨_,rfl⟩
  rw [hb13,hb14]
  have hE2:treesE g.rules.length ts=if b13=true then 4 else if b14=true then 9 else 0:=by unfold treesE; rw [if_pos hall,hb13,hb14]
  rcases hex with ⟨hx1,hx2⟩ | ⟨hx1,hx2⟩
  all_goals
   cases b13 with
   | true =>
    simp -implicitDefEqProofs [lp0_ref14_Trees,hx1,hx2]
    exact ret1 (v:=.tup [.sl 0 [] .nil,i64 4]) (by simp [deferred,dslot]) (by simp [evalRes,evalRes1]) (hno H 4 (hkpK _ z3) (hE 4 (by rw [hE2]; rfl)) (by decide))
   | false =>
   cases b14 with
   | true =>
    simp -implicitDefEqProofs [lp0_ref14_Trees,hx1,hx2]
    exact ret1 (v:=.tup [.sl 0 [] .nil,i64 9]) (by simp [deferred,dslot]) (by simp [evalRes,evalRes1]) (hno H 9 (hkpK _ z3) (hE 9 (by rw [hE2]; rfl)) (by decide))
   | false =>
   simp -implicitDefEqProofs [lp0_ref14_Trees,hx1,hx2]
   refine AWp.till (S:=RS2) ⟨0,[],0,H⟩ (fun s=>ts.length - s.i) [2,3,4,9,11] (fun s=>[(18,apd 2 (s.vs.map encTP) s.T),(19,i64 (s.i:Int))]) (fun s=>s.H)
    (fun s=>s.i <= ts.length /\ s.vs.length=s.i /\ (∀ (j:Nat) (t:RT) (v:TP),ts[j]?=some t -> s.vs[j]?=some v -> RTr g H.length s.H t v) /\ Ka H.length H s.H /\ H.length <= s.H.length /\ (s.i ≠ 0 -> s.H[s.T]?=some (.tok s.i) /\ H.length <= s.T)) mixed
    ⟨by simp,by simp,fun j t v _ hv=>by simp at hv,Ka.refl _ _,Nat.le_refl _,fun h0=>absurd rfl h0⟩ (le_of (by simp [dslot])) rfl ?_
   rintro ⟨j,vs,T,H4⟩ hinv
   have y1:j <= ts.length:=hinv.1
   have y2:vs.length=j:=hinv.2.1
   have y3:∀ (j:Nat) (t:RT) (v:TP),ts[j]?=some t -> vs[j]?=some v -> RTr g H.length H4 t v:=hinv.2.2.1
   have y4:Ka H.length H H4:=hinv.2.2.2.1
   have y5:H.length <= H4.length:=hinv.2.2.2.2.1
   have y6:j ≠ 0 -> H4[T]?=some (.tok j) /\ H.length <= T:=hinv.2.2.2.2.2
   clear hinv
   have yk:Ka ok Hk H4:=z3.trans fun z x hz hx=>y4 z x (by omega) hx
   have wj:=wrap1 (n:=j) (by omega)
   by_cases hj:j < ts.length
   case neg =>
    have hjx:(¬ (j:Int) < cnt L 0 /\ True) \/ ((j:Int) < cnt L 0 /\ ¬ (j:Int) < mN):=by
     by_cases h1:(j:Int) < cnt L 0
     .exact .inr ⟨h1,by omega⟩
     .exact .inl ⟨h1,trivial⟩
    have hfin:RTreesR g f L (mN:Int) h (.ret (.tup [apd 2 (vs.map encTP) T,i64 0])) H4 :=
     ⟨hkpK _ yk,0,_,rfl,isPend_apd _ _ _,one_apd _ _ _,hE 0 (by rw [hE2]; rfl),fun h0=>absurd rfl h0,fun _=>⟨vs,T,rfl,by simp [<- hts]; omega,fun a t v ha hv=>(y3 a t v (by rw [hts]; simpa using ha) hv).le (Nat.zero_le _)⟩⟩
    rcases hjx with ⟨hj1,hj2⟩ | ⟨hj1,hj2⟩
    all_goals
     simp -implicitDefEqProofs [lp1_ref14_Trees,hj1,hj2]
     exact ret1 (v:=.tup [apd 2 (vs.map encTP) T,i64 0]) (by simp [deferred,dslot]) (by simp [evalRes,evalRes1]) hfin
   have hj1:(j:Int) < cnt L 0:=by omega
   have hj2:(j:Int) < mN:=by omega
   obtain ⟨t,ht⟩:∃ t,ts[j]?=some t:=⟨ts[j],by simp [hj]⟩
   have hLt:(L 0)[j]?=some t:=by rw [hts,List.getElem?_take] at ht; split at ht; exact ht; cases ht
   have hokt:=z5 t (List.mem_of_getElem? ht)
   simp -implicitDefEqProofs [lp1_ref14_Trees,hj1,hj2,ov1,ov2]
   refine callr (tree_c f hf hF L hL g hr ov 0 hwl j t hN (.inl rfl) (by unfold many; omega) hLt hokt (hroK H4 yk)) (by simp [encG,encFO]) rfl ?_
   rintro r3 H5 ⟨v,rfl,hrt,kp5⟩
   obtain ⟨lb,o',n',rfl⟩:=hrt.shape
   have hl5:H4.length <= H5.length:=by
    have h1:H4[H4.length - 1]?=some (H4[H4.length - 1]'(by have:=lt_of z2.o; omega)):=by simp
    have:=lt_of (kp5 _ _ h1); omega
   have hT5:j ≠ 0 -> ∃ q,H5[T]?=some (.tok q):=fun h0=>⟨_,kp5 _ _ (y6 h0).1⟩
   simp -implicitDefEqProofs [encTP]
   refine appG (vs.map encTP) (encTP (lb,.rf o' 0 0 n' .full)) T (by simp) (by simp [elems,encTP]) (fun hne=>by
    rw [List.length_map,y2]
    exact kp5 _ _ (y6 (fun e=>hne (by rw [List.eq_nil_of_length_eq_zero (y2.trans e)]; rfl))).1) (by rw [List.length_map,y2]; unfold maxLenA; omega) ?_
   rw [List.length_map,y2]
   obtain ⟨H6,hH6⟩:∃ H6,H6=apG H5 j T:=⟨_,rfl⟩
   obtain ⟨T2,hT2⟩:∃ T2,T2=apT H5 j T:=⟨_,rfl⟩
   rw [<- hH6,<- hT2]
   have hcs:vs.map encTP++[encTP (lb,.rf o' 0 0 n' .full)]=(vs++[((lb,.rf o' 0 0 n' .full):TP)]).map encTP:=by simp
   rw [hcs]
   have hc6:∀ (z:Nat) (cs:List AV),H5[z]?=some (.cells 0 cs) -> H6[z]?=some (.cells 0 cs):=fun z cs hz=>by rw [hH6]; exact apG_keep hT5 hz (by simp)
   simp -implicitDefEqProofs [wj]
   refine ⟨⟨j+1,vs++[(lb,.rf o' 0 0 n' .full)],T2,H6⟩,by simp; omega,⟨hj,by simp [y2],fun a t' v1 v2 ha hv=>?_,fun z x hz hx=>?_,by simp only; rw [hH6]; have:=apG_len H5 j T; omega,fun _=>⟨by simp only; rw [hH6,hT2]; exact apG_tok hT5,?_⟩⟩,le_of (by simp [dslot]),rfl⟩
   .simp only at hv ⊢
    by_cases e:a < vs.length
    .rw [List.getElem?_append_left e] at hv
     exact ((y3 a t' (v1,v2) ha hv).keepC fun z cs _ hz=>kp5 _ _ hz).keepC fun z cs _ hz=>hc6 z cs hz
    .rw [List.getElem?_append_right (by omega)] at hv
     have hav:a=j:=by
      have:=(List.getElem?_eq_some_iff.1 hv).1
      simp at this; omega
     subst hav
     rw [ht] at ha
     cases ha
     simp [y2] at hv
     obtain ⟨rfl,rfl⟩:=hv
     exact (hrt.le y5).keepC fun z cs _ hz=>hc6 z cs hz
   .simp only
    rw [hH6]
    exact apG_keep' (kp5 _ _ (y4 z x hz hx)) fun h0=>by have:=(y6 h0).2; omega
   .simp only
    rw [hT2]; unfold apT
    split
    .omega
    .rename_i h0; exact (y6 h0).2
end Go.Apx
end
