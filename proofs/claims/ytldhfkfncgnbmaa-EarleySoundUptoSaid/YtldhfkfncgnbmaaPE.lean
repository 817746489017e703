/- What a checked grammar is; forests as values. -/
import Derived.Test.YtldhfkfncgnbmaaPD
import Derived.Test.YtldhfkfncgnbmaaEB
import Derived.Test.YtldhfkfncgnbmaaAw
set_option linter.unusedVariables false
set_option linter.unusedSimpArgs false
set_option linter.unnecessarySimpa false
section
namespace Go.Apx
open Go.Proofs
set_option maxRecDepth 4000
theorem check_names {g:Gr} (h:checkF g=0):∀ s ∈ g.sorts,okName s=true:=by
 unfold checkF at h
 split at h
 .omega
 .split at h
  .omega
  .split at h
   .rename_i c3
    intro s hs
    obtain ⟨i,hi⟩:=List.getElem?_of_mem hs
    have:=allIdx_iff.1 c3 i s hi
    simp only [nameOkF,Bool.and_eq_true] at this
    exact this.1
   .omega
theorem has_mem {l:List ByteArray} {s:ByteArray} (h:hasF l s=true):s ∈ l:=by
 unfold hasF indexF placeF at h
 cases hf:l.findIdx? (fun x=>decide (x=s)) with
 | none=>rw [hf] at h; simp at h
 | some i =>
  obtain ⟨h1,h2,_⟩:=List.findIdx?_eq_some_iff_getElem.1 hf
  have h3:l[i]=s:=by simpa using h2
  rw [<- h3]; exact List.getElem_mem h1
theorem check_rule {g:Gr} (h:checkF g=0):∀ R ∈ g.rules,R.sort ∈ g.sorts /\ (∀ p ∈ R.parts,partF g p=true) /\ onceF R.parts=true:=by
 intro R hR
 obtain ⟨i,hi⟩:=List.getElem?_of_mem hR
 have:=(check_ok h).2.2 i R hi
 simp only [ruleOkF,rruleF,Bool.and_eq_true,List.all_eq_true] at this
 refine ⟨?_,this.1.1.1.2,this.1.1.2⟩
 exact has_mem this.1.1.1.1.2
theorem check_sorts {g:Gr} (h:checkF g=0):∀ R ∈ g.rules,R.sort ≠ emp:=fun R hR e=>by
 have:=check_names h R.sort (check_rule h R hR).1
 rw [e] at this
 simp [okName,emp] at this
theorem timesF_mono {l:List Pt} {i j:Nat} (h:i <= j) (k:Int):timesF (l.take i) k <= timesF (l.take j) k:=by
 have hs:(l.take i).Sublist (l.take j):=by
  have:l.take i=(l.take j).take i:=by rw [List.take_take,Nat.min_eq_left h]
  rw [this]; exact List.take_sublist _ _
 exact (hs.filter _).length_le
theorem once_args {l:List Pt} (h:onceF l=true):ArgsOk l (argsF l):=by
 have ht:∀ a:Nat,a < argsF l -> timesF l a=1:=fun a ha=>by
  unfold onceF at h
  rw [List.all_eq_true] at h
  simpa using h a (by simpa using ha)
 have hr:∀ (q:Nat) (p:Pt),l[q]?=some p -> p.sort ≠ emp -> ∃ a:Nat,p.arg=a /\ a < argsF l:=fun q p hq hp=>by
  have:=once_arg h p (List.mem_of_getElem? hq) hp
  exact ⟨p.arg.toNat,by omega,by omega⟩
 have key:∀ (q q':Nat) (p p':Pt),q < q' -> l[q]?=some p -> l[q']?=some p' -> p.sort ≠ emp -> p'.sort ≠ emp -> p.arg=p'.arg -> False:=fun q q' p p' hlt hq hq' hp hp' he=>by
  obtain ⟨a,ha,han⟩:=hr q p hq hp
  have h1:=ht a han
  have t1:=timesF_take (k:=(a:Int)) hq
  have t2:=timesF_take (k:=(a:Int)) hq'
  rw [if_neg hp,if_pos ha] at t1
  rw [if_neg hp',if_pos (by rw [<- he,ha])] at t2
  have m1:=timesF_mono (l:=l) (show q+1 <= q' from hlt) (a:Int)
  have m2:timesF (l.take (q'+1)) a <= timesF l a:=by
   have:=timesF_mono (l:=l) (show q'+1 <= l.length from (List.getElem?_eq_some_iff.1 hq').1) (a:Int)
   rwa [List.take_length] at this
  omega
 refine ⟨hr,fun q q' p p' hq hq' hp hp' he=>?_,fun a ha=>?_⟩
 .rcases Nat.lt_trichotomy q q' with h' | h' | h'
  .exact (key q q' p p' h' hq hq' hp hp' he).elim
  .exact h'
  .exact (key q' q p' p h' hq' hq hp' hp he.symm).elim
 .have h1:=ht a ha
  unfold timesF at h1
  obtain ⟨p,hp⟩:∃ p,p ∈ l.filter (fun p:Pt=>!decide (p.sort=⟨#[]⟩) && decide (p.arg=(a:Int))):=by
   cases hl:l.filter (fun p:Pt=>!decide (p.sort=⟨#[]⟩) && decide (p.arg=(a:Int))) with
   | nil=>rw [hl] at h1; simp at h1
   | cons x r=>exact ⟨x,by simp⟩
  obtain ⟨hm,hq⟩:=List.mem_filter.1 hp
  obtain ⟨q,hq2⟩:=List.getElem?_of_mem hm
  simp at hq
  exact ⟨q,p,hq2,by simpa [emp] using hq.1,hq.2⟩
def wayV (w:Nat × List Nat):AV:=.agg [i64 (w.1:Int),grown 1 (i64s w.2)]
def nodeV (x:Sp × List (Nat × List Nat)):AV:=.agg [.sc (.string x.1.s),i64 (x.1.i:Int),i64 (x.1.j:Int),grown 2 (x.2.map wayV)]
def forestV (l:List (Sp × List (Nat × List Nat))):AV:=.agg [grown 4 (l.map nodeV)]
theorem strip_apd (k:Nat) (es es':List AV) (T:Nat) (h:stripL es=es'):(apd k es T).strip=grown k es':=by
 subst h
 cases es with
 | nil=>rfl
 | cons a es=>simp only [apd_cons,AV.strip]; rfl
theorem strip_i64s (l:List Nat):stripL (i64s l)=i64s l:=by
 induction l with
 | nil=>rfl
 | cons a l ih=>simp only [i64s,List.map_cons,stripL] at ih ⊢; rw [ih]; rfl
theorem strip_ways (ws:List WP):stripL (ws.map encWP)=(pwl ws).map wayV:=by
 induction ws with
 | nil=>rfl
 | cons w ws ih =>
  simp only [List.map_cons,stripL,pwl] at ih ⊢
  rw [ih]
  congr 1
  simp only [encWP,AV.strip,stripL,strip_apd 1 _ _ _ (strip_i64s w.kids),wayV]
theorem strip_nodes (ns:List NP):stripL (ns.map encNP)=(ns.map fun x=>(x.sp,pwl x.ws)).map nodeV:=by
 induction ns with
 | nil=>rfl
 | cons x ns ih =>
  simp only [List.map_cons,stripL] at ih ⊢
  rw [ih]
  congr 1
  simp only [encNP,nodeC,AV.strip,stripL,strip_apd 2 _ _ _ (strip_ways x.ws),nodeV]
theorem strip_for (ns:List NP) (T:Nat):(AV.agg [forV ns T]).strip=forestV (ns.map fun x=>(x.sp,pwl x.ws)):=by
 simp only [AV.strip,stripL,forV,strip_apd 4 _ _ _ (strip_nodes ns),forestV]
theorem inb_grown (n k:Nat) (es:List AV) (h:inbL n es=true):(grown k es).inb n=true:=by
 cases es with
 | nil=>rfl
 | cons a es=>simp only [grown,if_neg (List.cons_ne_nil a es),AV.inb,h]; rfl
theorem inb_i64s (n:Nat) (l:List Nat):inbL n (i64s l)=true:=by
 induction l with
 | nil=>rfl
 | cons a l ih=>simp only [i64s,List.map_cons,inbL] at ih ⊢; rw [ih]; rfl
theorem inb_wayV (n:Nat) (ws:List (Nat × List Nat)):inbL n (ws.map wayV)=true:=by
 induction ws with
 | nil=>rfl
 | cons w ws ih =>
  simp only [List.map_cons,inbL,ih,wayV,AV.inb,inb_grown n 1 _ (inb_i64s n w.2)]; rfl
theorem inb_nodeV (n:Nat) (l:List (Sp × List (Nat × List Nat))):inbL n (l.map nodeV)=true:=by
 induction l with
 | nil=>rfl
 | cons x l ih =>
  simp only [List.map_cons,inbL,ih,nodeV,AV.inb,inb_grown n 2 _ (inb_wayV n x.2)]; rfl
theorem inb_forest (n:Nat) (l:List (Sp × List (Nat × List Nat))):(forestV l).inb n=true:=by
 simp only [forestV,AV.inb,inbL,inb_grown n 4 _ (inb_nodeV n l)]; rfl
theorem Low.cl {h H:AHeap} (hl:Low h.length h H):Cl h H h.length:=by
 intro i o hi ho
 have:h[i]?=some h[i]:=by simp [hi]
 have h2:=hl i h[i] hi this
 rw [ho] at h2
 left
 rw [<- h2] at this
 exact this
theorem Low.take {h H:AHeap} (hl:Low h.length h H):H.take h.length=h:=by
 refine List.ext_getElem? fun i=>?_
 by_cases hi:i < h.length
 .rw [List.getElem?_take,if_pos hi,hl i h[i] hi (by simp [hi])]; simp [hi]
 .rw [List.getElem?_take,if_neg hi,List.getElem?_eq_none (by omega)]
end Go.Apx
end
section
namespace Go.Apx
open Go.Proofs
set_option maxRecDepth 4000
def EParseR (g:Gr) (s:ByteArray) (tx:List ByteArray) (h:AHeap) (r:AEnd) (h':AHeap):Prop :=
 h'=h /\ ((askedF g s tx ≠ 0 /\ r=.ret (.tup [.agg [.sl 0 [] .nil],i64 (askedF g s tx)])) \/
  (askedF g s tx=0 /\ ∃ S L D,NF g tx s S L D /\ (S.length=tx.length \/ scanF g tx S.length L=[]) /\
   (((⟨s,0,tx.length⟩:Sp) ∉ D /\ r=.ret (.tup [.agg [.sl 0 [] .nil],i64 160])) \/
   ((⟨s,0,tx.length⟩:Sp) ∈ D /\ ((∃ n,packP g tx D ⟨s,0,tx.length⟩ n=none /\ r=.ret (.tup [.agg [.sl 0 [] .nil],i64 15])) \/
    (∃ n L F ns,packP g tx D ⟨s,0,tx.length⟩ n=some (L,F) /\ F.length=L.length /\ ns.map (·.1)=L /\ ns.map (·.2)=F /\ r=.ret (.tup [forestV ns,i64 0])))))))
set_option maxHeartbeats 4000000 in
theorem eparse_c (g:Gr) (s:ByteArray) (tx:List ByteArray) (tc:Cap) {h:AHeap} (hs:g.sorts.length <= 2 ^ 31) (hc:∀ h:AHeap,AEx PP Gl 47 [encG g] h (.ret (i64 (checkF g))) h) (hb:askedF g s tx=0 -> BdG g tx) (hua:∀ R:Rl,g.us R=true) (hst:g.st=s) :
  ACalls PP Gl 9 [encG g,.sc (.string s),.sl 1 (tx.map sv) tc] h (EParseR g s tx h):=by
 refine enter_earley_Parse (by simp) ?_
 simp -implicitDefEqProofs [code_earley_Parse,res_earley_Parse,ann_earley_Parse,encG]
 have hA:=asked_c g s tx tc (h:=h++[.cells 0 [.sl 0 [] .nil]]) hs (hc _)
 refine callk hA (by simp [encG]) rfl ?_
 have cut:∀ (v:Int) (env:Env),env.get 6=some (.ptr h.length 0 0) -> env.get 7=some (i64 v) -> deferred env=some [] -> ∀ H',H'[h.length]?=some (.cells 0 [.sl 0 [] .nil]) -> Low h.length h H' -> EParseR g s tx h (.ret (.tup [.agg [.sl 0 [] .nil],i64 v])) h -> retPost PP Gl h [.cell 6 (.agg 1),.t 7] (EParseR g s tx h) .ret env H':=by
  intro v env e6 e7 ed H' hH hl hR
  refine retCut (v:=.tup [.agg [.sl 0 [] .nil],i64 v]) h.length ed (by simp [evalRes,evalRes1,e6,e7,hH]) (Nat.le_refl _) (Nat.le_of_lt (lt_of hH)) (by rfl) hl.cl ?_
  rw [hl.take]; exact hR
 by_cases ha:askedF g s tx=0
 case neg =>
  simp -implicitDefEqProofs [ha]
  exact cut _ _ (by simp) (by simp) (by simp [deferred,dslot]) _ (by simp) (Low.app _ _ _) ⟨rfl,.inl ⟨ha,rfl⟩⟩
 have hbd:=hb ha
 have hck:checkF g=0:=by
  unfold askedF at ha
  by_cases e:checkF g=0
  .exact e
  .rw [if_pos e] at ha; exact (e ha).elim
 have hn:=hbd.n
 simp -implicitDefEqProofs [ha]
 obtain ⟨HA,hHA⟩:∃ HA,HA=h++[AObj.cells 0 [.sl 0 [] .nil]]:=⟨_,rfl⟩
 have hAl:HA.length=h.length+1:=by rw [hHA]; simp
 refine callr (newChart_c g tx tc s 30 [] [] (h:=HA) hbd (check_sorts hck) hst (fun R _ H=>by rw [hua R]; exact any_c R)) (by simp [encG]) (by rw [hHA]) ?_
 rintro r1 H1 ⟨c,rfl,c1,c2,c3,c4,c5⟩
 have hch:=c1.ch
 have hdn:=c1.dn
 simp only [chCells] at hch
 have hr0:H1[h.length]?=some (.cells 0 [.sl 0 [] .nil]):=c3 _ _ (by omega) (by rw [hHA]; simp)
 have hlow1:Low h.length h H1:=fun z x hz hx=>c3 z x (by omega) (by rw [hHA,List.getElem?_append_left hz]; exact hx)
 have hfind:amapFind (.agg [.sc (.string s),i64 0,i64 (tx.length:Int)]) (amapOf encSp boolV (tkeys c.D))=some ((afind (tkeys c.D) ⟨s,0,tx.length⟩).map boolV):=amapFind_of keySp boolV (tkeys c.D) ⟨s,0,tx.length⟩
 have hSn:=c4.li.n
 simp -implicitDefEqProofs
 by_cases hw:(⟨s,0,tx.length⟩:Sp) ∈ c.D
 case neg =>
  by_cases hSl:c.S.length+1 <= tx.length
  .have hSe:(c.S.length:Int)+1 <= tx.length:=by omega
   simp -implicitDefEqProofs [hch,hSe,hr0]
   rw [set_self' hr0]
   exact cut _ _ (by simp) (by simp) (by simp [deferred,dslot]) _ hr0 hlow1 ⟨rfl,.inr ⟨ha,c.S,c.L,c.D,c4,c5,.inl ⟨hw,rfl⟩⟩⟩
  .have hSe:¬ (c.S.length:Int)+1 <= tx.length:=by omega
   simp -implicitDefEqProofs [hch,hSe,hdn,hfind,tkeys_find,hw,boolV,hr0]
   rw [set_self' hr0]
   exact cut _ _ (by simp) (by simp) (by simp [deferred,dslot]) _ hr0 hlow1 ⟨rfl,.inr ⟨ha,c.S,c.L,c.D,c4,c5,.inl ⟨hw,rfl⟩⟩⟩
 have hSl:¬ (c.S.length:Int)+1 <= tx.length:=by
  have:=(c4.dr _ hw).2.1
  simp only at this; omega
 simp -implicitDefEqProofs [hch,hSl,hdn,hfind,tkeys_find,hw,boolV,hr0]
 obtain ⟨HP,hHP⟩:∃ HP,HP=H1++[.amap [],.amap [],.cells 0 [.ptr c.o 0 0,.mp H1.length,.sl 0 [] .nil,.mp (H1.length+1)]]:=⟨_,rfl⟩
 have kp:∀ (z:Nat) (w:AObj),H1[z]?=some w -> HP[z]?=some w:=fun z w hz=>by rw [hHP,List.getElem?_append_left (lt_of hz)]; exact hz
 have p0:HP[H1.length]?=some (.amap []):=by rw [hHP]; simp
 have p1:HP[H1.length+1]?=some (.amap []):=by rw [hHP,List.getElem?_append_right (by omega)]; simp
 have p2:HP[H1.length+2]?=some (.cells 0 [.ptr c.o 0 0,.mp H1.length,.sl 0 [] .nil,.mp (H1.length+1)]):=by rw [hHP,List.getElem?_append_right (by omega)]; simp
 have l1:=lt_of c1.ch
 have l2:=lt_of c1.rl
 have l3:=lt_of c1.dn
 have l4:=lt_of hr0
 have hPK:PK (h.length+1) g tx tc ⟨H1.length+2,c.o,c.orl,c.od,H1.length,H1.length+1,c.M,c.D⟩ [] 0 [] HP:=by
  refine ⟨p2,⟨_,_,kp _ _ c1.ch⟩,kp _ _ c1.rl,kp _ _ c1.dn,p0,p1,by simp,fun x v hv=>by simp [afind] at hv,?_,?_,?_,?_,?_,?_,?_,?_,?_⟩
  all_goals simp only
  all_goals omega
 have hok:PkOk g tx ⟨H1.length+2,c.o,c.orl,c.od,H1.length,H1.length+1,c.M,c.D⟩:=by
  refine ⟨hbd,c2,fun s' i j hd=>?_,fun R hR=>once_args (check_rule hck R hR).2.2⟩
  have:=c4.dr _ hd
  have h1:=this.1.le.1
  have h2:=this.2.1
  simp only at h1 h2
  omega
 refine callr (pack_c (h.length+1) g tx tc _ 0 [] ⟨s,0,tx.length⟩ (h:=HP) hPK hok ⟨Nat.zero_le _,Nat.le_refl _⟩) (by simp [encSp]) (by rw [hHP]) ?_
 rintro r2 H2 ⟨q1,⟨n,q2,rfl⟩ | ⟨n,L,F,ns,T,q2,q3,q4,q5,rfl⟩⟩
 .have hr2:=q1 _ _ (Nat.lt_succ_self _) (kp _ _ hr0)
  have hlow2:Low h.length h H2:=fun z x hz hx=>q1 z x (by omega) (kp _ _ (hlow1 z x hz hx))
  simp -implicitDefEqProofs [hr2]
  rw [set_self' hr2]
  exact cut _ _ (by simp) (by simp) (by simp [deferred,dslot]) _ hr2 hlow2 ⟨rfl,.inr ⟨ha,c.S,c.L,c.D,c4,c5,.inr ⟨hw,.inl ⟨n,q2,rfl⟩⟩⟩⟩
 .have hr2:=q1 _ _ (Nat.lt_succ_self _) (kp _ _ hr0)
  have hlow2:Low h.length h H2:=fun z x hz hx=>q1 z x (by omega) (kp _ _ (hlow1 z x hz hx))
  have hl2:=lt_of hr2
  simp -implicitDefEqProofs [hr2]
  have hlow3:∀ y,Low h.length h (H2.set h.length y):=fun y z x hz hx=>by
   rw [List.getElem?_set_ne (by omega)]; exact hlow2 z x hz hx
  have hst:=strip_for ns T
  refine retCut (v:=.tup [.agg [forV ns T],i64 0]) h.length (by simp [deferred,dslot]) (by simp [evalRes,evalRes1,hl2]) (Nat.le_refl _) (by simp; omega) ?_ (hlow3 _).cl ?_
  .simp only [AV.strip,stripL] at hst ⊢
   rw [hst]
   simp only [AV.inb,inbL,inb_forest]
   rfl
  .rw [(hlow3 _).take]
   refine ⟨rfl,.inr ⟨ha,c.S,c.L,c.D,c4,c5,.inr ⟨hw,.inr ⟨n,L,F,ns.map fun x=>(x.sp,pwl x.ws),q2,q3,?_,?_,?_⟩⟩⟩⟩
   .rw [<- q4,List.map_map]; rfl
   .rw [<- q5,List.map_map]; rfl
   .simp only [AV.strip,stripL] at hst ⊢
    rw [hst]
end Go.Apx
end
section
namespace Go.Apx
open Go.Proofs
set_option maxRecDepth 4000
section
variable {g:Gr} {tx:List ByteArray} {X:List Bool} {S:Nat -> Itm -> Prop} {D:List Sp}
theorem paths_begun (h:Closed g tx S (fun s i j=>(⟨s,i,j⟩:Sp) ∈ D)):∀ (ps:List Pt) (i j:Nat) (x:Itm) (R:Rl),S i x -> g.rules[x.r]?=some R -> R.parts.drop x.d=ps -> j <= tx.length -> ∀ w ∈ pathsF (lieD tx D) ps i j,∀ (q:Nat) (p:Pt),ps[q]?=some p -> p.sort ≠ emp -> Begun g S p.sort (startP i w q)
 | [],i,j,x,R,_,_,_,_,w,_,q,p,hq,_=>by simp at hq
 | p0 :: ps,i,j,x,R,hS,hR,hd,hj,w,hw,q,p,hq,hps=>by
  obtain ⟨hp,hd1⟩:=drop_get hd
  have hn:nextF g x=some p0:=by simp [nextF,hR,hp]
  simp only [pathsF] at hw
  obtain ⟨e,he,hw⟩:=List.mem_flatMap.1 hw
  split at hw
  .rename_i hl
   obtain ⟨v,hv,rfl⟩:=List.mem_map.1 hw
   cases q with
   | zero =>
    simp at hq; subst hq
    simp only [startP,if_pos]
    exact fun r R' hr he=>h.pred _ _ _ hS hn hps r R' hr he
   | succ q =>
    have hadv:S e x.adv:=by
     by_cases hs:p0.sort=emp
     .simp [lieD,hs] at hl
      have:=h.scan _ _ _ hS hn hs hl.2
      rw [hl.1]; exact this
     .simp only [lieD,if_neg hs,decide_eq_true_eq] at hl
      exact h.move _ _ _ _ _ hl hS hn rfl hs
    have:=paths_begun h ps e j x.adv R hadv hR hd1 hj v hv q p (by simpa using hq) hps
    have hst:startP i (e :: v) (q+1)=startP e v q:=by
     unfold startP
     simp only [Nat.add_one_ne_zero,if_false,Nat.add_sub_cancel]
     cases q with
     | zero=>simp
     | succ q=>simp
    rw [hst]; exact this
  .cases hw
end
end Go.Apx
end
section
namespace Go.Apx
open Go.Proofs
set_option maxRecDepth 4000
section
variable {g:Gr} {tx:List ByteArray} {X:List Bool} {S:Nat -> Itm -> Prop} {D:List Sp}
def Met (g:Gr) (tx:List ByteArray) (S:Nat -> Itm -> Prop) (x:Sp):Prop:=Begun g S x.s x.i /\ x.i <= tx.length /\ x.j <= tx.length
theorem Met.cands (h:Closed g tx S (fun s i j=>(⟨s,i,j⟩:Sp) ∈ D)) (ha:∀ R ∈ g.rules,ArgsOk R.parts (argsF R.parts)) {s:Sp} (hm:Met g tx S s):∀ x ∈ candsP g tx D s,∀ y ∈ x.2,Met g tx S y:=by
 intro x hx y hy
 obtain ⟨r,hr,hx⟩:=List.mem_flatMap.1 hx
 obtain ⟨R,hR,hs⟩:=rulesTo_mem.1 hr
 have hA:=ha R (List.mem_of_getElem? hR)
 unfold candP at hx
 rw [hR] at hx
 simp only at hx
 obtain ⟨w,hw,rfl⟩:=List.mem_map.1 hx
 have hin:=spansOf_in (tx:=tx) (ps:=R.parts) (n:=argsF R.parts) hm.2.1 (fun e he=>Nat.le_trans (paths_le _ _ _ _ w hw e he) hm.2.2) y hy
 refine ⟨?_,hin⟩
 obtain ⟨a,han,rfl⟩:=List.mem_map.1 hy
 obtain ⟨q,p,hq,hp,hpa⟩:=hA.sur a (by simpa using han)
 have:=paths_begun h R.parts s.i s.j ⟨r,0,s.i⟩ R (hm.1 r R hR hs) hR rfl hm.2.2 w hw q p hq hp
 simpa [hA.pos hq hp hpa,hq] using this
end
end Go.Apx
end
section
namespace Go.Apx
open Go.Proofs
set_option maxRecDepth 4000
theorem awake_c {h:AHeap}:AEx PP Gl 8 [] h (.ret (.sc (.bool true))) h:=KOk.at aw_root rfl rfl
theorem run_kids {c:List (Nat × List Sp)} (hc:∀ x ∈ c,x.2.length <= 10):∀ (st:List Sp × List (Nat × List Nat)),(∀ w ∈ st.2,w.2.length <= 10) -> ∀ w ∈ (runW wayP st c).2,w.2.length <= 10:=by
 induction c with
 | nil=>intro st hs; simpa [runW] using hs
 | cons a c ih =>
  intro st hs
  have h3:runW wayP st (a :: c)=runW wayP ((wayP st.1 a).1,st.2++[(wayP st.1 a).2]) c:=rfl
  rw [h3]
  refine ih (fun x hx=>hc x (by simp [hx])) _ fun w hw=>?_
  simp only at hw
  rcases List.mem_append.1 hw with hw | hw
  .exact hs w hw
  .simp at hw; subst hw
   have:=(numAll_le a.2 st.1 []).2.2
   have h4:=hc a (by simp)
   simp only [wayP,numAll]
   rw [this]; simpa using h4
theorem cands_len {g:Gr} {tx:List ByteArray} {D:List Sp} {s:Sp} (hp:∀ R ∈ g.rules,R.parts.length <= 10):∀ x ∈ candsP g tx D s,x.2.length <= 10:=by
 intro x hx
 obtain ⟨r,_,hx⟩:=List.mem_flatMap.1 hx
 unfold candP at hx
 cases hr:g.rules[r]? with
 | none=>rw [hr] at hx; simp at hx
 | some R =>
  rw [hr] at hx
  obtain ⟨p,_,rfl⟩:=List.mem_map.1 hx
  have h1:=hp R (List.mem_of_getElem? hr)
  have h2:=argsF_le R.parts
  simp [spansOf]; omega
theorem pack_bounds {g:Gr} {tx:List ByteArray} {D:List Sp} {s:Sp} (hp:∀ R ∈ g.rules,R.parts.length <= 10):∀ (n:Nat) (L:List Sp) (F:List (List (Nat × List Nat))),packP g tx D s n=some (L,F) ->
  L ≠ [] /\ L.length <= 4000 /\ (F.map List.length).sum <= 40000 /\ ∀ ws ∈ F,∀ w ∈ ws,w.2.length <= 10
 | 0,L,F,h=>by
  simp only [packP,packSt,Option.some.injEq,Prod.mk.injEq] at h
  obtain ⟨rfl,rfl⟩:=h
  simp
 | n+1,L,F,h=>by
  have e:packP g tx D s (n+1)=(packP g tx D s n).bind (packStep (candsP g tx D) fun _=>wayP):=rfl
  rw [e] at h
  cases hq:packP g tx D s n with
  | none=>rw [hq] at h; cases h
  | some p =>
   obtain ⟨L1,F1⟩:=p
   have ih:=pack_bounds hp n L1 F1 hq
   rw [hq] at h
   simp only [Option.bind_some,packStep] at h
   cases hl:L1[F1.length]? with
   | none =>
    rw [hl] at h
    simp only [Option.some.injEq,Prod.mk.injEq] at h
    obtain ⟨rfl,rfl⟩:=h
    exact ih
   | some s1 =>
    rw [hl] at h
    simp only at h
    split at h
    .cases h
    .rename_i hb
     simp only [Option.some.injEq,Prod.mk.injEq] at h
     obtain ⟨rfl,rfl⟩:=h
     have hm:=runP_mono (candsP g tx D s1) (L1,[])
     refine ⟨fun e=>?_,by omega,by simp at hb ⊢; omega,fun ws hws w hw=>?_⟩
     .rw [e] at hm
      have h1:=hm.1
      simp at h1
      exact ih.1 h1
     .rcases List.mem_append.1 hws with hws | hws
      .exact ih.2.2.2 ws hws w hw
      .simp only [List.mem_singleton] at hws
       subst hws
       exact run_kids (cands_len hp) (L1,[]) (by simp) w hw
theorem len_sum {α:Type} {l:List (List α)} {x:List α} (h:x ∈ l):x.length <= (l.map List.length).sum:=by
 induction l with
 | nil=>cases h
 | cons y l ih =>
  simp only [List.map_cons,List.sum_cons]
  rcases List.mem_cons.1 h with rfl | h
  .omega
  .have:=ih h; omega
theorem for_bounds {g:Gr} {tx:List ByteArray} {D:List Sp} {s:Sp} {n:Nat} {ns:List (Sp × List (Nat × List Nat))} (hp:∀ R ∈ g.rules,R.parts.length <= 10) (h:packP g tx D s n=some (ns.map (·.1),ns.map (·.2))) :
  ns ≠ [] /\ ns.length <= 1000000 /\ ∀ x ∈ ns,x.2.length <= 1000000 /\ ∀ w ∈ x.2,w.2.length <= 1000000:=by
 obtain ⟨h1,h2,h3,h4⟩:=pack_bounds hp n _ _ h
 refine ⟨by rintro rfl; exact h1 rfl,by simp at h2; omega,fun x hx=>?_⟩
 have hm:x.2 ∈ ns.map (·.2):=List.mem_map.2 ⟨x,hx,rfl⟩
 exact ⟨by have:=len_sum hm; omega,fun w hw=>by have:=h4 _ hm w hw; omega⟩
structure LawP (g:Gr) (tx:List ByteArray):Prop where
 sorts:g.sorts.length <= 2 ^ 31
 rules:g.rules.length <= 2 ^ 31
 rparts:∀ r ∈ g.rules,r.parts.length <= 2 ^ 31
 sc:g.sc.strip=g.sc
 text:tx.length <= 2 ^ 31
def shortF (g:Gr) (tx:List ByteArray) (most:Int):Bool:=smallF g 10 5 && (decide ((tx.length:Int) <= most) || (decide (200 < (tx.length:Int)) && decide ((tx.length:Int) < 300)))
theorem short_c (g:Gr) (tx:List ByteArray) (tc:Cap) (most:Int) {h:AHeap} (hi:LawP g tx):AEx PP Gl 7 [encG g,.sl 1 (tx.map sv) tc,i64 most] h (.ret (bl (shortF g tx most))) h:=by
 refine enter_law14_short (by simp) ?_
 simp -implicitDefEqProofs [code_law14_short,res_law14_short,ann_law14_short,encG]
 refine callk (small_c g 10 5 hi.sorts hi.rules) (by simp [encG]) rfl ?_
 cases h1:smallF g 10 5 with
 | false =>
  simp -implicitDefEqProofs
  exact retE (by simp [deferred,dslot]) rfl (by simp [shortF,h1]) rfl
 | true =>
  by_cases h2:(tx.length:Int) <= most
  .simp -implicitDefEqProofs [h2]
   exact retE (by simp [deferred,dslot]) rfl (by simp [shortF,h1,h2]) rfl
  .by_cases h3:200 < (tx.length:Int)
   .simp -implicitDefEqProofs [h2,h3]
    exact retE (by simp [deferred,dslot]) rfl (by simp [shortF,h1,h2,h3]) rfl
   .simp -implicitDefEqProofs [h2,h3]
    exact retE (by simp [deferred,dslot]) rfl (by simp [shortF,h1,h2,h3]) rfl
theorem short_small {g:Gr} (hs:smallF g 10 5=true) (hck:checkF g=0):g.rules.length <= 10 /\ g.sorts.length <= 8 /\ ∀ R ∈ g.rules,R.parts.length <= 5:=by
 obtain ⟨c1,c2,_⟩:=check_ok hck
 have c3:g.sorts.length <= 32:=by
  unfold checkF at hck
  split at hck
  .omega
  .omega
 unfold smallF at hs
 rw [if_neg (by omega),if_neg (by omega)] at hs
 simp only [Bool.and_eq_true,List.all_eq_true,decide_eq_true_eq] at hs
 refine ⟨by omega,by omega,fun R hR=>?_⟩
 have h1:=hs.1.1 R hR
 have h2:=c2 R hR
 simp [badR] at h1
 omega
theorem small_parts {g:Gr} (hs:smallF g 10 5=true):g.sorts.length <= 32 -> g.rules.length <= 600 -> ∀ r ∈ g.rules,longF r=false -> r.parts.length <= 12:=fun h1 h2 r hr hlong=>by
 unfold smallF at hs
 rw [if_neg (by omega),if_neg (by omega)] at hs
 simp only [Bool.and_eq_true,List.all_eq_true] at hs
 have:=hs.1.1 r hr
 simp [badR,longF] at this hlong
 omega
theorem asked_check {g:Gr} {s:ByteArray} {tx:List ByteArray} (h:askedF g s tx=0):checkF g=0 /\ tx.length <= 200:=by
 unfold askedF at h
 by_cases e:checkF g=0
 .refine ⟨e,?_⟩
  rw [if_neg (by simpa using e)] at h
  split at h
  .omega
  .split at h <;> omega
 .rw [if_pos e] at h; exact (e h).elim
theorem short_bd {g:Gr} {s:ByteArray} {tx:List ByteArray} {most:Int} (hs:smallF g 10 5=true) (h:askedF g s tx=0):BdG g tx:=by
 obtain ⟨h1,h2⟩:=asked_check h
 obtain ⟨c1,c2,c3⟩:=short_small hs h1
 exact ⟨by omega,fun R hR=>by have:=c3 R hR; omega,by omega⟩
end Go.Apx
end
