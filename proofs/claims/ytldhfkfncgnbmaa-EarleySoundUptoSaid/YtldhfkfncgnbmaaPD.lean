/- Walks: the number of a span. -/
import Derived.Test.YtldhfkfncgnbmaaPC
set_option linter.unusedVariables false
set_option linter.unusedSimpArgs false
set_option linter.unnecessarySimpa false
section
namespace Go.Apx
open Go.Proofs
set_option maxRecDepth 4000
theorem afind_zip:∀ (L:List Sp) (n:Nat) (x:Sp),afind (L.zipIdx n) x=(L.findIdx? (fun y=>decide (y=x))).map (·+n)
 | [],n,x=>rfl
 | a :: L,n,x=>by
  simp only [List.zipIdx_cons,afind,List.findIdx?_cons]
  by_cases e:x=a
  .subst e; simp
  .have e':¬ a=x:=fun h=>e h.symm
   rw [if_neg e,afind_zip L (n+1) x]
   cases hf:L.findIdx? (fun y=>decide (y=x)) with
   | none=>simp [e',hf]
   | some k=>simp [e',hf]; omega
theorem aset_none {α β:Type} [DecidableEq α] (l:List (α × β)) (a:α) (v:β) (h:afind l a=none):aset l a v=l++[(a,v)]:=by
 induction l with
 | nil=>rfl
 | cons p r ih =>
  obtain ⟨k,u⟩:=p
  simp only [afind] at h
  split at h
  .cases h
  .rename_i e; simp [aset,e,ih h]
theorem numM_app (L:List Sp) (x:Sp):numM (L++[x])=numM L++[(x,L.length)]:=by
 unfold numM
 rw [List.zipIdx_append]; simp
def MeetR (base:Nat) (g:Gr) (tx:List ByteArray) (tc:Cap) (k:KD) (L:List Sp) (T:Nat) (Mk:List (K4 × Bool)) (x:Sp) (H:AHeap) (r:AEnd) (H':AHeap):Prop :=
 ∃ T',r=.ret (i64 ((numSp L x).2:Int)) /\ PK base g tx tc k (numSp L x).1 T' Mk H' /\ Low base H H' /\ H.length <= H'.length /\ (T'=T \/ H.length <= T') /\
  (∀ (z:Nat) (w:AObj),H[z]?=some w -> z ≠ k.ok -> z ≠ k.onum -> (L ≠ [] -> z ≠ T) -> H'[z]?=some w)
set_option maxHeartbeats 4000000 in
theorem meet_c (base:Nat) (g:Gr) (tx:List ByteArray) (tc:Cap) (k:KD) (L:List Sp) (T:Nat) (Mk:List (K4 × Bool)) (x:Sp) {h:AHeap} (hk:PK base g tx tc k L T Mk h) (hl:L.length+1 <= 2 ^ 31) :
  ACalls PP Gl 65 [.ptr k.ok 0 0,encSp x] h (MeetR base g tx tc k L T Mk x h):=by
 have hpk:=hk.pk
 have hnm:=hk.nm
 have hfind:amapFind (.agg [.sc (.string x.s),i64 (x.i:Int),i64 (x.j:Int)]) (amapOf encSp natV (numM L))=some ((afind (numM L) x).map natV):=amapFind_of keySp natV (numM L) x
 have haf:afind (numM L) x=L.findIdx? (fun y=>decide (y=x)):=by
  unfold numM
  rw [afind_zip]; simp
 refine enter_earley_packer_meet (by simp) ?_
 cases hf:L.findIdx? (fun y=>decide (y=x)) with
 | some n =>
  rw [hf] at haf
  have hns:numSp L x=(L,n):=by simp [numSp,hf]
  simp -implicitDefEqProofs [code_earley_packer_meet,res_earley_packer_meet,ann_earley_packer_meet,encSp,hpk,hnm,hfind,haf,natV]
  exact ret1 (v:=i64 (n:Int)) (by simp [deferred,dslot]) (by simp [evalRes,evalRes1]) ⟨T,by rw [hns],by rw [hns]; exact hk,Low.refl _ _,Nat.le_refl _,.inl rfl,fun z w hz _ _ _=>hz⟩
 | none =>
  rw [hf] at haf
  have hns:numSp L x=(L++[x],L.length):=by simp [numSp,hf]
  have hset:amapSet (.agg [.sc (.string x.s),i64 (x.i:Int),i64 (x.j:Int)]) (.sc (.int .i64 L.length)) (amapOf encSp natV (numM L))=some (amapOf encSp natV (numM (L++[x]))):=by
   have:=amapSet_of keySp natV (numM L) x L.length
   rw [aset_none _ _ _ haf,<- numM_app] at this
   exact this
  have nko:k.ok ≠ k.onum:=fun e=>by rw [e,hnm] at hpk; cases hpk
  have k1:∀ y,(h.set k.onum y)[k.ok]?=h[k.ok]?:=fun y=>List.getElem?_set_ne (fun e=>nko e.symm)
  simp -implicitDefEqProofs [code_earley_packer_meet,res_earley_packer_meet,ann_earley_packer_meet,encSp,hpk,hnm,hfind,haf,natV,k1,spsV,apd,hset]
  obtain ⟨H1,hH1⟩:∃ H1,H1=h.set k.onum (.amap (amapOf encSp natV (numM (L++[x])))):=⟨_,rfl⟩
  rw [<- hH1]
  have ton:∀ (z n:Nat),h[z]?=some (.tok n) -> z ≠ k.onum:=fun z n hz e=>by rw [e,hnm] at hz; cases hz
  have keep1:∀ (z:Nat) (w:AObj),h[z]?=some w -> z ≠ k.onum -> H1[z]?=some w:=fun z w hz hzo=>by
   rw [hH1,List.getElem?_set_ne (fun e=>hzo e.symm)]; exact hz
  have eT:L ≠ [] -> H1[T]?=some (.tok L.length):=fun hne=>keep1 _ _ (hk.tk hne).1 (ton _ _ (hk.tk hne).1)
  have eT2:L.length ≠ 0 -> ∃ q,H1[T]?=some (.tok q):=fun hn=>⟨_,eT (by rintro rfl; exact hn rfl)⟩
  have eTb:L.length ≠ 0 -> base <= T:=fun hn=>(hk.tk (by rintro rfl; exact hn rfl)).2
  have hpk1:=keep1 _ _ hpk nko
  refine appG (L.map encSp) (encSp x) T (by simp [apd]) (by simp [encSp]) (by simpa using eT) (by simp; unfold maxLenA; omega) ?_
  simp -implicitDefEqProofs only [List.length_map]
  obtain ⟨H2,hH2⟩:∃ H2,H2=apG H1 L.length T:=⟨_,rfl⟩
  rw [<- hH2]
  have keep2:∀ (z:Nat) (w:AObj),h[z]?=some w -> z ≠ k.onum -> (L.length ≠ 0 -> z ≠ T) -> H2[z]?=some w:=fun z w hz hzo hzT=>by
   rw [hH2]; exact apG_keep' (keep1 z w hz hzo) hzT
  have nT:∀ (z:Nat) (w:AObj),h[z]?=some w -> (∀ q,w ≠ .tok q) -> L.length ≠ 0 -> z ≠ T:=fun z w hz hw hn e=>by
   have:=(hk.tk (by rintro rfl; exact hn rfl)).1
   rw [<- e,hz] at this; exact hw _ (Option.some.inj this)
  have hpk2:H2[k.ok]?=some (.cells 0 [.ptr k.oc 0 0,.mp k.onum,.sl (if L=[] then 0 else 3) (L.map encSp) (if L=[] then .nil else .tok T),.mp k.orest]):=by
   have:=keep2 _ _ hpk nko (nT _ _ hpk (by simp))
   simpa [spsV,apd] using this
  have hon:=(List.getElem?_eq_some_iff.1 hnm).1
  simp -implicitDefEqProofs [hpk2]
  have hcell:apd 3 (L.map encSp++[encSp x]) (apT H1 L.length T)=spsV (L++[x]) (apT H1 L.length T):=by simp [spsV]
  rw [hcell]
  have hH2l:H1.length <= H2.length:=by rw [hH2]; exact apG_len _ _ _
  have hH1l:H1.length=h.length:=by rw [hH1]; simp
  have keep3:∀ (y:AObj) (z:Nat) (w:AObj),h[z]?=some w -> z ≠ k.ok -> z ≠ k.onum -> (L.length ≠ 0 -> z ≠ T) -> (H2.set k.ok y)[z]?=some w:=fun y z w hz h1 h2 h3=>by
   rw [List.getElem?_set_ne (fun e=>h1 e.symm)]; exact keep2 z w hz h2 h3
  have keepc:∀ (y:AObj) (z:Nat) (w:AObj),h[z]?=some w -> (∀ q,w ≠ .tok q) -> z ≠ k.ok -> z ≠ k.onum -> (H2.set k.ok y)[z]?=some w:=fun y z w hz hw h1 h2=>keep3 y z w hz h1 h2 (nT z w hz hw)
  have tTok:apT H1 L.length T ≠ k.ok:=by
   unfold apT
   split
   .have:=(List.getElem?_eq_some_iff.1 hpk).1; omega
   .rename_i hn; exact fun e=>nT _ _ hpk (by simp) hn e.symm
  obtain ⟨a,b,hch⟩:=hk.ch
  have namap:∀ (z:Nat) es,h[z]?=some (.amap es) -> z ≠ k.ok:=fun z es hz e=>by rw [e,hpk] at hz; cases hz
  have ncell:∀ (z gg:Nat) (cs:List AV),h[z]?=some (.cells gg cs) -> z ≠ k.onum:=fun z gg cs hz e=>by rw [e,hnm] at hz; cases hz
  have hok2:=(List.getElem?_eq_some_iff.1 hpk2).1
  refine ret1 (v:=i64 (L.length:Int)) (by simp [deferred,dslot]) (by simp [evalRes,evalRes1]) ⟨apT H1 L.length T,by rw [hns],?_,?_,?_,?_,fun z w hz h1 h2 h3=>keep3 _ z w hz h1 h2 (fun hn=>h3 (by rintro rfl; exact hn rfl))⟩
  .rw [hns]
   refine ⟨?_,⟨a,b,keepc _ _ _ hch (by simp) hk.n6.symm (ncell _ _ _ hch)⟩,keepc _ _ _ hk.rl (by simp) (namap _ _ hk.rl) hk.n4.symm,keepc _ _ _ hk.dn (by simp) (namap _ _ hk.dn) hk.n5.symm,?_,keepc _ _ _ hk.rs (by simp) (namap _ _ hk.rs) hk.n3,fun _=>⟨?_,?_⟩,hk.memo,hk.n1,hk.n2,hk.n3,hk.n4,hk.n5,hk.n6,hk.b1,hk.b2,hk.b3⟩
   .rw [List.getElem?_set_self hok2]
   .rw [List.getElem?_set_ne nko,hH2]
    refine apG_keep eT2 ?_ (by simp)
    rw [hH1,List.getElem?_set_self hon]
   .rw [List.getElem?_set_ne (fun e=>tTok e.symm),hH2,apG_tok eT2]; simp
   .unfold apT
    split
    .have:=hk.b1; have:=(List.getElem?_eq_some_iff.1 hpk).1; omega
    .rename_i hn; exact eTb hn
  .refine (show Low base h H1 by rw [hH1]; exact Low.set hk.b2).trans ((show Low base H1 H2 by rw [hH2]; exact Low.apG eTb).trans (Low.set hk.b1))
  .rw [List.length_set]; omega
  .unfold apT
   split
   .exact .inr (by omega)
   .exact .inl rfl
end Go.Apx
end
section
namespace Go.Apx
open Go.Proofs
set_option maxRecDepth 4000
def lieD (tx:List ByteArray) (D:List Sp) (p:Pt) (i e:Nat):Bool :=
 if p.sort=emp then decide (e=i+1) && decide (tx[i]?=some p.sym) else decide ((⟨p.sort,i,e⟩:Sp) ∈ D)
def pathsF (lie:Pt -> Nat -> Nat -> Bool):List Pt -> Nat -> Nat -> List (List Nat)
 | [],i,j=>if i=j then [[]] else []
 | p :: ps,i,j=>(List.range' i (j+1 - i)).flatMap fun e=>if lie p i e=true then (pathsF lie ps e j).map (e :: ·) else []
theorem paths_px {tx:List ByteArray} {D:List Sp} (hD:∀ s i j,(⟨s,i,j⟩:Sp) ∈ D -> i <= j):∀ {ps:List Pt} {i j:Nat},pathsF (lieD tx D) ps i j=[] ↔ ¬ PX (fun s i j=>(⟨s,i,j⟩:Sp) ∈ D) tx ps i j
 | [],i,j=>by
  simp only [pathsF,PX]
  by_cases e:i=j <;> simp [e]
 | p :: ps,i,j=>by
  have ih:=fun e=>paths_px (tx:=tx) hD (ps:=ps) (i:=e) (j:=j)
  simp only [pathsF,List.flatMap_eq_nil_iff,PX]
  by_cases hp:p.sort=emp
  .simp only [hp,ne_eq,not_true_eq_false,false_and,or_false,true_and]
   constructor
   .rintro h ⟨h1,h2⟩
    have hle:=PX_le2 hD h2
    have:=h (i+1) (List.mem_range'.2 ⟨1,by omega,by omega⟩)
    rw [if_pos (by simp [lieD,hp,h1])] at this
    exact ((ih (i+1)).1 (by simpa using this)) h2
   .intro h e he
    split
    .rename_i hl
     simp [lieD,hp] at hl
     obtain ⟨rfl,h1⟩:=hl
     have:=(ih (i+1)).2 (fun h2=>h ⟨h1,h2⟩)
     rw [this]; rfl
    .rfl
  .simp only [hp,false_and,ne_eq,not_false_eq_true,true_and,false_or]
   constructor
   .rintro h ⟨k,h1,h2⟩
    have hle:=PX_le2 hD h2
    have hle1:=hD _ _ _ h1
    have:=h k (List.mem_range'.2 ⟨k - i,by omega,by omega⟩)
    rw [if_pos (by simp [lieD,hp,h1])] at this
    exact ((ih k).1 (by simpa using this)) h2
   .intro h e he
    split
    .rename_i hl
     simp [lieD,hp] at hl
     have:=(ih e).2 (fun h2=>h ⟨e,hl,h2⟩)
     rw [this]; rfl
    .rfl
theorem paths_sym {tx:List ByteArray} {D:List Sp} {p:Pt} {ps:List Pt} {i j:Nat} (hp:p.sort=emp) (ht:tx[i]?=some p.sym) (hij:i+1 <= j):pathsF (lieD tx D) (p :: ps) i j=(pathsF (lieD tx D) ps (i+1) j).map ((i+1) :: ·):=by
 have hl:∀ e,lieD tx D p i e=decide (e=i+1):=fun e=>by simp [lieD,hp,ht]
 simp only [pathsF,hl]
 rw [show j+1 - i=1+(1+(j - i - 1)) by omega,<- List.range'_append_1,<- List.range'_append_1]
 simp only [List.flatMap_append,List.range'_one]
 have h3:(List.range' (i+1+1) (j - i - 1)).flatMap (fun e=>if decide (e=i+1)=true then (pathsF (lieD tx D) ps e j).map (e :: ·) else [])=[]:=by
  rw [List.flatMap_eq_nil_iff]
  intro e he
  obtain ⟨m,_,rfl⟩:=List.mem_range'.1 he
  rw [if_neg (by simp; omega)]
 rw [h3]
 simp
def argPos (ps:List Pt) (a:Nat):Option Nat:=ps.findIdx? (fun p=>decide (p.sort ≠ emp) && decide (p.arg=(a:Int)))
def spansOf (ps:List Pt) (i0:Nat) (n:Nat) (sp:List Nat):List Sp:=(List.range n).map fun a=>match argPos ps a with
 | some q=>⟨((ps[q]?).map (·.sort)).getD emp,startP i0 sp q,sp.getD q 0⟩
 | none=>⟨emp,0,0⟩
structure ArgsOk (ps:List Pt) (n:Nat):Prop where
 rng:∀ (q:Nat) (p:Pt),ps[q]?=some p -> p.sort ≠ emp -> ∃ a:Nat,p.arg=a /\ a < n
 inj:∀ (q q':Nat) (p p':Pt),ps[q]?=some p -> ps[q']?=some p' -> p.sort ≠ emp -> p'.sort ≠ emp -> p.arg=p'.arg -> q=q'
 sur:∀ a,a < n -> ∃ (q:Nat) (p:Pt),ps[q]?=some p /\ p.sort ≠ emp /\ p.arg=(a:Int)
theorem ArgsOk.pos {ps:List Pt} {n:Nat} (h:ArgsOk ps n) {q a:Nat} {p:Pt} (hq:ps[q]?=some p) (hp:p.sort ≠ emp) (ha:p.arg=(a:Int)):argPos ps a=some q:=by
 unfold argPos
 have hlt:=(List.getElem?_eq_some_iff.1 hq).1
 rw [List.findIdx?_eq_some_iff_getElem]
 refine ⟨hlt,by rw [(List.getElem?_eq_some_iff.1 hq).2]; simp [hp,ha],fun j hj=>?_⟩
 simp only [Bool.and_eq_true,decide_eq_true_eq,not_and,ne_eq]
 intro h1 h2
 have:=h.inj j q _ p (List.getElem?_eq_getElem (by omega)) hq h1 hp (by rw [h2,ha])
 omega
def KidsOk (ps:List Pt) (i0:Nat) (pre:List Nat) (ks:List Sp):Prop:=∀ (q a:Nat) (p:Pt),q < pre.length -> ps[q]?=some p -> p.sort ≠ emp -> p.arg=(a:Int) -> ks[a]?=some ⟨p.sort,startP i0 pre q,pre.getD q 0⟩
theorem startP_app {i0 q:Nat} {pre suf:List Nat} (hq:q <= pre.length):startP i0 (pre++suf) q=startP i0 pre q:=by
 unfold startP
 split
 .rfl
 .rw [List.getD,List.getD,List.getElem?_append_left (by omega)]
theorem getD_app {q:Nat} {pre suf:List Nat} (hq:q < pre.length):(pre++suf).getD q 0=pre.getD q 0:=by
 rw [List.getD,List.getD,List.getElem?_append_left hq]
theorem KidsOk.full {ps:List Pt} {n i0:Nat} {pre:List Nat} {ks:List Sp} (h:KidsOk ps i0 pre ks) (ha:ArgsOk ps n) (hl:ks.length=n) (hp:pre.length=ps.length):ks=spansOf ps i0 n pre:=by
 refine List.ext_getElem? fun a=>?_
 by_cases han:a < n
 .obtain ⟨q,p,hq,hps,hpa⟩:=ha.sur a han
  rw [h q a p (by rw [hp]; exact (List.getElem?_eq_some_iff.1 hq).1) hq hps hpa]
  simp [spansOf,han,ha.pos hq hps hpa,hq]
 .rw [List.getElem?_eq_none (by omega),List.getElem?_eq_none (by simp [spansOf]; omega)]
theorem KidsOk.sym {ps:List Pt} {i0 e:Nat} {pre:List Nat} {ks:List Sp} {p:Pt} (h:KidsOk ps i0 pre ks) (hp:ps[pre.length]?=some p) (hs:p.sort=emp):KidsOk ps i0 (pre++[e]) ks:=by
 intro q a p' hq hp' hs' ha
 simp at hq
 by_cases hqp:q < pre.length
 .rw [startP_app (by omega),getD_app hqp]; exact h q a p' hqp hp' hs' ha
 .have:q=pre.length:=by omega
  subst this
  rw [hp] at hp'; cases hp'
  exact (hs' hs).elim
theorem KidsOk.arg {ps:List Pt} {n i0 e a:Nat} {pre:List Nat} {ks:List Sp} {p:Pt} (h:KidsOk ps i0 pre ks) (hA:ArgsOk ps n) (hl:ks.length=n) (hp:ps[pre.length]?=some p) (hs:p.sort ≠ emp) (ha:p.arg=(a:Int)) (han:a < n):KidsOk ps i0 (pre++[e]) (ks.set a ⟨p.sort,startP i0 pre pre.length,e⟩):=by
 intro q a' p' hq hp' hs' ha'
 simp at hq
 by_cases hqp:q < pre.length
 .rw [startP_app (by omega),getD_app hqp,List.getElem?_set_ne]
  .exact h q a' p' hqp hp' hs' ha'
  .rintro rfl
   have:=hA.inj q pre.length p' p hp' hp hs' hs (by rw [ha',ha])
   omega
 .have:q=pre.length:=by omega
  subst this
  rw [hp] at hp'; cases hp'
  have:a'=a:=by omega
  subst this
  rw [List.getElem?_set_self (by omega),startP_app (Nat.le_refl _)]
  simp
theorem KidsOk.back {ps:List Pt} {i0 e:Nat} {pre:List Nat} {ks:List Sp} (h:KidsOk ps i0 (pre++[e]) ks):KidsOk ps i0 pre ks:=by
 intro q a p hq hp hs ha
 have:=h q a p (by simp; omega) hp hs ha
 rw [startP_app (by omega),getD_app hq] at this
 exact this
def spC (x:Sp):List AV:=[.sc (.string x.s),i64 (x.i:Int),i64 (x.j:Int)]
theorem spC_flat (l:List Sp):(l.flatMap spC).length=l.length * 3:=by
 induction l with
 | nil=>rfl
 | cons x l ih=>rw [List.flatMap_cons,List.length_append,ih]; simp [spC]; omega
theorem rows_sp:∀ l:List Sp,rows 3 l.length (l.flatMap spC)=l.map encSp
 | []=>rfl
 | x :: l=>by
  have ih:=rows_sp l
  simp only [List.length_cons,List.flatMap_cons,rows]
  have h1:(spC x++l.flatMap spC).drop 3=l.flatMap spC:=by simp [spC]
  have h2:(spC x++l.flatMap spC).take 3=spC x:=by simp [spC]
  simp only [h1,h2,ih,List.map_cons]
  rfl
theorem spC_set (l:List Sp) (a:Nat) (x:Sp) (h:a < l.length):(l.flatMap spC).take (a * 3)++spC x++(l.flatMap spC).drop (a * 3+3)=(l.set a x).flatMap spC:=by
 induction l generalizing a with
 | nil=>simp at h
 | cons b l ih =>
  cases a with
  | zero=>simp [List.flatMap_cons,spC]
  | succ a =>
   have ih2:=ih a (by simpa using h)
   have e1:(a+1) * 3=(spC b).length+a * 3:=by simp [spC]; omega
   have e2:(a+1) * 3+3=(spC b).length+(a * 3+3):=by simp [spC]; omega
   rw [List.flatMap_cons,e1,List.take_length_add_append,show (spC b).length+a * 3+3=(spC b).length+(a * 3+3) by omega,List.drop_length_add_append,List.set_cons_succ,List.flatMap_cons,<- ih2]
   simp
def kidsV (w:List Sp):AV:=.sl 3 (w.map encSp) (if w=[] then .full else .any)
@[simp] theorem isPend_kidsV (w:List Sp):(kidsV w).isPend=false:=rfl
theorem strip_enc_sp (l:List Sp):stripL (l.map encSp)=l.map encSp:=by
 induction l with
 | nil=>rfl
 | cons x l ih=>simp [stripL,ih,encSp,AV.strip,stripL_eq]
theorem inb_enc_sp (n:Nat) (l:List Sp):inbL n (l.map encSp)=true:=by
 induction l with
 | nil=>rfl
 | cons x l ih=>simp [inbL,ih,encSp,AV.inb,inbL_eq]
theorem clone_sp_c (o:Nat) (w:List Sp) {h:AHeap} (ho:h[o]?=some (.cells 0 (w.flatMap spC))) (hl:w.length <= 2 ^ 31) :
  AEx PP Gl 94 [.rf o 0 0 w.length .full] h (.ret (kidsV w)) h:=by
 refine enter_slices_Clone_earley_span_earley_span (by simp) ?_
 simp -implicitDefEqProofs [code_slices_Clone_earley_span_earley_span,res_slices_Clone_earley_span_earley_span,ann_slices_Clone_earley_span_earley_span]
 have hel:elems h 3 (.rf o 0 0 w.length .full)=some (w.map encSp):=by
  have h1:=spC_flat w
  rw [List.length_flatMap] at h1
  simp [elems,ho,rows_sp,h1]
 have hs:(kidsV w).strip=kidsV w:=by
  unfold kidsV
  by_cases hw:w=[]
  .subst hw; rfl
  .rw [if_neg hw]; simp only [AV.strip,strip_enc_sp]; rfl
 by_cases hw:w=[]
 .subst hw
  refine appFull0 [] (by simp) (by simpa using hel) ?_
  simp -implicitDefEqProofs
  exact retE (v:=kidsV []) (by simp [deferred,dslot]) (by simp [evalRes,evalRes1,kidsV]) rfl rfl
 .refine appFull [] (w.map encSp) (by simp) (by simpa using hel) (by simpa using hw) (by simp; unfold maxLenA; omega) ?_
  simp -implicitDefEqProofs
  refine retD (v:=.sl 3 (w.map encSp) (.tok h.length)) (by simp [deferred,dslot]) (by simp [evalRes,evalRes1]) (by simp only [AV.strip,AV.inb,inb_enc_sp,strip_enc_sp]; rfl) ?_ rfl
  simp only [AV.strip,strip_enc_sp,kidsV,if_neg hw]; rfl
end Go.Apx
end
section
namespace Go.Apx
open Go.Proofs
set_option maxRecDepth 4000
structure WK (base:Nat) (g:Gr) (tx:List ByteArray) (tc:Cap) (k:KD) (r:Nat) (R:Rl) (i0 to n:Nat) (o okids ocell:Nat) (Inv:List (List Sp) -> AHeap -> Prop) (Bad:List (List Sp) -> AHeap -> Prop):Prop where
 hR:g.rules[r]?=some R
 hRl:R.parts.length <= 1000
 hn:tx.length <= 1000
 hto:to <= tx.length
 hD:∀ s i j,DD k s i j -> i <= j
 ha:ArgsOk R.parts n
 hn2:n <= 1000
 pk:∀ l H,Inv l H -> ∃ L T Mk,PK base g tx tc k L T Mk H
 memo:∀ l H H' L T Mk Mk',Inv l H -> PK base g tx tc k L T Mk H -> PK base g tx tc k L T Mk' H' -> But k.orest H H' -> H'.length=H.length -> Inv l H'
 set:∀ l H cs,Inv l H -> Inv l (H.set okids (.cells 0 cs))
 cell:∀ l H,Inv l H -> H[ocell]?=some (.cells 0 [.fn (.func 92) [] [.ip (.ptr k.ok 0 0),.ip (i64 (r:Int)),.ip (i64 (to:Int)),.ip (.sl 3 (R.parts.map encP) R.cap),.ip (.yld o),.ip (.rf okids 0 0 n .full),.ptr ocell 0 0]])
 yield:∀ l H w,Inv l H -> w.length=n -> H[okids]?=some (.cells 0 (w.flatMap spC)) -> AYields PP Gl o [kidsV w] H (fun r H'=>(r=.ret (bl true) /\ Inv (l++[w]) H' /\ H'[okids]?=H[okids]?) \/ (r=.ret (bl false) /\ Bad (l++[w]) H'))
 kne:okids ≠ k.orest
 loop:∀ l H,Inv l H -> isLoop H o=true
abbrev wargs (k:KD) (r to:Nat) (R:Rl) (o okids n ocell:Nat):List AV:=[.ip (.ptr k.ok 0 0),.ip (i64 (r:Int)),.ip (i64 (to:Int)),.ip (.sl 3 (R.parts.map encP) R.cap),.ip (.yld o),.ip (.rf okids 0 0 n .full),.ptr ocell 0 0]
def WalkR (R:Rl) (i0 n okids:Nat) (Inv:List (List Sp) -> AHeap -> Prop) (Bad:List (List Sp) -> AHeap -> Prop) (pre:List Nat) (l all:List (List Sp)) (r:AEnd) (H':AHeap):Prop :=
 (r=.ret (bl true) /\ Inv (l++all) H' /\ ∃ ks,H'[okids]?=some (.cells 0 (ks.flatMap spC)) /\ ks.length=n /\ KidsOk R.parts i0 pre ks) \/
 (r=.ret (bl false) /\ ∃ p,p <+: l++all /\ Bad p H')
def waysAt (tx:List ByteArray) (D:List Sp) (R:Rl) (i0 n to:Nat) (p:Pt) (ps:List Pt) (pre:List Nat) (a e:Nat):List (List Sp) :=
 if lieD tx D p a e=true then (pathsF (lieD tx D) ps e to).map (fun suf=>spansOf R.parts i0 n (pre++e :: suf)) else []
structure WS where
 e:Nat
 l:List (List Sp)
 ks:List Sp
 H:AHeap
structure WI (R:Rl) (i0 n okids:Nat) (Inv:List (List Sp) -> AHeap -> Prop) (pre:List Nat) (l:List (List Sp)) (f:Nat -> List (List Sp)) (a j:Nat) (st:WS):Prop where
 inv:Inv st.l st.H
 kd:st.H[okids]?=some (.cells 0 (st.ks.flatMap spC))
 kl:st.ks.length=n
 ok:KidsOk R.parts i0 pre st.ks
 ll:st.l=l++(List.range' a (st.e - a)).flatMap f
 ae:a <= st.e
 ej:st.e <= j+1 \/ st.e=a
set_option maxHeartbeats 4000000 in
theorem walk_c (base:Nat) (g:Gr) (tx:List ByteArray) (tc:Cap) (k:KD) (r:Nat) (R:Rl) (i0 to n:Nat) (o okids ocell:Nat) (Inv:List (List Sp) -> AHeap -> Prop) (Bad:List (List Sp) -> AHeap -> Prop)
  (hW:WK base g tx tc k r R i0 to n o okids ocell Inv Bad) :
  ∀ (ps:List Pt) (pre:List Nat) (a:Nat) (l:List (List Sp)) (ks:List Sp) {h:AHeap},R.parts.drop pre.length=ps -> pre.length <= R.parts.length -> startP i0 pre pre.length=a -> a <= tx.length -> Inv l h -> h[okids]?=some (.cells 0 (ks.flatMap spC)) -> ks.length=n -> KidsOk R.parts i0 pre ks ->
  ACalls PP Gl 92 (i64 (pre.length:Int) :: i64 (a:Int) :: wargs k r to R o okids n ocell) h (WalkR R i0 n okids Inv Bad pre l ((pathsF (lieD tx k.D) ps a to).map fun suf=>spansOf R.parts i0 n (pre++suf))):=by
 intro ps
 induction ps with
 | nil =>
  intro pre a l ks h hd hpl hst ha hI hk hkl hok
  obtain ⟨L,T,Mk,hpk⟩:=hW.pk l h hI
  have hdd:pre.length=R.parts.length:=by
   have:=List.drop_eq_nil_iff.1 hd; omega
  refine enter_earley_packer_ways_1_1 (by simp) ?_
  simp -implicitDefEqProofs [code_earley_packer_ways_1_1,res_earley_packer_ways_1_1,ann_earley_packer_ways_1_1]
  refine callr (leads_c base g tx tc k L T r R hW.hR hW.hRl hW.hn hW.hD [] pre.length a to Mk (h:=h) hd hpl ha hW.hto hpk) (by simp) rfl ?_
  rintro r1 H1 ⟨b,Mk',rfl,y1,y2,y3,y4⟩
  have hI1:=hW.memo l h H1 L T Mk Mk' hI hpk y2 y3 y4
  have hk1:H1[okids]?=some (.cells 0 (ks.flatMap spC)):=by rw [y3 _ hW.kne]; exact hk
  cases b with
  | false =>
   have hp:pathsF (lieD tx k.D) [] a to=[]:=(paths_px hW.hD).2 (fun h'=>by have:=y1.2 h'; cases this)
   simp -implicitDefEqProofs
   refine ret1 (v:=bl true) (by simp [deferred,dslot]) (by simp [evalRes,evalRes1]) (.inl ⟨rfl,by rw [hp]; simpa using hI1,ks,hk1,hkl,hok⟩)
  | true =>
   have hat:a=to:=by have:=y1.1 rfl; simpa [PX] using this
   have hp:pathsF (lieD tx k.D) [] a to=[[]]:=by simp [pathsF,hat]
   have hfull:=hok.full hW.ha hkl hdd
   have hde:(pre.length:Int)=R.parts.length:=by omega
   simp -implicitDefEqProofs [hde]
   refine callk (clone_sp_c okids ks hk1 (by have:=hW.hn2; omega)) (by rw [hkl]) rfl ?_
   simp -implicitDefEqProofs
   refine ⟨hW.loop l H1 hI1,?_⟩
   refine yieldk (hW.yield l H1 ks hI1 hkl hk1) ?_
   rintro r2 H2 (⟨rfl,z1,z2⟩ | ⟨rfl,z1⟩)
   .simp -implicitDefEqProofs
    refine ret1 (v:=bl true) (by simp [deferred,dslot]) (by simp [evalRes,evalRes1]) (.inl ⟨rfl,?_,ks,by rw [z2]; exact hk1,hkl,hok⟩)
    rw [hp]
    simp only [List.map_cons,List.map_nil,List.append_nil,<- hfull]
    exact z1
   .simp -implicitDefEqProofs
    refine ret1 (v:=bl false) (by simp [deferred,dslot]) (by simp [evalRes,evalRes1]) (.inr ⟨rfl,l++[ks],?_,z1⟩)
    rw [hp]
    simp only [List.map_cons,List.map_nil,List.append_nil,<- hfull]
    exact List.prefix_refl _
 | cons p ps ih =>
  intro pre a l ks h hd hpl hst ha hI hk hkl hok
  obtain ⟨L,T,Mk,hpk⟩:=hW.pk l h hI
  obtain ⟨hp,hd1⟩:=drop_get hd
  have hlt:=(List.getElem?_eq_some_iff.1 hp).1
  have hRl:=hW.hRl
  have hto:=hW.hto
  have hn:=hW.hn
  have hdno:¬ (pre.length:Int)=R.parts.length:=by omega
  have wd:IntKind.i64.wrap ((pre.length:Int)+1)=(pre.length:Int)+1:=IntWalk.i64_in _ (by omega)
  refine enter_earley_packer_ways_1_1 (by simp) ?_
  simp -implicitDefEqProofs [code_earley_packer_ways_1_1,res_earley_packer_ways_1_1,ann_earley_packer_ways_1_1]
  refine callr (leads_c base g tx tc k L T r R hW.hR hW.hRl hW.hn hW.hD (p :: ps) pre.length a to Mk (h:=h) hd hpl ha hW.hto hpk) (by simp) rfl ?_
  rintro r1 H1 ⟨b,Mk',rfl,y1,y2,y3,y4⟩
  have hI1:=hW.memo l h H1 L T Mk Mk' hI hpk y2 y3 y4
  have hk1:H1[okids]?=some (.cells 0 (ks.flatMap spC)):=by rw [y3 _ hW.kne]; exact hk
  cases b with
  | false =>
   have hp:pathsF (lieD tx k.D) (p :: ps) a to=[]:=(paths_px hW.hD).2 (fun h'=>by have:=y1.2 h'; cases this)
   simp -implicitDefEqProofs
   refine ret1 (v:=bl true) (by simp [deferred,dslot]) (by simp [evalRes,evalRes1]) (.inl ⟨rfl,by rw [hp]; simpa using hI1,ks,hk1,hkl,hok⟩)
  | true =>
   have hpx:=y1.1 rfl
   have hcell:=hW.cell l H1 hI1
   by_cases hs:p.sort=⟨#[]⟩
   .have hsym:tx[a]?=some p.sym /\ PX (DD k) tx ps (a+1) to:=by simpa [PX,hs,emp] using hpx
    have hle:=PX_le2 hW.hD hsym.2
    have wa:IntKind.i64.wrap ((a:Int)+1)=(a:Int)+1:=IntWalk.i64_in _ (by omega)
    have hih:=ih (pre++[a+1]) (a+1) l ks (h:=H1) (by simpa using hd1) (by simp; omega) (by simp [startP,List.getD]) (by omega) hI1 hk1 hkl (hok.sym hp hs)
    simp -implicitDefEqProofs [hdno,hp,encP,hs,hcell,wd,wa]
    refine callr hih (by simp) rfl ?_
    have hps:(pathsF (lieD tx k.D) (p :: ps) a to).map (fun suf=>spansOf R.parts i0 n (pre++suf))=(pathsF (lieD tx k.D) ps (a+1) to).map fun suf=>spansOf R.parts i0 n (pre++[a+1]++suf):=by
     rw [paths_sym hs hsym.1 hle,List.map_map]
     congr 1
     funext w; simp
    rintro r2 H2 (⟨rfl,z1,ks',z2,z3,z4⟩ | ⟨rfl,q,z1,z2⟩)
    .simp -implicitDefEqProofs
     refine ret1 (v:=bl true) (by simp [deferred,dslot]) (by simp [evalRes,evalRes1]) (.inl ⟨rfl,by rw [hps]; exact z1,ks',z2,z3,z4.back⟩)
    .simp -implicitDefEqProofs
     refine ret1 (v:=bl false) (by simp [deferred,dslot]) (by simp [evalRes,evalRes1]) (.inr ⟨rfl,q,by rw [hps]; exact z1,z2⟩)
   .obtain ⟨ar,har,harn⟩:=hW.ha.rng pre.length p hp hs
    have hn2:=hW.hn2
    simp -implicitDefEqProofs [hdno,hp,encP,hs]
    refine AWp.till (S:=WS) ⟨a,l,ks,H1⟩ (fun st=>to+1 - st.e) [0,1,2,4,7,8,12] (fun st=>[(13,i64 (st.e:Int))]) (fun st=>st.H)
     (WI R i0 n okids Inv pre l (waysAt tx k.D R i0 n to p ps pre a) a to) mixed
     ⟨hI1,hk1,hkl,hok,by simp,Nat.le_refl _,.inr rfl⟩ (le_of (by simp [dslot])) rfl ?_
    rintro ⟨e,l1,ks1,H2⟩ ⟨w1,w2,w3,w4,w5,w6,w7⟩
    simp only at w1 w2 w3 w4 w5 w6 w7
    have hfm:(pathsF (lieD tx k.D) (p :: ps) a to).map (fun suf=>spansOf R.parts i0 n (pre++suf))=(List.range' a (to+1 - a)).flatMap (waysAt tx k.D R i0 n to p ps pre a):=by
     simp only [pathsF,List.map_flatMap]
     congr 1
     funext e
     unfold waysAt
     split <;> simp
    by_cases he:e <= to
    case neg =>
     have hee:¬ (e:Int) <= to:=by omega
     simp -implicitDefEqProofs [lp0_earley_packer_ways_1_1,hee]
     refine ret1 (v:=bl true) (by simp [deferred,dslot]) (by simp [evalRes,evalRes1]) (.inl ⟨rfl,?_,ks1,w2,w3,w4⟩)
     rw [hfm]
     have:e - a=to+1 - a:=by omega
     rw [<- this,<- w5]; exact w1
    have hee:(e:Int) <= to:=by omega
    have we:IntKind.i64.wrap ((e:Int)+1)=(e:Int)+1:=IntWalk.i64_in _ (by omega)
    obtain ⟨L2,T2,Mk2,hpk2⟩:=hW.pk l1 H2 w1
    obtain ⟨ca,cb,hch⟩:=hpk2.ch
    have hpkk:=hpk2.pk
    have hdn:=hpk2.dn
    simp only [chCells] at hch
    have hcell2:=hW.cell l1 H2 w1
    have hfd:amapFind (.agg [.sc (.string p.sort),i64 (a:Int),i64 (e:Int)]) (amapOf encSp boolV (tkeys k.D))=some ((afind (tkeys k.D) ⟨p.sort,a,e⟩).map boolV):=amapFind_of keySp boolV (tkeys k.D) ⟨p.sort,a,e⟩
    have hr':List.range' a (e+1 - a)=List.range' a (e - a)++[e]:=by
     rw [show e+1 - a=(e - a)+1 by omega,List.range'_concat]; congr 2; omega
    by_cases hDe:(⟨p.sort,a,e⟩:Sp) ∈ k.D
    .have hlie:lieD tx k.D p a e=true:=by simp [lieD,hs,emp,hDe]
     have hi3:ar * 3+3 <= n * 3:=by omega
     have hfl:=spC_flat ks1
     rw [w3] at hfl
     have hput:List.take (ar * 3) (ks1.flatMap spC)++(AV.sc (.string p.sort) :: AV.sc (.int .i64 a) :: AV.sc (.int .i64 e) :: List.drop (ar * 3+3) (ks1.flatMap spC))=(ks1.set ar ⟨p.sort,a,e⟩).flatMap spC:=by
      rw [<- spC_set _ _ _ (by omega)]; simp [spC]
     simp -implicitDefEqProofs [lp0_earley_packer_ways_1_1,hee,hpkk,hch,hdn,hfd,tkeys_find,hDe,boolV,har,harn,w2,hfl,hi3,hput]
     have hI3:=hW.set l1 H2 ((ks1.set ar ⟨p.sort,a,e⟩).flatMap spC) w1
     have hcell3:=hW.cell l1 _ hI3
     have hk3:(H2.set okids (.cells 0 ((ks1.set ar ⟨p.sort,a,e⟩).flatMap spC)))[okids]?=some (.cells 0 ((ks1.set ar ⟨p.sort,a,e⟩).flatMap spC)):=by
      rw [List.getElem?_set_self (List.getElem?_eq_some_iff.1 w2).1]
     have hok3:KidsOk R.parts i0 (pre++[e]) (ks1.set ar ⟨p.sort,a,e⟩):=by
      have:=w4.arg (e:=e) hW.ha w3 hp hs har harn
      rw [hst] at this; exact this
     have hih:=ih (pre++[e]) e l1 (ks1.set ar ⟨p.sort,a,e⟩) (h:=H2.set okids (.cells 0 ((ks1.set ar ⟨p.sort,a,e⟩).flatMap spC))) (by simpa using hd1) (by simp; omega) (by simp [startP,List.getD]) (by omega) hI3 hk3 (by simpa using w3) hok3
     simp -implicitDefEqProofs [hcell3,wd]
     refine callr hih (by simp) rfl ?_
     have hwa:waysAt tx k.D R i0 n to p ps pre a e=(pathsF (lieD tx k.D) ps e to).map fun suf=>spansOf R.parts i0 n (pre++[e]++suf):=by
      unfold waysAt
      rw [if_pos hlie]
      congr 1
      funext suf; simp
     rw [<- hwa]
     rintro r2 H3 (⟨rfl,z1,ks',z2,z3,z4⟩ | ⟨rfl,q,z1,z2⟩)
     .simp -implicitDefEqProofs [we]
      exact ⟨⟨e+1,l1++waysAt tx k.D R i0 n to p ps pre a e,ks',H3⟩,by simp; omega,⟨z1,z2,z3,z4.back,by simp only; rw [hr',List.flatMap_append,<- List.append_assoc,<- w5]; simp,by simp only; omega,.inl (by simp only; omega)⟩,le_of (by simp [dslot]),rfl⟩
     .simp -implicitDefEqProofs
      refine ret1 (v:=bl false) (by simp [deferred,dslot]) (by simp [evalRes,evalRes1]) (.inr ⟨rfl,q,?_,z2⟩)
      refine z1.trans ?_
      rw [hfm,w5]
      have hspl:List.range' a (to+1 - a)=List.range' a (e - a)++[e]++List.range' (e+1) (to - e):=by
       rw [<- hr',show to+1 - a=(e+1 - a)+(to - e) by omega,<- List.range'_append_1]
       congr 2; omega
      rw [hspl,List.flatMap_append,List.flatMap_append,List.append_assoc]
      refine (List.prefix_append_right_inj l).2 ?_
      simp only [List.flatMap_cons,List.flatMap_nil,List.append_nil]
      exact List.prefix_append _ _
    .have hlie:lieD tx k.D p a e=false:=by simp [lieD,hs,emp,hDe]
     simp -implicitDefEqProofs [lp0_earley_packer_ways_1_1,hee,hpkk,hch,hdn,hfd,tkeys_find,hDe,boolV,we]
     exact ⟨⟨e+1,l1,ks1,H2⟩,by simp; omega,⟨w1,w2,w3,w4,by simp only; rw [hr',List.flatMap_append,<- List.append_assoc,<- w5]; simp [waysAt,hlie],by simp only; omega,.inl (by simp only; omega)⟩,le_of (by simp [dslot]),rfl⟩
end Go.Apx
end
section
namespace Go.Apx
open Go.Proofs
set_option maxRecDepth 4000
theorem AYields.mono {P:Program} {G:Globs} {o:Nat} {args:List AV} {h:AHeap} {R R':AEnd -> AHeap -> Prop} (hc:AYields P G o args h R) (hr:∀ r h',R r h' -> R' r h'):AYields P G o args h R' :=
 fun I m w vs l hi ha ho=>by
  obtain ⟨fn,tmps,assign,body,h1,h2⟩:=hc I m w vs l hi ha ho
  exact ⟨fn,tmps,assign,body,h1,RoundIn.mono h2 fun e w' ⟨r,h',I',m',h3,h4⟩=>⟨r,h',I',m',hr _ _ h3,h4⟩⟩
structure W1 (base:Nat) (g:Gr) (tx:List ByteArray) (tc:Cap) (k:KD) (r:Nat) (R:Rl) (to n:Nat) (o okids:Nat) (Inv:List (List Sp) -> AHeap -> Prop) (Bad:List (List Sp) -> AHeap -> Prop):Prop where
 hR:g.rules[r]?=some R
 hRl:R.parts.length <= 1000
 hn:tx.length <= 1000
 hto:to <= tx.length
 hD:∀ s i j,DD k s i j -> i <= j
 ha:ArgsOk R.parts n
 hn2:n <= 1000
 pk:∀ l H,Inv l H -> ∃ L T Mk,PK base g tx tc k L T Mk H
 memo:∀ l H H' L T Mk Mk',Inv l H -> PK base g tx tc k L T Mk H -> PK base g tx tc k L T Mk' H' -> But k.orest H H' -> H'.length=H.length -> Inv l H'
 set:∀ l H cs,Inv l H -> Inv l (H.set okids (.cells 0 cs))
 app:∀ l H x,Inv l H -> Inv l (H++[x])
 yield:∀ l H w,Inv l H -> w.length=n -> H[okids]?=some (.cells 0 (w.flatMap spC)) -> AYields PP Gl o [kidsV w] H (fun r H'=>(r=.ret (bl true) /\ Inv (l++[w]) H' /\ ∀ (z gg:Nat) (cs:List AV),okids <= z -> H[z]?=some (.cells gg cs) -> H'[z]?=some (.cells gg cs)) \/ (r=.ret (bl false) /\ Bad (l++[w]) H'))
 kne:okids ≠ k.orest
 loop:∀ l H,Inv l H -> isLoop H o=true
def ways1V (k:KD) (r i0 to:Nat) (R:Rl) (okids n:Nat):AV:=.fn (.func 91) [] [.ip (.ptr k.ok 0 0),.ip (i64 (r:Int)),.ip (i64 (to:Int)),.ip (.sl 3 (R.parts.map encP) R.cap),.ip (.rf okids 0 0 n .full),.ip (i64 (i0:Int))]
set_option maxHeartbeats 4000000 in
theorem ways1_c (base:Nat) (g:Gr) (tx:List ByteArray) (tc:Cap) (k:KD) (r:Nat) (R:Rl) (i0 to n:Nat) (o okids:Nat) (Inv:List (List Sp) -> AHeap -> Prop) (Bad:List (List Sp) -> AHeap -> Prop)
  (hW:W1 base g tx tc k r R to n o okids Inv Bad) (l:List (List Sp)) (ks:List Sp) {h:AHeap} (hI:Inv l h) (hk:h[okids]?=some (.cells 0 (ks.flatMap spC))) (hkl:ks.length=n) (hi0:i0 <= tx.length) :
  ACalls PP Gl 91 [.yld o,.ip (.ptr k.ok 0 0),.ip (i64 (r:Int)),.ip (i64 (to:Int)),.ip (.sl 3 (R.parts.map encP) R.cap),.ip (.rf okids 0 0 n .full),.ip (i64 (i0:Int))] h
   (fun r' H'=>r'=.ret (.tup []) /\ (Inv (l++(pathsF (lieD tx k.D) R.parts i0 to).map (spansOf R.parts i0 n)) H' \/ ∃ p,p <+: l++(pathsF (lieD tx k.D) R.parts i0 to).map (spansOf R.parts i0 n) /\ Bad p H')):=by
 have hok:=(List.getElem?_eq_some_iff.1 hk).1
 refine enter_earley_packer_ways_1 (by simp) ?_
 have hWK:WK base g tx tc k r R i0 to n o okids h.length (fun l H=>Inv l H /\ H[h.length]?=some (.cells 0 [.fn (.func 92) [] (wargs k r to R o okids n h.length)])) Bad:=by
  refine ⟨hW.hR,hW.hRl,hW.hn,hW.hto,hW.hD,hW.ha,hW.hn2,fun l H hi=>hW.pk l H hi.1,fun l H H' L T Mk Mk' hi h1 h2 h3 h4=>⟨hW.memo l H H' L T Mk Mk' hi.1 h1 h2 h3 h4,?_⟩,fun l H x hi=>⟨hW.set l H x hi.1,?_⟩,fun l H hi=>hi.2,fun l H w hi hw hk'=>?_,hW.kne,fun l H hi=>hW.loop l H hi.1⟩
  .rw [h3 h.length (fun e=>by have:=hi.2; rw [e,h1.rs] at this; cases this)]; exact hi.2
  .show (H.set okids _)[h.length]?=_
   rw [List.getElem?_set_ne (by omega)]; exact hi.2
  .refine AYields.mono (hW.yield l H w hi.1 hw hk') ?_
   rintro r' H' (⟨rfl,h1,h2⟩ | ⟨rfl,h1⟩)
   .exact .inl ⟨rfl,⟨h1,h2 _ _ _ (by omega) hi.2⟩,by rw [h2 _ _ _ (Nat.le_refl _) hk']; exact hk'.symm⟩
   .exact .inr ⟨rfl,h1⟩
 have hwalk:=walk_c base g tx tc k r R i0 to n o okids h.length _ Bad hWK R.parts [] i0 l ks (h:=h++[.cells 0 [.fn (.func 92) [] (wargs k r to R o okids n h.length)]]) rfl (by simp) (by simp [startP]) hi0 ⟨hW.app _ _ _ hI,by simp⟩ (by rw [List.getElem?_append_left hok]; exact hk) hkl (fun q a p hq=>by simp at hq)
 simp -implicitDefEqProofs [code_earley_packer_ways_1,res_earley_packer_ways_1,ann_earley_packer_ways_1]
 refine callr hwalk (by simp) rfl ?_
 rintro r1 H1 (⟨rfl,z1,ks',z2⟩ | ⟨rfl,q,z1,z2⟩)
 .simp -implicitDefEqProofs
  exact ret1 (v:=.tup []) (by simp [deferred,dslot]) (by simp [evalRes]) ⟨rfl,.inl (by simpa using z1.1)⟩
 .simp -implicitDefEqProofs
  exact ret1 (v:=.tup []) (by simp [deferred,dslot]) (by simp [evalRes]) ⟨rfl,.inr ⟨q,by simpa using z1,z2⟩⟩
def sp0:Sp:=⟨emp,0,0⟩
set_option maxHeartbeats 4000000 in
theorem ways_c (base:Nat) (g:Gr) (tx:List ByteArray) (tc:Cap) (k:KD) (L:List Sp) (T:Nat) (Mk:List (K4 × Bool)) (r:Nat) (R:Rl) (i0 to:Nat) {h:AHeap} (hk:PK base g tx tc k L T Mk h) (hR:g.rules[r]?=some R) (hRl:R.parts.length <= 1000) :
  AEx PP Gl 66 [.ptr k.ok 0 0,i64 (r:Int),i64 (i0:Int),i64 (to:Int)] h (.ret (ways1V k r i0 to R h.length (argsF R.parts))) (h++[.cells 0 ((List.replicate (argsF R.parts) sp0).flatMap spC)]):=by
 have hpk:=hk.pk
 obtain ⟨a,b,hch⟩:=hk.ch
 simp only [chCells] at hch
 have hal:=argsF_le R.parts
 refine enter_earley_packer_ways (by simp) ?_
 simp -implicitDefEqProofs [code_earley_packer_ways,res_earley_packer_ways,ann_earley_packer_ways,hpk,hch,hR,encR]
 refine AWp.cnt R.parts.length [4,5,6,7,9,26,27] (fun i=>[(10,i64 (argsF (R.parts.take i):Int)),(28,i64 (i:Int))]) (fun _=>h) (fun _=>True) mixed trivial (le_of (by simp [dslot,argsF])) rfl ?_ ?_
 .intro i hi _
  obtain ⟨p,hp⟩:∃ p,R.parts[i]?=some p:=⟨R.parts[i],by simp [hi]⟩
  have hlt:(i:Int) < R.parts.length:=by omega
  have wi:IntKind.i64.wrap ((i:Int)+1)=(i:Int)+1:=IntWalk.i64_in _ (by omega)
  have h2:=argsF_le (R.parts.take i)
  simp at h2
  have wa:IntKind.i64.wrap ((argsF (R.parts.take i):Int)+1)=(argsF (R.parts.take i):Int)+1:=IntWalk.i64_in _ (by omega)
  have hat:=argsF_take hp
  by_cases hs:p.sort=⟨#[]⟩
  .simp -implicitDefEqProofs [lp0_earley_packer_ways,hlt,hp,encP,hs,wi]
   exact le_of (by simp [dslot,hat,hs])
  .simp -implicitDefEqProofs [lp0_earley_packer_ways,hlt,hp,encP,hs,wi,wa]
   exact le_of (by simp [dslot,hat,hs])
 .intro _
  have hno:¬ (R.parts.length:Int) < R.parts.length:=by omega
  have hn10:(argsF R.parts:Int) <= 4294967296:=by omega
  have hnz:¬ (4294967296:Int) < argsF R.parts:=by omega
  have wn:IntKind.i64.wrap (argsF R.parts:Int)=argsF R.parts:=IntWalk.i64_in _ (by omega)
  simp -implicitDefEqProofs [lp0_earley_packer_ways,hn10,hnz,maxLenA,wn]
  have hfl:(List.replicate (argsF R.parts) [AV.sc (.string ⟨#[]⟩),AV.sc (.int .i64 0),AV.sc (.int .i64 0)]).flatten=(List.replicate (argsF R.parts) sp0).flatMap spC:=by
   rw [List.flatMap_def,List.map_replicate]; rfl
  rw [hfl]
  exact retE (v:=ways1V k r i0 to R h.length (argsF R.parts)) (by simp [deferred,dslot]) (by simp [evalRes,evalRes1,ways1V]) rfl rfl
end Go.Apx
end
section
namespace Go.Apx
open Go.Proofs
set_option maxRecDepth 4000
structure WP where
 r:Nat
 kids:List Nat
 T:Nat
def encWP (w:WP):AV:=.agg [i64 (w.r:Int),apd 1 (i64s w.kids) w.T]
def nodeC (sp:Sp) (ws:List WP) (T:Nat):List AV:=[.sc (.string sp.s),i64 (sp.i:Int),i64 (sp.j:Int),apd 2 (ws.map encWP) T]
structure PR (base:Nat) (g:Gr) (tx:List ByteArray) (tc:Cap) (k:KD) (h0:AHeap) (F:List (Nat × AObj)) (o7 o10:Nat) (sp:Sp) (L:List Sp) (T:Nat) (Mk:List (K4 × Bool)) (ws:List WP) (Tn tot:Nat) (H:AHeap):Prop where
 pk:PK base g tx tc k L T Mk H
 lne:L ≠ []
 f:∀ p ∈ F,H[p.1]?=some p.2 /\ p.1 ≠ k.ok /\ p.1 ≠ k.onum /\ p.1 ≠ k.orest /\ p.1 ≠ T /\ p.1 ≠ o7 /\ p.1 ≠ o10 /\ (ws ≠ [] -> p.1 ≠ Tn)
 nd:(F.map (·.1)).Nodup
 f7:H[o7]?=some (.cells 0 [i64 (tot:Int)])
 f10:H[o10]?=some (.cells 0 (nodeC sp ws Tn))
 tn:ws ≠ [] -> H[Tn]?=some (.tok ws.length) /\ Tn ≠ T /\ base <= Tn
 n7:o7 ≠ k.ok
 n10:o10 ≠ k.ok
 n71:o7 ≠ o10
 b7:base <= o7
 b10:base <= o10
 low:Low base h0 H
section
variable {base:Nat} {g:Gr} {tx:List ByteArray} {tc:Cap} {k:KD} {h0:AHeap} {F:List (Nat × AObj)} {o7 o10:Nat} {sp:Sp} {L:List Sp} {T:Nat} {Mk:List (K4 × Bool)} {ws:List WP} {Tn tot:Nat} {H:AHeap}
theorem lt_of {α:Type} {l:List α} {i:Nat} {x:α} (h:l[i]?=some x):i < l.length:=(List.getElem?_eq_some_iff.1 h).1
theorem PK.keep {H':AHeap} (h:PK base g tx tc k L T Mk H) (hL:L ≠ []) (hk:∀ (z:Nat) (w:AObj),H[z]?=some w -> z=k.ok \/ z=k.oc \/ z=k.orl \/ z=k.od \/ z=k.onum \/ z=k.orest \/ z=T -> H'[z]?=some w):PK base g tx tc k L T Mk H':=by
 obtain ⟨a,b,hch⟩:=h.ch
 exact ⟨hk _ _ h.pk (by simp),⟨a,b,hk _ _ hch (by simp)⟩,hk _ _ h.rl (by simp),hk _ _ h.dn (by simp),hk _ _ h.nm (by simp),hk _ _ h.rs (by simp),fun hl=>⟨hk _ _ (h.tk hl).1 (by simp),(h.tk hl).2⟩,h.memo,h.n1,h.n2,h.n3,h.n4,h.n5,h.n6,h.b1,h.b2,h.b3⟩
theorem PR.app (h:PR base g tx tc k h0 F o7 o10 sp L T Mk ws Tn tot H) (x:AObj):PR base g tx tc k h0 ((H.length,x) :: F) o7 o10 sp L T Mk ws Tn tot (H++[x]):=by
 have kp:∀ (z:Nat) (w:AObj),H[z]?=some w -> (H++[x])[z]?=some w:=fun z w hz=>by rw [List.getElem?_append_left (lt_of hz)]; exact hz
 have hT:=h.pk.tk h.lne
 refine ⟨h.pk.keep h.lne fun z w hz _=>kp z w hz,h.lne,fun p hp=>?_,?_,kp _ _ h.f7,kp _ _ h.f10,fun hw=>⟨kp _ _ (h.tn hw).1,(h.tn hw).2⟩,h.n7,h.n10,h.n71,h.b7,h.b10,h.low.trans (Low.app _ _ _)⟩
 .rcases List.mem_cons.1 hp with rfl | hp
  .refine ⟨by simp,?_,?_,?_,?_,?_,?_,fun hw=>?_⟩
   .have:=lt_of h.pk.pk; simp only; omega
   .have:=lt_of h.pk.nm; simp only; omega
   .have:=lt_of h.pk.rs; simp only; omega
   .have:=lt_of hT.1; simp only; omega
   .have:=lt_of h.f7; simp only; omega
   .have:=lt_of h.f10; simp only; omega
   .have:=lt_of (h.tn hw).1; simp only; omega
  .have:=h.f p hp
   exact ⟨kp _ _ this.1,this.2⟩
 .rw [List.map_cons,List.nodup_cons]
  refine ⟨fun hm=>?_,h.nd⟩
  obtain ⟨p,hp,he⟩:=List.mem_map.1 hm
  have:=lt_of (h.f p hp).1
  simp only at he; omega
theorem PR.setF {o:Nat} {x:AObj} (h:PR base g tx tc k h0 ((o,x) :: F) o7 o10 sp L T Mk ws Tn tot H) (y:AObj) (hb:base <= o) (hne:∀ z,z=k.oc \/ z=k.orl \/ z=k.od -> o ≠ z):PR base g tx tc k h0 ((o,y) :: F) o7 o10 sp L T Mk ws Tn tot (H.set o y):=by
 have ho:=h.f (o,x) (by simp)
 simp only at ho
 have kp:∀ (z:Nat) (w:AObj),H[z]?=some w -> z ≠ o -> (H.set o y)[z]?=some w:=fun z w hz hzo=>by rw [List.getElem?_set_ne (fun e=>hzo e.symm)]; exact hz
 refine ⟨h.pk.keep h.lne fun z w hz hz2=>kp z w hz ?_,h.lne,fun p hp=>?_,h.nd,kp _ _ h.f7 (fun e=>ho.2.2.2.2.2.1 e.symm),kp _ _ h.f10 (fun e=>ho.2.2.2.2.2.2.1 e.symm),fun hw=>⟨kp _ _ (h.tn hw).1 (fun e=>ho.2.2.2.2.2.2.2 hw e.symm),(h.tn hw).2⟩,h.n7,h.n10,h.n71,h.b7,h.b10,h.low.trans (Low.set hb)⟩
 .rintro rfl
  rcases hz2 with e | e | e | e | e | e | e
  .exact ho.2.1 e
  .exact hne _ (.inl rfl) e
  .exact hne _ (.inr (.inl rfl)) e
  .exact hne _ (.inr (.inr rfl)) e
  .exact ho.2.2.1 e
  .exact ho.2.2.2.1 e
  .exact ho.2.2.2.2.1 e
 .rcases List.mem_cons.1 hp with rfl | hp
  .exact ⟨by simp only; rw [List.getElem?_set_self (lt_of ho.1)],ho.2⟩
  .have:=h.f p (by simp [hp])
   refine ⟨kp _ _ this.1 ?_,this.2⟩
   rintro e
   have hnd:=h.nd
   rw [List.map_cons,List.nodup_cons] at hnd
   exact hnd.1 (List.mem_map.2 ⟨p,hp,e⟩)
theorem PR.meet {H':AHeap} {r:AEnd} {x:Sp} (h:PR base g tx tc k h0 F o7 o10 sp L T Mk ws Tn tot H) (hm:MeetR base g tx tc k L T Mk x H r H'):∃ T',r=.ret (i64 ((numSp L x).2:Int)) /\ PR base g tx tc k h0 F o7 o10 sp (numSp L x).1 T' Mk ws Tn tot H':=by
 obtain ⟨T',rfl,hpk,hlow,hlen,hT',hkeep⟩:=hm
 have new:∀ (z:Nat) (w:AObj),H[z]?=some w -> z ≠ T -> z ≠ T':=fun z w hz hzT=>by
  rcases hT' with rfl | h'
  .exact hzT
  .have:=lt_of hz; omega
 have nT:∀ (z gg:Nat) (cs:List AV),H[z]?=some (.cells gg cs) -> z ≠ T:=fun z gg cs hz e=>by
  have:=(h.pk.tk h.lne).1; rw [<- e,hz] at this; cases this
 have nN:∀ (z gg:Nat) (cs:List AV),H[z]?=some (.cells gg cs) -> z ≠ k.onum:=fun z gg cs hz e=>by
  have:=h.pk.nm; rw [<- e,hz] at this; cases this
 have tk:∀ (z n:Nat),H[z]?=some (.tok n) -> z ≠ k.ok /\ z ≠ k.onum:=fun z n hz=>⟨fun e=>(by have:=h.pk.pk; rw [<- e,hz] at this; cases this),fun e=>(by have:=h.pk.nm; rw [<- e,hz] at this; cases this)⟩
 have hne:(numSp L x).1 ≠ []:=by
  unfold numSp
  split
  .exact h.lne
  .simp
 refine ⟨T',rfl,hpk,hne,fun p hp=>?_,h.nd,hkeep _ _ h.f7 h.n7 (nN _ _ _ h.f7) (fun _=>nT _ _ _ h.f7),hkeep _ _ h.f10 h.n10 (nN _ _ _ h.f10) (fun _=>nT _ _ _ h.f10),fun hw=>?_,h.n7,h.n10,h.n71,h.b7,h.b10,h.low.trans hlow⟩
 .have:=h.f p hp
  exact ⟨hkeep _ _ this.1 this.2.1 this.2.2.1 (fun _=>this.2.2.2.2.1),this.2.1,this.2.2.1,this.2.2.2.1,new _ _ this.1 this.2.2.2.2.1,this.2.2.2.2.2⟩
 .have h1:=h.tn hw
  have h2:=tk _ _ h1.1
  exact ⟨hkeep _ _ h1.1 h2.1 h2.2 (fun _=>h1.2.1),new _ _ h1.1 h1.2.1,h1.2.2⟩
def tkF (n T:Nat):List (Nat × AObj):=if n=0 then [] else [(T,.tok n)]
theorem PR.tok {n Tw:Nat} (h:PR base g tx tc k h0 (tkF n Tw++F) o7 o10 sp L T Mk ws Tn tot H) (hb:n ≠ 0 -> base <= Tw) (hbl:base <= H.length) :
  PR base g tx tc k h0 (tkF (n+1) (apT H n Tw)++F) o7 o10 sp L T Mk ws Tn tot (apG H n Tw) /\ base <= apT H n Tw:=by
 by_cases hn:n=0
 .subst hn
  have:=PR.app (F:=F) (by simpa [tkF] using h) (.tok 1)
  exact ⟨by simpa [tkF,apT,apG] using this,by simpa [apT] using hbl⟩
 .have h1:PR base g tx tc k h0 ((Tw,.tok n) :: F) o7 o10 sp L T Mk ws Tn tot H:=by simpa [tkF,hn] using h
  have ho:=(h1.f (Tw,.tok n) (by simp)).1
  simp only at ho
  obtain ⟨ca,cb,hch⟩:=h1.pk.ch
  have:=h1.setF (.tok (n+1)) (hb hn) (fun z hz=>by
   rintro rfl
   rcases hz with rfl | rfl | rfl
   .rw [hch] at ho; cases ho
   .have:=h1.pk.rl; rw [ho] at this; cases this
   .have:=h1.pk.dn; rw [ho] at this; cases this)
  exact ⟨by simpa [tkF,apT,apG,hn] using this,by simpa [apT,hn] using hb hn⟩
theorem PR.way (h:PR base g tx tc k h0 F o7 o10 sp L T Mk ws Tn tot H) (w:WP) (hbl:base <= H.length) :
  PR base g tx tc k h0 F o7 o10 sp L T Mk (ws++[w]) (apT H ws.length Tn) tot ((apG H ws.length Tn).set o10 (.cells 0 (nodeC sp (ws++[w]) (apT H ws.length Tn)))):=by
 have hT2:ws.length ≠ 0 -> ∃ q,H[Tn]?=some (.tok q):=fun hn=>⟨_,(h.tn (by rintro rfl; exact hn rfl)).1⟩
 have hT:=h.pk.tk h.lne
 have nn:∀ (z:Nat) (x:AObj),H[z]?=some x -> (ws ≠ [] -> z ≠ Tn) -> z ≠ apT H ws.length Tn:=fun z x hz hzT=>by
  unfold apT
  split
  .have:=lt_of hz; omega
  .rename_i hn; exact hzT (by rintro rfl; exact hn rfl)
 have kp:∀ (y:AObj) (z:Nat) (x:AObj),H[z]?=some x -> (ws ≠ [] -> z ≠ Tn) -> z ≠ o10 -> ((apG H ws.length Tn).set o10 y)[z]?=some x:=fun y z x hz h1 h2=>by
  rw [List.getElem?_set_ne (fun e=>h2 e.symm)]
  exact apG_keep' hz (fun hn=>h1 (by rintro rfl; exact hn rfl))
 have nc:∀ (z:Nat) (x:AObj),H[z]?=some x -> (∀ q,x ≠ .tok q) -> ws ≠ [] -> z ≠ Tn:=fun z x hz hx hw e=>by
  have:=(h.tn hw).1; rw [<- e,hz] at this; exact hx _ (Option.some.inj this)
 obtain ⟨ca,cb,hch⟩:=h.pk.ch
 have no10:o10 < (apG H ws.length Tn).length:=Nat.lt_of_lt_of_le (lt_of h.f10) (apG_len _ _ _)
 have t10:apT H ws.length Tn ≠ o10:=fun e=>nn _ _ h.f10 (nc _ _ h.f10 (by simp)) e.symm
 refine ⟨h.pk.keep h.lne fun z x hz hz2=>?_,h.lne,fun p hp=>?_,h.nd,kp _ _ _ h.f7 (nc _ _ h.f7 (by simp)) h.n71,?_,fun _=>⟨?_,?_,?_⟩,h.n7,h.n10,h.n71,h.b7,h.b10,(h.low.trans (Low.apG fun hn=>(h.tn (by rintro rfl; exact hn rfl)).2.2)).trans (Low.set h.b10)⟩
 .rcases hz2 with rfl | rfl | rfl | rfl | rfl | rfl | rfl
  .rw [h.pk.pk] at hz; cases hz; exact kp _ _ _ h.pk.pk (nc _ _ h.pk.pk (by simp)) h.n10.symm
  .refine kp _ _ _ hz (nc _ _ hz (by rw [hch] at hz; cases hz; simp)) ?_
   rintro rfl
   have:=h.f10
   rw [hch] at this; simp [chCells,nodeC] at this
  .refine kp _ _ _ hz (nc _ _ hz (by rw [h.pk.rl] at hz; cases hz; simp)) ?_
   rintro rfl
   have:=h.f10
   rw [h.pk.rl] at this; cases this
  .refine kp _ _ _ hz (nc _ _ hz (by rw [h.pk.dn] at hz; cases hz; simp)) ?_
   rintro rfl
   have:=h.f10
   rw [h.pk.dn] at this; cases this
  .refine kp _ _ _ hz (nc _ _ hz (by rw [h.pk.nm] at hz; cases hz; simp)) ?_
   rintro rfl
   have:=h.f10
   rw [h.pk.nm] at this; cases this
  .refine kp _ _ _ hz (nc _ _ hz (by rw [h.pk.rs] at hz; cases hz; simp)) ?_
   rintro rfl
   have:=h.f10
   rw [h.pk.rs] at this; cases this
  .refine kp _ _ _ hz (fun hw e=>(h.tn hw).2.1 e.symm) ?_
   rintro rfl
   have:=h.f10
   rw [hT.1] at this; cases this
 .have:=h.f p hp
  exact ⟨kp _ _ _ this.1 this.2.2.2.2.2.2.2 this.2.2.2.2.2.2.1,this.2.1,this.2.2.1,this.2.2.2.1,this.2.2.2.2.1,this.2.2.2.2.2.1,this.2.2.2.2.2.2.1,fun _=>nn _ _ this.1 this.2.2.2.2.2.2.2⟩
 .rw [List.getElem?_set_self no10]
 .rw [List.getElem?_set_ne (fun e=>t10 e.symm),apG_tok hT2]; simp
 .exact fun e=>nn _ _ hT.1 (fun hw e=>(h.tn hw).2.1 e.symm) e.symm
 .unfold apT
  split
  .exact hbl
  .rename_i hn; exact (h.tn (by rintro rfl; exact hn rfl)).2.2
theorem PR.total (h:PR base g tx tc k h0 F o7 o10 sp L T Mk ws Tn tot H) (t:Nat):PR base g tx tc k h0 F o7 o10 sp L T Mk ws Tn t (H.set o7 (.cells 0 [i64 (t:Int)])):=by
 have kp:∀ (y:AObj) (z:Nat) (w:AObj),H[z]?=some w -> z ≠ o7 -> (H.set o7 y)[z]?=some w:=fun y z w hz hzo=>by rw [List.getElem?_set_ne (fun e=>hzo e.symm)]; exact hz
 obtain ⟨ca,cb,hch⟩:=h.pk.ch
 have h7:=h.f7
 refine ⟨h.pk.keep h.lne fun z x hz hz2=>kp _ _ _ hz ?_,h.lne,fun p hp=>⟨kp _ _ _ (h.f p hp).1 (h.f p hp).2.2.2.2.2.1,(h.f p hp).2⟩,h.nd,?_,kp _ _ _ h.f10 h.n71.symm,fun hw=>⟨kp _ _ _ (h.tn hw).1 ?_,(h.tn hw).2⟩,h.n7,h.n10,h.n71,h.b7,h.b10,h.low.trans (Low.set h.b7)⟩
 .rintro rfl
  rcases hz2 with e | e | e | e | e | e | e
  .exact h.n7 e
  .rw [e,hch] at h7; simp [chCells] at h7
  .rw [e,h.pk.rl] at h7; cases h7
  .rw [e,h.pk.dn] at h7; cases h7
  .rw [e,h.pk.nm] at h7; cases h7
  .rw [e,h.pk.rs] at h7; cases h7
  .rw [e,(h.pk.tk h.lne).1] at h7; cases h7
 .rw [List.getElem?_set_self (lt_of h7)]
 .rintro rfl
  rw [(h.tn hw).1] at h7; cases h7
theorem PR.memo {H':AHeap} {Mk':List (K4 × Bool)} (h:PR base g tx tc k h0 F o7 o10 sp L T Mk ws Tn tot H) (hp:PK base g tx tc k L T Mk' H') (hb:But k.orest H H'):PR base g tx tc k h0 F o7 o10 sp L T Mk' ws Tn tot H':=by
 have h7:=h.f7
 have h10:=h.f10
 have kp:∀ (z:Nat) (w:AObj),H[z]?=some w -> z ≠ k.orest -> H'[z]?=some w:=fun z w hz hzo=>by rw [hb z hzo]; exact hz
 refine ⟨hp,h.lne,fun p hp'=>⟨kp _ _ (h.f p hp').1 (h.f p hp').2.2.2.1,(h.f p hp').2⟩,h.nd,kp _ _ h7 ?_,kp _ _ h10 ?_,fun hw=>⟨kp _ _ (h.tn hw).1 ?_,(h.tn hw).2⟩,h.n7,h.n10,h.n71,h.b7,h.b10,fun z x hz hx=>?_⟩
 .rintro rfl; rw [h.pk.rs] at h7; cases h7
 .rintro rfl; rw [h.pk.rs] at h10; cases h10
 .rintro rfl; have:=(h.tn hw).1; rw [h.pk.rs] at this; cases this
 .rw [hb z (fun e=>by have:=h.pk.b3; omega)]; exact h.low z x hz hx
theorem PR.other {o:Nat} (h:PR base g tx tc k h0 F o7 o10 sp L T Mk ws Tn tot H) (ho:∃ cs,H[o]?=some (.cells 0 cs)) (y:AObj) (hF:o ∉ F.map (·.1)) (hb:base <= o) (h1:o ≠ k.ok) (h2:o ≠ k.oc) (h3:o ≠ o7) (h4:o ≠ o10):PR base g tx tc k h0 F o7 o10 sp L T Mk ws Tn tot (H.set o y):=by
 obtain ⟨cs,ho⟩:=ho
 have kp:∀ (z:Nat) (w:AObj),H[z]?=some w -> z ≠ o -> (H.set o y)[z]?=some w:=fun z w hz hzo=>by rw [List.getElem?_set_ne (fun e=>hzo e.symm)]; exact hz
 refine ⟨h.pk.keep h.lne fun z x hz hz2=>kp _ _ hz ?_,h.lne,fun p hp=>⟨kp _ _ (h.f p hp).1 (fun e=>hF (List.mem_map.2 ⟨p,hp,e⟩)),(h.f p hp).2⟩,h.nd,kp _ _ h.f7 h3.symm,kp _ _ h.f10 h4.symm,fun hw=>⟨kp _ _ (h.tn hw).1 ?_,(h.tn hw).2⟩,h.n7,h.n10,h.n71,h.b7,h.b10,h.low.trans (Low.set hb)⟩
 .rintro rfl
  rcases hz2 with e | e | e | e | e | e | e
  .exact h1 e
  .exact h2 e
  .rw [e,h.pk.rl] at ho; cases ho
  .rw [e,h.pk.dn] at ho; cases ho
  .rw [e,h.pk.nm] at ho; cases ho
  .rw [e,h.pk.rs] at ho; cases ho
  .rw [e,(h.pk.tk h.lne).1] at ho; cases ho
 .rintro rfl
  rw [(h.tn hw).1] at ho; cases ho
end
end Go.Apx
end
section
namespace Go.Apx
open Go.Proofs
set_option maxRecDepth 4000
def numAll (L:List Sp) (w:List Sp):List Sp × List Nat:=w.foldl (fun st x=>((numSp st.1 x).1,st.2++[(numSp st.1 x).2])) (L,[])
theorem numAll_take {L w:List Sp} {i:Nat} {x:Sp} (h:w[i]?=some x):numAll L (w.take (i+1))=((numSp (numAll L (w.take i)).1 x).1,(numAll L (w.take i)).2++[(numSp (numAll L (w.take i)).1 x).2]):=by
 rw [List.take_add_one,h]; simp [numAll,List.foldl_append]
theorem numAll_le:∀ (w:List Sp) (L:List Sp) (ns:List Nat),(w.foldl (fun st x=>((numSp st.1 x).1,st.2++[(numSp st.1 x).2])) (L,ns)).1.length <= L.length+w.length /\ L.length <= (w.foldl (fun st x=>((numSp st.1 x).1,st.2++[(numSp st.1 x).2])) (L,ns)).1.length /\ (w.foldl (fun st x=>((numSp st.1 x).1,st.2++[(numSp st.1 x).2])) (L,ns)).2.length=ns.length+w.length
 | [],L,ns=>by simp
 | x :: w,L,ns=>by
  have h1:=numAll_le w (numSp L x).1 (ns++[(numSp L x).2])
  have h2:=numSp_le L x
  have h3:L.length <= (numSp L x).1.length:=by unfold numSp; split <;> simp
  simp only [List.foldl_cons,List.length_cons] at h1 ⊢
  simp only [List.length_append,List.length_singleton] at h1
  omega
def pwl (ws:List WP):List (Nat × List Nat):=ws.map fun w=>(w.r,w.kids)
theorem PR.drop {base:Nat} {g:Gr} {tx:List ByteArray} {tc:Cap} {k:KD} {h0:AHeap} {F F':List (Nat × AObj)} {o7 o10:Nat} {sp:Sp} {L:List Sp} {T:Nat} {Mk:List (K4 × Bool)} {ws:List WP} {Tn tot:Nat} {H:AHeap}
  (h:PR base g tx tc k h0 (F'++F) o7 o10 sp L T Mk ws Tn tot H):PR base g tx tc k h0 F o7 o10 sp L T Mk ws Tn tot H :=
 ⟨h.pk,h.lne,fun p hp=>h.f p (by simp [hp]),by have:=h.nd; rw [List.map_append,List.nodup_append] at this; exact this.2.1,h.f7,h.f10,h.tn,h.n7,h.n10,h.n71,h.b7,h.b10,h.low⟩
theorem PR.perm {base:Nat} {g:Gr} {tx:List ByteArray} {tc:Cap} {k:KD} {h0:AHeap} {F F':List (Nat × AObj)} {o7 o10:Nat} {sp:Sp} {L:List Sp} {T:Nat} {Mk:List (K4 × Bool)} {ws:List WP} {Tn tot:Nat} {H:AHeap}
  (h:PR base g tx tc k h0 F o7 o10 sp L T Mk ws Tn tot H) (hp:F'.Perm F):PR base g tx tc k h0 F' o7 o10 sp L T Mk ws Tn tot H :=
 ⟨h.pk,h.lne,fun p hp'=>h.f p (hp.mem_iff.1 hp'),(hp.map _).nodup_iff.2 h.nd,h.f7,h.f10,h.tn,h.n7,h.n10,h.n71,h.b7,h.b10,h.low⟩
structure RS where
 i:Nat
 T:Nat
 Tw:Nat
 H:AHeap
def RoundR (base:Nat) (g:Gr) (tx:List ByteArray) (tc:Cap) (k:KD) (h0:AHeap) (F:List (Nat × AObj)) (o o7 o10 r okb:Nat) (E:Env) (X:LoopX) (sp:Sp) (L:List Sp) (Mk:List (K4 × Bool)) (ws:List WP) (tot:Nat) (w:List Sp) (H:AHeap) (r':AEnd) (H':AHeap):Prop :=
 ∃ T' ws' Tn',pwl ws'=pwl ws++[(r,(numAll L w).2)] /\ (∀ (z gg:Nat) (cs:List AV),okb <= z -> H[z]?=some (.cells gg cs) -> H'[z]?=some (.cells gg cs)) /\
  ((tot+1 <= 40000 /\ (numAll L w).1.length <= 4000 /\ r'=.ret (bl true) /\ PR base g tx tc k h0 ((o,.loop E X .ready none) :: F) o7 o10 sp (numAll L w).1 T' Mk ws' Tn' (tot+1) H') \/
   ((tot+1 > 40000 \/ (numAll L w).1.length > 4000) /\ r'=.ret (bl false) /\ PR base g tx tc k h0 ((o,.loop E X .done (some .ret)) :: F) o7 o10 sp (numAll L w).1 T' Mk ws' Tn' (tot+1) H'))
structure RI (base:Nat) (g:Gr) (tx:List ByteArray) (tc:Cap) (k:KD) (h0:AHeap) (F:List (Nat × AObj)) (o o7 o10 o14 r okb:Nat) (E:Env) (X:LoopX) (sp:Sp) (L:List Sp) (Mk:List (K4 × Bool)) (ws:List WP) (Tn tot:Nat) (w:List Sp) (H:AHeap) (st:RS):Prop where
 i:st.i <= w.length
 pr:PR base g tx tc k h0 (tkF (numAll L (w.take st.i)).2.length st.Tw++((o14,.cells 0 [i64 (r:Int),apd 1 (i64s (numAll L (w.take st.i)).2) st.Tw]) :: (o,.loop E X .busy none) :: F)) o7 o10 sp (numAll L (w.take st.i)).1 st.T Mk ws Tn tot st.H
 tb:(numAll L (w.take st.i)).2.length ≠ 0 -> base <= st.Tw
 kp:∀ (z gg:Nat) (cs:List AV),okb <= z -> H[z]?=some (.cells gg cs) -> st.H[z]?=some (.cells gg cs)
 ln:H.length <= st.H.length
set_option maxHeartbeats 4000000 in
theorem pack_round (base:Nat) (g:Gr) (tx:List ByteArray) (tc:Cap) (k:KD) (h0:AHeap) (F:List (Nat × AObj)) (o o4 o5 o7 o10 r okb:Nat) (E:Env) (X:LoopX) (sp:Sp) (L:List Sp) (T:Nat) (Mk:List (K4 × Bool)) (ws:List WP) (Tn tot:Nat) (w:List Sp) {H:AHeap}
  (hP:PR base g tx tc k h0 ((o,.loop E X .ready none) :: F) o7 o10 sp L T Mk ws Tn tot H)
  (h4:(o4,AObj.cells 0 [.sl 0 [] .nil]) ∈ F) (h5:(o5,AObj.cells 0 [bl false]) ∈ F) (hbo:base <= o)
  (hw:w.length <= 1000) (hL:L.length <= 4000) (hws:ws.length <= 1000000) (htot:tot <= 40000)
  (k1:k.ok < okb) (k2:o7 < okb) (k3:o10 < okb) (k4:okb <= H.length)
  (hX:XOk ⟨PP,Gl,110,ann_earley_packer_pack,0,none⟩ [65] ra0_earley_packer_pack rb0_earley_packer_pack X)
  (e2:E.get 2=some (.ip (.ptr k.ok 0 0))) (e4:E.get 4=some (.ptr o4 0 0)) (e5:E.get 5=some (.ptr o5 0 0)) (e7:E.get 7=some (.ptr o7 0 0)) (e10:E.get 10=some (.ptr o10 0 0)) (e12:E.get 12=some (.ip (i64 (r:Int)))) (ed:E.get dslot=none) :
  AYields PP Gl o [kidsV w] H (RoundR base g tx tc k h0 F o o7 o10 r okb E X sp L Mk ws tot w H):=by
 have ho:=(hP.f (o,.loop E X .ready none) (by simp)).1
 simp only at ho
 have hol:=lt_of ho
 refine ayields_of_code (C:=⟨PP,Gl,110,ann_earley_packer_pack,H.length,some o⟩) (env:=E) (X:=X) (st:=.ready) (pd:=none) (ps:=[65]) ho hX rfl ed rfl rfl (codeWp_sound mixed ?_)
 simp -implicitDefEqProofs [ra0_earley_packer_pack,beginP,ho]
 refine codeWp_sound mixed ?_
 obtain ⟨ca,cb,hch⟩:=hP.pk.ch
 have hPB:=hP.setF (.loop E X .busy none) hbo (fun z hz=>by
  rintro rfl
  rcases hz with rfl | rfl | rfl
  .rw [hch] at ho; cases ho
  .have:=hP.pk.rl; rw [ho] at this; cases this
  .have:=hP.pk.dn; rw [ho] at this; cases this)
 obtain ⟨HB,hHB⟩:∃ HB,HB=H.set o (.loop E X .busy none):=⟨_,rfl⟩
 have hBl:HB.length=H.length:=by rw [hHB]; simp
 rw [<- hHB] at hPB ⊢
 have hPB2:=hPB.app (.cells 0 [i64 (r:Int),.sl 0 [] .nil])
 have hkpB:∀ (z gg:Nat) (cs:List AV),H[z]?=some (.cells gg cs) -> HB[z]?=some (.cells gg cs):=fun z gg cs hz=>by
  rw [hHB,List.getElem?_set_ne]
  .exact hz
  .rintro rfl; rw [ho] at hz; cases hz
 have hbH:base <= H.length:=by have:=hP.pk.b1; have:=lt_of hP.pk.pk; omega
 simp -implicitDefEqProofs [rb0_earley_packer_pack,e2,e4,e5,e7,e10,e12,kidsV]
 refine AWp.till (S:=RS) ⟨0,T,0,HB++[.cells 0 [i64 (r:Int),.sl 0 [] .nil]]⟩ (fun st=>w.length - st.i) [2,4,5,7,10,14,68,69] (fun st=>[(70,i64 (st.i:Int))]) (fun st=>st.H)
  (RI base g tx tc k h0 F o o7 o10 HB.length r okb E X sp L Mk ws Tn tot w H) mixed ?_ (le_of (by simp [dslot,e2,e4,e5,e7,e10]; exact ed.symm)) rfl ?_
 .refine ⟨by simp,?_,fun hn=>by simp [numAll] at hn,fun z gg cs hz hz2=>?_,by simp; omega⟩
  .simpa [numAll,tkF,i64s] using hPB2
  .simp only; rw [List.getElem?_append_left (lt_of (hkpB z gg cs hz2))]; exact hkpB z gg cs hz2
 rintro ⟨i,T1,Tw,H1⟩ ⟨z1,z2,z3,z4,z5⟩
 simp only at z1 z2 z3 z4 z5
 have h14:=(z2.f (HB.length,.cells 0 [i64 (r:Int),apd 1 (i64s (numAll L (w.take i)).2) Tw]) (by simp)).1
 simp only at h14
 have hnl:=numAll_le (w.take i) L []
 have hnl1:(numAll L (w.take i)).1.length <= L.length+i:=by have:=hnl.1; simp at this; unfold numAll; omega
 have hnl2:(numAll L (w.take i)).2.length <= i:=by have:=hnl.2.2; simp at this; unfold numAll; omega
 have wi:IntKind.i64.wrap ((i:Int)+1)=(i:Int)+1:=IntWalk.i64_in _ (by omega)
 by_cases hi:i < w.length
 .obtain ⟨x,hx⟩:∃ x,w[i]?=some x:=⟨w[i],by simp [hi]⟩
  have hlt:(i:Int) < w.length:=by omega
  have hne:w ≠ []:=by rintro rfl; simp at hi
  have hmeet:=meet_c base g tx tc k (numAll L (w.take i)).1 T1 Mk x (h:=H1) z2.pk (by omega)
  simp -implicitDefEqProofs [lp0_earley_packer_pack,hlt,hx,e2,e4,e5,e7,e10,encSp,h14,hne]
  refine callr hmeet (by simp [encSp]) rfl ?_
  intro r1 H2 hm
  obtain ⟨T2,rfl,hP2⟩:=z2.meet hm
  obtain ⟨_,_,_,_,hlen2,_,hkeep2⟩:=hm
  obtain ⟨ns,hns⟩:∃ ns,ns=(numAll L (w.take i)).2:=⟨_,rfl⟩
  obtain ⟨no,hno⟩:∃ no,no=(numSp (numAll L (w.take i)).1 x).2:=⟨_,rfl⟩
  have hnt:=numAll_take (L:=L) hx
  rw [<- hns,<- hno] at hnt
  rw [<- hns] at hP2 z3 h14 hnl2 z2
  rw [<- hno,<- hns]
  have h14b:=(hP2.f (HB.length,.cells 0 [i64 (r:Int),apd 1 (i64s ns) Tw]) (by simp)).1
  simp only at h14b
  have htk:ns ≠ [] -> H2[Tw]?=some (.tok ns.length):=fun hne=>by
   have hn0:ns.length ≠ 0:=fun e=>hne (List.eq_nil_of_length_eq_zero e)
   exact (hP2.f (Tw,.tok ns.length) (by simp [tkF,hn0])).1
  have htk2:ns.length ≠ 0 -> ∃ q,H2[Tw]?=some (.tok q):=fun hn0=>⟨_,htk (by rintro rfl; exact hn0 rfl)⟩
  have hb2:base <= H2.length:=by omega
  have hP3:=hP2.tok z3 hb2
  simp -implicitDefEqProofs [h14b]
  refine appG (i64s ns) (i64 (no:Int)) Tw (by simp) (by simp) (fun hne=>by simpa [i64s] using htk (by simpa [i64s] using hne)) (by simp [i64s]; unfold maxLenA; omega) ?_
  have hil:(i64s ns).length=ns.length:=by simp [i64s]
  rw [hil]
  obtain ⟨H3,hH3⟩:∃ H3,H3=apG H2 ns.length Tw:=⟨_,rfl⟩
  obtain ⟨Tw3,hTw3⟩:∃ Tw3,Tw3=apT H2 ns.length Tw:=⟨_,rfl⟩
  rw [<- hH3,<- hTw3] at hP3 ⊢
  have h14c:=(hP3.1.f (HB.length,.cells 0 [i64 (r:Int),apd 1 (i64s ns) Tw]) (by simp)).1
  simp only at h14c
  have hcs:i64s ns++[i64 (no:Int)]=i64s (ns++[no]):=by simp [i64s]
  simp -implicitDefEqProofs [h14c,hcs,wi]
  have hP4:=((hP3.1.perm List.perm_middle.symm).setF (.cells 0 [i64 (r:Int),apd 1 (i64s (ns++[no])) Tw3]) (by omega) (fun z hz=>by
   obtain ⟨cc,cd,hch3⟩:=hP3.1.pk.ch
   rintro rfl
   rcases hz with e | e | e
   .rw [e,hch3] at h14c; simp [chCells] at h14c
   .have:=hP3.1.pk.rl; rw [<- e,h14c] at this; cases this
   .have:=hP3.1.pk.dn; rw [<- e,h14c] at this; cases this)).perm List.perm_middle
  refine ⟨⟨i+1,T2,Tw3,H3.set HB.length (.cells 0 [i64 (r:Int),apd 1 (i64s (ns++[no])) Tw3])⟩,by simp; omega,⟨hi,?_,fun _=>hP3.2,fun z gg cs hz hz2=>?_,?_⟩,le_of (by simp [dslot]),rfl⟩
  .simp only
   rw [hnt]
   simpa using hP4
  .simp only
   have hz1:=z4 z gg cs hz hz2
   rw [List.getElem?_set_ne (by have:=lt_of hz2; omega),hH3]
   refine apG_keep htk2 (hkeep2 z _ hz1 (by omega) ?_ ?_) (by simp)
   .rintro rfl; rw [z2.pk.nm] at hz1; cases hz1
   .intro hne; rintro rfl; rw [(z2.pk.tk hne).1] at hz1; cases hz1
  .have:=apG_len H2 ns.length Tw
   simp only [List.length_set]; rw [hH3]; omega
 .have hno:¬ (i:Int) < w.length:=by omega
  have hii:i=w.length:=by omega
  subst hii
  rw [List.take_length] at z2 z3 h14 hnl1 hnl2
  obtain ⟨ns,hns⟩:∃ ns,ns=(numAll L w).2:=⟨_,rfl⟩
  obtain ⟨L1,hL1⟩:∃ L1,L1=(numAll L w).1:=⟨_,rfl⟩
  rw [<- hns,<- hL1] at z2
  rw [<- hns] at h14 z3 hnl2
  rw [<- hL1] at hnl1
  have h10:=z2.f10
  simp only [nodeC] at h10
  have htn:=z2.tn
  have hb1:base <= H1.length:=by omega
  have hP2:=z2.way ⟨r,ns,Tw⟩ hb1
  have hT2:ws.length ≠ 0 -> ∃ q,H1[Tn]?=some (.tok q):=fun hn=>⟨_,(htn (by rintro rfl; exact hn rfl)).1⟩
  simp -implicitDefEqProofs [lp0_earley_packer_pack,e2,e4,e5,e7,e10,h14,h10]
  refine appG (ws.map encWP) (encWP ⟨r,ns,Tw⟩) Tn (by simp) (by simp [encWP]) (fun hne=>by simpa using (htn (by simpa using hne)).1) (by simp; unfold maxLenA; omega) ?_
  simp -implicitDefEqProofs only [List.length_map]
  obtain ⟨H2,hH2⟩:∃ H2,H2=apG H1 ws.length Tn:=⟨_,rfl⟩
  obtain ⟨Tn2,hTn2⟩:∃ Tn2,Tn2=apT H1 ws.length Tn:=⟨_,rfl⟩
  rw [<- hH2,<- hTn2] at hP2 ⊢
  have h10b:H2[o10]?=some (.cells 0 [.sc (.string sp.s),i64 (sp.i:Int),i64 (sp.j:Int),apd 2 (ws.map encWP) Tn]):=by rw [hH2]; exact apG_keep hT2 h10 (by simp)
  have hcs:ws.map encWP++[encWP ⟨r,ns,Tw⟩]=(ws++[(⟨r,ns,Tw⟩:WP)]).map encWP:=by simp
  simp -implicitDefEqProofs [h10b]
  obtain ⟨H3,hH3⟩:∃ H3,H3=H2.set o10 (.cells 0 (nodeC sp (ws++[⟨r,ns,Tw⟩]) Tn2)):=⟨_,rfl⟩
  have hH3':H2.set o10 (.cells 0 [.sc (.string sp.s),i64 (sp.i:Int),i64 (sp.j:Int),apd 2 (ws.map encWP++[encWP ⟨r,ns,Tw⟩]) Tn2])=H3:=by rw [hH3,hcs]; rfl
  rw [hH3']
  rw [<- hH3] at hP2
  have h7:=hP2.f7
  have wt:IntKind.i64.wrap ((tot:Int)+1)=(tot:Int)+1:=IntWalk.i64_in _ (by omega)
  have hP3:=hP2.total (tot+1)
  have h7b:=hP3.f7
  have hpk3:=hP3.pk.pk
  have hcast:(((tot+1:Nat)):Int)=(tot:Int)+1:=by simp
  obtain ⟨H4,hH4⟩:∃ H4,H4=H3.set o7 (.cells 0 [i64 ((tot+1:Nat):Int)]):=⟨_,rfl⟩
  rw [<- hH4] at hP3 h7b hpk3
  have hP4:PR base g tx tc k h0 ((o,.loop E X .busy none) :: F) o7 o10 sp L1 T1 Mk (ws++[⟨r,ns,Tw⟩]) Tn2 (tot+1) H4 :=
   PR.drop (F':=tkF ns.length Tw++[(HB.length,.cells 0 [i64 (r:Int),apd 1 (i64s ns) Tw])]) (by simpa using hP3)
  have ho4:=(hP4.f (o,.loop E X .busy none) (by simp)).1
  have h44:=(hP4.f (o4,.cells 0 [.sl 0 [] .nil]) (by simp [h4])).1
  have h45:=(hP4.f (o5,.cells 0 [bl false]) (by simp [h5])).1
  simp only at ho4 h44 h45
  have hset4:H4.set o4 (.cells 0 [.sl 0 [] .nil])=H4:=set_self' h44
  have hset5:H4.set o5 (.cells 0 [bl false])=H4:=set_self' h45
  have hoc:∀ z,z=k.oc \/ z=k.orl \/ z=k.od -> o ≠ z:=fun z hz=>by
   obtain ⟨cc,cd,hch4⟩:=hP4.pk.ch
   rintro rfl
   rcases hz with e | e | e
   .rw [e,hch4] at ho4; cases ho4
   .have:=hP4.pk.rl; rw [<- e,ho4] at this; cases this
   .have:=hP4.pk.dn; rw [<- e,ho4] at this; cases this
  have hkp:∀ (y:AObj) (z gg:Nat) (cs:List AV),okb <= z -> H[z]?=some (.cells gg cs) -> (H4.set o y)[z]?=some (.cells gg cs):=fun y z gg cs hz hz2=>by
   have hz1:=z4 z gg cs hz hz2
   have hzo:z ≠ o:=by rintro rfl; rw [ho] at hz2; cases hz2
   rw [List.getElem?_set_ne (fun e=>hzo e.symm),hH4,List.getElem?_set_ne (by omega),hH3,List.getElem?_set_ne (by omega),hH2]
   exact apG_keep hT2 hz1 (by simp)
  have hpw:pwl (ws++[⟨r,ns,Tw⟩])=pwl ws++[(r,(numAll L w).2)]:=by simp [pwl,hns]
  have fin:∀ y,PR base g tx tc k h0 ((o,y) :: F) o7 o10 sp (numAll L w).1 T1 Mk (ws++[⟨r,ns,Tw⟩]) Tn2 (tot+1) (H4.set o y):=fun y=>by rw [<- hL1]; exact hP4.setF y hbo hoc
  simp only [spsV,apd] at hpk3
  by_cases hb1:tot+1 > 40000
  .have hb1':(40000:Int) < (tot:Int)+1:=by omega
   simp -implicitDefEqProofs [h7,wt]
   rw [<- hcast,<- hH4]
   simp -implicitDefEqProofs [h7b,hb1',h44,hset4,h45,hset5]
   simp -implicitDefEqProofs [roundP,ho4]
   exact ⟨T1,_,Tn2,hpw,hkp _,.inr ⟨.inl hb1,rfl,fin _⟩⟩
  have hb1':¬ (40000:Int) < (tot:Int)+1:=by omega
  by_cases hb2:L1.length > 4000
  .have hb2':(4000:Int) < L1.length:=by omega
   simp -implicitDefEqProofs [h7,wt]
   rw [<- hcast,<- hH4]
   simp -implicitDefEqProofs [h7b,hb1',hpk3,hb2',h44,hset4,h45,hset5]
   simp -implicitDefEqProofs [roundP,ho4]
   exact ⟨T1,_,Tn2,hpw,hkp _,.inr ⟨.inr (by rw [<- hL1]; exact hb2),rfl,fin _⟩⟩
  have hb2':¬ (4000:Int) < L1.length:=by omega
  simp -implicitDefEqProofs [h7,wt]
  rw [<- hcast,<- hH4]
  simp -implicitDefEqProofs [h7b,hb1',hpk3,hb2']
  simp -implicitDefEqProofs [roundP,ho4]
  exact ⟨T1,_,Tn2,hpw,hkp _,.inl ⟨by omega,by rw [<- hL1]; omega,rfl,fin _⟩⟩
end Go.Apx
end
section
namespace Go.Apx
open Go.Proofs
set_option maxRecDepth 4000
structure PB (base:Nat) (g:Gr) (tx:List ByteArray) (tc:Cap) (k:KD) (h0:AHeap) (F:List (Nat × AObj)) (L:List Sp) (T:Nat) (Mk:List (K4 × Bool)) (H:AHeap):Prop where
 pk:PK base g tx tc k L T Mk H
 lne:L ≠ []
 f:∀ p ∈ F,H[p.1]?=some p.2 /\ p.1 ≠ k.ok /\ p.1 ≠ k.onum /\ p.1 ≠ k.orest /\ p.1 ≠ T
 nd:(F.map (·.1)).Nodup
 low:Low base h0 H
section
variable {base:Nat} {g:Gr} {tx:List ByteArray} {tc:Cap} {k:KD} {h0:AHeap} {F F':List (Nat × AObj)} {o7 o10:Nat} {sp:Sp} {L:List Sp} {T:Nat} {Mk:List (K4 × Bool)} {ws:List WP} {Tn tot:Nat} {H:AHeap}
theorem PB.app (h:PB base g tx tc k h0 F L T Mk H) (x:AObj):PB base g tx tc k h0 ((H.length,x) :: F) L T Mk (H++[x]):=by
 have kp:∀ (z:Nat) (w:AObj),H[z]?=some w -> (H++[x])[z]?=some w:=fun z w hz=>by rw [List.getElem?_append_left (lt_of hz)]; exact hz
 have hT:=h.pk.tk h.lne
 refine ⟨h.pk.keep h.lne fun z w hz _=>kp z w hz,h.lne,fun p hp=>?_,?_,h.low.trans (Low.app _ _ _)⟩
 .rcases List.mem_cons.1 hp with rfl | hp
  .refine ⟨by simp,?_,?_,?_,?_⟩
   .have:=lt_of h.pk.pk; simp only; omega
   .have:=lt_of h.pk.nm; simp only; omega
   .have:=lt_of h.pk.rs; simp only; omega
   .have:=lt_of hT.1; simp only; omega
  .have:=h.f p hp
   exact ⟨kp _ _ this.1,this.2⟩
 .rw [List.map_cons,List.nodup_cons]
  refine ⟨fun hm=>?_,h.nd⟩
  obtain ⟨p,hp,he⟩:=List.mem_map.1 hm
  have:=lt_of (h.f p hp).1
  simp only at he; omega
theorem PB.setF {o:Nat} {x:AObj} (h:PB base g tx tc k h0 ((o,x) :: F) L T Mk H) (y:AObj) (hb:base <= o) (hne:∀ z,z=k.oc \/ z=k.orl \/ z=k.od -> o ≠ z):PB base g tx tc k h0 ((o,y) :: F) L T Mk (H.set o y):=by
 have ho:=h.f (o,x) (by simp)
 simp only at ho
 have kp:∀ (z:Nat) (w:AObj),H[z]?=some w -> z ≠ o -> (H.set o y)[z]?=some w:=fun z w hz hzo=>by rw [List.getElem?_set_ne (fun e=>hzo e.symm)]; exact hz
 refine ⟨h.pk.keep h.lne fun z w hz hz2=>kp z w hz ?_,h.lne,fun p hp=>?_,h.nd,h.low.trans (Low.set hb)⟩
 .rintro rfl
  rcases hz2 with e | e | e | e | e | e | e
  .exact ho.2.1 e
  .exact hne _ (.inl rfl) e
  .exact hne _ (.inr (.inl rfl)) e
  .exact hne _ (.inr (.inr rfl)) e
  .exact ho.2.2.1 e
  .exact ho.2.2.2.1 e
  .exact ho.2.2.2.2 e
 .rcases List.mem_cons.1 hp with rfl | hp
  .exact ⟨by simp only; rw [List.getElem?_set_self (lt_of ho.1)],ho.2⟩
  .have:=h.f p (by simp [hp])
   refine ⟨kp _ _ this.1 ?_,this.2⟩
   rintro e
   have hnd:=h.nd
   rw [List.map_cons,List.nodup_cons] at hnd
   exact hnd.1 (List.mem_map.2 ⟨p,hp,e⟩)
theorem PB.tok {n Tw:Nat} (h:PB base g tx tc k h0 (tkF n Tw++F) L T Mk H) (hb:n ≠ 0 -> base <= Tw) (hbl:base <= H.length) :
  PB base g tx tc k h0 (tkF (n+1) (apT H n Tw)++F) L T Mk (apG H n Tw) /\ base <= apT H n Tw:=by
 by_cases hn:n=0
 .subst hn
  have:=PB.app (F:=F) (by simpa [tkF] using h) (.tok 1)
  exact ⟨by simpa [tkF,apT,apG] using this,by simpa [apT] using hbl⟩
 .have h1:PB base g tx tc k h0 ((Tw,.tok n) :: F) L T Mk H:=by simpa [tkF,hn] using h
  have ho:=(h1.f (Tw,.tok n) (by simp)).1
  simp only at ho
  obtain ⟨ca,cb,hch⟩:=h1.pk.ch
  have:=h1.setF (.tok (n+1)) (hb hn) (fun z hz=>by
   rintro rfl
   rcases hz with rfl | rfl | rfl
   .rw [hch] at ho; cases ho
   .have:=h1.pk.rl; rw [ho] at this; cases this
   .have:=h1.pk.dn; rw [ho] at this; cases this)
  exact ⟨by simpa [tkF,apT,apG,hn] using this,by simpa [apT,hn] using hb hn⟩
theorem PB.perm (h:PB base g tx tc k h0 F L T Mk H) (hp:F'.Perm F):PB base g tx tc k h0 F' L T Mk H :=
 ⟨h.pk,h.lne,fun p hp'=>h.f p (hp.mem_iff.1 hp'),(hp.map _).nodup_iff.2 h.nd,h.low⟩
theorem PB.drop (h:PB base g tx tc k h0 (F'++F) L T Mk H):PB base g tx tc k h0 F L T Mk H :=
 ⟨h.pk,h.lne,fun p hp=>h.f p (by simp [hp]),by have:=h.nd; rw [List.map_append,List.nodup_append] at this; exact this.2.1,h.low⟩
theorem PB.toPR (h:PB base g tx tc k h0 ((o10,.cells 0 (nodeC sp [] 0)) :: (o7,.cells 0 [i64 (tot:Int)]) :: F) L T Mk H) (hb7:base <= o7) (hb10:base <= o10):PR base g tx tc k h0 F o7 o10 sp L T Mk [] 0 tot H:=by
 have h1:=h.f (o10,.cells 0 (nodeC sp [] 0)) (by simp)
 have h2:=h.f (o7,.cells 0 [i64 (tot:Int)]) (by simp)
 simp only at h1 h2
 have hnd:=h.nd
 simp only [List.map_cons,List.nodup_cons,List.mem_cons,not_or] at hnd
 refine ⟨h.pk,h.lne,fun p hp=>?_,hnd.2.2,h2.1,h1.1,by simp,h2.2.1,h1.2.1,fun e=>hnd.1.1 e.symm,hb7,hb10,h.low⟩
 have:=h.f p (by simp [hp])
 refine ⟨this.1,this.2.1,this.2.2.1,this.2.2.2.1,this.2.2.2.2,?_,?_,by simp⟩
 .intro e; exact hnd.2.1 (List.mem_map.2 ⟨p,hp,e⟩)
 .intro e; exact hnd.1.2 (List.mem_map.2 ⟨p,hp,e⟩)
theorem PR.toPB (h:PR base g tx tc k h0 F o7 o10 sp L T Mk ws Tn tot H):PB base g tx tc k h0 ((o10,.cells 0 (nodeC sp ws Tn)) :: (o7,.cells 0 [i64 (tot:Int)]) :: F) L T Mk H:=by
 have nT:∀ (z gg:Nat) (cs:List AV),H[z]?=some (.cells gg cs) -> z ≠ T:=fun z gg cs hz e=>by
  have:=(h.pk.tk h.lne).1; rw [<- e,hz] at this; cases this
 have nN:∀ (z gg:Nat) (cs:List AV),H[z]?=some (.cells gg cs) -> z ≠ k.onum:=fun z gg cs hz e=>by
  have:=h.pk.nm; rw [<- e,hz] at this; cases this
 have nR:∀ (z gg:Nat) (cs:List AV),H[z]?=some (.cells gg cs) -> z ≠ k.orest:=fun z gg cs hz e=>by
  have:=h.pk.rs; rw [<- e,hz] at this; cases this
 refine ⟨h.pk,h.lne,fun p hp=>?_,?_,h.low⟩
 .rcases List.mem_cons.1 hp with rfl | hp
  .exact ⟨h.f10,h.n10,nN _ _ _ h.f10,nR _ _ _ h.f10,nT _ _ _ h.f10⟩
  .rcases List.mem_cons.1 hp with rfl | hp
   .exact ⟨h.f7,h.n7,nN _ _ _ h.f7,nR _ _ _ h.f7,nT _ _ _ h.f7⟩
   .have:=h.f p hp
    exact ⟨this.1,this.2.1,this.2.2.1,this.2.2.2.1,this.2.2.2.2.1⟩
 .simp only [List.map_cons,List.nodup_cons,List.mem_cons,not_or]
  refine ⟨⟨fun e=>h.n71 e.symm,fun hm=>?_⟩,fun hm=>?_,h.nd⟩
  .obtain ⟨p,hp,he⟩:=List.mem_map.1 hm
   exact (h.f p hp).2.2.2.2.2.2.1 he
  .obtain ⟨p,hp,he⟩:=List.mem_map.1 hm
   exact (h.f p hp).2.2.2.2.2.1 he
end
def qF (its:List Nat):List (Nat × AObj):=its.map fun z=>(z,.queue)
theorem leave_its {P:Program} {G:Globs} {h0:AHeap} {rs:List ResA} {R:AEnd -> AHeap -> Prop} {env:Env}:∀ (its:List Nat) (H:AHeap),(∀ z ∈ its,H[z]?=some .queue) -> its.Nodup ->
  (∀ H',(∀ z,z ∉ its -> H'[z]?=H[z]?) -> H'.length=H.length -> ∃ v,evalRes G env H' rs=some v /\ endP h0 R (.ret v) H') -> leaveP P G h0 rs R env (its.map .it) .ret H
 | [],H,_,_,he=>he H (fun _ _=>rfl) rfl
 | z :: its,H,hq,hn,he=>by
  rw [List.nodup_cons] at hn
  refine leaveIt (by simp [isQueue,hq z (by simp)]) (leave_its its (H.set z .dead) (fun y hy=>?_) hn.2 (fun H' h1 h2=>he H' (fun y hy=>?_) (by simpa using h2)))
  .rw [List.getElem?_set_ne (by rintro rfl; exact hn.1 hy)]; exact hq y (by simp [hy])
  .simp only [List.mem_cons,not_or] at hy
   rw [h1 y hy.2,List.getElem?_set_ne (fun e=>hy.1 e.symm)]
def dsl (its:List Nat):Env:=if its=[] then [] else [(dslot,.tup (its.map .it))]
theorem dsl_get (its:List Nat) (t:Nat) (ht:t ≠ dslot):(dsl its).get t=none:=by
 unfold dsl
 split
 .rfl
 .simp [Env.get,Ne.symm ht]; exact ht
theorem put_app (a e:Env) (t:Nat) (v:AV) (h:a.get t=none):Env.put (a++e) t v=a++e.put t v:=by
 induction a with
 | nil=>rfl
 | cons p a ih =>
  obtain ⟨u,w⟩:=p
  simp only [Env.get] at h
  split at h
  .cases h
  .rename_i hu
   simp only [List.cons_append,Env.put,if_neg hu,ih h]
theorem get_app (a e:Env) (t:Nat):Env.get (a++e) t=(a.get t).or (e.get t):=by
 induction a with
 | nil=>simp
 | cons p a ih =>
  obtain ⟨u,w⟩:=p
  simp only [List.cons_append,Env.get,ih]
  split <;> simp
@[simp] theorem put_dsl (its:List Nat) (e:Env) (t:Nat) (v:AV) (ht:t < 1000000):Env.put (dsl its++e) t v=dsl its++e.put t v:=put_app _ _ _ _ (dsl_get its t (by unfold dslot; omega))
@[simp] theorem get_dsl (its:List Nat) (e:Env) (t:Nat) (ht:t < 1000000):Env.get (dsl its++e) t=e.get t:=by
 rw [get_app,dsl_get its t (by unfold dslot; omega)]; simp
theorem get_dsl_slot (its:List Nat) (e:Env) (he:e.get dslot=none):Env.get (dsl its++e) dslot=if its=[] then none else some (.tup (its.map .it)):=by
 rw [get_app]
 unfold dsl
 by_cases h:its=[]
 .rw [if_pos h,if_pos h,he]; rfl
 .rw [if_neg h,if_neg h]; simp [Env.get]
theorem deferred_dsl (its:List Nat) (e:Env) (he:e.get dslot=none):deferred (dsl its++e)=some (its.map .it):=by
 unfold deferred
 rw [get_dsl_slot its e he]
 by_cases h:its=[]
 .subst h; rfl
 .rw [if_neg h]
@[simp] theorem noPend_dsl (its:List Nat) (e:Env):noPend (dsl its++e)=noPend e:=by
 unfold noPend dsl
 split
 .rfl
 .simp
theorem leOk_dsl {its:List Nat} {a b:Env} (hb:b.get dslot=none) (h:leOk a (dsl its++b)):leOk (dsl its++a) (dsl its++b):=by
 have h1:=get_dsl_slot its b hb
 by_cases hi:its=[]
 .subst hi; exact h
 .rw [if_neg hi] at h1
  have:dsl its++a=(dslot,.tup (its.map .it)) :: a:=by unfold dsl; rw [if_neg hi]; rfl
  rw [this]
  exact ⟨h1,h⟩
theorem le_dsl {its:List Nat} {a b:Env} (ha:a.get dslot=none) (hb:b.get dslot=none) (h:leOk a (dsl its++b)):EnvLe (dsl its++a) (dsl its++b) :=
 EnvLe.of (leOk_dsl hb h) (by rw [get_dsl_slot its a ha,get_dsl_slot its b hb])
end Go.Apx
end
section
namespace Go.Apx
open Go.Proofs
set_option maxRecDepth 4000
def candP (g:Gr) (tx:List ByteArray) (D:List Sp) (s:Sp) (r:Nat):List (Nat × List Sp):=match g.rules[r]? with
 | none=>[]
 | some R=>(pathsF (lieD tx D) R.parts s.i s.j).map fun p=>(r,spansOf R.parts s.i (argsF R.parts) p)
def candsP (g:Gr) (tx:List ByteArray) (D:List Sp) (s:Sp):List (Nat × List Sp):=(rulesTo g g.rules.length s.s).flatMap (candP g tx D s)
def wayP (L:List Sp) (c:Nat × List Sp):List Sp × (Nat × List Nat):=((numAll L c.2).1,(c.1,(numAll L c.2).2))
abbrev packP (g:Gr) (tx:List ByteArray) (D:List Sp) (s:Sp) (n:Nat):Option (List Sp × List (List (Nat × List Nat))):=packSt (candsP g tx D) (fun _=>wayP) [s] n
theorem runP_mono (c:List (Nat × List Sp)):∀ (st:List Sp × List (Nat × List Nat)),st.1.length <= (runW wayP st c).1.length /\ (runW wayP st c).2.length=st.2.length+c.length:=by
 induction c with
 | nil=>intro st; simp [runW]
 | cons a c ih =>
  intro st
  have h1:=ih ((wayP st.1 a).1,st.2++[(wayP st.1 a).2])
  have h2:=(numAll_le a.2 st.1 []).2.1
  have h3:runW wayP st (a :: c)=runW wayP ((wayP st.1 a).1,st.2++[(wayP st.1 a).2]) c:=rfl
  rw [h3]
  refine ⟨Nat.le_trans h2 h1.1,?_⟩
  rw [h1.2,List.length_append,List.length_cons,List.length_cons,List.length_nil]
  omega
structure NP where
 sp:Sp
 ws:List WP
 T:Nat
def encNP (x:NP):AV:=.agg (nodeC x.sp x.ws x.T)
def forV (ns:List NP) (T:Nat):AV:=apd 4 (ns.map encNP) T
@[simp] theorem isPend_forV (ns:List NP) (T:Nat):(forV ns T).isPend=false:=isPend_apd _ _ _
@[simp] theorem one_forV (ns:List NP) (T:Nat):(forV ns T).one=true:=one_apd _ _ _
@[simp] theorem cells_forV (ns:List NP) (T:Nat):(forV ns T).cells=[forV ns T]:=cells_apd _ _ _
def waysN (ns:List NP):List (List (Nat × List Nat)):=ns.map fun x=>pwl x.ws
def PackR (base:Nat) (g:Gr) (tx:List ByteArray) (k:KD) (s:Sp) (H:AHeap) (r:AEnd) (H':AHeap):Prop :=
 Low base H H' /\ ((∃ n,packP g tx k.D s n=none /\ r=.ret (.tup [.agg [.sl 0 [] .nil],bl false])) \/
  (∃ n L F ns T,packP g tx k.D s n=some (L,F) /\ F.length=L.length /\ ns.map (·.sp)=L /\ waysN ns=F /\ r=.ret (.tup [.agg [forV ns T],bl true])))
theorem PK.grow {base:Nat} {g:Gr} {tx:List ByteArray} {tc:Cap} {k:KD} {T:Nat} {Mk:List (K4 × Bool)} {H:AHeap} (h:PK base g tx tc k [] T Mk H) (K:AHeap):PK base g tx tc k [] T Mk (H++K):=by
 have kp:∀ (z:Nat) (w:AObj),H[z]?=some w -> (H++K)[z]?=some w:=fun z w hz=>by rw [List.getElem?_append_left (lt_of hz)]; exact hz
 obtain ⟨a,b,hch⟩:=h.ch
 exact ⟨kp _ _ h.pk,⟨a,b,kp _ _ hch⟩,kp _ _ h.rl,kp _ _ h.dn,kp _ _ h.nm,kp _ _ h.rs,by simp,h.memo,h.n1,h.n2,h.n3,h.n4,h.n5,h.n6,h.b1,h.b2,h.b3⟩
structure PS1 where
 c:Nat
 its:List Nat
 L:List Sp
 T:Nat
 Mk:List (K4 × Bool)
 ns:List NP
 Tf:Nat
 tot:Nat
 H:AHeap
structure PI1 (base:Nat) (g:Gr) (tx:List ByteArray) (tc:Cap) (k:KD) (h:AHeap) (s:Sp) (o7:Nat) (st:PS1):Prop where
 pb:PB base g tx tc k h (tkF st.ns.length st.Tf++(h.length+2,.cells 0 [forV st.ns st.Tf]) :: (o7,.cells 0 [i64 (st.tot:Int)]) :: (h.length,.cells 0 [.sl 0 [] .nil]) :: (h.length+1,.cells 0 [bl false]) :: qF st.its) st.L st.T st.Mk st.H
 tb:st.ns.length ≠ 0 -> base <= st.Tf
 c:st.ns.length=st.c
 cl:st.c <= st.L.length
 run:packP g tx k.D s st.c=some (st.L,waysN st.ns)
 sps:st.ns.map (·.sp)=st.L.take st.c
 b1:st.L.length <= 4000
 b2:st.tot <= 40000
 b3:st.tot=totF (waysN st.ns)
 ib:∀ z ∈ st.its,base <= z
 bd:∀ x ∈ st.L,x.i <= tx.length /\ x.j <= tx.length
structure PQ2 where
 i:Nat
 its:List Nat
 L:List Sp
 T:Nat
 Mk:List (K4 × Bool)
 ws:List WP
 Tn:Nat
 tot:Nat
 H:AHeap
def InT (tx:List ByteArray) (L:List Sp):Prop:=∀ x ∈ L,x.i <= tx.length /\ x.j <= tx.length
theorem InT.num {tx:List ByteArray} {L:List Sp} {x:Sp} (h:InT tx L) (hx:x.i <= tx.length /\ x.j <= tx.length):InT tx (numSp L x).1:=by
 unfold numSp
 split
 .exact h
 .intro y hy
  rcases List.mem_append.1 hy with h' | h'
  .exact h y h'
  .simp at h'; subst h'; exact hx
theorem InT.all {tx:List ByteArray}:∀ {w L:List Sp} {ns:List Nat},InT tx L -> InT tx w -> InT tx (w.foldl (fun st x=>((numSp st.1 x).1,st.2++[(numSp st.1 x).2])) (L,ns)).1
 | [],L,ns,h,_=>h
 | x :: w,L,ns,h,hw=>InT.all (w:=w) (h.num (hw x (by simp))) (fun y hy=>hw y (by simp [hy]))
theorem InT.run {tx:List ByteArray}:∀ {c:List (Nat × List Sp)} {st:List Sp × List (Nat × List Nat)},InT tx st.1 -> (∀ x ∈ c,InT tx x.2) -> InT tx (runW wayP st c).1
 | [],st,h,_=>h
 | a :: c,st,h,hc=>InT.run (c:=c) (st:=((wayP st.1 a).1,st.2++[(wayP st.1 a).2])) (InT.all h (hc a (by simp))) (fun x hx=>hc x (by simp [hx]))
theorem paths_le (lie:Pt -> Nat -> Nat -> Bool):∀ (ps:List Pt) (i j:Nat),∀ w ∈ pathsF lie ps i j,∀ e ∈ w,e <= j
 | [],i,j,w,hw,e,he=>by
  simp only [pathsF] at hw
  split at hw
  .simp at hw; subst hw; cases he
  .cases hw
 | p :: ps,i,j,w,hw,e,he=>by
  simp only [pathsF,List.mem_flatMap] at hw
  obtain ⟨e',he',hw⟩:=hw
  split at hw
  .obtain ⟨v,hv,rfl⟩:=List.mem_map.1 hw
   rcases List.mem_cons.1 he with rfl | he
   .have:=List.mem_range'.1 he'; omega
   .exact paths_le lie ps e' j v hv e he
  .cases hw
theorem getD_le {w:List Nat} {m:Nat} (h:∀ e ∈ w,e <= m) (q:Nat):w.getD q 0 <= m:=by
 rw [List.getD]
 cases hq:w[q]? with
 | none=>simp
 | some e=>exact h e (List.mem_of_getElem? hq)
theorem spansOf_in {tx:List ByteArray} {ps:List Pt} {i0 n:Nat} {w:List Nat} (hi:i0 <= tx.length) (hw:∀ e ∈ w,e <= tx.length):InT tx (spansOf ps i0 n w):=by
 intro x hx
 obtain ⟨a,_,rfl⟩:=List.mem_map.1 hx
 cases hp:argPos ps a with
 | none=>simp [hp]
 | some q =>
  simp only [hp]
  refine ⟨?_,getD_le hw q⟩
  unfold startP
  split
  .exact hi
  .exact getD_le hw _
structure PI2 (base:Nat) (g:Gr) (tx:List ByteArray) (tc:Cap) (k:KD) (h:AHeap) (F0:List (Nat × AObj)) (o7 o10:Nat) (sp:Sp) (rl:List Nat) (L0:List Sp) (tot0:Nat) (st:PQ2):Prop where
 pr:PR base g tx tc k h (F0++qF st.its) o7 o10 sp st.L st.T st.Mk st.ws st.Tn st.tot st.H
 i:st.i <= rl.length
 run:runW wayP (L0,[]) ((rl.take st.i).flatMap (candP g tx k.D sp))=(st.L,pwl st.ws)
 b1:st.L.length <= 4000
 b2:st.tot <= 40000
 b3:st.tot=tot0+st.ws.length
 ib:∀ z ∈ st.its,base <= z
 ln:o10 < st.H.length
structure PkOk (g:Gr) (tx:List ByteArray) (k:KD):Prop where
 b:BdG g tx
 M:RMOk g k.M g.rules.length
 D:∀ s i j,DD k s i j -> i <= j /\ j <= tx.length
 a:∀ R ∈ g.rules,ArgsOk R.parts (argsF R.parts)
def PInv (base:Nat) (g:Gr) (tx:List ByteArray) (tc:Cap) (k:KD) (h:AHeap) (F:List (Nat × AObj)) (o okids:Nat) (E:Env) (X:LoopX) (o7 o10:Nat) (sp:Sp) (L0:List Sp) (ws0:List WP) (tot0 r:Nat) (l:List (List Sp)) (H:AHeap):Prop :=
 ∃ L T Mk ws Tn tot,PR base g tx tc k h ((o,.loop E X .ready none) :: F) o7 o10 sp L T Mk ws Tn tot H /\ (∃ cs,H[okids]?=some (.cells 0 cs)) /\ runW wayP (L0,pwl ws0) (l.map (r,·))=(L,pwl ws) /\ tot=tot0+l.length /\ tot <= 40000 /\ L.length <= 4000 /\ ws.length=ws0.length+l.length
def PBad (base:Nat) (g:Gr) (tx:List ByteArray) (tc:Cap) (k:KD) (h:AHeap) (F:List (Nat × AObj)) (o:Nat) (E:Env) (X:LoopX) (o7 o10:Nat) (sp:Sp) (L0:List Sp) (ws0:List WP) (tot0 r:Nat) (l:List (List Sp)) (H:AHeap):Prop :=
 ∃ L T Mk ws Tn tot,PR base g tx tc k h ((o,.loop E X .done (some .ret)) :: F) o7 o10 sp L T Mk ws Tn tot H /\ runW wayP (L0,pwl ws0) (l.map (r,·))=(L,pwl ws) /\ tot=tot0+l.length /\ (tot > 40000 \/ L.length > 4000)
theorem PK.swap {base:Nat} {g:Gr} {tx:List ByteArray} {tc:Cap} {k:KD} {L L':List Sp} {T T':Nat} {Mk1 Mk':List (K4 × Bool)} {H H':AHeap} (h:PK base g tx tc k L' T' Mk1 H) (h2:PK base g tx tc k L T Mk' H') (hb:But k.orest H H'):PK base g tx tc k L' T' Mk' H':=by
 have kp:∀ (z:Nat) (w:AObj),H[z]?=some w -> z ≠ k.orest -> H'[z]?=some w:=fun z w hz hzo=>by rw [hb z hzo]; exact hz
 have nc:∀ (z gg:Nat) (cs:List AV),H[z]?=some (.cells gg cs) -> z ≠ k.orest:=fun z gg cs hz e=>by rw [e,h.rs] at hz; cases hz
 have nt:∀ (z n:Nat),H[z]?=some (.tok n) -> z ≠ k.orest:=fun z n hz e=>by rw [e,h.rs] at hz; cases hz
 obtain ⟨a,b,hch⟩:=h.ch
 exact ⟨kp _ _ h.pk (nc _ _ _ h.pk),⟨a,b,kp _ _ hch (nc _ _ _ hch)⟩,kp _ _ h.rl h.n1.symm,kp _ _ h.dn h.n2.symm,kp _ _ h.nm h.n3.symm,h2.rs,fun hl=>⟨kp _ _ (h.tk hl).1 (nt _ _ (h.tk hl).1),(h.tk hl).2⟩,h2.memo,h.n1,h.n2,h.n3,h.n4,h.n5,h.n6,h.b1,h.b2,h.b3⟩
theorem pwl_length (ws:List WP):(pwl ws).length=ws.length:=by simp [pwl]
theorem pack_w1 (base:Nat) (g:Gr) (tx:List ByteArray) (tc:Cap) (k:KD) (h:AHeap) (F:List (Nat × AObj)) (o okids:Nat) (E:Env) (X:LoopX) (o4 o5 o7 o10:Nat) (sp:Sp) (L0:List Sp) (ws0:List WP) (tot0 r:Nat) (R:Rl) (hok:PkOk g tx k) (hR:g.rules[r]?=some R) (hj:sp.j <= tx.length)
  (h4:(o4,AObj.cells 0 [.sl 0 [] .nil]) ∈ F) (h5:(o5,AObj.cells 0 [bl false]) ∈ F) (hbo:base <= o) (hbk:base <= okids) (hws:ws0.length <= tot0)
  (k1:k.ok < okids) (k2:o7 < okids) (k3:o10 < okids) (k4:k.oc < okids) (k5:k.orest < okids) (k6:okids ∉ F.map (·.1)) (k7:o ≠ okids)
  (hX:XOk ⟨PP,Gl,110,ann_earley_packer_pack,0,none⟩ [65] ra0_earley_packer_pack rb0_earley_packer_pack X)
  (e2:E.get 2=some (.ip (.ptr k.ok 0 0))) (e4:E.get 4=some (.ptr o4 0 0)) (e5:E.get 5=some (.ptr o5 0 0)) (e7:E.get 7=some (.ptr o7 0 0)) (e10:E.get 10=some (.ptr o10 0 0)) (e12:E.get 12=some (.ip (i64 (r:Int)))) (ed:E.get dslot=none) :
  W1 base g tx tc k r R sp.j (argsF R.parts) o okids (PInv base g tx tc k h F o okids E X o7 o10 sp L0 ws0 tot0 r) (PBad base g tx tc k h F o E X o7 o10 sp L0 ws0 tot0 r):=by
 have hRm:=List.mem_of_getElem? hR
 have hR10:=hok.b.p R hRm
 have hn:=hok.b.n
 have hal:=argsF_le R.parts
 refine ⟨hR,by omega,by omega,hj,fun s i j hd=>(hok.D s i j hd).1,hok.a R hRm,by omega,?_,?_,?_,?_,?_,by omega,?_⟩
 .rintro l H ⟨L,T,Mk,ws,Tn,tot,h1,_⟩
  exact ⟨L,T,Mk,h1.pk⟩
 .rintro l H H' L T Mk Mk' ⟨L',T',Mk1,ws,Tn,tot,h1,⟨cs,h2⟩,h3⟩ p1 p2 p3 p4
  have h1p:=h1.memo (h1.pk.swap p2 p3) p3
  refine ⟨L',T',Mk',ws,Tn,tot,h1p,⟨cs,?_⟩,h3⟩
  rw [p3 _ (by omega)]; exact h2
 .rintro l H cs ⟨L,T,Mk,ws,Tn,tot,h1,h2,h3⟩
  obtain ⟨cs0,h2⟩:=h2
  refine ⟨L,T,Mk,ws,Tn,tot,h1.other ⟨cs0,h2⟩ _ (by simpa [List.mem_cons,not_or] using ⟨fun e=>k7 e.symm,by simpa using k6⟩) hbk (by omega) (by omega) (by omega) (by omega),⟨cs,by rw [List.getElem?_set_self (lt_of h2)]⟩,h3⟩
 .rintro l H x ⟨L,T,Mk,ws,Tn,tot,h1,⟨cs0,h2⟩,h3⟩
  exact ⟨L,T,Mk,ws,Tn,tot,PR.drop (F':=[(H.length,x)]) (h1.app x),⟨cs0,by rw [List.getElem?_append_left (lt_of h2)]; exact h2⟩,h3⟩
 .rintro l H w ⟨L,T,Mk,ws,Tn,tot,h1,⟨cs0,h2⟩,h3,h5',h6,h7,h8⟩ hw hk
  refine AYields.mono (pack_round base g tx tc k h F o o4 o5 o7 o10 r okids E X sp L T Mk ws Tn tot w h1 h4 h5 hbo (by omega) h7 (by omega) h6 k1 k2 k3 (Nat.le_of_lt (lt_of h2)) hX e2 e4 e5 e7 e10 e12 ed) ?_
  rintro r' H' ⟨T',ws',Tn',q1,q2,q3⟩
  have hrun:runW wayP (L0,pwl ws0) ((l++[w]).map (r,·))=((numAll L w).1,pwl ws'):=by
   rw [List.map_append,runW_append,h3,List.map_cons,List.map_nil,runW_one,q1]; rfl
  have hwl:ws'.length=ws.length+1:=by have:=congrArg List.length q1; simpa [pwl] using this
  rcases q3 with ⟨q4,q5,rfl,q6⟩ | ⟨q4,rfl,q6⟩
  .exact .inl ⟨rfl,⟨_,T',Mk,ws',Tn',tot+1,q6,⟨cs0,q2 _ _ _ (Nat.le_refl _) h2⟩,hrun,by simp; omega,q4,q5,by simp; omega⟩,q2⟩
  .exact .inr ⟨rfl,_,T',Mk,ws',Tn',tot+1,q6,hrun,by simp; omega,q4⟩
 .rintro l H ⟨L,T,Mk,ws,Tn,tot,h1,_⟩
  have:=(h1.f (o,.loop E X .ready none) (by simp)).1
  simp only at this
  simp [isLoop,this]
end Go.Apx
end
section
namespace Go.Apx
open Go.Proofs
set_option maxRecDepth 4000
theorem numAll_ext:∀ (w:List Sp) (L:List Sp) (ns:List Nat),∃ M,(w.foldl (fun st x=>((numSp st.1 x).1,st.2++[(numSp st.1 x).2])) (L,ns)).1=L++M
 | [],L,ns=>⟨[],by simp⟩
 | x :: w,L,ns=>by
  obtain ⟨M,h⟩:=numAll_ext w (numSp L x).1 (ns++[(numSp L x).2])
  have h2:∃ M,(numSp L x).1=L++M:=by
   unfold numSp
   split
   .exact ⟨[],by simp⟩
   .exact ⟨[x],rfl⟩
  obtain ⟨M2,h2⟩:=h2
  refine ⟨M2++M,?_⟩
  simp only [List.foldl_cons]
  rw [h,h2,List.append_assoc]
theorem runP_ext:∀ (c:List (Nat × List Sp)) (st:List Sp × List (Nat × List Nat)),∃ M,(runW wayP st c).1=st.1++M
 | [],st=>⟨[],by simp [runW]⟩
 | a :: c,st=>by
  obtain ⟨M,h⟩:=runP_ext c ((wayP st.1 a).1,st.2++[(wayP st.1 a).2])
  obtain ⟨M2,h2⟩:=numAll_ext a.2 st.1 []
  refine ⟨M2++M,?_⟩
  have h3:runW wayP st (a :: c)=runW wayP ((wayP st.1 a).1,st.2++[(wayP st.1 a).2]) c:=rfl
  rw [h3,h]
  show (wayP st.1 a).1++M=_
  rw [show (wayP st.1 a).1=st.1++M2 from h2,List.append_assoc]
set_option maxHeartbeats 4000000 in
theorem pack_c (base:Nat) (g:Gr) (tx:List ByteArray) (tc:Cap) (k:KD) (T:Nat) (Mk:List (K4 × Bool)) (s:Sp) {h:AHeap} (hk:PK base g tx tc k [] T Mk h) (hok:PkOk g tx k) (hsb:s.i <= tx.length /\ s.j <= tx.length) :
  ACalls PP Gl 31 [.ptr k.ok 0 0,encSp s] h (PackR base g tx k s h):=by
 have hb:=hok.b
 refine enter_earley_packer_pack (by simp) ?_
 simp -implicitDefEqProofs [code_earley_packer_pack,res_earley_packer_pack,ann_earley_packer_pack,encSp]
 obtain ⟨HA,hHA⟩:∃ HA,HA=h++[.cells 0 [.sl 0 [] .nil],.cells 0 [bl false],.cells 0 [.sl 0 [] .nil]]:=⟨_,rfl⟩
 have hkA:PK base g tx tc k [] T Mk HA:=by rw [hHA]; exact hk.grow _
 have a0:HA[h.length]?=some (.cells 0 [.sl 0 [] .nil]):=by rw [hHA]; simp
 have a1:HA[h.length+1]?=some (.cells 0 [bl false]):=by rw [hHA,List.getElem?_append_right (by omega)]; simp
 have a2:HA[h.length+2]?=some (.cells 0 [.sl 0 [] .nil]):=by rw [hHA,List.getElem?_append_right (by omega)]; simp
 have alow:Low base h HA:=by rw [hHA]; exact Low.app _ _ _
 have hokl:=lt_of hk.pk
 have honl:=lt_of hk.nm
 have horl:=lt_of hk.rs
 have hbh:base <= h.length:=by have:=hk.b1; omega
 refine callr (meet_c base g tx tc k [] T Mk s (h:=HA) hkA (by simp)) (by simp [encSp]) (by rw [hHA]) ?_
 rintro r1 H1 ⟨T1,rfl,y1,y2,y3,y4,y5⟩
 have hns:numSp [] s=([s],0):=by simp [numSp]
 rw [hns] at y1 ⊢
 have hAl:HA.length=h.length+3:=by rw [hHA]; simp
 have hT1:=y1.tk (by simp)
 have nT:∀ (z gg:Nat) (cs:List AV),H1[z]?=some (.cells gg cs) -> z ≠ T1:=fun z gg cs hz e=>by
  have:=hT1.1; rw [<- e,hz] at this; cases this
 have b0:=y5 _ _ a0 (by omega) (by omega) (by simp)
 have b1:=y5 _ _ a1 (by omega) (by omega) (by simp)
 have b2:=y5 _ _ a2 (by omega) (by omega) (by simp)
 have hPB0:PB base g tx tc k h [(h.length+2,.cells 0 [forV [] 0]),(h.length,.cells 0 [.sl 0 [] .nil]),(h.length+1,.cells 0 [bl false])] [s] T1 Mk H1:=by
  refine ⟨y1,by simp,fun p hp=>?_,by simp,alow.trans y2⟩
  simp only [List.mem_cons,List.not_mem_nil,or_false] at hp
  rcases hp with rfl | rfl | rfl
  .exact ⟨b2,by simp only; omega,by simp only; omega,by simp only; omega,nT _ _ _ b2⟩
  .exact ⟨b0,by simp only; omega,by simp only; omega,by simp only; omega,nT _ _ _ b0⟩
  .exact ⟨b1,by simp only; omega,by simp only; omega,by simp only; omega,nT _ _ _ b1⟩
 have hPB1:=hPB0.app (.cells 0 [i64 0])
 have ho7b:base <= H1.length:=by omega
 simp -implicitDefEqProofs
 refine AWp.till (S:=PS1) ⟨0,[],[s],T1,Mk,[],0,0,H1++[.cells 0 [i64 0]]⟩ (fun st=>4001 - st.c) [2,4,5,6,7] (fun st=>dsl st.its++[(8,i64 (st.c:Int))]) (fun st=>st.H) (PI1 base g tx tc k h s H1.length) mixed ?_ (le_of (by simp [dslot,dsl])) rfl ?_
 .refine ⟨?_,by simp,rfl,by simp,by simp [packSt,waysN],by simp,by simp,by simp,by simp [totF,waysN],by simp,by simpa using hsb⟩
  simp only [tkF,qF,List.length_nil,if_true,List.nil_append,List.map_nil]
  exact hPB1.perm (List.Perm.swap _ _ _)
 rintro ⟨c,its,L,T2,Mk2,ns,Tf,tot,H⟩ ⟨z1,z2,z3,z4,z5,z6,z7,z8,z9,z10,z11⟩
 simp only at z1 z2 z3 z4 z5 z6 z7 z8 z9 z10 z11
 have hpk:=z1.pk.pk
 obtain ⟨ca,cb,hch⟩:=z1.pk.ch
 have hrl:=z1.pk.rl
 have h6:=(z1.f (h.length+2,.cells 0 [forV ns Tf]) (by simp)).1
 have h4:=(z1.f (h.length,.cells 0 [.sl 0 [] .nil]) (by simp)).1
 have h5:=(z1.f (h.length+1,.cells 0 [bl false]) (by simp)).1
 have hqs:∀ z ∈ its,H[z]?=some .queue:=fun z hz=>(z1.f (z,.queue) (by simp [qF,hz])).1
 simp only [chCells] at hch
 simp only at h4 h5 h6
 by_cases hc:c < L.length
 case neg =>
  have hce:¬ (c:Int) < L.length:=by omega
  simp -implicitDefEqProofs [lp1_earley_packer_pack,hpk,spsV,apd,hce,h6,h4,h5]
  have h41:=lt_of h4
  have h51:=lt_of h5
  have k51:∀ y,(H.set h.length y)[h.length+1]?=some (.cells 0 [bl false]):=fun y=>by rw [List.getElem?_set_ne (by omega)]; exact h5
  have hcL:c=L.length:=by omega
  refine retDefer (its.map .it) (deferred_dsl its _ (by simp [dslot])) ?_
  refine leave_its its _ (fun z hz=>?_) (by have:=z1.nd; simp only [List.map_append,List.map_cons] at this; rw [List.nodup_append] at this; have:=this.2.1; simp only [List.nodup_cons] at this; have:=this.2.2.2.2; simp only [qF,List.map_map] at this; rw [show ((fun x:Nat × AObj=>x.1) ∘ fun z=>(z,AObj.queue))=id from rfl,List.map_id] at this; exact this) (fun H' e1 e2=>?_)
  .have hz1:=hqs z hz
   rw [List.getElem?_set_ne (by rintro rfl; rw [h5] at hz1; cases hz1),List.getElem?_set_ne (by rintro rfl; rw [h4] at hz1; cases hz1)]; exact hz1
  .have n4:h.length ∉ its:=fun hm=>by have:=hqs _ hm; rw [h4] at this; cases this
   have n5:h.length+1 ∉ its:=fun hm=>by have:=hqs _ hm; rw [h5] at this; cases this
   have f4:H'[h.length]?=some (.cells 0 [forV ns Tf]):=by rw [e1 _ n4,List.getElem?_set_ne (by omega),List.getElem?_set_self h41]
   have f5:H'[h.length+1]?=some (.cells 0 [bl true]):=by rw [e1 _ n5,List.getElem?_set_self (by simpa using h51)]
   refine ⟨.tup [.agg [forV ns Tf],bl true],by simp [evalRes,evalRes1,f4,f5],.inl ⟨fun z x hz hx=>?_,.inr ⟨c,L,waysN ns,ns,Tf,z5,by simp [waysN,z3,hcL],by rw [z6,List.take_of_length_le (by omega)],rfl,rfl⟩⟩⟩
   have hzi:z ∉ its:=fun hm=>by have:=z10 z hm; omega
   rw [e1 _ hzi,List.getElem?_set_ne (by omega),List.getElem?_set_ne (by omega)]
   exact z1.low z x hz hx
 have hce:(c:Int) < L.length:=by omega
 obtain ⟨sp,hsp⟩:∃ sp,L[c]?=some sp:=⟨L[c],by simp [hc]⟩
 have hLV:spsV L T2=.sl 3 (L.map encSp) (.tok T2):=by
  cases L with
  | nil=>simp at hc
  | cons a l=>rfl
 have kA:∀ (z:Nat) (x y:AObj),H[z]?=some x -> (H++[y])[z]?=some x:=fun z x y hz=>by rw [List.getElem?_append_left (lt_of hz)]; exact hz
 have hpk2:∀ y,(H++[y])[k.ok]?=some (.cells 0 [.ptr k.oc 0 0,.mp k.onum,.sl 3 (L.map encSp) (.tok T2),.mp k.orest]):=fun y=>by have:=kA _ _ y hpk; rw [hLV] at this; exact this
 have hch2:=fun y=>kA _ _ y hch
 have hrl2:=fun y=>kA _ _ y hrl
 obtain ⟨rl,hrlE⟩:∃ rl,rl=rulesTo g g.rules.length sp.s:=⟨_,rfl⟩
 obtain ⟨t,ht⟩:∃ t,t=((sfind k.M sp.s).getD ([],0)).2:=⟨_,rfl⟩
 have hgd:(Option.map rulesV (sfind k.M sp.s)).getD (.sl 0 [] .nil)=apd 1 (i64s rl) t:=by
  have:=rmok_getD hok.M sp.s
  rw [hrlE,<- this,ht]
  cases sfind k.M sp.s <;> rfl
 obtain ⟨kk,cc,hkc,hkk⟩:∃ kk cc,apd 1 (i64s rl) t=.sl kk (i64s rl) cc /\ (rl ≠ [] -> kk=1):=⟨_,_,rfl,fun hne=>by
  have:i64s rl ≠ []:=by simpa [i64s] using hne
  simp [this]⟩
 rw [hkc] at hgd
 simp -implicitDefEqProofs [lp1_earley_packer_pack,hpk,hLV,hce,hsp,encSp,hpk2,hch2,hrl2,hgd]
 have hlenB:base <= H.length:=by have:=z1.pk.b1; have:=lt_of hpk; omega
 obtain ⟨F0,hF0⟩:∃ F0,F0=tkF ns.length Tf++[(h.length+2,AObj.cells 0 [forV ns Tf]),(h.length,.cells 0 [.sl 0 [] .nil]),(h.length+1,.cells 0 [bl false])]:=⟨_,rfl⟩
 have hPR0:PR base g tx tc k h (F0++qF its) H1.length H.length sp L T2 Mk2 [] 0 tot (H++[.cells 0 (nodeC sp [] 0)]):=by
  refine PB.toPR ((z1.app (.cells 0 (nodeC sp [] 0))).perm ?_) ho7b hlenB
  rw [hF0]
  refine List.Perm.cons _ ?_
  have:=(List.perm_middle (a:=(H1.length,AObj.cells 0 [i64 (tot:Int)])) (l₁:=tkF ns.length Tf++[(h.length+2,AObj.cells 0 [forV ns Tf])]) (l₂:=(h.length,.cells 0 [.sl 0 [] .nil]) :: (h.length+1,.cells 0 [bl false]) :: qF its)).symm
  simpa using this
 have hspm:=List.mem_of_getElem? hsp
 have hspb:=z11 sp hspm
 have hrln:rl.length <= 100:=by rw [hrlE]; have:=rulesTo_le g g.rules.length sp.s; have:=hb.r; omega
 have hil:(i64s rl).length=rl.length:=by simp [i64s]
 refine AWp.till (S:=PQ2) ⟨0,its,L,T2,Mk2,[],0,tot,H++[.cells 0 (nodeC sp [] 0)]⟩ (fun st=>rl.length - st.i) [2,4,5,6,7,8,9,10,52,53] (fun st=>dsl st.its++[(54,i64 (st.i:Int))]) (fun st=>st.H) (PI2 base g tx tc k h F0 H1.length H.length sp rl L tot) mixed
  ⟨hPR0,by simp,by simp [runW,pwl],z7,z8,by simp,z10,by simp⟩ ?_ (by simp [nodeC]) ?_
 .simp -implicitDefEqProofs only [List.append_assoc,Env.pick,List.cons_append,List.nil_append]
  refine le_dsl (by simp [dslot]) (by simp [dslot]) ?_
  simp
 rintro ⟨i,its2,L2,T3,Mk3,ws,Tn,tot2,H2⟩ ⟨x1,x2,x3,x4,x5,x6,x7,x8⟩
 simp only at x1 x2 x3 x4 x5 x6 x7 x8
 by_cases hi:i < rl.length
 case neg =>
  have hno:¬ (i:Int) < rl.length:=by omega
  have hii:i=rl.length:=by omega
  have hPBe:PB base g tx tc k h (tkF ns.length Tf++(h.length+2,.cells 0 [forV ns Tf]) :: (H1.length,.cells 0 [i64 (tot2:Int)]) :: (h.length,.cells 0 [.sl 0 [] .nil]) :: (h.length+1,.cells 0 [bl false]) :: qF its2) L2 T3 Mk3 H2:=by
   have:=PB.drop (F':=[(H.length,AObj.cells 0 (nodeC sp ws Tn))]) x1.toPB
   refine this.perm ?_
   rw [hF0]
   have hp:=(List.perm_middle (a:=(H1.length,AObj.cells 0 [i64 (tot2:Int)])) (l₁:=tkF ns.length Tf++[(h.length+2,AObj.cells 0 [forV ns Tf])]) (l₂:=(h.length,.cells 0 [.sl 0 [] .nil]) :: (h.length+1,.cells 0 [bl false]) :: qF its2))
   simpa using hp
  have f6:=(hPBe.f (h.length+2,.cells 0 [forV ns Tf]) (by simp)).1
  have f10:=x1.f10
  simp only [nodeC] at f6 f10
  have hTf:ns ≠ [] -> H2[Tf]?=some (.tok ns.length):=fun hne=>by
   have hn0:ns.length ≠ 0:=fun e=>hne (List.eq_nil_of_length_eq_zero e)
   exact (hPBe.f (Tf,.tok ns.length) (by simp [tkF,hn0])).1
  have hTf2:ns.length ≠ 0 -> ∃ q,H2[Tf]?=some (.tok q):=fun hn0=>⟨_,hTf (by rintro rfl; exact hn0 rfl)⟩
  have hbH2:base <= H2.length:=by omega
  have hPB3:=hPBe.tok z2 hbH2
  simp -implicitDefEqProofs [lp2_earley_packer_pack,hil,hno,f6,f10]
  refine appG (ns.map encNP) (encNP ⟨sp,ws,Tn⟩) Tf (by simp [forV]) (by simp [encNP,nodeC]) (fun hne=>by simpa using hTf (by simpa using hne)) (by simp; unfold maxLenA; omega) ?_
  simp -implicitDefEqProofs only [List.length_map]
  obtain ⟨H5,hH5⟩:∃ H5,H5=apG H2 ns.length Tf:=⟨_,rfl⟩
  obtain ⟨Tf2,hTf2'⟩:∃ Tf2,Tf2=apT H2 ns.length Tf:=⟨_,rfl⟩
  rw [<- hH5,<- hTf2'] at hPB3 ⊢
  have f6b:H5[h.length+2]?=some (.cells 0 [forV ns Tf]):=by rw [hH5]; exact apG_keep hTf2 f6 (by simp)
  have hcs:apd 4 (ns.map encNP++[encNP ⟨sp,ws,Tn⟩]) Tf2=forV (ns++[⟨sp,ws,Tn⟩]) Tf2:=by simp [forV]
  have wc:IntKind.i64.wrap ((c:Int)+1)=(c:Int)+1:=IntWalk.i64_in _ (by omega)
  rw [hcs]
  simp -implicitDefEqProofs [f6b,wc]
  have hoc6:∀ z,z=k.oc \/ z=k.orl \/ z=k.od -> h.length+2 ≠ z:=fun z hz=>by
   have e1:=lt_of hk.rl
   have e2:=lt_of hk.dn
   obtain ⟨cc1,cd1,hch1⟩:=hk.ch
   have e3:=lt_of hch1
   rcases hz with rfl | rfl | rfl <;> omega
  have hPB4:=((hPB3.1.perm List.perm_middle.symm).setF (.cells 0 [forV (ns++[⟨sp,ws,Tn⟩]) Tf2]) (by omega) hoc6).perm List.perm_middle
  have hrunA:runW wayP (L,[]) (candsP g tx k.D sp)=(L2,pwl ws):=by
   unfold candsP
   rw [<- hrlE,<- x3,hii,List.take_length]
  have hrunB:packP g tx k.D s (c+1)=some (L2,waysN ns++[pwl ws]):=by
   show (packP g tx k.D s c).bind _=_
   rw [z5]
   show packStep _ _ (L,waysN ns)=_
   have hLc:L[(waysN ns).length]?=some sp:=by rw [show (waysN ns).length=c by simp [waysN,z3]]; exact hsp
   unfold packStep
   simp only [hLc,hrunA]
   have ht:totF (waysN ns)=((waysN ns).map List.length).sum:=rfl
   rw [if_neg]
   rw [<- ht,pwl_length]
   omega
  obtain ⟨M,hM⟩:=runP_ext (candsP g tx k.D sp) (L,[])
  rw [hrunA] at hM
  simp only at hM
  have hin:InT tx L2:=by
   have:=InT.run (c:=candsP g tx k.D sp) (st:=(L,[])) z11 (fun x hx=>by
    unfold candsP at hx
    obtain ⟨r',_,hx⟩:=List.mem_flatMap.1 hx
    unfold candP at hx
    split at hx
    .cases hx
    .rename_i R' hR'
     obtain ⟨w,hw,rfl⟩:=List.mem_map.1 hx
     exact spansOf_in hspb.1 (fun e he=>Nat.le_trans (paths_le _ _ _ _ w hw e he) hspb.2))
   rw [hrunA] at this
   exact this
  refine ⟨⟨c+1,its2,L2,T3,Mk3,ns++[⟨sp,ws,Tn⟩],Tf2,tot2,H5.set (h.length+2) (.cells 0 [forV (ns++[⟨sp,ws,Tn⟩]) Tf2])⟩,by simp; omega,⟨?_,fun _=>hPB3.2,by simp; omega,?_,?_,?_,x4,x5,?_,x7,hin⟩,?_,rfl⟩
  .simp only [List.length_append,List.length_singleton]; exact hPB4
  .simp only; rw [hM]; simp; omega
  .simp only; rw [hrunB]; simp [waysN]
  .simp only
   rw [hM,List.map_append,z6,List.take_add_one,List.getElem?_append_left hc,hsp,List.take_append_of_le_length (by omega)]; simp
  .simp only
   rw [x6,z9]
   simp [totF,waysN,pwl]
  .exact le_dsl (by simp [dslot]) (by simp [dslot]) (by simp)
 obtain ⟨r,hr⟩:∃ r,rl[i]?=some r:=⟨rl[i],by simp [hi]⟩
 have hr2:(i64s rl)[i]?=some (i64 (r:Int)):=by simp [i64s,hr]
 have hrm:=List.mem_of_getElem? hr
 rw [hrlE] at hrm
 obtain ⟨R,hR,hRs⟩:=rulesTo_mem.1 hrm
 have hRm:=List.mem_of_getElem? hR
 have hR10:=hb.p R hRm
 have hlt:(i:Int) < rl.length:=by omega
 have hkk1:=hkk (by rintro rfl; simp at hi)
 subst hkk1
 simp -implicitDefEqProofs [lp2_earley_packer_pack,hil,hlt,hr2]
 refine callk (ways_c base g tx tc k L2 T3 Mk3 r R sp.i sp.j (h:=H2) x1.pk hR (by omega)) (by simp) rfl ?_
 simp -implicitDefEqProofs
 have hq6:=x1.pk.pk
 obtain ⟨ca2,cb2,hch2'⟩:=x1.pk.ch
 have hH2l:H.length < H2.length:=x8
 obtain ⟨n,hn⟩:∃ n,n=argsF R.parts:=⟨_,rfl⟩
 have hPK3:PR base g tx tc k h (F0++qF its2) H1.length H.length sp L2 T3 Mk3 ws Tn tot2 (H2++[.cells 0 ((List.replicate (argsF R.parts) sp0).flatMap spC)]):=PR.drop (F':=[(H2.length,_)]) (x1.app _)
 refine AWp.rangeF (gf:=91) (fa:=[]) (fb:=[.ip (.ptr k.ok 0 0),.ip (i64 (r:Int)),.ip (i64 (sp.j:Int)),.ip (.sl 3 (R.parts.map encP) R.cap),.ip (.rf H2.length 0 0 (argsF R.parts) .full),.ip (i64 (sp.i:Int))]) (dl:=its2.map .it) rfl (by simp [ways1V]) (by rw [noPend_dsl]; simp [noPend,ways1V]) (deferred_dsl its2 _ (by simp [dslot])) ?_
 intro X hX
 generalize hE:Env.del _ dslot=E
 have e2:E.get 2=some (.ip (.ptr k.ok 0 0)):=by rw [<- hE,Env.get_del]; simp [dslot]
 have e4:E.get 4=some (.ptr h.length 0 0):=by rw [<- hE,Env.get_del]; simp [dslot]
 have e5:E.get 5=some (.ptr (h.length+1) 0 0):=by rw [<- hE,Env.get_del]; simp [dslot]
 have e7:E.get 7=some (.ptr H1.length 0 0):=by rw [<- hE,Env.get_del]; simp [dslot]
 have e10:E.get 10=some (.ptr H.length 0 0):=by rw [<- hE,Env.get_del]; simp [dslot]
 have e12:E.get 12=some (.ip (i64 (r:Int))):=by rw [<- hE,Env.get_del]; simp [dslot]
 have ed:E.get dslot=none:=by rw [<- hE,Env.get_del]; simp
 obtain ⟨HK,hHK⟩:∃ HK,HK=H2++[AObj.cells 0 ((List.replicate (argsF R.parts) sp0).flatMap spC)]:=⟨_,rfl⟩
 have hHKl:HK.length=H2.length+1:=by rw [hHK]; simp
 rw [<- hHK] at hPK3 ⊢
 have hqd:PR base g tx tc k h (F0++qF (HK.length :: its2)) H1.length H.length sp L2 T3 Mk3 ws Tn tot2 (HK++[.queue]):=by
  have:=hPK3.app .queue
  refine this.perm ?_
  have hp:=(List.perm_middle (a:=(HK.length,AObj.queue)) (l₁:=F0) (l₂:=qF its2))
  simpa [qF] using hp
 have hLd:=hqd.app (.loop E X .ready none)
 have hqdl:(HK++[AObj.queue]).length=HK.length+1:=by simp
 rw [hqdl] at hLd
 have hk0:(HK++[.queue]++[.loop E X .ready none])[H2.length]?=some (.cells 0 ((List.replicate (argsF R.parts) sp0).flatMap spC)):=by
  rw [List.append_assoc,List.getElem?_append_left (by omega),hHK]; simp
 have hF04:(h.length,AObj.cells 0 [.sl 0 [] .nil]) ∈ F0:=by rw [hF0]; simp
 have hF05:(h.length+1,AObj.cells 0 [bl false]) ∈ F0:=by rw [hF0]; simp
 have hws:ws.length <= tot2:=by omega
 have hkF:H2.length ∉ (F0++qF (HK.length :: its2)).map (·.1):=by
  intro hm
  obtain ⟨p,hp,he⟩:=List.mem_map.1 hm
  rcases List.mem_append.1 hp with hp | hp
  .have:=lt_of (x1.f p (by simp [hp])).1; omega
  .simp only [qF,List.map_cons,List.mem_cons] at hp
   rcases hp with rfl | hp
   .simp only at he; omega
   .have:=lt_of (x1.f p (List.mem_append.2 (.inr hp))).1; omega
 have hbase2:base <= H2.length:=by omega
 have hrun0:runW wayP (L2,pwl ws) ([]:List (Nat × List Sp))=(L2,pwl ws):=rfl
 have hw1:=pack_w1 base g tx tc k h (F0++qF (HK.length :: its2)) (HK.length+1) H2.length E X h.length (h.length+1) H1.length H.length sp L2 ws tot2 r R hok hR hspb.2 (by simp [hF04]) (by simp [hF05]) (by omega) hbase2 hws
  (lt_of hq6) (lt_of x1.f7) x8 (lt_of hch2') (lt_of x1.pk.rs) hkF (by omega) hX e2 e4 e5 e7 e10 e12 ed
 have hcall:=ways1_c base g tx tc k r R sp.i sp.j (argsF R.parts) (HK.length+1) H2.length _ _ hw1 [] (List.replicate (argsF R.parts) sp0) (h:=HK++[.queue]++[.loop E X .ready none])
  ⟨L2,T3,Mk3,ws,Tn,tot2,hLd,⟨_,hk0⟩,hrun0,by simp,x5,x4,by simp⟩ hk0 (by simp) hspb.1
 refine iterk ⟨_,hcall,fun _ _ h=>h⟩ rfl rfl ?_
 obtain ⟨all,hall⟩:∃ all,all=(pathsF (lieD tx k.D) R.parts sp.i sp.j).map (spansOf R.parts sp.i (argsF R.parts)):=⟨_,rfl⟩
 have hcand:candP g tx k.D sp r=all.map (r,·):=by simp [candP,hR,hall,List.map_map,Function.comp]
 have hoc:∀ (H':AHeap) L' T' Mk' (x:AObj),PK base g tx tc k L' T' Mk' H' -> H'[HK.length+1]?=some x -> (∀ gg cs,x ≠ .cells gg cs) -> (∀ es,x ≠ .amap es) -> ∀ z,z=k.oc \/ z=k.orl \/ z=k.od -> HK.length+1 ≠ z:=fun H' L' T' Mk' x hp hx n1 n2 z hz e=>by
  obtain ⟨cc,cd,hch'⟩:=hp.ch
  rcases hz with rfl | rfl | rfl
  .rw [e,hch'] at hx; exact n1 _ _ (Option.some.inj hx).symm
  .rw [e,hp.rl] at hx; exact n2 _ (Option.some.inj hx).symm
  .rw [e,hp.dn] at hx; exact n2 _ (Option.some.inj hx).symm
 rintro r2 H3 ⟨rfl,hres⟩
 rw [List.nil_append,<- hall] at hres
 have htk1:(rl.take (i+1)).flatMap (candP g tx k.D sp)=(rl.take i).flatMap (candP g tx k.D sp)++all.map (r,·):=by
  rw [List.take_add_one,hr]; simp [hcand]
 rcases hres with ⟨L4,T4,Mk4,ws4,Tn4,tot4,v1,v2,v3,v4,v5,v6,v7⟩ | ⟨p,hpp,L4,T4,Mk4,ws4,Tn4,tot4,v1,v3,v4,v5⟩
 .have hlp:=(v1.f (HK.length+1,.loop E X .ready none) (by simp)).1
  simp only at hlp
  have wi:IntKind.i64.wrap ((i:Int)+1)=(i:Int)+1:=IntWalk.i64_in _ (by omega)
  simp -implicitDefEqProofs [rangeEnd,hlp,wi,dslot]
  have hdead:=PR.drop (F':=[(HK.length+1,.dead)]) (v1.setF .dead (by omega) (hoc _ _ _ _ _ v1.pk hlp (by simp) (by simp)))
  refine ⟨⟨i+1,HK.length :: its2,L4,T4,Mk4,ws4,Tn4,tot4,H3.set (HK.length+1) .dead⟩,by simp; omega,⟨hdead,by simp; omega,?_,v6,v5,by simp only; omega,?_,?_⟩,?_,rfl⟩
  .simp only; rw [htk1,runW_append,x3,v3]
  .intro z hz
   rcases List.mem_cons.1 hz with rfl | hz
   .omega
   .exact x7 z hz
  .have:=lt_of v1.f10; simpa using this
  .have hd:dsl (HK.length :: its2)=[(dslot,.tup (.it HK.length :: its2.map .it))]:=by simp [dsl]
   simp only [hd]
   exact le_of (by simp [dslot])
 .have hlp:=(v1.f (HK.length+1,.loop E X .done (some .ret)) (by simp)).1
  simp only at hlp
  simp -implicitDefEqProofs [rangeEnd,hlp]
  have hrest:∃ rest,(rulesTo g g.rules.length sp.s).flatMap (candP g tx k.D sp)=(rl.take i).flatMap (candP g tx k.D sp)++p.map (r,·)++rest:=by
   obtain ⟨p2,hp2⟩:=hpp
   refine ⟨p2.map (r,·)++(rl.drop (i+1)).flatMap (candP g tx k.D sp),?_⟩
   rw [<- hrlE]
   have:rl=rl.take (i+1)++rl.drop (i+1):=(List.take_append_drop _ _).symm
   conv=>lhs; rw [this]
   rw [List.flatMap_append,htk1,<- hp2,List.map_append]
   simp [List.append_assoc]
  have hnone:packP g tx k.D s (c+1)=none:=by
   obtain ⟨rest,hrest⟩:=hrest
   show (packP g tx k.D s c).bind _=_
   rw [z5]
   show packStep _ _ (L,waysN ns)=_
   have hLc:L[(waysN ns).length]?=some sp:=by rw [show (waysN ns).length=c by simp [waysN,z3]]; exact hsp
   have hr3:runW wayP (L,[]) (candsP g tx k.D sp)=runW wayP (L4,pwl ws4) rest:=by
    unfold candsP
    rw [hrest,runW_append,runW_append,x3,v3]
   have hm:=runP_mono rest (L4,pwl ws4)
   have hm1:=runP_mono ((rl.take i).flatMap (candP g tx k.D sp)) (L,[])
   rw [x3] at hm1
   have hm2:=runP_mono (p.map (r,·)) (L2,pwl ws)
   rw [v3] at hm2
   simp only [pwl_length,List.length_nil,List.length_map,Nat.zero_add] at hm hm1 hm2
   unfold packStep
   simp only [hLc,hr3]
   rw [if_pos]
   have ht:totF (waysN ns)=((waysN ns).map List.length).sum:=rfl
   rcases v5 with v5 | v5
   .right; rw [<- ht]; have:=hm.2; omega
   .left; have:=hm.1; omega
  have hfin:=v1.setF .dead (by omega) (hoc _ _ _ _ _ v1.pk hlp (by simp) (by simp))
  have hq4:=(hfin.f (h.length,.cells 0 [.sl 0 [] .nil]) (by simp [hF04])).1
  have hq5:=(hfin.f (h.length+1,.cells 0 [bl false]) (by simp [hF05])).1
  have hqq:∀ z ∈ (HK.length :: its2),(H3.set (HK.length+1) .dead)[z]?=some .queue:=fun z hz=>(hfin.f (z,.queue) (by
   rcases List.mem_cons.1 hz with rfl | hz
   .simp [qF]
   .simp [qF,hz])).1
  have hqn:(HK.length :: its2).Nodup:=by
   have:=hfin.nd
   rw [List.map_cons,List.nodup_cons,List.map_append,List.nodup_append] at this
   have:=this.2.2.1
   simp only [qF,List.map_map] at this
   rw [show ((fun x:Nat × AObj=>x.1) ∘ fun z=>(z,AObj.queue))=id from rfl,List.map_id] at this
   exact this
  simp only at hq4 hq5
  refine retDefer ((HK.length :: its2).map .it) (by simp [deferred]) ?_
  refine leave_its _ _ hqq hqn (fun H' f1 f2=>?_)
  have n4:h.length ∉ (HK.length :: its2):=fun hm=>by have:=hqq _ hm; rw [hq4] at this; cases this
  have n5:h.length+1 ∉ (HK.length :: its2):=fun hm=>by have:=hqq _ hm; rw [hq5] at this; cases this
  have g4:H'[h.length]?=some (.cells 0 [.sl 0 [] .nil]):=by rw [f1 _ n4]; exact hq4
  have g5:H'[h.length+1]?=some (.cells 0 [bl false]):=by rw [f1 _ n5]; exact hq5
  refine ⟨.tup [.agg [.sl 0 [] .nil],bl false],by simp [evalRes,evalRes1,g4,g5,dslot],.inl ⟨fun z x hz hx=>?_,.inl ⟨c+1,hnone,rfl⟩⟩⟩
  have hzi:z ∉ (HK.length :: its2):=fun hm=>by
   rcases List.mem_cons.1 hm with rfl | hm
   .omega
   .have:=x7 z hm; omega
  rw [f1 _ hzi]
  exact hfin.low z x hz hx
end Go.Apx
end
