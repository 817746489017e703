/- Walks: the sorted keys of a map (maps.Keys, slices.Sorted). -/
import Derived.Test.YtdiemjjfkoccfaaGreatDoorKC
set_option linter.unusedVariables false
set_option linter.unusedSimpArgs false
set_option linter.unnecessarySimpa false
section
namespace Go.Apx
open Go.Proofs
set_option maxRecDepth 4000
def apV (n:Nat) (l:W):AV:=if l=[] then .sl 0 [] .nil else .rf (n+4) (l.length - 1) 0 l.length (.own 1)
def apO (l:W):AHeap:=if l=[] then [] else [.cells (l.length - 1) (l.map sv)]
@[simp] theorem isPend_apV (n:Nat) (l:W):(apV n l).isPend=false:=by unfold apV; split <;> rfl
@[simp] theorem one_apV (n:Nat) (l:W):(apV n l).one=true:=by unfold apV; split <;> rfl
@[simp] theorem cells_apV (n:Nat) (l:W):(apV n l).cells=[apV n l]:=by unfold apV; split <;> rfl
def apX (n:Nat) (l:W) (E:Env) (X:LoopX) (st:LoopState) (mi:AObj):AHeap:=[.cells 0 [apV n l],.queue,.loop E X st none,mi]++apO l
theorem apRound (l:W) (k:ByteArray) (E:Env) (X:LoopX) (HB:AHeap) (mi:AObj) (hl:l.length <= 2 ^ 31) (hX:XOk ⟨PP,Gl,13,ann_101,0,none⟩ [7] ra0_101 rb0_101 X)
  (e2:E.get 2=some (.ptr HB.length 0 0)) (ed:E.get dslot=none) :
  AYields PP Gl (HB.length+2) [sv k] (HB++apX HB.length l E X .ready mi) (fun e h'=>e=.ret (.sc (.bool true)) /\ h'=HB++apX HB.length (l++[k]) E X .ready mi):=by
 refine ayields_of_code (C:=⟨PP,Gl,13,ann_101,(HB++apX HB.length l E X .ready mi).length,some (HB.length+2)⟩) (env:=E) (X:=X) (st:=.ready) (pd:=none) (ps:=[7]) (by simp [apX]) hX rfl ed rfl rfl (aB mixed ?_)
 cases l with
 | nil =>
  simp [ra0_101,beginP,apX,apV,apO,sv]
  refine aB mixed ?_
  have hm:1 <= maxLenA:=len_tok (by omega)
  simp [rb0_101,e2,roundP,evW,hm]
 | cons a l =>
  simp [ra0_101,beginP,apX,apV,apO,sv]
  refine aB mixed ?_
  have hm:l.length+1+1 <= maxLenA:=len_tok (by simp at hl; omega)
  have h3:List.take l.length (l.map sv)=l.map sv:=List.take_of_length_le (by simp)
  simp [rb0_101,e2,roundP,evW,hm,h3]
structure KyS where
 pr:List (Nat × ByteArray)
structure KyI (bs:List Nat) (u:W) (s:KyS):Prop where
 nd:(s.pr.map Prod.fst).Nodup
 mem:∀ p ∈ s.pr,p ∈ bs.zip u
theorem KyI.perm {bs:List Nat} {u:W} {s:KyS} (h:KyI bs u s) (hb:bs.Nodup) (hl:bs.length=u.length) (hall:∀ b ∈ bs,b ∈ s.pr.map Prod.fst):(s.pr.map Prod.snd).Perm u:=by
 have h1:(bs.zip u).map Prod.fst=bs:=List.map_fst_zip (by omega)
 have h2:(bs.zip u).map Prod.snd=u:=List.map_snd_zip (by omega)
 have n1:s.pr.Nodup:=by
  have:=h.nd
  unfold List.Nodup at this ⊢
  rw [List.pairwise_map] at this
  exact this.imp fun hne e=>hne (by rw [e])
 have n2:(bs.zip u).Nodup:=by
  have h3:((bs.zip u).map Prod.fst).Nodup:=by rw [h1]; exact hb
  unfold List.Nodup at h3 ⊢
  rw [List.pairwise_map] at h3
  exact h3.imp fun hne e=>hne (by rw [e])
 have hp:s.pr.Perm (bs.zip u):=by
  rw [List.perm_ext_iff_of_nodup n1 n2]
  refine fun p=>⟨h.mem p,fun hp=>?_⟩
  obtain ⟨b,x⟩:=p
  have hbm:b ∈ bs:=(List.of_mem_zip hp).1
  obtain ⟨q,hq,hqe⟩:=List.mem_map.1 (hall b hbm)
  obtain ⟨b',x'⟩:=q
  simp only at hqe
  subst hqe
  have hq2:=h.mem _ hq
  have:x'=x:=by
   obtain ⟨i,hi⟩:=List.getElem?_of_mem hq2
   obtain ⟨j,hj⟩:=List.getElem?_of_mem hp
   rw [List.getElem?_zip_eq_some] at hi hj
   simp only at hi hj
   have hil:=ar hi.1
   have hjl:=ar hj.1
   have e1:=(List.getElem?_eq_some_iff.1 hi.1).2
   have e2:=(List.getElem?_eq_some_iff.1 hj.1).2
   have:i=j:=by
    rcases Nat.lt_trichotomy i j with h4 | h4 | h4
    .exact (List.pairwise_iff_getElem.1 hb i j hil hjl h4 (e1.trans e2.symm)).elim
    .exact h4
    .exact (List.pairwise_iff_getElem.1 hb j i hjl hil h4 (e2.trans e1.symm)).elim
   subst this
   rw [hi.2] at hj
   exact Option.some.inj hj.2
  rw [<- this]; exact hq
 have:=hp.map Prod.snd
 rwa [h2] at this
theorem findIdx_at {bs:List Nat} {i b:Nat} (hnd:bs.Nodup) (hb:bs[i]?=some b):List.findIdx? (fun x=>x == b) bs=some i:=by
 rw [List.findIdx?_eq_some_iff_getElem]
 obtain ⟨hil,hib⟩:=List.getElem?_eq_some_iff.1 hb
 refine ⟨hil,by simp [hib],fun j hj=>?_⟩
 have:=List.pairwise_iff_getElem.1 hnd j i (by omega) hil hj
 simp only [beq_iff_eq,Bool.not_eq_true']
 rw [hib] at this
 simpa using this
set_option maxHeartbeats 2000000 in
theorem keys1_c (u:W) (o:Nat) (E:Env) (X:LoopX) {h:AHeap} (ho:h[o]?=some (.amap (aS bv (aT u)))) (hu:u.length <= 2 ^ 31) (hX:XOk ⟨PP,Gl,13,ann_101,0,none⟩ [7] ra0_101 rb0_101 X)
  (e2:E.get 2=some (.ptr h.length 0 0)) (ed:E.get dslot=none) :
  ACalls PP Gl 81 [.yld (h.length+2),.ip (.mp o)] (h++[.cells 0 [.sl 0 [] .nil],.queue,.loop E X .ready none])
   (fun e h'=>e=.ret (.tup []) /\ ∃ l mi,l.Perm u /\ h'=h++apX h.length l E X .ready mi):=by
 refine enter_81 (by simp) ?_
 have hol:=ar ho
 have ho1:∀ x,(h++x)[o]?=some (.amap (aS bv (aT u))):=fun x=>by rw [List.getElem?_append_left hol]; exact ho
 simp -implicitDefEqProofs [code_81,res_81,ann_81,ho1]
 intro bs clock hbl hnd hlt
 have hbl2:bs.length=u.length:=by simpa [aS,aT] using hbl
 obtain ⟨HB,hHB⟩:∃ HB,HB=h.set o (.bmap (aS bv (aT u)) bs clock):=⟨_,rfl⟩
 have hBl:HB.length=h.length:=by rw [hHB]; simp
 have hset:∀ x y,(h++x).set o y=h.set o y++x:=fun x y=>List.set_append_left _ _ hol
 have hbo:∀ x,(HB++x)[o]?=some (.bmap (aS bv (aT u)) bs clock):=fun x=>by rw [List.getElem?_append_left (by omega),hHB,List.getElem?_set_self hol]
 refine AWp.till (S:=KyS) ⟨[]⟩ (fun s=>cntB bs (s.pr.map Prod.fst)) [0,5] (fun s=>[]) (fun s=>HB++apX HB.length (s.pr.map Prod.snd) E X .ready (.miter (some o) clock clock (s.pr.map Prod.fst))) (KyI bs u) mixed ⟨by simp,by simp⟩ (aI (by simp [dslot])) ?_ ?_
 .rw [hset,<- hHB]; simp [apX,apV,apO]
 rintro ⟨pr⟩ hI
 have gm:∀ l mi,(HB++apX HB.length l E X .ready mi)[h.length+3]?=some mi:=fun l mi=>by rw [<- hBl]; simp [apX]
 have gs:∀ l mi mi',(HB++apX HB.length l E X .ready mi).set (h.length+3) mi'=HB++apX HB.length l E X .ready mi':=fun l mi mi'=>by rw [<- hBl]; simp [apX]
 simp -implicitDefEqProofs [lp0_81,gm,hbo]
 refine ⟨hlt,fun hall=>?_,fun i k v b hi hb hbs=>?_⟩
 .have hpm:=hI.perm hnd hbl2 (fun b hb=>by
   obtain ⟨x,hx⟩:=hall b hb
   exact List.mem_map.2 ⟨(b,x),hx,rfl⟩)
  have hback:(HB++apX HB.length (pr.map Prod.snd) E X .ready (.miter (some o) clock clock (pr.map Prod.fst))).set o (.amap (aS bv (aT u)))=h++apX h.length (pr.map Prod.snd) E X .ready (.miter (some o) clock clock (pr.map Prod.fst)):=by
   rw [List.set_append_left _ _ (by omega),hHB,List.set_set,List.length_set]
   congr 1
   refine List.ext_getElem? fun z=>?_
   rw [List.getElem?_set]
   split
   .rename_i e; subst e; rw [ho]
   .rfl
  rw [hback]
  exact bx (v:=.tup []) (by simp [deferred,dslot]) rfl ⟨rfl,_,hpm,_,rfl⟩
 .have hfi:=findIdx_at hnd hb
  obtain ⟨x,hx⟩:∃ x,u[i]?=some x:=by
   have:=ar hi
   simp [aS,aT] at this
   exact ⟨u[i],by simp [this]⟩
  have hpe:k=.sc (.string x) /\ v=bl true:=by
   simp only [aS,aT,List.map_map,List.getElem?_map,hx,Option.map_some,Option.some.injEq,Prod.mk.injEq,Function.comp] at hi
   exact ⟨hi.1.symm,hi.2.symm⟩
  obtain ⟨rfl,rfl⟩:=hpe
  have hprl:pr.length <= u.length:=by
   have h1:=hI.nd
   have h2:∀ (a b:List Nat),a.Nodup -> (∀ x ∈ a,x ∈ b) -> a.length <= b.length:=by
    intro a
    induction a with
    | nil=>intro b _ _; exact Nat.zero_le _
    | cons x a ih =>
     intro b hn hm
     simp only [List.nodup_cons] at hn
     have hx:=hm x (by simp)
     have:=ih (b.erase x) hn.2 fun y hy=>by
      have hne:y ≠ x:=by rintro rfl; exact hn.1 hy
      exact (List.mem_erase_of_ne hne).2 (hm y (by simp [hy]))
     rw [List.length_erase_of_mem hx] at this
     have:=List.length_pos_of_mem hx
     simp only [List.length_cons]
     omega
   have h3:=h2 (pr.map Prod.fst) bs h1 fun b hb=>by
    obtain ⟨p,hp,rfl⟩:=List.mem_map.1 hb
    exact (List.of_mem_zip (hI.mem p hp)).1
   rw [List.length_map] at h3
   omega
  have hround:=apRound (pr.map Prod.snd) x E X HB (.miter (some o) clock clock (pr.map Prod.fst++[b])) (by simp; omega) hX (by rw [hBl]; exact e2) ed
  rw [hBl] at hround gm gs
  rw [hBl,gs]
  have hil:isLoop (HB++apX h.length (pr.map Prod.snd) E X .ready (.miter (some o) clock clock (pr.map Prod.fst++[b]))) (h.length+2)=true:=by
   unfold isLoop
   rw [<- hBl]; simp [apX]
  simp -implicitDefEqProofs [gm,hbo,hfi,hi,hil]
  refine yieldk (by simpa [sv] using hround) ?_
  rintro e2' h' ⟨rfl,rfl⟩
  simp -implicitDefEqProofs
  refine ⟨⟨pr++[(b,x)]⟩,?_,⟨?_,?_⟩,aI (by simp [dslot]),?_⟩
  .simp only [List.map_append,List.map_cons,List.map_nil]
   exact cntB_lt (List.mem_of_getElem? hb) (fun hm=>by
    obtain ⟨⟨b',x'⟩,hp,he⟩:=List.mem_map.1 hm
    simp only at he; subst he
    exact hbs x' hp)
  .simp only [List.map_append,List.map_cons,List.map_nil]
   rw [List.nodup_append]
   refine ⟨hI.nd,by simp,fun a ha c hc e=>?_⟩
   simp at hc; subst hc e
   obtain ⟨⟨b',x'⟩,hp,he⟩:=List.mem_map.1 ha
   simp only at he; subst he
   exact hbs x' hp
  .intro p hp
   rcases List.mem_append.1 hp with hp | hp
   .exact hI.mem p hp
   .simp at hp; subst hp
    refine List.mem_of_getElem? (i:=i) ?_
    rw [List.getElem?_zip_eq_some]
    exact ⟨hb,hx⟩
  .simp [hBl]
def ColR (u:W) (h:AHeap) (r:AEnd) (h':AHeap):Prop:=∃ l:W,l.Perm u /\ Low h.length h h' /\ ((l=[] /\ r=.ret (.sl 0 [] .nil)) \/ (l ≠ [] /\ ∃ o g rc,h.length <= o /\ h'[o]?=some (.cells g (l.map sv)) /\ r=.ret (.rf o g 0 l.length rc)))
theorem mkeys_c (o:Nat) {h:AHeap}:AEx PP Gl 44 [.mp o] h (.ret (.fn (.func 81) [] [.ip (.mp o)])) h:=by
 refine enter_44 (by simp) ?_
 simp [code_44,res_44,ann_44]
 exact aZ (by simp [deferred,dslot]) rfl rfl rfl
set_option maxHeartbeats 1000000 in
theorem appSeq_c (u:W) (o:Nat) {h:AHeap} (ho:h[o]?=some (.amap (aS bv (aT u)))) (hu:u.length <= 2 ^ 31) :
  ACalls PP Gl 101 [.sl 0 [] .nil,.fn (.func 81) [] [.ip (.mp o)]] h (ColR u h):=by
 refine enter_101 (by simp) ?_
 have hol:=ar ho
 simp -implicitDefEqProofs [code_101,res_101,ann_101]
 refine AWp.keep [2,6] (aI (by simp [dslot])) ?_
 simp -implicitDefEqProofs
 refine AWp.rangeF (gf:=81) (fa:=[]) (fb:=[.ip (.mp o)]) (dl:=[]) rfl (by simp) (by simp [noPend]) (by simp [deferred,dslot]) ?_
 intro X hX
 generalize hE:Env.del _ dslot=E
 have e2:E.get 2=some (.ptr h.length 0 0):=by rw [<- hE,Env.get_del]; simp [dslot]
 have ed:E.get dslot=none:=by rw [<- hE,Env.get_del]; simp
 have hk:=keys1_c u o E X ho hu hX e2 ed
 refine iterk ⟨_,hk,fun _ _ h=>h⟩ (by simp) (by simp) ?_
 rintro r H' ⟨rfl,l,mi,hp,rfl⟩
 have hal:∀ l:W,(apO l).length <= 1:=fun l=>by unfold apO; split <;> simp
 have g1:(h++apX h.length l E X .ready mi)[h.length+2]?=some (.loop E X .ready none):=by simp [apX]
 have g2:(h++apX h.length l E X .ready mi).set (h.length+2) .dead=h++([.cells 0 [apV h.length l],.queue,.dead,mi]++apO l):=by simp [apX]
 have g3:(h++([.cells 0 [apV h.length l],.queue,.dead,mi]++apO l))[h.length]?=some (.cells 0 [apV h.length l]):=by simp
 have e1:h.length+1+1=h.length+2:=rfl
 simp -implicitDefEqProofs only [List.cons_append,List.nil_append] at g2 g3
 simp -implicitDefEqProofs [rangeEnd,dslot,e1,g1,g2,g3]
 refine retDefer [.it (h.length+1)] (by simp [deferred,dslot]) (leaveIt (by simp [isQueue]) ?_)
 refine ⟨apV h.length l,by simp [aN,aK],.inl ⟨l,hp,?_,?_⟩⟩
 .exact (Low.app _ _ _).trans (Low.set (by omega))
 .by_cases hl:l=[]
  .left; subst hl; exact ⟨rfl,rfl⟩
  .right
   refine ⟨hl,h.length+4,l.length - 1,.own 1,by omega,?_,by simp [apV,hl]⟩
   simp [apO,hl]
theorem collect_c (u:W) (o:Nat) {h:AHeap} (ho:h[o]?=some (.amap (aS bv (aT u)))) (hu:u.length <= 2 ^ 31) :
  ACalls PP Gl 79 [.fn (.func 81) [] [.ip (.mp o)]] h (ColR u h):=by
 refine enter_79 (by simp) ?_
 simp -implicitDefEqProofs [code_79,res_79,ann_79]
 refine be (appSeq_c u o ho hu) rfl rfl ?_
 rintro r H ⟨l,hp,hl,⟨rfl,rfl⟩ | ⟨hne,o',g,rc,q1,q2,rfl⟩⟩
 .simp -implicitDefEqProofs
  exact bx (v:=.sl 0 [] .nil) (by simp [deferred,dslot]) (by simp [aN,aK]) ⟨[],hp,hl,.inl ⟨rfl,rfl⟩⟩
 .simp -implicitDefEqProofs
  exact bx (v:=.rf o' g 0 l.length rc) (by simp [deferred,dslot]) (by simp [aN,aK]) ⟨l,hp,hl,.inr ⟨hne,o',g,rc,q1,q2,rfl⟩⟩
theorem sortSnil_c {h:AHeap}:AEx PP Gl 80 [.sl 0 [] .nil] h (.ret (.tup [])) h :=
 KOk.at (KOk.interp (k:=⟨80,[.sl 0 [] .nil],[],.tup [],[]⟩) (K:=[]) mixed (findT_ok tbl_ok) (by simp) 20 (by kernel_rfl)) rfl rfl
theorem srtS_perm {l u:W} (h:l.Perm u):srtS l=srtS u:=by
 unfold srtS
 congr 1
 have h1:=(List.mergeSort_perm (l.map bytesL) fun x y=>decide (x <= y)).trans ((h.map bytesL).trans (List.mergeSort_perm (u.map bytesL) fun x y=>decide (x <= y)).symm)
 have hs:∀ l:List (List UInt8),(l.mergeSort fun x y=>decide (x <= y)).Pairwise fun x y=>decide (x <= y)=true:=fun l =>
  List.pairwise_mergeSort (fun a b c hab hbc=>by simp only [decide_eq_true_eq] at *; exact List.le_trans hab hbc) (fun a b=>by simp only [Bool.or_eq_true,decide_eq_true_eq]; exact List.le_total a b) l
 exact List.Perm.eq_of_pairwise (le:=fun x y=>decide (x <= y)=true) (fun a b _ _ h1 h2=>by simp only [decide_eq_true_eq] at *; exact List.le_antisymm h1 h2) (hs _) (hs _) h1
theorem strRow:∀ l:W,rows 1 l.length (l.map sv)=l.map sv
 | []=>rfl
 | x :: l=>by simp [rows,strRow l]
theorem inb_grown_sv (n:Nat) (l:W):(aW 1 (l.map sv)).inb n=true:=by
 unfold aW
 split
 .rename_i e; rw [e]; rfl
 .simp only [AV.inb,inb_sv]; rfl
def SrtR (u:W) (h:AHeap) (r:AEnd) (H:AHeap):Prop:=Low h.length h H /\ ((srtS u=[] /\ r=.ret (.sl 0 [] .nil)) \/ (srtS u ≠ [] /\ ∃ o g rc,h.length <= o /\ H[o]?=some (.cells g ((srtS u).map sv)) /\ r=.ret (.rf o g 0 (srtS u).length rc)))
theorem sortedKeys_c (u:W) (o:Nat) {h:AHeap} (ho:h[o]?=some (.amap (aS bv (aT u)))) (hu:u.length <= 2 ^ 31) :
  AEx PP Gl 43 [.fn (.func 81) [] [.ip (.mp o)]] h (.ret (aW 1 ((srtS u).map sv))) h:=by
 have h0:ACalls PP Gl 43 [.fn (.func 81) [] [.ip (.mp o)]] h (SrtR u h):=by
  refine enter_43 (by simp) ?_
  simp -implicitDefEqProofs [code_43,res_43,ann_43]
  refine be (collect_c u o ho hu) rfl rfl ?_
  rintro r H ⟨l,hp,hl,⟨rfl,rfl⟩ | ⟨hne,o',g,rc,q1,q2,rfl⟩⟩
  .simp -implicitDefEqProofs
   refine aP sortSnil_c rfl rfl ?_
   simp -implicitDefEqProofs
   have hn:srtS u=[]:=by rw [<- srtS_perm hp]; simp [srtS]
   exact bx (v:=.sl 0 [] .nil) (by simp [deferred,dslot]) (by simp [aN,aK]) ⟨hl,.inl ⟨hn,rfl⟩⟩
  .simp -implicitDefEqProofs
   have hll:=hp.length_eq
   refine aP (sort_lib (l:=l) (rest:=[]) laysSort (f:=80) (by rfl) (by kernel_rfl) (by simpa using q2) hne (by omega)) rfl rfl ?_
   simp -implicitDefEqProofs
   rw [srtS_perm hp]
   have hsl:(srtS u).length=l.length:=by rw [srtS_length,hll]
   exact bx (v:=.rf o' g 0 l.length rc) (by simp [deferred,dslot]) (by simp [aN,aK]) ⟨hl.trans (Low.set q1),.inr ⟨fun e=>hne (by rw [e] at hsl; exact List.length_eq_zero_iff.1 hsl.symm),o',g,rc,q1,List.getElem?_set_self (ar q2),by rw [hsl]⟩⟩
 have h1:=h0.freezeO (R':=fun r H=>Low h.length h H /\ r=.ret (aW 1 ((srtS u).map sv))) ?_
 .exact h1.dropR fun r H ⟨hl,e⟩=>⟨_,e,inb_grown_sv _ _,hl,rfl,rfl⟩
 rintro r H ⟨hl,⟨hn,rfl⟩ | ⟨hne,o',g,rc,q1,q2,rfl⟩⟩
 .exact .inl ⟨hl,by rw [hn]; rfl⟩
 .right
  refine ⟨_,o',g,1,(srtS u).map sv,rfl,q2,hl.trans (Low.set q1),?_⟩
  have hne2:(srtS u).map sv ≠ []:=by simpa using hne
  simp only [AV.frz,frz1,List.drop_zero,strRow,aW,if_neg hne2]
  rw [if_pos (by simp)]
end Go.Apx
end
section
namespace Go.Apx
open Go.Proofs
set_option maxRecDepth 4000
def uselF (F:List ByteArray) (p:Pt):Bool:=!decide (p.sort=emp) && !decide (p.sort ∈ F)
def begP (N:List ByteArray):List Pt -> Evs
 | []=>[]
 | p :: r=>if p.sort=emp then [(false,p.sym)] else (true,p.sort) :: (if p.sort ∈ N then begP N r else [])
def begR (N F:List ByteArray) (x:ByteArray) (R:Rl):Evs:=if R.sort=x /\ R.parts.any (uselF F)=false then begP N R.parts else []
def begL (N F:List ByteArray) (x:ByteArray) (l:List Rl):Evs:=l.flatMap (begR N F x)
def begE (g:Gr) (N F:List ByteArray) (x:ByteArray):Evs:=begL N F x g.rules
theorem begL_take {N F:List ByteArray} {x:ByteArray} {l:List Rl} {i:Nat} {R:Rl} (h:l[i]?=some R):begL N F x (l.take (i+1))=begL N F x (l.take i)++begR N F x R:=by
 unfold begL
 rw [List.take_add_one,h,List.flatMap_append]
 simp
theorem begL_split {N F:List ByteArray} {x:ByteArray} {l:List Rl} {i:Nat} {R:Rl} (h:l[i]?=some R):begL N F x l=begL N F x (l.take i)++begR N F x R++begL N F x (l.drop (i+1)):=by
 rw [<- begL_take h]
 unfold begL
 rw [<- List.flatMap_append,List.take_append_drop]
theorem begP_pre {N:List ByteArray}:∀ {l:List Pt} {j:Nat},(∀ q ∈ l.take j,q.sort ≠ emp /\ q.sort ∈ N) -> begP N l=(l.take j).map (fun q=>(true,q.sort))++begP N (l.drop j)
 | l,0,_=>by simp
 | [],j+1,_=>by simp [begP]
 | p :: r,j+1,h=>by
  have hp:=h p (by simp)
  have ih:=begP_pre (N:=N) (l:=r) (j:=j) fun q hq=>h q (by simp [hq])
  simp only [begP,if_neg hp.1,if_pos hp.2,List.take_succ_cons,List.map_cons,List.drop_succ_cons,List.cons_append,<- ih]
theorem useless_c (p:Pt) (F:List ByteArray) (o:Nat) {H:AHeap} (ho:H[o]?=some (.amap (aS bv (aT F)))):AEx PP Gl 38 [encP p,.ip (.mp o)] H (.ret (bl (uselF F p))) H:=by
 refine enter_38 (by simp) ?_
 by_cases e:p.sort=emp
 .simp -implicitDefEqProofs [code_38,res_38,ann_38,encP,e,emp]
  exact aZ (by simp [deferred,dslot]) rfl (by simp [uselF,e]) rfl
 .have e':¬ p.sort=(⟨#[]⟩:ByteArray):=e
  by_cases hS:p.sort ∈ F
  .simp -implicitDefEqProofs [code_38,res_38,ann_38,encP,e',ho,hS]
   exact aZ (by simp [deferred,dslot]) rfl (by simp [uselF,hS]) rfl
  .simp -implicitDefEqProofs [code_38,res_38,ann_38,encP,e',ho,hS]
   exact aZ (by simp [deferred,dslot]) rfl (by simp [uselF,hS,e]) rfl
def NoteH (nl fl mo:Nat) (N F:List ByteArray) (B:CSt -> AHeap):Prop:=∀ st,(B st)[mo]?=some (.amap (aS bv (aT st.u))) /\ (∀ u',(B st).set mo (.amap (aS bv (aT u')))=B ⟨st.S,u'⟩) /\ (B st)[nl]?=some (.amap (aS bv (aT N))) /\ (B st)[fl]?=some (.amap (aS bv (aT F)))
theorem NoteH.app {nl fl mo:Nat} {N F:List ByteArray} (B:CSt -> AHeap) (J:AHeap) (h:NoteH nl fl mo N F B):NoteH nl fl mo N F (fun st=>B st++J):=fun st=>by
 obtain ⟨a,b,c,d⟩:=h st
 refine ⟨by rw [List.getElem?_append_left (ar a)]; exact a,fun u'=>?_,by rw [List.getElem?_append_left (ar c)]; exact c,by rw [List.getElem?_append_left (ar d)]; exact d⟩
 simp only
 rw [List.set_append_left _ _ (ar a),b u']
structure B1 where
 i:Nat
 st:CSt
set_option maxHeartbeats 4000000 in
theorem begins1_c (g:Gr) (N F:List ByteArray) (nl fl mo:Nat) (x:ByteArray) (hr:g.rules.length <= 2 ^ 31) (hps:∀ R ∈ g.rules,R.parts.length <= 2 ^ 31) :
  IterC (NoteH nl fl mo N F) (begE g N F) x 40 [] [.ip (aM g),.ip (sv x),.ip (.fn (.func 38) [] [.ip (.mp fl)]),.ip (.mp mo),.ip (.mp nl)]:=by
 intro B n o P a hB hcl hNT hloop hy hn h0
 refine enter_40 (by simp) ?_
 simp -implicitDefEqProofs [code_40,res_40,ann_40,aM]
 refine AWp.scopeJ 0 rfl (fun _ _ _=>False) (aB mixed ?_) (fun _ _ _ h=>h.elim)
 simp -implicitDefEqProofs
 refine AWp.till (S:=B1) ⟨0,a⟩ (fun s=>g.rules.length - s.i) [0,2,3,4,5,12,13] (fun s=>[(14,i64 (s.i:Int))]) (fun s=>B s.st)
  (fun s=>s.i <= g.rules.length /\ P (begL N F x (g.rules.take s.i)).length s.st) mixed ⟨by simp,by simpa [begL] using h0⟩ (aI (by simp [dslot])) rfl ?_
 rintro ⟨i,st⟩ ⟨z0,z1⟩
 simp only at z0 z1
 by_cases hi:i < g.rules.length
 case neg =>
  have hlt:¬ (i:Int) < g.rules.length:=by omega
  simp -implicitDefEqProofs [lp0_40,hlt]
  have:i=g.rules.length:=by omega
  subst this
  rw [List.take_length] at z1
  exact bx (v:=.tup []) (by simp [deferred,dslot]) rfl ⟨rfl,st,z1,rfl⟩
 obtain ⟨R,hR⟩:∃ R,g.rules[i]?=some R:=⟨g.rules[i],by simp [hi]⟩
 have hRm:=List.mem_of_getElem? hR
 have hlt:(i:Int) < g.rules.length:=by omega
 have hne:g.rules ≠ []:=by intro e; rw [e] at hi; simp at hi
 have wi:IntKind.i64.wrap ((i:Int)+1)=(i:Int)+1:=IntWalk.i64_in _ (by omega)
 have hnext:=begL_take (N:=N) (F:=F) (x:=x) hR
 by_cases hx:R.sort=x
 case neg =>
  have hb:begR N F x R=[]:=by unfold begR; rw [if_neg (fun h=>hx h.1)]
  rw [hb,List.append_nil] at hnext
  simp -implicitDefEqProofs [lp0_40,hlt,hne,hR,ab,sv,hx,wi]
  exact ⟨⟨i+1,st⟩,by simp; omega,⟨by simp; omega,by simp only; rw [hnext]; exact z1⟩,aI (by simp [dslot]),rfl⟩
 obtain ⟨n1,n2,n3,n4⟩:=hNT st
 simp -implicitDefEqProofs [lp0_40,hlt,hne,hR,ab,sv,hx]
 refine aP (anyP_c R.parts R.cap 38 [] [.ip (.mp fl)] (uselF F) (hps R hRm) (fun p _=>by simpa using useless_c p F fl n4)) rfl rfl ?_
 cases hus:R.parts.any (uselF F) with
 | true =>
  have hb:begR N F x R=[]:=by unfold begR; rw [if_neg (fun h=>by rw [hus] at h; cases h.2)]
  rw [hb,List.append_nil] at hnext
  simp -implicitDefEqProofs [wi]
  exact ⟨⟨i+1,st⟩,by simp; omega,⟨by simp; omega,by simp only; rw [hnext]; exact z1⟩,aI (by simp [dslot]),rfl⟩
 | false =>
  have hb:begR N F x R=begP N R.parts:=by unfold begR; rw [if_pos ⟨hx,hus⟩]
  rw [hb] at hnext
  have hsp:=begL_split (N:=N) (F:=F) (x:=x) hR
  rw [hb] at hsp
  obtain ⟨bs,hbs⟩:∃ bs,bs=(begL N F x (g.rules.take i)).length:=⟨_,rfl⟩
  have hget:∀ (j:Nat) e,(begP N R.parts)[j]?=some e -> (begE g N F x)[bs+j]?=some e:=fun j e he=>by
   have hj:=ar he
   show (begL N F x g.rules)[bs+j]?=_
   rw [hsp,List.append_assoc,List.getElem?_append_right (by omega),List.getElem?_append_left (by omega),hbs,show (begL N F x (g.rules.take i)).length+j - (begL N F x (g.rules.take i)).length=j by omega]
   exact he
  rw [<- hbs] at z1
  simp -implicitDefEqProofs
  refine AWp.till (S:=B1) ⟨0,st⟩ (fun s=>R.parts.length - s.i) [0,2,3,4,5,12,13,14,29,30] (fun s=>[(31,i64 (s.i:Int))]) (fun s=>B s.st)
   (fun s=>s.i <= R.parts.length /\ P (bs+s.i) s.st /\ ∀ q ∈ R.parts.take s.i,q.sort ≠ emp /\ q.sort ∈ N) mixed ⟨by simp,by simpa using z1,by simp⟩ (aI (by simp [dslot])) rfl ?_
  rintro ⟨j,st1⟩ ⟨y0,y1,y2⟩
  simp only at y0 y1 y2
  have hpre:=begP_pre y2
  have htl:((R.parts.take j).map fun q:Pt=>(true,q.sort)).length=j:=by simp; omega
  by_cases hj:j < R.parts.length
  case neg =>
   have hltj:¬ (j:Int) < R.parts.length:=by omega
   have hjj:j=R.parts.length:=by omega
   simp -implicitDefEqProofs [lp1_40,hltj,wi]
   refine ⟨⟨i+1,st1⟩,by simp; omega,⟨by simp; omega,?_⟩,aI (by simp [dslot]),rfl⟩
   simp only
   rw [hnext,List.length_append,<- hbs,hpre,List.length_append,htl,List.drop_of_length_le (by omega)]
   simpa [begP] using y1
  obtain ⟨p,hpj⟩:∃ p,R.parts[j]?=some p:=⟨R.parts[j],by simp [hj]⟩
  have hltj:(j:Int) < R.parts.length:=by omega
  have hnej:R.parts ≠ []:=by intro e; rw [e] at hj; simp at hj
  have hpl:=hps R hRm
  have wj:IntKind.i64.wrap ((j:Int)+1)=(j:Int)+1:=IntWalk.i64_in _ (by omega)
  have hdrop:R.parts.drop j=p :: R.parts.drop (j+1):=by
   have:=(List.getElem?_eq_some_iff.1 hpj).2
   rw [<- this,List.getElem_cons_drop]
  obtain ⟨m1,m2,m3,m4⟩:=hNT st1
  by_cases hs:p.sort=emp
  .have hev:(begP N R.parts)[j]?=some (false,p.sym):=by
    rw [hpre,List.getElem?_append_right (by omega),htl,hdrop]
    simp [begP,hs]
   have hfin:=hn _ _ _ (hget _ _ hev) y1
   have hlen:(begP N R.parts).length=j+1:=by
    rw [hpre,List.length_append,htl,hdrop]
    simp [begP,hs]
   simp -implicitDefEqProofs [lp1_40,hltj,hnej,hpj,encP,hs,emp,m1,metOf_ins,m2,wi]
   refine ⟨⟨i+1,⟨st1.S,insU p.sym st1.u⟩⟩,by simp; omega,⟨by simp; omega,?_⟩,aI (by simp [dslot]),rfl⟩
   simp only
   rw [hnext,List.length_append,<- hbs,hlen]
   exact hfin
  have hs':¬ p.sort=(⟨#[]⟩:ByteArray):=hs
  have hev:(begP N R.parts)[j]?=some (true,p.sort):=by
   rw [hpre,List.getElem?_append_right (by omega),htl,hdrop]
   simp [begP,hs]
  have hl0:isLoop (B st1) o=true:=by have:=hloop st1 []; rwa [List.append_nil] at this
  have hyy:=hy _ _ st1 [] (hget _ _ hev) y1
  simp only [List.append_nil] at hyy
  simp -implicitDefEqProofs [lp1_40,hltj,hnej,hpj,encP,hs',hl0]
  refine yieldk (by simpa [sv] using hyy) ?_
  rintro e2 h2 ⟨rfl,st2,hz2,rfl⟩
  obtain ⟨k1,k2,k3,k4⟩:=hNT st2
  by_cases hN:p.sort ∈ N
  .simp -implicitDefEqProofs [k3,hN,wj]
   refine ⟨⟨j+1,st2⟩,by simp; omega,⟨by simp; omega,by simpa [Nat.add_assoc] using hz2,fun q hq=>?_⟩,aI (by simp [dslot]),rfl⟩
   rw [List.take_add_one,hpj] at hq
   rcases List.mem_append.1 hq with hq | hq
   .exact y2 q hq
   .simp at hq; subst hq; exact ⟨hs,hN⟩
  .have hlen:(begP N R.parts).length=j+1:=by
    rw [hpre,List.length_append,htl,hdrop]
    simp [begP,hs,hN]
   simp -implicitDefEqProofs [k3,hN,wi]
   refine ⟨⟨i+1,st2⟩,by simp; omega,⟨by simp; omega,?_⟩,aI (by simp [dslot]),rfl⟩
   simp only
   rw [hnext,List.length_append,<- hbs,hlen]
   simpa [Nat.add_assoc] using hz2
end Go.Apx
end
section
namespace Go.Apx
open Go.Proofs
set_option maxRecDepth 4000
theorem first2_c (g:Gr) (x:ByteArray) (u v:AV) (nl:Nat) {h:AHeap}:AEx PP Gl 39 [.sc (.string x),.ip (aM g),.ip u,.ip v,.ip (.mp nl)] h (.ret (.fn (.func 40) [] [.ip (aM g),.ip (sv x),.ip u,.ip v,.ip (.mp nl)])) h:=by
 refine enter_39 (by simp) ?_
 simp -implicitDefEqProofs [code_39,res_39,ann_39,aM]
 exact bx (v:=.fn (.func 40) [] [.ip (.agg [.sl 1 (g.sorts.map sv) g.sc,.sl 4 (g.rules.map ab) g.rc]),.ip (.sc (.string x)),.ip u,.ip v,.ip (.mp nl)]) (by simp [deferred,dslot]) (by simp [aN,aK]) ⟨rfl,rfl⟩
def symsG (g:Gr):List ByteArray:=g.rules.flatMap fun R=>R.parts.map Pt.sym
theorem symsG_len {g:Gr} (hr:g.rules.length <= 1000) (hp:∀ R ∈ g.rules,R.parts.length <= 1000):(symsG g).length <= 1000000:=by
 have:∀ l:List Rl,(∀ R ∈ l,R.parts.length <= 1000) -> (l.flatMap fun R=>R.parts.map Pt.sym).length <= 1000 * l.length:=by
  intro l hl
  induction l with
  | nil=>simp
  | cons R l ih =>
   have h1:=ih fun q hq=>hl q (by simp [hq])
   have h2:=hl R (by simp)
   simp only [List.flatMap_cons,List.length_append,List.length_map,List.length_cons]
   omega
 have:=this g.rules hp
 unfold symsG
 omega
theorem begE_note {g:Gr} {N F:List ByteArray} {z y:ByteArray} (h:(false,y) ∈ begE g N F z):y ∈ symsG g:=by
 obtain ⟨R,hR,h2⟩:=List.mem_flatMap.1 h
 refine List.mem_flatMap.2 ⟨R,hR,?_⟩
 unfold begR at h2
 split at h2
 .have key:∀ l:List Pt,(false,y) ∈ begP N l -> y ∈ l.map Pt.sym:=by
   intro l
   induction l with
   | nil=>intro h; simp [begP] at h
   | cons p r ih =>
    intro h
    unfold begP at h
    split at h
    .simp at h; simp [h]
    .rcases List.mem_cons.1 h with h | h
     .cases h
     .split at h
      .simp only [List.map_cons,List.mem_cons]; exact .inr (ih h)
      .simp at h
  exact key _ h2
 .simp at h2
theorem begE_mem {g:Gr} {N F:List ByteArray} (hin:bA g) {z y:ByteArray} (h:(true,y) ∈ begE g N F z):y ∈ g.sorts:=by
 obtain ⟨R,hR,h2⟩:=List.mem_flatMap.1 h
 unfold begR at h2
 split at h2
 .have key:∀ l:List Pt,(∀ p ∈ l,p.sort ≠ emp -> bU g.sorts p.sort=true) -> (true,y) ∈ begP N l -> y ∈ g.sorts:=by
   intro l
   induction l with
   | nil=>intro _ h; simp [begP] at h
   | cons p r ih =>
    intro hl h
    unfold begP at h
    split at h
    .simp at h
    .rename_i hp
     rcases List.mem_cons.1 h with h | h
     .cases h; exact has_mem (hl p (by simp) hp)
     .split at h
      .exact ih (fun q hq=>hl q (by simp [hq])) h
      .simp at h
  exact key _ (hin R hR).2 h2
 .simp at h2
def FirstR (g:Gr) (s:ByteArray) (h:AHeap) (r:AEnd) (h':AHeap):Prop:=h'=h /\ ((aU g s ≠ 0 /\ r=.ret (.tup [.sl 0 [] .nil,i64 (aU g s)])) \/
 (aU g s=0 /\ ∃ N F b,GrowS g noP N /\ GrowS g (fun _=>true) F /\ CloS (begE g N F) s true [] b /\ r=.ret (.tup [aW 1 ((srtS b.u).map sv),i64 0])))
set_option maxHeartbeats 1000000 in
theorem First_c (g:Gr) (s:ByteArray) {h:AHeap} (hin:aO g=0 -> bA g) (hs:g.sorts.length <= 2 ^ 31) (hr1:g.rules.length <= 1000) (hp1:∀ R ∈ g.rules,R.parts.length <= 1000) (hc:AEx PP Gl 23 [aM g] h (.ret (i64 (aO g))) h) :
  ACalls PP Gl 11 [aM g,.sc (.string s)] h (FirstR g s h):=by
 have hr:g.rules.length <= 2 ^ 31:=by omega
 have hp:∀ R ∈ g.rules,R.parts.length <= 2 ^ 31:=fun R hR=>by have:=hp1 R hR; omega
 refine enter_11 (by simp) ?_
 simp -implicitDefEqProofs [code_11,res_11,ann_11,aM]
 refine aP (sorted_c g s hs hc) (by simp [aM]) rfl ?_
 by_cases h1:aU g s=0
 case neg =>
  simp -implicitDefEqProofs [h1]
  exact bx (v:=.tup [.sl 0 [] .nil,i64 (aU g s)]) (by simp [deferred,dslot]) (by simp [aN,aK]) ⟨rfl,.inl ⟨h1,rfl⟩⟩
 have hck:aO g=0:=by
  unfold aU at h1
  by_cases e:aO g=0
  .exact e
  .rw [if_pos e] at h1; exact (e h1).elim
 simp -implicitDefEqProofs [h1]
 refine be (nullable_c g hr hp) (by simp [aM]) rfl ?_
 rintro r h' ⟨N,hN,rfl,rfl⟩
 simp -implicitDefEqProofs
 refine be (productive_c g hr hp) (by simp [aM]) rfl ?_
 rintro r h' ⟨F,hF,rfl,rfl⟩
 simp -implicitDefEqProofs
 obtain ⟨hp0,hhp⟩:∃ hp0:List ByteArray -> AHeap,hp0=fun u=>h++[.amap (aS bv (aT N)),.amap (aS bv (aT F)),.amap (aS bv (aT u))]:=⟨_,rfl⟩
 have hpl:∀ u,(hp0 u).length=h.length+3:=fun u=>by rw [hhp]; simp
 have hpu:∀ u (J:AHeap),(hp0 u++J)[h.length+2]?=some (.amap (aS bv (aT u))):=fun u J=>by
  rw [List.getElem?_append_left (by rw [hpl]; omega),hhp]; simp
 have hpN:∀ u (J:AHeap),(hp0 u++J)[h.length]?=some (.amap (aS bv (aT N))):=fun u J=>by
  rw [List.getElem?_append_left (by rw [hpl]; omega),hhp]; simp
 have hpF:∀ u (J:AHeap),(hp0 u++J)[h.length+1]?=some (.amap (aS bv (aT F))):=fun u J=>by
  rw [List.getElem?_append_left (by rw [hpl]; omega),hhp]; simp
 have hps:∀ u (J:AHeap) u',(hp0 u++J).set (h.length+2) (.amap (aS bv (aT u')))=hp0 u'++J:=fun u J u'=>by
  rw [List.set_append_left _ _ (by rw [hpl]; omega),hhp]; simp
 have hpq:∀ u v,Cq (hp0 u) (hp0 v):=fun u v i o ho=>by
  by_cases hi:i < h.length+2
  .left
   rw [hhp] at ho ⊢
   simp only at ho ⊢
   rw [show ([.amap (aS bv (aT N)),.amap (aS bv (aT F)),.amap (aS bv (aT v))]:AHeap)=[.amap (aS bv (aT N)),.amap (aS bv (aT F))]++[.amap (aS bv (aT v))] from rfl,<- List.append_assoc,List.getElem?_append_left (by simp; omega)] at ho
   rw [show ([.amap (aS bv (aT N)),.amap (aS bv (aT F)),.amap (aS bv (aT u))]:AHeap)=[.amap (aS bv (aT N)),.amap (aS bv (aT F))]++[.amap (aS bv (aT u))] from rfl,<- List.append_assoc,List.getElem?_append_left (by simp; omega)]
   exact ho
  .have hlt:=ar ho
   rw [hpl] at hlt
   have:i=h.length+2:=by omega
   subst this
   have h2:=hpu v []
   rw [List.append_nil] at h2
   rw [h2] at ho; cases ho
   exact .inr fun n=>met_inb _ n
 have hcloc:=closure_c (NoteH h.length (h.length+1) (h.length+2) N F) (begE g N F) g.sorts 39 [] [.ip (aM g),.ip (.fn (.func 38) [] [.ip (.mp (h.length+1))]),.ip (.mp (h.length+2)),.ip (.mp h.length)] hp0 (h.length+3) hpl hpq
  (fun st=>⟨hpu _ _,fun u'=>hps _ _ u',hpN _ _,hpF _ _⟩) (fun B J hB=>NoteH.app B J hB) (fun z y hy=>begE_mem (hin hck) hy)
  (fun x=>⟨_,_,_,fun H=>by simpa [sv] using first2_c g x (.fn (.func 38) [] [.ip (.mp (h.length+1))]) (.mp (h.length+2)) h.length,begins1_c g N F h.length (h.length+1) (h.length+2) x hr hp⟩) s true []
 refine be hcloc (by simp [aM,sv]) (by rw [hhp]; simp [aT,aS]) ?_
 rintro r h' ⟨rfl,b,hb,rfl⟩
 simp -implicitDefEqProofs
 refine aP (mkeys_c _) rfl rfl ?_
 simp -implicitDefEqProofs
 refine aP (sortedKeys_c b.u (h.length+2) (hpu _ _) ?_) rfl rfl ?_
 .have h1:=nodup_le (hb.und (by simp)) (fun y hy=>by
   obtain ⟨z,_,hz⟩:=hb.usnd y hy (by simp)
   exact begE_note hz)
  have h2:=symsG_len hr1 hp1
  omega
 simp -implicitDefEqProofs
 have hst:=strip_grown_sv (srtS b.u)
 refine retCut (v:=.tup [aW 1 ((srtS b.u).map sv),i64 0]) h.length (by simp [deferred,dslot]) (by simp [aN,aK]) (Nat.le_refl _) (by simp [hpl]; omega) ?_ ?_ ?_
 .simp only [AV.strip,aj,hst,AV.inb,inbL,inb_grown_sv]; rfl
 .rw [hhp]; simp only [List.append_assoc]; exact Cl.app h _
 .simp only [AV.strip,aj,hst]
  refine ⟨?_,.inr ⟨h1,N,F,b,hN,hF,hb,rfl⟩⟩
  rw [hhp]; simp
end Go.Apx
end
