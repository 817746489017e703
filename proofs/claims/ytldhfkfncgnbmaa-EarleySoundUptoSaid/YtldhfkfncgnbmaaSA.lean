/- Plain law: a forest as it is packed is sound. -/
import Derived.Test.YtldhfkfncgnbmaaPE
import Derived.Test.YtldhfkfncgnbmaaTA
import Derived.Test.YtldhfkfncgnbmaaTB
import Derived.Test.YtldhfkfncgnbmaaEB
import Derived.Test.YtldhfkfncgnbmaaTC
set_option linter.unusedVariables false
set_option linter.unusedSimpArgs false
set_option linter.unnecessarySimpa false
section
namespace Go.Apx
open Go.Proofs
set_option maxRecDepth 4000
theorem nodup_flat {α β:Type} {l:List α} {f:α -> List β} (hl:l.Nodup) (hf:∀ a ∈ l,(f a).Nodup) (hd:∀ a ∈ l,∀ b ∈ l,∀ x,x ∈ f a -> x ∈ f b -> a=b):(l.flatMap f).Nodup:=by
 induction l with
 | nil=>simp
 | cons a l ih =>
  rw [List.flatMap_cons,List.nodup_append]
  obtain ⟨h1,h2⟩:=List.nodup_cons.1 hl
  refine ⟨hf a (by simp),ih h2 (fun b hb=>hf b (by simp [hb])) (fun b hb c hc=>hd b (by simp [hb]) c (by simp [hc])),fun x hx y hy=>?_⟩
  rintro rfl
  obtain ⟨b,hb,hy⟩:=List.mem_flatMap.1 hy
  have:=hd a (by simp) b (by simp [hb]) x hx hy
  subst this
  exact h1 hb
theorem nodup_map' {α β:Type} {l:List α} {f:α -> β} (hl:l.Nodup) (hf:∀ a ∈ l,∀ b ∈ l,f a=f b -> a=b):(l.map f).Nodup:=by
 induction l with
 | nil=>simp
 | cons a l ih =>
  obtain ⟨h1,h2⟩:=List.nodup_cons.1 hl
  rw [List.map_cons,List.nodup_cons]
  refine ⟨fun hm=>?_,ih h2 (fun b hb c hc=>hf b (by simp [hb]) c (by simp [hc]))⟩
  obtain ⟨b,hb,he⟩:=List.mem_map.1 hm
  have:=hf b (by simp [hb]) a (by simp) he
  subst this
  exact h1 hb
theorem nodup_of_map {α β:Type} {l:List α} {f:α -> β} (h:(l.map f).Nodup):l.Nodup:=by
 induction l with
 | nil=>simp
 | cons a l ih =>
  rw [List.map_cons,List.nodup_cons] at h
  rw [List.nodup_cons]
  exact ⟨fun hm=>h.1 (List.mem_map.2 ⟨a,hm,rfl⟩),ih h.2⟩
theorem numSp_spec (L:List Sp) (x:Sp):∃ M,(numSp L x).1=L++M /\ (∀ y ∈ M,y=x) /\ (L++M)[(numSp L x).2]?=some x /\ (L.Nodup -> (L++M).Nodup):=by
 unfold numSp
 cases h:L.findIdx? (fun y=>decide (y=x)) with
 | some k =>
  obtain ⟨hk,h1,_⟩:=List.findIdx?_eq_some_iff_getElem.1 h
  refine ⟨[],by simp,by simp,?_,by simp⟩
  simp at h1
  simp [hk,h1]
 | none =>
  refine ⟨[x],rfl,by simp,by simp,fun hn=>?_⟩
  rw [List.findIdx?_eq_none_iff] at h
  rw [List.nodup_append]
  refine ⟨hn,by simp,fun a ha b hb=>?_⟩
  simp at hb; subst hb
  rintro rfl
  have:=h a ha
  simp at this
theorem getSp_app {L M:List Sp} {ks:List Nat} {c:List Sp} (h:ks.map (fun k=>L[k]?)=c.map some):ks.map (fun k=>(L++M)[k]?)=c.map some:=by
 rw [<- h]
 refine List.map_congr_left fun k hk=>?_
 have:L[k]? ∈ c.map some:=by rw [<- h]; exact List.mem_map.2 ⟨k,hk,rfl⟩
 obtain ⟨y,_,hy⟩:=List.mem_map.1 this
 rw [List.getElem?_append_left (List.getElem?_eq_some_iff.1 hy.symm).1]
theorem numAll_spec:∀ (w L:List Sp) (ns:List Nat),∃ M ns1,w.foldl (fun st x=>((numSp st.1 x).1,st.2++[(numSp st.1 x).2])) (L,ns)=(L++M,ns++ns1) /\ (∀ y ∈ M,y ∈ w) /\ ns1.map (fun k=>(L++M)[k]?)=w.map some /\ (L.Nodup -> (L++M).Nodup)
 | [],L,ns=>⟨[],[],by simp,by simp,by simp,by simp⟩
 | x :: w,L,ns=>by
  obtain ⟨M1,h1,h2,h3,h4⟩:=numSp_spec L x
  obtain ⟨M2,ns2,k1,k2,k3,k4⟩:=numAll_spec w (L++M1) (ns++[(numSp L x).2])
  refine ⟨M1++M2,(numSp L x).2 :: ns2,?_,fun y hy=>?_,?_,fun hn=>?_⟩
  .rw [List.foldl_cons]
   simp only [h1]
   rw [k1]; simp
  .rcases List.mem_append.1 hy with hy | hy
   .simp [h2 y hy]
   .simp [k2 y hy]
  .rw [<- List.append_assoc,List.map_cons,k3,List.map_cons,List.getElem?_append_left (List.getElem?_eq_some_iff.1 h3).1,h3]
  .rw [<- List.append_assoc]; exact k4 (h4 hn)
def lookW (L:List Sp) (w:Nat × List Nat):Nat × List (Option Sp):=(w.1,w.2.map fun k=>L[k]?)
def somes (c:Nat × List Sp):Nat × List (Option Sp):=(c.1,c.2.map some)
theorem lookW_app {L M:List Sp} {ws:List (Nat × List Nat)} {cs:List (Nat × List Sp)} (h:ws.map (lookW L)=cs.map somes):ws.map (lookW (L++M))=cs.map somes:=by
 rw [<- h]
 refine List.map_congr_left fun w hw=>?_
 have:lookW L w ∈ cs.map somes:=by rw [<- h]; exact List.mem_map.2 ⟨w,hw,rfl⟩
 obtain ⟨c,_,hc⟩:=List.mem_map.1 this
 have h2:w.2.map (fun k=>L[k]?)=c.2.map some:=(congrArg Prod.snd hc).symm
 unfold lookW
 rw [getSp_app h2,h2]
theorem runW_spec:∀ (cs:List (Nat × List Sp)) (L:List Sp) (ws:List (Nat × List Nat)),∃ M ws1,runW wayP (L,ws) cs=(L++M,ws++ws1) /\ (∀ y ∈ M,∃ c ∈ cs,y ∈ c.2) /\ ws1.map (lookW (L++M))=cs.map somes /\ (L.Nodup -> (L++M).Nodup)
 | [],L,ws=>⟨[],[],by simp [runW],by simp,by simp,by simp⟩
 | c :: cs,L,ws=>by
  obtain ⟨M1,n1,h1,h2,h3,h4⟩:=numAll_spec c.2 L []
  have hw:wayP L c=(L++M1,(c.1,n1)):=by simp [wayP,numAll,h1]
  obtain ⟨M2,w2,k1,k2,k3,k4⟩:=runW_spec cs (L++M1) (ws++[(c.1,n1)])
  refine ⟨M1++M2,(c.1,n1) :: w2,?_,fun y hy=>?_,?_,fun hn=>?_⟩
  .show runW wayP ((wayP L c).1,ws++[(wayP L c).2]) cs=_
   rw [hw,k1]; simp
  .rcases List.mem_append.1 hy with hy | hy
   .exact ⟨c,by simp,h2 y hy⟩
   .obtain ⟨c',hc',hy'⟩:=k2 y hy
    exact ⟨c',by simp [hc'],hy'⟩
  .rw [<- List.append_assoc,List.map_cons,k3,List.map_cons]
   congr 1
   simp only [lookW,somes]
   rw [getSp_app h3]
  .rw [<- List.append_assoc]; exact k4 (h4 hn)
structure PkS (g:Gr) (tx:List ByteArray) (D:List Sp) (P:Sp -> Prop) (s:Sp) (L:List Sp) (F:List (List (Nat × List Nat))):Prop where
 hd:L[0]?=some s
 nd:L.Nodup
 le:F.length <= L.length
 lk:∀ (i:Nat) (x:Sp) (ws:List (Nat × List Nat)),L[i]?=some x -> F[i]?=some ws -> ws.map (lookW L)=(candsP g tx D x).map somes
 md:∀ y ∈ L,P y
theorem packP_spec {g:Gr} {tx:List ByteArray} {D:List Sp} {P:Sp -> Prop} {s:Sp} (hs:P s) (hc:∀ x,P x -> ∀ c ∈ candsP g tx D x,∀ y ∈ c.2,P y):∀ (n:Nat) (L:List Sp) (F:List (List (Nat × List Nat))),packP g tx D s n=some (L,F) -> PkS g tx D P s L F
 | 0,L,F,h=>by
  simp only [packP,packSt,Option.some.injEq,Prod.mk.injEq] at h
  obtain ⟨rfl,rfl⟩:=h
  exact ⟨rfl,by simp,by simp,fun i x ws _ hw=>by simp at hw,fun y hy=>by simp at hy; subst hy; exact hs⟩
 | n+1,L,F,h=>by
  have e:packP g tx D s (n+1)=(packP g tx D s n).bind (packStep (candsP g tx D) fun _=>wayP):=rfl
  rw [e] at h
  cases hq:packP g tx D s n with
  | none=>rw [hq] at h; cases h
  | some p =>
   obtain ⟨L1,F1⟩:=p
   have ih:=packP_spec hs hc n L1 F1 hq
   rw [hq] at h
   simp only [Option.bind_some,packStep] at h
   cases hl:L1[F1.length]? with
   | none =>
    rw [hl] at h
    simp only [Option.some.injEq,Prod.mk.injEq] at h
    obtain ⟨rfl,rfl⟩:=h
    exact ih
   | some s1 =>
    rw [hl] at h
    obtain ⟨M,ws1,r1,r2,r3,r4⟩:=runW_spec (candsP g tx D s1) L1 []
    simp only [r1,List.nil_append] at h
    split at h
    .cases h
    .simp only [Option.some.injEq,Prod.mk.injEq] at h
     obtain ⟨rfl,rfl⟩:=h
     have hlt:=(List.getElem?_eq_some_iff.1 hl).1
     refine ⟨?_,r4 ih.nd,by simp; omega,fun i x ws hx hw=>?_,fun y hy=>?_⟩
     .rw [List.getElem?_append_left (List.getElem?_eq_some_iff.1 ih.hd).1]; exact ih.hd
     .have hil:=(List.getElem?_eq_some_iff.1 hw).1
      simp at hil
      rw [List.getElem?_append_left (by omega)] at hx
      by_cases hi:i < F1.length
      .rw [List.getElem?_append_left hi] at hw
       exact lookW_app (ih.lk i x ws hx hw)
      .have:i=F1.length:=by omega
       subst this
       rw [List.getElem?_append_right (by omega)] at hw
       simp at hw; subst hw
       rw [hl] at hx; cases hx
       exact r3
     .rcases List.mem_append.1 hy with hy | hy
      .exact ih.md y hy
      .obtain ⟨c,hc1,hc2⟩:=r2 y hy
       exact hc s1 (ih.md s1 (List.mem_of_getElem? hl)) c hc1 y hc2
theorem startP_cons (i e:Nat) (v:List Nat) (q:Nat):startP i (e :: v) (q+1)=startP e v q:=by
 unfold startP
 simp only [Nat.add_one_ne_zero,if_false,Nat.add_sub_cancel]
 cases q with
 | zero=>simp
 | succ q=>simp
theorem paths_lie (lie:Pt -> Nat -> Nat -> Bool):∀ (ps:List Pt) (i j:Nat) (w:List Nat),w ∈ pathsF lie ps i j -> ∀ (q:Nat) (p:Pt),ps[q]?=some p -> lie p (startP i w q) (w.getD q 0)=true
 | [],i,j,w,hw,q,p,hq=>by simp at hq
 | p0 :: ps,i,j,w,hw,q,p,hq=>by
  simp only [pathsF,List.mem_flatMap] at hw
  obtain ⟨e,he,hw⟩:=hw
  split at hw
  .rename_i hl
   obtain ⟨v,hv,rfl⟩:=List.mem_map.1 hw
   cases q with
   | zero=>simp at hq; subst hq; simpa [startP] using hl
   | succ q =>
    rw [startP_cons]
    simpa using paths_lie lie ps e j v hv q p (by simpa using hq)
  .cases hw
theorem paths_nodup (lie:Pt -> Nat -> Nat -> Bool):∀ (ps:List Pt) (i j:Nat),(pathsF lie ps i j).Nodup
 | [],i,j=>by
  simp only [pathsF]
  split <;> simp
 | p :: ps,i,j=>by
  simp only [pathsF]
  refine nodup_flat List.nodup_range' (fun e _=>?_) (fun e _ e' _ w hw hw'=>?_)
  .split
   .exact nodup_map' (paths_nodup lie ps e j) (fun a _ b _ h=>by simpa using h)
   .simp
  .split at hw
   .split at hw'
    .obtain ⟨v,_,rfl⟩:=List.mem_map.1 hw
     obtain ⟨v',_,h⟩:=List.mem_map.1 hw'
     simp at h; exact h.1.symm
    .cases hw'
   .cases hw
theorem paths_inj {tx:List ByteArray} {D:List Sp}:∀ (ps:List Pt) (i j j':Nat) (w w':List Nat),w ∈ pathsF (lieD tx D) ps i j -> w' ∈ pathsF (lieD tx D) ps i j' -> (∀ (q:Nat) (p:Pt),ps[q]?=some p -> p.sort ≠ emp -> w.getD q 0=w'.getD q 0) -> w=w'
 | [],i,j,j',w,w',hw,hw',_=>by
  simp only [pathsF] at hw hw'
  split at hw
  .split at hw'
   .simp at hw hw'; rw [hw,hw']
   .cases hw'
  .cases hw
 | p :: ps,i,j,j',w,w',hw,hw',h=>by
  simp only [pathsF,List.mem_flatMap] at hw hw'
  obtain ⟨e,_,hw⟩:=hw
  obtain ⟨e',_,hw'⟩:=hw'
  split at hw
  .rename_i hl
   split at hw'
   .rename_i hl'
    obtain ⟨v,hv,rfl⟩:=List.mem_map.1 hw
    obtain ⟨v',hv',rfl⟩:=List.mem_map.1 hw'
    have he:e=e':=by
     by_cases hs:p.sort=emp
     .simp [lieD,hs] at hl hl'
      omega
     .simpa using h 0 p rfl hs
    subst he
    rw [paths_inj ps e j j' v v' hv hv' (fun q p' hq hs=>by simpa using h (q+1) p' (by simpa using hq) hs)]
   .cases hw'
  .cases hw
theorem spans_at {ps:List Pt} {n i0 q a:Nat} {w:List Nat} {p:Pt} (hA:ArgsOk ps n) (hq:ps[q]?=some p) (hp:p.sort ≠ emp) (ha:p.arg=(a:Int)):(spansOf ps i0 n w)[a]?=some ⟨p.sort,startP i0 w q,w.getD q 0⟩:=by
 have:a < n:=by
  obtain ⟨a',h1,h2⟩:=hA.rng q p hq hp
  omega
 simp [spansOf,this,hA.pos hq hp ha,hq]
theorem candP_mem {g:Gr} {tx:List ByteArray} {D:List Sp} {s:Sp} {c:Nat × List Sp} (h:c ∈ candsP g tx D s):∃ (R:Rl) (w:List Nat),g.rules[c.1]?=some R /\ R.sort=s.s /\ g.us R=true /\ w ∈ pathsF (lieD tx D) R.parts s.i s.j /\ c.2=spansOf R.parts s.i (argsF R.parts) w:=by
 obtain ⟨r,hr,hx⟩:=List.mem_flatMap.1 h
 obtain ⟨R,hR,h1,h2⟩:=rulesTo_mem.1 hr
 unfold candP at hx
 rw [hR] at hx
 simp only at hx
 obtain ⟨w,hw,rfl⟩:=List.mem_map.1 hx
 exact ⟨R,w,hR,h1,h2,hw,rfl⟩
theorem cands_nodup {g:Gr} {tx:List ByteArray} {D:List Sp} (hA:∀ R ∈ g.rules,ArgsOk R.parts (argsF R.parts)) (s:Sp):(candsP g tx D s).Nodup:=by
 have hfst:∀ r,∀ c ∈ candP g tx D s r,c.1=r:=fun r c hc=>by
  unfold candP at hc
  cases hR:g.rules[r]? with
  | none=>rw [hR] at hc; cases hc
  | some R =>
   rw [hR] at hc
   obtain ⟨w,_,rfl⟩:=List.mem_map.1 hc
   rfl
 refine nodup_flat (List.nodup_range.sublist List.filter_sublist) (fun r _=>?_) (fun r _ r' _ c hc hc'=>?_)
 .unfold candP
  cases hR:g.rules[r]? with
  | none=>simp
  | some R =>
   have hAR:=hA R (List.mem_of_getElem? hR)
   refine nodup_map' (paths_nodup _ _ _ _) fun w hw w' hw' he=>?_
   refine paths_inj R.parts s.i s.j s.j w w' hw hw' fun q p hq hs=>?_
   obtain ⟨a,ha,_⟩:=hAR.rng q p hq hs
   have h1:=spans_at (i0:=s.i) (w:=w) hAR hq hs ha
   have h2:=spans_at (i0:=s.i) (w:=w') hAR hq hs ha
   have he2:spansOf R.parts s.i (argsF R.parts) w=spansOf R.parts s.i (argsF R.parts) w':=congrArg Prod.snd he
   rw [he2,h2] at h1
   simp only [Option.some.injEq,Sp.mk.injEq] at h1
   exact h1.2.2.symm
 .rw [<- hfst r c hc,<- hfst r' c hc']
section
variable {g:Gr} {tx:List ByteArray} {S:Nat -> Itm -> Prop} {D:List Sp}
def MetD (g:Gr) (tx:List ByteArray) (S:Nat -> Itm -> Prop) (D:List Sp) (x:Sp):Prop:=Met g tx S x /\ x ∈ D
theorem metD_cands (h:Closed g tx S (fun s i j=>(⟨s,i,j⟩:Sp) ∈ D)) (ha:∀ R ∈ g.rules,ArgsOk R.parts (argsF R.parts)) (x:Sp) (hx:MetD g tx S D x):∀ c ∈ candsP g tx D x,∀ y ∈ c.2,MetD g tx S D y:=by
 intro c hc y hy
 refine ⟨Met.cands h ha hx.1 c hc y hy,?_⟩
 obtain ⟨R,w,hR,h1,h2,hw,he⟩:=candP_mem hc
 have hA:=ha R (List.mem_of_getElem? hR)
 rw [he] at hy
 obtain ⟨a,han,rfl⟩:=List.mem_map.1 hy
 obtain ⟨q,p,hq,hp,hpa⟩:=hA.sur a (by simpa using han)
 have hl:=paths_lie _ _ _ _ _ hw q p hq
 simp only [lieD,if_neg hp,decide_eq_true_eq] at hl
 simpa [hA.pos hq hp hpa,hq] using hl
theorem cands_ne (h:Closed g tx S (fun s i j=>(⟨s,i,j⟩:Sp) ∈ D)) (x:Sp) (hx:MetD g tx S D x):candsP g tx D x ≠ []:=by
 obtain ⟨r,R,hR,he,hd⟩:=(h.right _ _ _ hx.2).1
 have hus:=h.us r R _ _ hR hd
 have hpx:=(h.parts R.parts x.i ⟨r,0,x.i⟩ R (hx.1.1 r R hR ⟨he,hus⟩) hR rfl x.j).2 (PX_der.2 hd)
 have hne:pathsF (lieD tx D) R.parts x.i x.j ≠ []:=fun e=>(paths_px (fun s i j hs=>(h.right _ _ _ hs).1.le.1)).1 e hpx
 obtain ⟨w,hw⟩:=List.exists_mem_of_ne_nil _ hne
 refine List.ne_nil_of_mem (a:=(r,spansOf R.parts x.i (argsF R.parts) w)) ?_
 refine List.mem_flatMap.2 ⟨r,rulesTo_mem.2 ⟨R,hR,he,hus⟩,?_⟩
 unfold candP
 rw [hR]
 exact List.mem_map.2 ⟨w,hw,rfl⟩
end
def foW (w:Nat × List Nat):FW:=⟨w.1,w.2.map (fun k:Nat=>(k:Int)),if w.2=[] then .nil else .any⟩
def foN (x:Sp × List (Nat × List Nat)):FN:=⟨x.1.s,x.1.i,x.1.j,x.2.map foW,if x.2=[] then .nil else .any⟩
def foF (ns:List (Sp × List (Nat × List Nat))):FO:=⟨ns.map foN,if ns=[] then .nil else .any⟩
theorem meet_path {f:FO} {tx:List ByteArray} {D:List Sp} {kids:List Int}:∀ (ps:List Pt) (i j:Nat) (w:List Nat),w ∈ pathsF (lieD tx D) ps i j -> j <= tx.length ->
  (∀ (q:Nat) (p:Pt),ps[q]?=some p -> p.sort ≠ emp -> ∃ k:Nat,kids[p.arg.toNat]?=some (k:Int) /\ ∃ nd,f.nodes[k]?=some nd /\ nd.sort=p.sort /\ nd.fr=((startP i w q:Nat):Int) /\ nd.to=((w.getD q 0:Nat):Int)) -> meetF f tx tx.length kids ps i=some (j:Int)
 | [],i,j,w,hw,hj,h=>by
  simp only [pathsF] at hw
  split at hw
  .rename_i e; simp [meetF,e]
  .cases hw
 | p :: ps,i,j,w,hw,hj,h=>by
  simp only [pathsF,List.mem_flatMap] at hw
  obtain ⟨e,he,hw⟩:=hw
  obtain ⟨m,hm,hem⟩:=List.mem_range'.1 he
  split at hw
  .rename_i hl
   obtain ⟨v,hv,rfl⟩:=List.mem_map.1 hw
   have h1:meet1 f tx tx.length kids p i=some (e:Int):=by
    unfold meet1
    by_cases hs:p.sort=emp
    .simp [lieD,hs] at hl
     have hil:=(List.getElem?_eq_some_iff.1 hl.2).1
     rw [if_pos hs,if_pos ⟨by omega,by rw [Int.toNat_natCast]; exact hl.2⟩,hl.1]
     rfl
    .obtain ⟨k,hk,nd,hn,a1,a2,a3⟩:=h 0 p rfl hs
     simp [startP] at a2 a3
     rw [if_neg hs,hk]
     simp only
     rw [if_neg (by omega),Int.toNat_natCast,hn]
     simp only
     rw [if_pos ⟨a1,a2,by omega,by omega⟩,a3]
   rw [meetF,h1]
   exact meet_path ps e j v hv hj (fun q p' hq hs=>by
    have:=h (q+1) p' (by simpa using hq) hs
    rw [startP_cons] at this
    simpa using this)
  .cases hw
end Go.Apx
end
section
namespace Go.Apx
open Go.Proofs
set_option maxRecDepth 4000
theorem fo_at (ns:List (Sp × List (Nat × List Nat))) (k:Nat):(foF ns).nodes[k]?=(ns[k]?).map foN:=by simp [foF]
theorem wn_fo (w:Nat × List Nat):wnF (foW w)=((w.1:Int),w.2):=by
 obtain ⟨r,ks⟩:=w
 simp only [wnF,foW,List.map_map]
 congr 1
 induction ks with
 | nil=>rfl
 | cons k ks ih=>rw [List.map_cons,ih]; rfl
theorem map_get {α β γ:Type} {f:α -> γ} {g:β -> γ} {l:List α} {m:List β} (h:l.map f=m.map g) {i:Nat} {y:β} (hy:m[i]?=some y):∃ x,l[i]?=some x /\ f x=g y:=by
 have h1:(l.map f)[i]?=some (g y):=by rw [h]; simp [hy]
 simpa using h1
section
variable {g:Gr} {tx:List ByteArray} {S:Nat -> Itm -> Prop} {D:List Sp} {s:Sp} {ns:List (Sp × List (Nat × List Nat))}
theorem pack_sound (hck:checkF g=0) (hcl:Closed g tx S (fun s i j=>(⟨s,i,j⟩:Sp) ∈ D)) (hp:PkS g tx D (MetD g tx S D) s (ns.map (·.1)) (ns.map (·.2))) {x:Sp × List (Nat × List Nat)} (hx:x ∈ ns) {w:Nat × List Nat} (hw:w ∈ x.2):soundF g tx (foF ns) tx.length (foN x) (foW w)=true:=by
 obtain ⟨i,hi⟩:=List.getElem?_of_mem hx
 have hxl:(ns.map (·.1))[i]?=some x.1:=by simp [hi]
 have hxf:(ns.map (·.2))[i]?=some x.2:=by simp [hi]
 have hlk:=hp.lk i x.1 x.2 hxl hxf
 have hmx:=hp.md x.1 (List.mem_of_getElem? hxl)
 have hm:lookW (ns.map (·.1)) w ∈ (candsP g tx D x.1).map somes:=by rw [<- hlk]; exact List.mem_map.2 ⟨w,hw,rfl⟩
 obtain ⟨c,hc,hcw⟩:=List.mem_map.1 hm
 obtain ⟨R,p,hR,h1,h2,hpt,hsp⟩:=candP_mem hc
 have hw1:c.1=w.1:=congrArg Prod.fst hcw
 have hw2:c.2.map some=w.2.map fun k=>(ns.map (·.1))[k]?:=congrArg Prod.snd hcw
 have hA:ArgsOk R.parts (argsF R.parts):=once_args (check_rule hck R (List.mem_of_getElem? hR)).2.2
 have hlen:argsF R.parts=w.2.length:=by
  have:=congrArg List.length hw2
  simp [hsp,spansOf] at this
  exact this
 have hno:ruleNo g (foW w).rule=some R:=by
  unfold ruleNo foW
  simp only
  rw [if_neg (by omega),Int.toNat_natCast,<- hw1]; exact hR
 unfold soundF
 rw [hno]
 simp only [Bool.and_eq_true,decide_eq_true_eq]
 refine ⟨h1,by simp [foW,hlen],?_⟩
 refine meet_path R.parts x.1.i x.1.j p hpt hmx.1.2.2 fun q pt hq hs=>?_
 obtain ⟨a,ha,han⟩:=hA.rng q pt hq hs
 have hsa:=spans_at (i0:=x.1.i) (w:=p) hA hq hs ha
 rw [<- hsp] at hsa
 obtain ⟨k,hk,hky⟩:=map_get hw2.symm hsa
 have hz:∃ z,ns[k]?=some z /\ z.1=⟨pt.sort,startP x.1.i p q,p.getD q 0⟩:=by simpa using hky
 obtain ⟨z,hz,hz1⟩:=hz
 refine ⟨k,by simp [foW,ha,hk],foN z,by rw [fo_at,hz]; rfl,?_,?_,?_⟩
 .simp [foN,hz1]
 .simp [foN,hz1]
 .simp [foN,hz1]
theorem pack_check (hck:checkF g=0) (hcl:Closed g tx S (fun s i j=>(⟨s,i,j⟩:Sp) ∈ D)) (hp:PkS g tx D (MetD g tx S D) s (ns.map (·.1)) (ns.map (·.2))) (hl:1 <= ns.length) (hu:ns.length <= 4000):fcheckF g tx (foF ns)=0:=by
 unfold fcheckF
 have hfl:(foF ns).nodes.length=ns.length:=by simp [foF]
 rw [if_pos hck,if_neg (by omega),if_pos]
 constructor
 .rw [List.all_eq_true]
  intro nd hnd
  obtain ⟨x,hx,rfl⟩:=List.mem_map.1 hnd
  obtain ⟨i,hi⟩:=List.getElem?_of_mem hx
  have hxl:(ns.map (·.1))[i]?=some x.1:=by simp [hi]
  have hxf:(ns.map (·.2))[i]?=some x.2:=by simp [hi]
  have hlk:=hp.lk i x.1 x.2 hxl hxf
  have hmx:=hp.md x.1 (List.mem_of_getElem? hxl)
  have hle:=(hcl.right _ _ _ hmx.2).1.le.1
  have hj:=hmx.1.2.2
  unfold nodeOkF
  simp only [Bool.and_eq_true,decide_eq_true_eq,List.all_eq_true]
  refine ⟨⟨by simp [foN],by simpa [foN] using hle,by simpa [foN] using hj,?_⟩,?_⟩
  .simp only [foN,ne_eq,List.map_eq_nil_iff]
   intro e
   rw [e] at hlk
   exact cands_ne hcl x.1 hmx (List.map_eq_nil_iff.1 hlk.symm)
  .intro w hw
   obtain ⟨w0,hw0,rfl⟩:=List.mem_map.1 hw
   exact pack_sound hck hcl hp hx hw0
 .have:(foF ns).nodes.map spanI=(ns.map (·.1)).map fun y=>(⟨y.s,y.i,y.j⟩:SpI):=by simp [foF,List.map_map,spanI,foN]
  rw [this]
  refine nodup_map' hp.nd fun a _ b _ he=>?_
  obtain ⟨a1,a2,a3⟩:=a
  obtain ⟨b1,b2,b3⟩:=b
  simp at he ⊢
  exact ⟨he.1,by omega,by omega⟩
theorem pack_ways (hck:checkF g=0) (hp:PkS g tx D (MetD g tx S D) s (ns.map (·.1)) (ns.map (·.2))):∀ nd ∈ (foF ns).nodes,(nd.ways.map wnF).Nodup:=by
 intro nd hnd
 obtain ⟨x,hx,rfl⟩:=List.mem_map.1 hnd
 obtain ⟨i,hi⟩:=List.getElem?_of_mem hx
 have hlk:=hp.lk i x.1 x.2 (by simp [hi]) (by simp [hi])
 have hA:∀ R ∈ g.rules,ArgsOk R.parts (argsF R.parts):=fun R hR=>once_args (check_rule hck R hR).2.2
 have hx2:x.2.Nodup:=by
  refine nodup_of_map (f:=lookW (ns.map (·.1))) ?_
  rw [hlk]
  refine nodup_map' (cands_nodup hA x.1) fun a _ b _ he=>?_
  obtain ⟨a1,a2⟩:=a
  obtain ⟨b1,b2⟩:=b
  simp only [somes,Prod.mk.injEq] at he
  rw [he.1,List.map_inj_right (fun _ _ h=>Option.some.inj h) |>.1 he.2]
 have:(foN x).ways.map wnF=x.2.map fun w=>((w.1:Int),w.2):=by
  simp only [foN,List.map_map]
  exact List.map_congr_left fun w _=>wn_fo w
 rw [this]
 refine nodup_map' hx2 fun a _ b _ he=>?_
 obtain ⟨a1,a2⟩:=a
 obtain ⟨b1,b2⟩:=b
 simp at he ⊢
 exact ⟨by omega,he.2⟩
end
structure FoR (g:Gr) (tx:List ByteArray) (f:FO):Prop where
 ck:fcheckF g tx f=0
 wn:∀ n ∈ f.nodes,(n.ways.map wnF).Nodup
theorem parse_for {g:Gr} {s:ByteArray} {tx:List ByteArray} {S:Nat -> Itm -> Prop} {D:List Sp} {n:Nat} {ns:List (Sp × List (Nat × List Nat))} (hck:checkF g=0) (hcl:Closed g tx S (fun s i j=>(⟨s,i,j⟩:Sp) ∈ D)) (hb:Begun g S s 0) (hd:(⟨s,0,tx.length⟩:Sp) ∈ D) (hpr:∀ R ∈ g.rules,R.parts.length <= 10)
  (h:packP g tx D ⟨s,0,tx.length⟩ n=some (ns.map (·.1),ns.map (·.2))):FoR g tx (foF ns) /\ ∃ nd,(foF ns).nodes[0]?=some nd /\ nd.sort=s /\ nd.fr=0 /\ nd.to=(tx.length:Int):=by
 have hA:∀ R ∈ g.rules,ArgsOk R.parts (argsF R.parts):=fun R hR=>once_args (check_rule hck R hR).2.2
 have hp:=packP_spec (P:=MetD g tx S D) ⟨⟨hb,Nat.zero_le _,Nat.le_refl _⟩,hd⟩ (metD_cands hcl hA) n _ _ h
 obtain ⟨b1,b2,_⟩:=pack_bounds hpr n _ _ h
 simp at b2
 have hne:1 <= ns.length:=by
  cases ns with
  | nil=>exact (b1 rfl).elim
  | cons a l=>simp
 refine ⟨⟨pack_check hck hcl hp hne b2,pack_ways hck hp⟩,?_⟩
 have h0:=hp.hd
 rw [List.getElem?_map,Option.map_eq_some_iff] at h0
 obtain ⟨x,hx,he⟩:=h0
 exact ⟨foN x,by rw [fo_at,hx]; rfl,by simp [foN,he],by simp [foN,he],by simp [foN,he]⟩
end Go.Apx
end
section
namespace Go.Apx
open Go.Proofs
set_option maxRecDepth 4000
theorem nodup_idx {α:Type}:∀ {l:List α},l.Nodup -> ∀ {i j:Nat} {x:α},l[i]?=some x -> l[j]?=some x -> i=j
 | [],_,i,j,x,hi,_=>by simp at hi
 | a :: l,h,i,j,x,hi,hj=>by
  obtain ⟨h1,h2⟩:=List.nodup_cons.1 h
  cases i with
  | zero =>
   cases j with
   | zero=>rfl
   | succ j =>
    simp at hi hj; subst hi
    exact (h1 (List.mem_of_getElem? hj)).elim
  | succ i =>
   cases j with
   | zero =>
    simp at hi hj; subst hj
    exact (h1 (List.mem_of_getElem? hi)).elim
   | succ j =>
    simp at hi hj
    rw [nodup_idx h2 hi hj]
theorem fresh_lab {g:Gr} (hck:checkF g=0) {i j:Nat} {R R':Rl} (hi:g.rules[i]?=some R) (hj:g.rules[j]?=some R') (hl:R.label=R'.label):i=j:=by
 have key:∀ {i j:Nat} {R R':Rl},g.rules[i]?=some R -> g.rules[j]?=some R' -> R.label=R'.label -> ¬ i < j:=by
  intro i j R R' hi hj hl hlt
  have h1:=check_fresh hck hj
  rw [numF_find] at h1
  cases h2:(g.rules.take j).findIdx? (fun r=>decide (r.label=R'.label)) with
  | some k=>rw [h2] at h1; cases h1
  | none =>
   rw [List.findIdx?_eq_none_iff] at h2
   have hm:R ∈ g.rules.take j:=List.mem_of_getElem? (i:=i) (by rw [List.getElem?_take_of_lt hlt]; exact hi)
   have:=h2 R hm
   simp [hl] at this
 have h1:=key hi hj hl
 have h2:=key hj hi hl.symm
 omega
theorem ruleAt_no {g:Gr} (hck:checkF g=0) {i:Nat} {R:Rl} (hi:g.rules[i]?=some R):ruleAt g R.label=some R:=by
 unfold ruleAt
 cases h:g.rules.find? (fun r=>decide (r.label=R.label)) with
 | none =>
  rw [List.find?_eq_none] at h
  have:=h R (List.mem_of_getElem? hi)
  simp at this
 | some R' =>
  have h1:=List.mem_of_find?_eq_some h
  have h2:=List.find?_some h
  simp at h2
  obtain ⟨j,hj⟩:=List.getElem?_of_mem h1
  have:=fresh_lab hck hi hj h2.symm
  subst this
  rw [hi] at hj
  exact hj.symm
structure ChkF (g:Gr) (tx:List ByteArray) (f:FO):Prop where
 ck:checkF g=0
 l1:1 <= f.nodes.length
 l2:f.nodes.length <= 4000
 ok:∀ n ∈ f.nodes,(0 <= n.fr /\ n.fr <= n.to /\ n.to <= tx.length /\ n.ways ≠ []) /\ ∀ w ∈ n.ways,soundF g tx f tx.length n w=true
 nd:(f.nodes.map spanI).Nodup
theorem chk_of {g:Gr} {tx:List ByteArray} {f:FO} (h:fcheckF g tx f=0):ChkF g tx f:=by
 unfold fcheckF at h
 split at h
 case isFalse hck=>exact (hck h).elim
 rename_i hck
 split at h
 .cases h
 .rename_i hl
  split at h
  .rename_i ha
   refine ⟨hck,by omega,by omega,fun n hn=>?_,ha.2⟩
   have:=List.all_eq_true.1 ha.1 n hn
   unfold nodeOkF at this
   simp only [Bool.and_eq_true,decide_eq_true_eq,List.all_eq_true] at this
   exact this
  .cases h
theorem sound_of {g:Gr} {tx:List ByteArray} {f:FO} {top:Int} {n:FN} {w:FW} (h:soundF g tx f top n w=true):∃ R,ruleNo g w.rule=some R /\ R.sort=n.sort /\ argsF R.parts=w.kids.length /\ meetF f tx top w.kids R.parts n.fr=some n.to:=by
 unfold soundF at h
 split at h
 .cases h
 .rename_i R hR
  simp only [Bool.and_eq_true,decide_eq_true_eq] at h
  exact ⟨R,hR,h.1,h.2.1,h.2.2⟩
theorem no_get {g:Gr} {r:Int} {R:Rl} (h:ruleNo g r=some R):0 <= r /\ r < g.rules.length /\ g.rules[r.toNat]?=some R:=by
 unfold ruleNo at h
 split at h
 .cases h
 .have:=(List.getElem?_eq_some_iff.1 h).1
  exact ⟨by omega,by omega,h⟩
theorem meet_kid {f:FO} {tx:List ByteArray} {top:Int} {kids:List Int}:∀ {ps:List Pt} {a e:Int},meetF f tx top kids ps a=some e -> ∀ p ∈ ps,p.sort ≠ emp -> ∃ k nd,kids[p.arg.toNat]?=some k /\ 0 <= k /\ f.nodes[k.toNat]?=some nd /\ nd.sort=p.sort
 | [],a,e,h,p,hp,_=>by cases hp
 | p0 :: ps,a,e,h,p,hp,hs=>by
  simp only [meetF,Option.bind_eq_some_iff] at h
  obtain ⟨b,h1,h2⟩:=h
  rcases List.mem_cons.1 hp with rfl | hp
  .unfold meet1 at h1
   rw [if_neg hs] at h1
   split at h1
   .cases h1
   .rename_i k hk
    split at h1
    .cases h1
    .rename_i hk0
     split at h1
     .cases h1
     .rename_i n hn
      split at h1
      .rename_i hc; exact ⟨k,n,hk,by omega,hn,hc.1⟩
      .cases h1
  .exact meet_kid h2 p hp hs
theorem chk_rule {g:Gr} {tx:List ByteArray} {f:FO} (h:ChkF g tx f) {r:Int} {R:Rl} (hR:ruleNo g r=some R):ArgsOk R.parts (argsF R.parts):=once_args (check_rule h.ck R (List.mem_of_getElem? (no_get hR).2.2)).2.2
theorem chk_fmd {g:Gr} {tx:List ByteArray} {f:FO} (h:ChkF g tx f):fmdF f=true:=by
 unfold fmdF nodeIn wayIn kidOk
 rw [List.all_eq_true]
 intro n hn
 rw [List.all_eq_true]
 intro w hw
 rw [List.all_eq_true]
 intro k hk
 obtain ⟨R,hR,h1,h2,h3⟩:=sound_of ((h.ok n hn).2 w hw)
 have hA:=chk_rule h hR
 obtain ⟨a,ha⟩:=List.getElem?_of_mem hk
 have hal:=(List.getElem?_eq_some_iff.1 ha).1
 obtain ⟨q,p,hq,hp,hpa⟩:=hA.sur a (by omega)
 obtain ⟨k',nd,hk',hk0,hnd,_⟩:=meet_kid h3 p (List.mem_of_getElem? hq) hp
 rw [hpa,Int.toNat_natCast,ha] at hk'
 cases hk'
 have:=(List.getElem?_eq_some_iff.1 hnd).1
 simp only [decide_eq_true_eq]
 omega
def seg (tx:List ByteArray) (a b:Int):List ByteArray:=(tx.drop a.toNat).take (b.toNat - a.toNat)
theorem seg_self (tx:List ByteArray) (a:Int):seg tx a a=[]:=by simp [seg]
theorem seg_app {tx:List ByteArray} {a b c:Int} (h1:a.toNat <= b.toNat) (h2:b.toNat <= c.toNat):seg tx a b++seg tx b c=seg tx a c:=by
 unfold seg
 rw [show c.toNat - a.toNat=(b.toNat - a.toNat)+(c.toNat - b.toNat) by omega,List.take_add,List.drop_drop,show a.toNat+(b.toNat - a.toNat)=b.toNat by omega]
theorem seg_one {tx:List ByteArray} {a:Int} {x:ByteArray} (h0:0 <= a) (h:tx[a.toNat]?=some x):seg tx a (a+1)=[x]:=by
 unfold seg
 have hl:=(List.getElem?_eq_some_iff.1 h).1
 rw [show (a+1).toNat - a.toNat=1 by omega,List.drop_eq_getElem_cons hl,(List.getElem?_eq_some_iff.1 h).2]
 rfl
theorem seg_len {tx:List ByteArray} {a b:Int} (hb:b <= tx.length):(seg tx a b).length=b.toNat - a.toNat:=by
 unfold seg
 rw [List.length_take,List.length_drop]; omega
theorem seg_all {tx:List ByteArray}:seg tx 0 tx.length=tx:=by simp [seg]
theorem text_meet {f:FO} {tx:List ByteArray} {kids:List Int} {us:List (List ByteArray)}:∀ {ps:List Pt} {a e:Int},meetF f tx tx.length kids ps a=some e -> 0 <= a -> a <= tx.length ->
  (∀ p ∈ ps,p.sort ≠ emp -> ∀ k nd,kids[p.arg.toNat]?=some k -> f.nodes[k.toNat]?=some nd -> us.getD p.arg.toNat []=seg tx nd.fr nd.to) -> ftParts us ps=seg tx a e
 | [],a,e,h,_,_,_=>by
  simp only [meetF,Option.some.injEq] at h
  subst h
  rw [seg_self]; rfl
 | p :: ps,a,e,h,h0,hl,hu=>by
  simp only [meetF,Option.bind_eq_some_iff] at h
  obtain ⟨b,h1,h2⟩:=h
  have hb:=meet1_le h1 hl
  have he:=meetF_le h2 hb.2
  have ih:=text_meet (us:=us) h2 (by omega) hb.2 (fun q hq=>hu q (by simp [hq]))
  have hft:ftParts us (p :: ps)=(if p.sort=⟨#[]⟩ then [p.sym] else us.getD p.arg.toNat [])++ftParts us ps:=by simp [ftParts]
  rw [hft,ih,<- seg_app (a:=a) (b:=b) (c:=e) (by omega) (by omega)]
  congr 1
  unfold meet1 at h1
  by_cases hs:p.sort=emp
  .rw [if_pos hs] at h1 ⊢
   split at h1
   .rename_i hc
    simp only [Option.some.injEq] at h1
    subst h1
    exact (seg_one h0 hc.2).symm
   .cases h1
  .rw [if_neg hs] at h1 ⊢
   split at h1
   .cases h1
   .rename_i k hk
    split at h1
    .cases h1
    .split at h1
     .cases h1
     .rename_i n hn
      split at h1
      .rename_i hc
       simp only [Option.some.injEq] at h1
       rw [hu p (by simp) hs k n hk hn,hc.2.1,h1]
      .cases h1
theorem combos_get {L:Nat -> List RT}:∀ {ks:List Nat} {p:List RT},p ∈ combos L ks -> p.length=ks.length /\ ∀ (a k:Nat),ks[a]?=some k -> ∃ t,p[a]?=some t /\ t ∈ L k
 | [],p,h=>by simp [combos] at h; subst h; simp
 | k :: ks,p,h=>by
  simp only [combos,List.mem_flatMap,List.mem_map] at h
  obtain ⟨t,ht,q,hq,rfl⟩:=h
  obtain ⟨h1,h2⟩:=combos_get hq
  refine ⟨by simp [h1],fun a k' ha=>?_⟩
  cases a with
  | zero=>simp at ha; subst ha; exact ⟨t,rfl,ht⟩
  | succ a=>simpa using h2 a k' (by simpa using ha)
theorem combos_ne {L:Nat -> List RT}:∀ {ks:List Nat},(∀ k ∈ ks,L k ≠ []) -> combos L ks ≠ []
 | [],_=>by simp [combos]
 | k :: ks,h=>by
  obtain ⟨t,ht⟩:=List.exists_mem_of_ne_nil _ (h k (by simp))
  obtain ⟨p,hp⟩:=List.exists_mem_of_ne_nil _ (combos_ne (ks:=ks) fun x hx=>h x (by simp [hx]))
  refine List.ne_nil_of_mem (a:=t :: p) ?_
  simp only [combos,List.mem_flatMap,List.mem_map]
  exact ⟨t,ht,p,hp,rfl⟩
mutual
def canT (g:Gr):RT -> Tr
 | .node r ts=>.node (labR g r) (canTs g ts) (if ts=[] then .nil else .any)
def canTs (g:Gr):List RT -> List Tr
 | []=>[]
 | t :: r=>canT g t :: canTs g r
end
theorem canTs_map (g:Gr):∀ l,canTs g l=l.map (canT g)
 | []=>rfl
 | t :: r=>by simp [canTs,canTs_map g r]
structure TrOk (g:Gr) (tx:List ByteArray) (n:FN) (t:RT):Prop where
 ok:okR g.rules.length t=true
 fm:formedF g (canT g t)=true
 so:∃ R,ruleAt g (canT g t).label=some R /\ R.sort=n.sort
 tx:ftF g (canT g t)=seg tx n.fr n.to
theorem ftL_map (g:Gr):∀ l,ftL g l=l.map (ftF g)
 | []=>rfl
 | t :: r=>by simp [ftL,ftL_map g r]
theorem tree_ok {g:Gr} {tx:List ByteArray} {f:FO} (hC:ChkF g tx f) {L:Nat -> List RT} (hL:∀ i,Wl (wsF f) i -> L i=stepL L (wsF f i)):∀ i,Wl (wsF f) i -> ∀ n,f.nodes[i]?=some n -> ∀ t ∈ L i,TrOk g tx n t:=by
 intro i hw
 induction hw with
 | mk i hk ih =>
  intro n hn t ht
  rw [hL i (.mk i hk),stepL_mem] at ht
  obtain ⟨w,hw,p,hp,rfl⟩:=ht
  rw [wsF_at hn] at hw
  obtain ⟨w0,hw0,rfl⟩:=List.mem_map.1 hw
  have hnm:=List.mem_of_getElem? hn
  obtain ⟨hb,hs⟩:=hC.ok n hnm
  obtain ⟨R,hR,h1,h2,h3⟩:=sound_of (hs w0 hw0)
  have hA:=chk_rule hC hR
  obtain ⟨q1,q2⟩:=combos_get hp
  have hpl:p.length=w0.kids.length:=by simpa [wnF] using q1
  have hkid:∀ (a:Nat) (k:Int) (nd:FN),w0.kids[a]?=some k -> 0 <= k -> f.nodes[k.toNat]?=some nd -> ∃ t,p[a]?=some t /\ TrOk g tx nd t:=by
   intro a k nd hk1 hk0 hnd
   obtain ⟨t,ht,htl⟩:=q2 a k.toNat (by simp [wnF,hk1])
   refine ⟨t,ht,ih k.toNat ?_ nd hnd t htl⟩
   exact stp_of hn hw0 (by rw [Int.toNat_of_nonneg hk0]; exact List.mem_of_getElem? hk1)
  have hlab:labR g w0.rule=R.label:=by simp [labR,hR]
  have hrA:ruleAt g (labR g w0.rule)=some R:=by rw [hlab]; exact ruleAt_no hC.ck (no_get hR).2.2
  have hcan:canT g (.node (wnF w0).1 p)=.node (labR g w0.rule) (p.map (canT g)) (if p=[] then .nil else .any):=by rw [canT,canTs_map]; rfl
  have hall:∀ t ∈ p,okR g.rules.length t=true:=by
   intro t ht
   obtain ⟨a,ha⟩:=List.getElem?_of_mem ht
   have hal:=(List.getElem?_eq_some_iff.1 ha).1
   obtain ⟨q,pt,hq,hs,hpa⟩:=hA.sur a (by omega)
   obtain ⟨k,nd,hk',hk0,hnd,_⟩:=meet_kid h3 pt (List.mem_of_getElem? hq) hs
   rw [hpa,Int.toNat_natCast] at hk'
   obtain ⟨t',ht',hok⟩:=hkid a k nd hk' hk0 hnd
   rw [ha] at ht'; cases ht'
   exact hok.ok
  refine ⟨?_,?_,?_,?_⟩
  .simp only [okR,Bool.and_eq_true,decide_eq_true_eq]
   obtain ⟨r1,r2,_⟩:=no_get hR
   exact ⟨⟨r1,r2⟩,oksR_all.2 hall⟩
  .rw [hcan,formedF_eq]
   simp only [Tr.label,Tr.kids,hrA,formR,Bool.and_eq_true,decide_eq_true_eq]
   refine ⟨?_,by simp [h2,hpl]⟩
   rw [List.all_eq_true]
   intro pt hpt
   unfold partFit
   by_cases hs:pt.sort=⟨#[]⟩
   .simp [hs]
   .obtain ⟨k,nd,hk',hk0,hnd,hso⟩:=meet_kid h3 pt hpt hs
    obtain ⟨t',ht',hok⟩:=hkid _ k nd hk' hk0 hnd
    obtain ⟨R',hR',hs'⟩:=hok.so
    simp [ht',hR',hs',hso,hok.fm,List.getD]
  .exact ⟨R,by rw [hcan]; exact hrA,h1⟩
  .rw [hcan]
   simp only [ftF,hrA,ftR,ftL_map]
   refine text_meet h3 hb.1 (by omega) fun pt hpt hs k nd hk' hnd=>?_
   obtain ⟨k2,nd2,hk2,hk0,hnd2,_⟩:=meet_kid h3 pt hpt hs
   rw [hk'] at hk2; cases hk2
   obtain ⟨t',ht',hok⟩:=hkid _ k nd hk' hk0 hnd
   simp [List.getD,ht',hok.tx]
theorem tree_ne {g:Gr} {tx:List ByteArray} {f:FO} (hC:ChkF g tx f) {L:Nat -> List RT} (hL:∀ i,Wl (wsF f) i -> L i=stepL L (wsF f i)):∀ i,Wl (wsF f) i -> ∀ n,f.nodes[i]?=some n -> L i ≠ []:=by
 intro i hw
 induction hw with
 | mk i hk ih =>
  intro n hn
  rw [hL i (.mk i hk)]
  obtain ⟨hb,hs⟩:=hC.ok n (List.mem_of_getElem? hn)
  obtain ⟨w,hw⟩:=List.exists_mem_of_ne_nil _ hb.2.2.2
  have hww:wnF w ∈ wsF f i:=by rw [wsF_at hn]; exact List.mem_map.2 ⟨w,hw,rfl⟩
  have hfm:=chk_fmd hC
  obtain ⟨p,hp⟩:=List.exists_mem_of_ne_nil _ (combos_ne (L:=L) (ks:=(wnF w).2) fun k hk'=>by
   have hst:Stp (wsF f) i k:=⟨wnF w,hww,hk'⟩
   have hlt:=stp_lt hfm hst
   exact ih k hst (f.nodes[k]'hlt) (by simp))
  exact List.ne_nil_of_mem (stepL_mem.2 ⟨_,hww,p,hp,rfl⟩)
theorem meet_uniq {f:FO} {tx:List ByteArray} {top:Int} {ks ks':List Int} (hnd:(f.nodes.map spanI).Nodup):∀ {ps:List Pt} {a e e':Int},meetF f tx top ks ps a=some e -> meetF f tx top ks' ps a=some e' ->
  (∀ p ∈ ps,p.sort ≠ emp -> ∀ k k' nd nd',ks[p.arg.toNat]?=some k -> ks'[p.arg.toNat]?=some k' -> f.nodes[k.toNat]?=some nd -> f.nodes[k'.toNat]?=some nd' -> 0 <= k -> 0 <= k' -> nd.to - nd.fr=nd'.to - nd'.fr) -> ∀ p ∈ ps,p.sort ≠ emp -> ks[p.arg.toNat]?=ks'[p.arg.toNat]?
 | [],a,e,e',_,_,_,p,hp,_=>by cases hp
 | p0 :: ps,a,e,e',h,h',hu,p,hp,hs=>by
  simp only [meetF,Option.bind_eq_some_iff] at h h'
  obtain ⟨b,h1,h2⟩:=h
  obtain ⟨b',h1',h2'⟩:=h'
  have key:b=b' /\ (p0.sort ≠ emp -> ks[p0.arg.toNat]?=ks'[p0.arg.toNat]?):=by
   unfold meet1 at h1 h1'
   by_cases hs0:p0.sort=emp
   .rw [if_pos hs0] at h1 h1'
    split at h1
    .rename_i hc
     rw [if_pos hc] at h1'
     simp only [Option.some.injEq] at h1 h1'
     exact ⟨by omega,fun h=>(h hs0).elim⟩
    .cases h1
   .rw [if_neg hs0] at h1 h1'
    split at h1
    .cases h1
    .rename_i k hk
     split at h1
     .cases h1
     .rename_i hk0
      split at h1
      .cases h1
      .rename_i n hn
       split at h1
       case isFalse=>cases h1
       rename_i hc
       split at h1'
       .cases h1'
       .rename_i k' hk'
        split at h1'
        .cases h1'
        .rename_i hk0'
         split at h1'
         .cases h1'
         .rename_i n' hn'
          split at h1'
          case isFalse=>cases h1'
          rename_i hc'
          simp only [Option.some.injEq] at h1 h1'
          have hd:=hu p0 (by simp) hs0 k k' n n' hk hk' hn hn' (by omega) (by omega)
          have hb:n.to=n'.to:=by omega
          have hsp:spanI n=spanI n':=by
           unfold spanI
           rw [hc.1,hc'.1,hc.2.1,hc'.2.1,hb]
          have hi:k.toNat=k'.toNat:=nodup_idx hnd (x:=spanI n) (by simp [hn]) (by simp [hn',hsp])
          exact ⟨by omega,fun _=>by rw [hk,hk']; congr 1; omega⟩
  obtain ⟨rfl,hk⟩:=key
  rcases List.mem_cons.1 hp with rfl | hp
  .exact hk hs
  .exact meet_uniq hnd h2 h2' (fun q hq=>hu q (by simp [hq])) p hp hs
theorem combos_nodup {L:Nat -> List RT}:∀ {ks:List Nat},(∀ k ∈ ks,(L k).Nodup) -> (combos L ks).Nodup
 | [],_=>by simp [combos]
 | k :: ks,h=>by
  simp only [combos]
  refine nodup_flat (h k (by simp)) (fun t _=>nodup_map' (combos_nodup fun x hx=>h x (by simp [hx])) fun a _ b _ he=>by simpa using he) fun t _ t' _ x hx hx'=>?_
  obtain ⟨p,_,rfl⟩:=List.mem_map.1 hx
  obtain ⟨p',_,he⟩:=List.mem_map.1 hx'
  simp at he
  exact he.1.symm
theorem tree_nodup {g:Gr} {tx:List ByteArray} {f:FO} (hF:FoR g tx f) {L:Nat -> List RT} (hL:∀ i,Wl (wsF f) i -> L i=stepL L (wsF f i)):∀ i,Wl (wsF f) i -> ∀ n,f.nodes[i]?=some n -> (L i).Nodup:=by
 have hC:=chk_of hF.ck
 have hfm:=chk_fmd hC
 intro i hw
 induction hw with
 | mk i hk ih =>
  intro n hn
  have hnm:=List.mem_of_getElem? hn
  rw [hL i (.mk i hk)]
  unfold stepL
  refine nodup_flat (by rw [wsF_at hn]; exact hF.wn n hnm) (fun w hw=>?_) (fun w hw w' hw' t ht ht'=>?_)
  .refine nodup_map' (combos_nodup fun k hk'=>?_) fun a _ b _ he=>by simpa using he
   have hst:Stp (wsF f) i k:=⟨w,hw,hk'⟩
   have hlt:=stp_lt hfm hst
   exact ih k hst (f.nodes[k]'hlt) (by simp)
  .obtain ⟨p,hp,rfl⟩:=List.mem_map.1 ht
   obtain ⟨p',hp',he⟩:=List.mem_map.1 ht'
   simp only [RT.node.injEq] at he
   obtain ⟨he1,rfl⟩:=he
   rw [wsF_at hn] at hw hw'
   obtain ⟨w0,hw0,rfl⟩:=List.mem_map.1 hw
   obtain ⟨w1,hw1,rfl⟩:=List.mem_map.1 hw'
   obtain ⟨hb,hs⟩:=hC.ok n hnm
   obtain ⟨R,hR,a1,a2,a3⟩:=sound_of (hs w0 hw0)
   obtain ⟨R',hR',b1,b2,b3⟩:=sound_of (hs w1 hw1)
   have hrr:w1.rule=w0.rule:=he1
   rw [hrr,hR] at hR'
   cases hR'
   have hA:=chk_rule hC hR
   obtain ⟨q1,q2⟩:=combos_get hp
   obtain ⟨q3,q4⟩:=combos_get hp'
   have hun:=meet_uniq hC.nd a3 b3 (fun pt hpt hsp k k' nd nd' k1 k2 k3 k4 k5 k6=>by
    obtain ⟨t,ht,htl⟩:=q2 pt.arg.toNat k.toNat (by simp [wnF,k1])
    obtain ⟨t',ht',htl'⟩:=q4 pt.arg.toNat k'.toNat (by simp [wnF,k2])
    rw [ht] at ht'; cases ht'
    have s1:Wl (wsF f) k.toNat:=hk _ (stp_of hn hw0 (by rw [Int.toNat_of_nonneg k5]; exact List.mem_of_getElem? k1))
    have s2:Wl (wsF f) k'.toNat:=hk _ (stp_of hn hw1 (by rw [Int.toNat_of_nonneg k6]; exact List.mem_of_getElem? k2))
    have o1:=(tree_ok hC hL _ s1 nd k3 t htl).tx
    have o2:=(tree_ok hC hL _ s2 nd' k4 t htl').tx
    have c1:=(hC.ok nd (List.mem_of_getElem? k3)).1
    have c2:=(hC.ok nd' (List.mem_of_getElem? k4)).1
    have hlen:=congrArg List.length (o1.symm.trans o2)
    rw [seg_len c1.2.2.1,seg_len c2.2.2.1] at hlen
    omega)
   have hkk:w0.kids=w1.kids:=by
    refine List.ext_getElem? fun a=>?_
    by_cases hal:a < argsF R.parts
    .obtain ⟨q,pt,hq,hsp,hpa⟩:=hA.sur a hal
     have:=hun pt (List.mem_of_getElem? hq) hsp
     rwa [hpa,Int.toNat_natCast] at this
    .rw [List.getElem?_eq_none (by omega),List.getElem?_eq_none (by omega)]
   simp only [wnF]
   rw [hkk,hrr]
end Go.Apx
end
section
namespace Go.Apx
open Go.Proofs
set_option maxRecDepth 4000
mutual
def sameB (g:Gr):RT -> RT -> Bool
 | .node r ts,.node r' ts'=>decide (labR g r=labR g r') && sameBs g ts ts'
def sameBs (g:Gr):List RT -> List RT -> Bool
 | [],[]=>true
 | [],_ :: _=>false
 | _ :: _,[]=>false
 | t :: l,u :: m=>sameB g t u && sameBs g l m
end
theorem sameBs_iff (g:Gr):∀ ts us:List RT,sameBs g ts us=true ↔ ts.length=us.length /\ ∀ (i:Nat) (t u:RT),ts[i]?=some t -> us[i]?=some u -> sameB g t u=true
 | [],[]=>by simp [sameBs]
 | [],_ :: _=>by simp [sameBs]
 | _ :: _,[]=>by simp [sameBs]
 | t :: l,u :: m=>by
  simp only [sameBs,Bool.and_eq_true,sameBs_iff g l m,List.length_cons]
  constructor
  .rintro ⟨h1,h2,h3⟩
   refine ⟨by omega,fun i t' u' ht hu=>?_⟩
   cases i with
   | zero=>simp at ht hu; subst ht hu; exact h1
   | succ i=>exact h3 i t' u' (by simpa using ht) (by simpa using hu)
  .rintro ⟨h1,h2⟩
   exact ⟨h2 0 t u rfl rfl,by omega,fun i t' u' ht hu=>h2 (i+1) t' u' (by simpa using ht) (by simpa using hu)⟩
theorem lab_no {g:Gr} {r:Int} (h:0 <= r /\ r < g.rules.length):∃ R,g.rules[r.toNat]?=some R /\ labR g r=R.label:=by
 have hlt:r.toNat < g.rules.length:=by omega
 refine ⟨g.rules[r.toNat]'hlt,by simp,?_⟩
 unfold labR ruleNo
 rw [if_neg (by omega)]
 simp [hlt]
mutual
theorem sameB_eq {g:Gr} (hck:checkF g=0):∀ t u:RT,okR g.rules.length t=true -> okR g.rules.length u=true -> sameB g t u=true -> t=u
 | .node r ts,.node r' us,h1,h2,h=>by
  simp only [okR,Bool.and_eq_true,decide_eq_true_eq,sameB] at h1 h2 h
  obtain ⟨R,hR,hl⟩:=lab_no h1.1
  obtain ⟨R',hR',hl'⟩:=lab_no h2.1
  have:=fresh_lab hck hR hR' (by rw [<- hl,<- hl',h.1])
  have hr:r=r':=by omega
  rw [hr,sameBs_eq hck ts us h1.2 h2.2 h.2]
theorem sameBs_eq {g:Gr} (hck:checkF g=0):∀ ts us:List RT,oksR g.rules.length ts=true -> oksR g.rules.length us=true -> sameBs g ts us=true -> ts=us
 | [],[],_,_,_=>rfl
 | [],_ :: _,_,_,h=>by simp [sameBs] at h
 | _ :: _,[],_,_,h=>by simp [sameBs] at h
 | t :: l,u :: m,h1,h2,h=>by
  simp only [oksR,Bool.and_eq_true,sameBs] at h1 h2 h
  rw [sameB_eq hck t u h1.1 h2.1 h.1,sameBs_eq hck l m h1.2 h2.2 h.2]
end
set_option maxHeartbeats 4000000 in
theorem sameB_c (g:Gr) {H:AHeap}:∀ (n:Nat) (t u:RT),sizeR t <= n -> sizeR t <= 1000000 -> sizeR u <= 1000000 -> AEx PP Gl 22 [encU (canR g t),encU (canR g u)] H (.ret (bl (sameB g t u))) H
 | 0,.node r ts,u,hn,_,_=>by simp [sizeR] at hn
 | n+1,.node r ts,.node r' us,hn,hsz,hsu=>by
  have hszl:=len_sizes ts
  have hsul:=len_sizes us
  simp only [sizeR] at hsz hsu hn
  refine enter_law14_sameTree (by simp) ?_
  rw [encU_can,encU_can]
  obtain ⟨es,hes⟩:∃ es,es=ts.map fun t=>encU (canR g t):=⟨_,rfl⟩
  obtain ⟨fs,hfs⟩:∃ fs,fs=us.map fun t=>encU (canR g t):=⟨_,rfl⟩
  have hel:es.length=ts.length:=by rw [hes]; simp
  have hfl:fs.length=us.length:=by rw [hfs]; simp
  rw [<- hes,<- hfs]
  simp -implicitDefEqProofs [code_law14_sameTree,res_law14_sameTree,ann_law14_sameTree,grown,hel,hfl]
  by_cases hlab:labR g r=labR g r'
  case neg =>
   simp -implicitDefEqProofs [hlab]
   exact retE (by simp [deferred,dslot]) rfl (by simp [sameB,hlab]) rfl
  by_cases hln:ts.length=us.length
  case neg =>
   have hln2:¬ (ts.length:Int)=us.length:=by omega
   have hsf:sameB g (.node r ts) (.node r' us)=false:=by
    cases h:sameB g (.node r ts) (.node r' us) with
    | false=>rfl
    | true =>
     simp only [sameB,Bool.and_eq_true] at h
     exact (hln ((sameBs_iff g ts us).1 h.2).1).elim
   simp -implicitDefEqProofs [hlab,hln2]
   exact retE (by simp [deferred,dslot]) rfl (by rw [hsf]) rfl
  have hln2:(ts.length:Int)=us.length:=by omega
  simp -implicitDefEqProofs [hlab,hln2]
  refine AWp.till (S:=Nat) 0 (fun i=>ts.length - i) [2,3] (fun i=>[(5,i64 (i:Int))]) (fun _=>H) (fun i=>i <= ts.length /\ ∀ (q:Nat) (t u:RT),q < i -> ts[q]?=some t -> us[q]?=some u -> sameB g t u=true) mixed ⟨by simp,fun q t u hq=>by omega⟩ (le_of (by simp [dslot])) rfl ?_
  rintro i ⟨hi0,hprev⟩
  by_cases hi:i < ts.length
  case neg =>
   have hno:¬ (i:Int) < us.length:=by omega
   have hst:sameB g (.node r ts) (.node r' us)=true:=by
    simp only [sameB,Bool.and_eq_true,decide_eq_true_eq]
    refine ⟨hlab,(sameBs_iff g ts us).2 ⟨hln,fun q t u ht hu=>hprev q t u ?_ ht hu⟩⟩
    have:=(List.getElem?_eq_some_iff.1 ht).1
    omega
   simp -implicitDefEqProofs [lp0_law14_sameTree,hno,hel,hfl,hln2]
   exact retE (by simp [deferred,dslot]) rfl (by rw [hst]) rfl
  obtain ⟨t,ht⟩:∃ t,ts[i]?=some t:=⟨ts[i],by simp [hi]⟩
  obtain ⟨u,hu⟩:∃ u,us[i]?=some u:=⟨us[i]'(by omega),by simp⟩
  have hei:es[i]?=some (encU (canR g t)):=by rw [hes]; simp [ht]
  have hei2:i < es.length:=by omega
  have hei3:es[i]'hei2=encU (canR g t):=(List.getElem?_eq_some_iff.1 hei).2
  have hene:es ≠ []:=by intro e; rw [e] at hei; simp at hei
  have hfi:fs[i]?=some (encU (canR g u)):=by rw [hfs]; simp [hu]
  have hfi2:i < fs.length:=by omega
  have hfi3:fs[i]'hfi2=encU (canR g u):=(List.getElem?_eq_some_iff.1 hfi).2
  have hfne:fs ≠ []:=by intro e; rw [e] at hfi; simp at hfi
  have hlt:(i:Int) < us.length:=by omega
  have hszm:=size_mem (List.mem_of_getElem? ht)
  have hsum:=size_mem (List.mem_of_getElem? hu)
  have wi:=wrap1 (n:=i) (by omega)
  have hcan:∀ t,∃ lt kt,encU (canR g t)=.agg [.sc (.string lt),kt] /\ kt.isPend=false /\ kt.one=true:=fun t=>by
   cases t with
   | node r' ts'=>exact ⟨_,_,encU_can g r' ts',by simp [grown],by simp [grown]⟩
  obtain ⟨lt,kt,hcan1,hk1,hk2⟩:=hcan t
  obtain ⟨lu,ku,hcan2,hk3,hk4⟩:=hcan u
  simp -implicitDefEqProofs [lp0_law14_sameTree,hlt,hln2,hel,hfl,hei,hei2,hei3,hene,hfi,hfi2,hfi3,hfne,hi,hcan1,hcan2,hk1,hk2,hk3,hk4]
  refine callk (sameB_c g n t u (by omega) (by omega) (by omega)) (by simp [hcan1,hcan2]) rfl ?_
  cases hb:sameB g t u with
  | true =>
   simp -implicitDefEqProofs [wi]
   refine ⟨i+1,by omega,⟨by omega,fun q t' u' hq ht' hu'=>?_⟩,le_of (by simp [dslot])⟩
   by_cases hqi:q=i
   .subst hqi
    rw [ht] at ht'; rw [hu] at hu'
    cases ht'; cases hu'
    exact hb
   .exact hprev q t' u' (by omega) ht' hu'
  | false =>
   have hsf:sameB g (.node r ts) (.node r' us)=false:=by
    cases h:sameB g (.node r ts) (.node r' us) with
    | false=>rfl
    | true =>
     simp only [sameB,Bool.and_eq_true] at h
     rw [((sameBs_iff g ts us).1 h.2).2 i t u ht hu] at hb
     cases hb
   simp -implicitDefEqProofs
   exact retE (by simp [deferred,dslot]) rfl (by rw [hsf]) rfl
theorem canT_enc (g:Gr) (r:Int) (ts:List RT):encT (canT g (.node r ts))=.agg [.sc (.string (labR g r)),.sl 2 (ts.map fun t=>encT (canT g t)) (if ts=[] then .nil else .any)]:=by
 rw [canT,encT,encTs_map,canTs_map,List.map_map]; rfl
theorem kids_le (g:Gr):∀ (n:Nat) (ts:List RT),sizesR ts <= n -> AVLe (grown 2 (ts.map fun t=>encU (canR g t))) (.sl 2 (ts.map fun t=>encT (canT g t)) (if ts=[] then .nil else .any))
 | n,[],_=>by simp only [grown,List.map_nil,if_true]; exact .nil 0 2
 | 0,.node r us :: ts,h=>by simp [sizesR,sizeR] at h
 | n+1,t0 :: ts0,h=>by
  simp only [grown,List.map_eq_nil_iff,if_neg (List.cons_ne_nil t0 ts0)]
  refine AVLe.slMap (t0 :: ts0) (fun t=>encU (canR g t)) (fun t=>encT (canT g t)) .any (fun t ht=>?_) (fun t ht d hd=>?_)
  .have hm:=size_mem ht
   obtain ⟨r',us⟩:=t
   simp only [sizeR] at hm
   rw [encU_can,canT_enc]
   have ih:=kids_le g n us (by omega)
   refine ⟨rfl,fun i a b ha hb=>?_⟩
   match i,ha,hb with
   | 0,ha,hb=>simp [AV.cells] at ha hb; subst ha hb; exact .refl _
   | 1,ha,hb=>simp [AV.cells] at ha hb; subst ha hb; exact ih
   | n+2,ha,hb=>simp [AV.cells] at ha
  .obtain ⟨r',us⟩:=t
   rw [canT_enc] at hd
   simp [AV.cells] at hd
   rcases hd with rfl | rfl <;> rfl
theorem canT_le (g:Gr) (t:RT):AVLe (encU (canR g t)) (encT (canT g t)):=by
 obtain ⟨r,ts⟩:=t
 rw [encU_can,canT_enc]
 refine AVLe.agg rfl (by simp) fun i a b ha hb=>?_
 match i,ha,hb with
 | 0,ha,hb=>simp at ha hb; subst ha hb; exact .refl _
 | 1,ha,hb=>simp at ha hb; subst ha hb; exact kids_le g _ ts (Nat.le_refl _)
 | n+2,ha,hb=>simp at ha
mutual
theorem canT_nodes (g:Gr):∀ t:RT,(canT g t).nodes=sizeR t
 | .node r ts=>by simp only [canT,Tr.nodes,sizeR,canTs_nodes g ts]; omega
theorem canTs_nodes (g:Gr):∀ ts:List RT,Tr.nodesL (canTs g ts)=sizesR ts
 | []=>rfl
 | t :: r=>by simp only [canTs,Tr.nodesL,sizesR,canT_nodes g t,canTs_nodes g r]
end
mutual
theorem canT_deep (g:Gr):∀ (t:RT) (lv:Int),(szF (canT g t) lv).2 <= lv+deepR t - 1
 | .node r ts,lv=>by
  simp only [canT,szF,deepR]
  have:=canTs_deep g ts lv 1 lv
  omega
theorem canTs_deep (g:Gr):∀ (ts:List RT) (lv n d:Int),(szL (canTs g ts) lv n d).2 <= d \/ (szL (canTs g ts) lv n d).2 <= lv+deepsR ts
 | [],lv,n,d=>.inl (by simp [canTs,szL])
 | t :: r,lv,n,d=>by
  simp only [canTs,szL,deepsR]
  split
  .exact .inl (Int.le_refl _)
  .have h1:=canT_deep g t (lv+1)
   have h2:=canTs_deep g r lv (n+(szF (canT g t) (lv+1)).1) (mxI d (szF (canT g t) (lv+1)).2)
   unfold mxI at h2 ⊢
   split at h2 <;> (rename_i hc; simp only [hc,if_true,if_false] <;> omega)
end
theorem tree_err {g:Gr} {t:RT} (hck:checkF g=0) (hs:sizeR t <= 4000) (hd:deepR t <= 100) (hf:formedF g (canT g t)=true):errF g (canT g t)=0:=by
 unfold errF
 have h1:=(szF_le (canT g t) 1).2.1
 rw [canT_nodes] at h1
 have h2:=canT_deep g t 1
 rw [if_neg (by omega),if_neg (by omega),if_neg (by omega),if_pos hf]
theorem tree_text {g:Gr} {tx:List ByteArray} {n:FN} {t:RT} (hck:checkF g=0) (hs:sizeR t <= 4000) (hd:deepR t <= 100) (h:TrOk g tx n t) (hn:n.fr=0 /\ n.to=tx.length) (hl:tx.length <= 2000):textF g (canT g t)=(tx,0) /\ sortF2 g (canT g t)=(n.sort,0):=by
 have he:=tree_err hck hs hd h.fm
 have htx:ftF g (canT g t)=tx:=by rw [h.tx,hn.1,hn.2,seg_all]
 have hsp:=(spell_spec g (canT g t) []).1 (by rw [htx]; simpa using hl)
 rw [htx,List.nil_append] at hsp
 constructor
 .unfold textF
  rw [if_neg (by omega),hsp,if_neg (by omega)]
 .unfold sortF2
  rw [if_neg (by omega)]
  obtain ⟨R,hR,hs⟩:=h.so
  rw [hR]
  simp only
  rw [hs]
end Go.Apx
end
section
namespace Go.Apx
open Go.Proofs
set_option maxRecDepth 4000
theorem fo_le (ns:List (Sp × List (Nat × List Nat))):AVLe (forestV ns) (encFO (foF ns)):=by
 unfold forestV encFO
 refine AVLe.agg rfl (by simp) fun i a b ha hb=>?_
 match i,ha,hb with
 | 0,ha,hb =>
  simp only [List.getElem?_cons_zero,Option.some.injEq] at ha hb
  subst ha hb
  simp only [foF,List.map_map,grown,List.map_eq_nil_iff]
  by_cases hr:ns=[]
  .simp only [hr,if_true,List.map_nil]
   exact .nil 0 4
  .simp only [if_neg hr]
   refine AVLe.slMap ns nodeV (encFN ∘ foN) .any (fun r _=>?_) (fun r _ d hd=>?_)
   .refine ⟨rfl,fun i a b ha hb=>?_⟩
    match i,ha,hb with
    | 0,ha,hb=>simp [nodeV,encFN,foN,AV.cells] at ha hb; subst ha hb; exact .refl _
    | 1,ha,hb=>simp [nodeV,encFN,foN,AV.cells] at ha hb; subst ha hb; exact .refl _
    | 2,ha,hb=>simp [nodeV,encFN,foN,AV.cells] at ha hb; subst ha hb; exact .refl _
    | 3,ha,hb =>
     simp [nodeV,encFN,foN,AV.cells,grown] at ha hb; subst ha hb
     by_cases hp:r.2=[]
     .simp only [hp,if_true,List.map_nil]; exact .nil _ 2
     .simp only [if_neg hp,List.map_eq_nil_iff,List.map_map]
      refine AVLe.slMap r.2 wayV (encFW ∘ foW) .any (fun w _=>?_) (fun w _ d hd=>?_)
      .refine ⟨rfl,fun i a b ha hb=>?_⟩
       match i,ha,hb with
       | 0,ha,hb=>simp [wayV,encFW,foW,AV.cells] at ha hb; subst ha hb; exact .refl _
       | 1,ha,hb =>
        simp [wayV,encFW,foW,AV.cells,grown,i64s,ints] at ha hb; subst ha hb
        by_cases hw:w.2=[]
        .simp only [hw,if_true,List.map_nil]; exact .nil _ 1
        .simp only [if_neg hw,List.map_eq_nil_iff,List.map_map]
         exact .refl _
       | n+2,ha,hb=>simp [wayV,AV.cells] at ha
      .simp [encFW,AV.cells] at hd
       rcases hd with rfl | rfl <;> rfl
    | n+4,ha,hb=>simp [nodeV,AV.cells] at ha
   .simp [encFN,AV.cells] at hd
    rcases hd with rfl | rfl | rfl | rfl <;> rfl
 | n+1,ha,hb=>simp at ha
theorem fo_ok {ns:List (Sp × List (Nat × List Nat))} (h:ns.length <= 1000000) (hw:∀ x ∈ ns,x.2.length <= 1000000 /\ ∀ w ∈ x.2,w.2.length <= 1000000):FoOk (foF ns):=by
 refine ⟨capP_ok _,by simp [foF]; omega,fun n hn=>?_,fun n hn w hw'=>?_⟩
 .obtain ⟨x,hx,rfl⟩:=List.mem_map.1 hn
  exact ⟨capP_ok _,by simp [foN]; have:=(hw x hx).1; omega⟩
 .obtain ⟨x,hx,rfl⟩:=List.mem_map.1 hn
  obtain ⟨v,hv,rfl⟩:=List.mem_map.1 hw'
  exact ⟨capP_ok _,by simp [foW]; have:=(hw x hx).2 v hv; omega⟩
theorem TrE.deep {g:Gr} {f:FO} {L:Nat -> List RT} {most:Int} (h:TrE g f L most 0):∀ t ∈ (L 0).take most.toNat,sizeR t <= 4000 /\ deepR t <= 100:=fun t ht=>by
 rcases h with ⟨h1,h2⟩ | ⟨_,⟨_,h2⟩ | ⟨_,_,⟨_,h2⟩ | ⟨_,⟨_,h2⟩ | ⟨_,_,h2⟩⟩⟩⟩
 .exact (h1 h2.symm).elim
 .cases h2
 .cases h2
 .cases h2
 .unfold treesE at h2
  split at h2
  .split at h2
   .cases h2
   .split at h2
    .cases h2
    .rename_i hb hd
     refine ⟨Nat.le_of_not_lt fun hlt=>hb (List.any_eq_true.2 ⟨t,ht,by simpa [bigR] using hlt⟩),Nat.le_of_not_lt fun hlt=>hd (List.any_eq_true.2 ⟨t,ht,by simpa [dpR] using hlt⟩)⟩
  .cases h2
end Go.Apx
end
section
namespace Go.Apx
open Go.Proofs
set_option maxRecDepth 4000
set_option maxHeartbeats 16000000 in
theorem EarleySound_c (g:Gr) (s:ByteArray) (tx:List ByteArray) (tc:Cap) (hi:LawP g tx) (hpl:∀ r ∈ g.rules,r.plain) (hss:s.size <= 2 ^ 31) (hua:∀ R:Rl,g.us R=true) (hst:g.st=s):AEx PP Gl 6 [encG g,.sc (.string s),.sl 1 (tx.map sv) tc] [] (.ret (bl true)) []:=by
 refine enter_law14_EarleySound (by simp) ?_
 simp -implicitDefEqProofs [code_law14_EarleySound,res_law14_EarleySound,ann_law14_EarleySound,encG]
 refine callk (short_c g tx tc 8 hi) (by simp [encG]) rfl ?_
 cases hsf:shortF g tx 8 with
 | false =>
  simp -implicitDefEqProofs
  refine callk awake_c rfl rfl ?_
  simp -implicitDefEqProofs
  exact retE (by simp [deferred,dslot]) rfl rfl rfl
 | true =>
 by_cases c1:(300:Int) < s.size
 .simp -implicitDefEqProofs [c1]
  refine callk awake_c rfl rfl ?_
  simp -implicitDefEqProofs
  exact retE (by simp [deferred,dslot]) rfl rfl rfl
 simp -implicitDefEqProofs [c1]
 have hsm:smallF g 10 5=true:=by
  unfold shortF at hsf
  simp only [Bool.and_eq_true] at hsf
  exact hsf.1
 have htx:tx.length <= 300:=by
  unfold shortF at hsf
  simp only [Bool.and_eq_true,Bool.or_eq_true,decide_eq_true_eq] at hsf
  rcases hsf.2 with h | h <;> omega
 have hckc:∀ h:AHeap,AEx PP Gl 47 [encG g] h (.ret (i64 (checkF g))) h:=fun h=>check_c g (small_parts hsm) hi.sorts hi.rules
 refine callr (eparse_c g s tx tc hi.sorts hckc (fun h=>short_bd (most:=0) hsm h) hua hst) (by simp [encG]) rfl ?_
 rintro r1 H1 ⟨rfl,hr1⟩
 rcases hr1 with ⟨ha,rfl⟩ | ⟨ha,S,L0,D,hNF,hend,⟨hd,rfl⟩ | ⟨hd,⟨n,hpk,rfl⟩ | ⟨n,L1,F1,ns,hpk,hl,hn1,hn2,rfl⟩⟩⟩
 .simp -implicitDefEqProofs [ha]
  refine callk awake_c rfl rfl ?_
  simp -implicitDefEqProofs
  exact retD (h0:=[]) (x:=_) (by simp [deferred,dslot]) rfl rfl rfl rfl
 .simp -implicitDefEqProofs
  refine callk awake_c rfl rfl ?_
  simp -implicitDefEqProofs
  exact retD (h0:=[]) (x:=_) (by simp [deferred,dslot]) rfl rfl rfl rfl
 .simp -implicitDefEqProofs
  refine callk awake_c rfl rfl ?_
  simp -implicitDefEqProofs
  exact retD (h0:=[]) (x:=_) (by simp [deferred,dslot]) rfl rfl rfl rfl
 subst hn1 hn2
 have hck:checkF g=0:=(asked_check ha).1
 have hbd:=short_bd (most:=0) hsm ha
 obtain ⟨hcl,hbg⟩:=hNF.all (fun r R _ _ _ _=>hua R) hend
 obtain ⟨hFR,nd0,hnd0,hs0,hf0,ht0⟩:=parse_for hck hcl hbg hd hbd.p hpk
 obtain ⟨b1,b2,b3⟩:=for_bounds hbd.p hpk
 obtain ⟨f,hf⟩:∃ f,f=foF ns:=⟨_,rfl⟩
 have hfo:=fo_ok b2 b3
 have hle:=fo_le ns
 rw [<- hf] at hFR hnd0 hfo hle
 have hC:=chk_of hFR.ck
 obtain ⟨L,hL⟩:=exists_L (wsF f)
 obtain ⟨x0,nr,hns⟩:=List.exists_cons_of_ne_nil b1
 have hx0:nd0=foN x0:=by rw [hf,fo_at,hns] at hnd0; simpa using hnd0.symm
 have hx1:x0.1=⟨s,0,tx.length⟩:=by
  rw [hx0] at hs0 hf0 ht0
  obtain ⟨⟨a,b,c⟩,d⟩:=x0
  simp [foN] at hs0 hf0 ht0 ⊢
  exact ⟨hs0,hf0,by omega⟩
 have hnode:nodeV x0=.agg [.sc (.string s),i64 0,i64 (tx.length:Int),grown 2 (x0.2.map wayV)]:=by simp [nodeV,hx1]
 obtain ⟨es,hes⟩:∃ es,es=nr.map nodeV:=⟨_,rfl⟩
 have hfv:forestV ns=.agg [.sl 4 (.agg [.sc (.string s),i64 0,i64 (tx.length:Int),grown 2 (x0.2.map wayV)] :: es) .any]:=by
  simp only [forestV,hns,List.map_cons,hnode,<- hes,grown,if_neg (List.cons_ne_nil _ _)]
 rw [hfv] at hle ⊢
 simp -implicitDefEqProofs
 refine callk (ACalls.args (fcheck_c g tx tc f hfo hckc hi.text) (.cons (.refl _) (.cons (.refl _) (.cons hle .nil)))) (by simp [encG]) rfl ?_
 rw [hFR.ck]
 have hl1:¬ ((es.length:Int)+1=0):=by omega
 simp -implicitDefEqProofs [hl1]
 refine callr (ACalls.args (eCount_c f hfo L hL) (.cons hle .nil)) (by simp) rfl ?_
 rintro r2 H2 ⟨kp2,n2,e2,rfl,c2⟩
 simp -implicitDefEqProofs
 have hfm:=chk_fmd hC
 rcases c2 with ⟨h1 | h1,rfl,rfl⟩ | ⟨_,_,⟨_,rfl,rfl⟩ | ⟨hw0,⟨_,rfl,rfl⟩ | ⟨hcnt,rfl,rfl⟩⟩⟩
 .rw [hfm] at h1; cases h1
 .have:=hC.l1; omega
 .simp -implicitDefEqProofs
  refine callk awake_c rfl rfl ?_
  simp -implicitDefEqProofs
  exact retD (h0:=[]) (x:=H2) (by simp [deferred,dslot]) rfl rfl rfl rfl
 .simp -implicitDefEqProofs
  refine callk awake_c rfl rfl ?_
  simp -implicitDefEqProofs
  exact retD (h0:=[]) (x:=H2) (by simp [deferred,dslot]) rfl rfl rfl rfl
 have hcl:cnt L 0=(L 0).length:=by unfold cnt at hcnt ⊢; omega
 have hLne:=tree_ne hC hL 0 hw0 nd0 hnd0
 have hLnd:=tree_nodup hFR hL 0 hw0 nd0 hnd0
 have hLok:=tree_ok hC hL 0 hw0 nd0 hnd0
 rw [hcl]
 simp -implicitDefEqProofs
 refine callr (ACalls.args (eTrees_c g f hfo L hL 40 hckc hi.rules) (.cons (.refl _) (.cons hle (.cons (.refl _) .nil)))) (by simp [encG]) rfl ?_
 rintro r3 H3 ⟨kp3,e3,v3,rfl,p3,o3,t3,n3,y3⟩
 simp -implicitDefEqProofs [p3,o3]
 by_cases he:e3=0
 case neg =>
  have hee:e3=9 \/ e3=4:=by
   rcases t3 with ⟨h1,_⟩ | ⟨_,⟨h1 | h1,_⟩ | ⟨_,_,⟨h1,_⟩ | ⟨_,⟨h1,_⟩ | ⟨_,_,h1⟩⟩⟩⟩
   .exact (h1 hck).elim
   .rw [hfm] at h1; cases h1
   .have:=hC.l1; omega
   .exact (h1 hw0).elim
   .omega
   .unfold treesE at h1
    split at h1
    .split at h1
     .exact .inr h1
     .split at h1
      .exact .inl h1
      .exact (he h1).elim
    .rename_i hno
     exact (hno (List.all_eq_true.2 fun t ht=>(hLok t (List.mem_of_mem_take ht)).ok)).elim
  rcases hee with rfl | rfl
  all_goals
   simp -implicitDefEqProofs
   refine callk awake_c rfl rfl ?_
   simp -implicitDefEqProofs
   exact retD (h0:=[]) (x:=H3) (by simp [deferred,dslot]) rfl rfl rfl rfl
 subst he
 obtain ⟨o,rfl,hc3⟩:=y3 rfl
 have hdeep:=t3.deep
 obtain ⟨ts,hts⟩:∃ ts,ts=(L 0).take 40:=⟨_,rfl⟩
 have h40:(40:Int).toNat=40:=rfl
 rw [h40,<- hts] at hc3 hdeep
 rw [h40,<- hts]
 have htsn:ts.Nodup:=by rw [hts]; exact hLnd.sublist (List.take_sublist _ _)
 have htso:∀ t ∈ ts,TrOk g tx nd0 t:=fun t ht=>hLok t (by rw [hts] at ht; exact List.mem_of_mem_take ht)
 have hll:1 <= (L 0).length:=List.length_pos_iff.2 hLne
 have htl0:ts.length=min 40 (L 0).length:=by rw [hts,List.length_take]
 obtain ⟨m,htl⟩:∃ m,ts.length=m+1:=⟨ts.length - 1,by omega⟩
 have hc4:=hc3 (by intro e; rw [e] at htl; cases htl)
 obtain ⟨cc,hcc⟩:∃ cc,cc=(canV g ts).flatMap AV.cells:=⟨_,rfl⟩
 have hcl2:cc.length=(m+1) * 2:=by rw [hcc,canV_len,htl]
 rw [htl,<- hcc,Nat.add_sub_cancel] at hc4
 have hrow:=canV_row g ts
 rw [<- hcc] at hrow
 rw [htl]
 have hll1:¬ ((L 0).length:Int) < 1:=by omega
 have hmin:((m:Int)+1)=if 40 < ((L 0).length:Int) then 40 else ((L 0).length:Int):=by split <;> omega
 have hin:∀ t ∈ ts,InOk g (canT g t):=fun t ht=>⟨small_parts hsm,hi.sorts,hi.rules,hpl,by rw [canT_nodes]; have:=(hdeep t ht).1; omega⟩
 have htt:∀ t ∈ ts,textF g (canT g t)=(tx,0) /\ sortF2 g (canT g t)=(nd0.sort,0):=fun t ht=>tree_text hck (hdeep t ht).1 (hdeep t ht).2 (htso t ht) ⟨hf0,ht0⟩ (by omega)
 rw [hs0] at htt
 have hcan:∀ t,∃ lt kt,encU (canR g t)=.agg [.sc (.string lt),kt] /\ kt.isPend=false /\ kt.one=true:=fun t=>by
  cases t with
  | node r' ts'=>exact ⟨_,_,encU_can g r' ts',by simp [grown],by simp [grown]⟩
 have hsb:∀ (i k:Nat) (t u:RT),ts[i]?=some t -> ts[k]?=some u -> i ≠ k -> sameB g t u=false:=by
  intro i k t u h1 h2 hne
  cases hb:sameB g t u with
  | false=>rfl
  | true =>
   have:=sameB_eq hck t u (htso t (List.mem_of_getElem? h1)).ok (htso u (List.mem_of_getElem? h2)).ok hb
   subst this
   exact (hne (nodup_idx htsn h1 h2)).elim
 have hm40:m+1 <= 40:=by omega
 simp -implicitDefEqProofs [resV,hll1,<- hmin]
 refine AWp.till (S:=Nat) 0 (fun i=>m+1 - i) [1,2,3,10] (fun i=>[(11,i64 (i:Int))]) (fun _=>H3) (fun i=>i <= m+1) mixed (by simp) (le_of (by simp [dslot])) rfl ?_
 intro i hi0
 by_cases hi:i < m+1
 case neg =>
  have hno:¬ (i:Int) < (m:Int)+1:=by omega
  simp -implicitDefEqProofs [lp0_law14_EarleySound,hno]
  refine callk awake_c rfl rfl ?_
  simp -implicitDefEqProofs
  exact retD (h0:=[]) (x:=H3) (by simp [deferred,dslot]) rfl rfl rfl rfl
 obtain ⟨t,ht⟩:∃ t,ts[i]?=some t:=⟨ts[i]'(by omega),by simp⟩
 have htm:=List.mem_of_getElem? ht
 have hlt:(i:Int) < (m:Int)+1:=by omega
 have wi:=wrap1 (n:=i) (by omega)
 have hr2:=hrow i t ht
 have hi2:i * 2+2 <= (m+1) * 2:=by omega
 obtain ⟨lt,kt,hct,hk1,hk2⟩:=hcan t
 have hr3:(cc.drop (i * 2)).take 2=[.sc (.string lt),kt]:=by rw [hr2,hct]; rfl
 have htxt:=text_c g (canT g t) (hin t htm) (h:=H3)
 have hsrt:=esort_c g (canT g t) (hin t htm) (h:=H3)
 rw [(htt t htm).1] at htxt
 rw [(htt t htm).2] at hsrt
 have hcle:AVLe (.agg [.sc (.string lt),kt]) (encT (canT g t)):=by rw [<- hct]; exact canT_le g t
 simp -implicitDefEqProofs [lp0_law14_EarleySound,hlt,hc4,hr3,hcl2,hi2,hi,hk1,hk2]
 refine callk (ACalls.args htxt (.cons (.refl _) (.cons hcle .nil))) (by simp [encG]) rfl ?_
 simp -implicitDefEqProofs [hlt,hc4,hr3,hcl2,hi2,hi,hk1,hk2]
 refine callk (ACalls.args hsrt (.cons (.refl _) (.cons hcle .nil))) (by simp [encG]) rfl ?_
 simp -implicitDefEqProofs
 refine callk (same_c _ _ tx tx _ _ (fun hne=>by simp [apdK,hne]) (fun _=>rfl) (by omega)) rfl rfl ?_
 simp -implicitDefEqProofs
 refine AWp.till (S:=Nat) 0 (fun k=>i - k) [1,2,3,10,11] (fun k=>[(16,i64 (k:Int))]) (fun _=>H3) (fun k=>k <= i) mixed (Nat.zero_le _) (le_of (by simp [dslot])) rfl ?_
 intro k hk0
 by_cases hki:k < i
 case neg =>
  have hno:¬ (k:Int) < (i:Int):=by omega
  simp -implicitDefEqProofs [lp1_law14_EarleySound,hno,wi]
  exact ⟨i+1,by omega,by omega,le_of (by simp [dslot])⟩
 obtain ⟨u,hu⟩:∃ u,ts[k]?=some u:=⟨ts[k]'(by omega),by simp⟩
 have hum:=List.mem_of_getElem? hu
 have hltk:(k:Int) < (i:Int):=by omega
 have wk:=wrap1 (n:=k) (by omega)
 have hrk2:=hrow k u hu
 have hk22:k * 2+2 <= (m+1) * 2:=by omega
 have hkm:k < m+1:=by omega
 have hkm2:(k:Int) < (m:Int)+1:=by omega
 obtain ⟨lu,ku,hcu,hk3,hk4⟩:=hcan u
 have hrk3:(cc.drop (k * 2)).take 2=[.sc (.string lu),ku]:=by rw [hrk2,hcu]; rfl
 have hsm2:=sameB_c g (H:=H3) _ u t (Nat.le_refl _) (by have:=(hdeep u hum).1; omega) (by have:=(hdeep t htm).1; omega)
 rw [hsb k i u t hu ht (by omega),hcu,hct] at hsm2
 simp -implicitDefEqProofs [lp1_law14_EarleySound,hltk,hlt,hc4,hr3,hrk3,hcl2,hi2,hk22,hi,hkm,hkm2,hk1,hk2,hk3,hk4]
 refine callk hsm2 (by simp) rfl ?_
 simp -implicitDefEqProofs [wk]
 exact ⟨k+1,by omega,by omega,le_of (by simp [dslot])⟩
end Go.Apx
end
