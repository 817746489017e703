/- Walks: the number of a span. -/
import Derived.Test.YtldhfkfncgnbmaaPC
section
namespace Go.Apx
open Go.Proofs
set_option maxRecDepth 4000
def argPos (ps:List Pt) (a:Nat):Option Nat:=ps.findIdx? (fun p=>decide (p.sort ≠ emp) && decide (p.arg=(a:Int)))
def spansOf (ps:List Pt) (i0:Nat) (n:Nat) (sp:List Nat):List Sp:=(List.range n).map fun a=>match argPos ps a with
 | some q=>⟨((ps[q]?).map (·.sort)).getD emp,startP i0 sp q,sp.getD q 0⟩
 | none=>⟨emp,0,0⟩
structure ArgsOk (ps:List Pt) (n:Nat):Prop where
 rng:∀ (q:Nat) (p:Pt),ps[q]?=some p -> p.sort ≠ emp -> ∃ a:Nat,p.arg=a /\ a < n
 inj:∀ (q q':Nat) (p p':Pt),ps[q]?=some p -> ps[q']?=some p' -> p.sort ≠ emp -> p'.sort ≠ emp -> p.arg=p'.arg -> q=q'
 sur:∀ a,a < n -> ∃ (q:Nat) (p:Pt),ps[q]?=some p /\ p.sort ≠ emp /\ p.arg=(a:Int)
theorem ArgsOk.pos {ps:List Pt} {n:Nat} (h:ArgsOk ps n) {q a:Nat} {p:Pt} (hq:ps[q]?=some p) (hp:p.sort ≠ emp) (ha:p.arg=(a:Int)):argPos ps a=some q:=by
 unfold argPos
 have hlt:=(List.getElem?_eq_some_iff.1 hq).1
 rw [List.findIdx?_eq_some_iff_getElem]
 refine ⟨hlt,by rw [(List.getElem?_eq_some_iff.1 hq).2]; simp [hp,ha],fun j hj=>?_⟩
 simp only [Bool.and_eq_true,decide_eq_true_eq,not_and,ne_eq]
 intro h1 h2
 have:=h.inj j q _ p (List.getElem?_eq_getElem (by omega)) hq h1 hp (by rw [h2,ha])
 omega
def KidsOk (ps:List Pt) (i0:Nat) (pre:List Nat) (ks:List Sp):Prop:=∀ (q a:Nat) (p:Pt),q < pre.length -> ps[q]?=some p -> p.sort ≠ emp -> p.arg=(a:Int) -> ks[a]?=some ⟨p.sort,startP i0 pre q,pre.getD q 0⟩
theorem startP_app {i0 q:Nat} {pre suf:List Nat} (hq:q <= pre.length):startP i0 (pre++suf) q=startP i0 pre q:=by
 unfold startP
 split
 .rfl
 .rw [List.getD,List.getD,List.getElem?_append_left (by omega)]
theorem getD_app {q:Nat} {pre suf:List Nat} (hq:q < pre.length):(pre++suf).getD q 0=pre.getD q 0:=by
 rw [List.getD,List.getD,List.getElem?_append_left hq]
theorem KidsOk.full {ps:List Pt} {n i0:Nat} {pre:List Nat} {ks:List Sp} (h:KidsOk ps i0 pre ks) (ha:ArgsOk ps n) (hl:ks.length=n) (hp:pre.length=ps.length):ks=spansOf ps i0 n pre:=by
 refine List.ext_getElem? fun a=>?_
 by_cases han:a < n
 .obtain ⟨q,p,hq,hps,hpa⟩:=ha.sur a han
  rw [h q a p (by rw [hp]; exact (List.getElem?_eq_some_iff.1 hq).1) hq hps hpa]
  simp [spansOf,han,ha.pos hq hps hpa,hq]
 .rw [List.getElem?_eq_none (by omega),List.getElem?_eq_none (by simp [spansOf]; omega)]
theorem KidsOk.sym {ps:List Pt} {i0 e:Nat} {pre:List Nat} {ks:List Sp} {p:Pt} (h:KidsOk ps i0 pre ks) (hp:ps[pre.length]?=some p) (hs:p.sort=emp):KidsOk ps i0 (pre++[e]) ks:=by
 intro q a p' hq hp' hs' ha
 simp at hq
 by_cases hqp:q < pre.length
 .rw [startP_app (by omega),getD_app hqp]; exact h q a p' hqp hp' hs' ha
 .have:q=pre.length:=by omega
  subst this
  rw [hp] at hp'; cases hp'
  exact (hs' hs).elim
theorem KidsOk.arg {ps:List Pt} {n i0 e a:Nat} {pre:List Nat} {ks:List Sp} {p:Pt} (h:KidsOk ps i0 pre ks) (hA:ArgsOk ps n) (hl:ks.length=n) (hp:ps[pre.length]?=some p) (hs:p.sort ≠ emp) (ha:p.arg=(a:Int)) (han:a < n):KidsOk ps i0 (pre++[e]) (ks.set a ⟨p.sort,startP i0 pre pre.length,e⟩):=by
 intro q a' p' hq hp' hs' ha'
 simp at hq
 by_cases hqp:q < pre.length
 .rw [startP_app (by omega),getD_app hqp,List.getElem?_set_ne]
  .exact h q a' p' hqp hp' hs' ha'
  .rintro rfl
   have:=hA.inj q pre.length p' p hp' hp hs' hs (by rw [ha',ha])
   omega
 .have:q=pre.length:=by omega
  subst this
  rw [hp] at hp'; cases hp'
  have:a'=a:=by omega
  subst this
  rw [List.getElem?_set_self (by omega),startP_app (Nat.le_refl _)]
  simp
theorem KidsOk.back {ps:List Pt} {i0 e:Nat} {pre:List Nat} {ks:List Sp} (h:KidsOk ps i0 (pre++[e]) ks):KidsOk ps i0 pre ks:=by
 intro q a p hq hp hs ha
 have:=h q a p (by simp; omega) hp hs ha
 rw [startP_app (by omega),getD_app hq] at this
 exact this
end Go.Apx
end
section
namespace Go.Apx
open Go.Proofs
set_option maxRecDepth 4000
theorem AYields.mono {P:Program} {G:Globs} {o:Nat} {args:List AV} {h:AHeap} {R R':AEnd -> AHeap -> Prop} (hc:AYields P G o args h R) (hr:∀ r h',R r h' -> R' r h'):AYields P G o args h R' :=
 fun I m w vs l hi ha ho=>by
  obtain ⟨fn,tmps,assign,body,h1,h2⟩:=hc I m w vs l hi ha ho
  exact ⟨fn,tmps,assign,body,h1,RoundIn.mono h2 fun e w' ⟨r,h',I',m',h3,h4⟩=>⟨r,h',I',m',hr _ _ h3,h4⟩⟩
end Go.Apx
end
section
namespace Go.Apx
open Go.Proofs
set_option maxRecDepth 4000
structure WP where
 r:Nat
 kids:List Nat
 T:Nat
def encWP (w:WP):AV:=.agg [i64 (w.r:Int),apd 1 (i64s w.kids) w.T]
def nodeC (sp:Sp) (ws:List WP) (T:Nat):List AV:=[.sc (.string sp.s),i64 (sp.i:Int),i64 (sp.j:Int),apd 2 (ws.map encWP) T]
structure PR (base:Nat) (g:Gr) (tx:List ByteArray) (tc:Cap) (k:KD) (h0:AHeap) (F:List (Nat × AObj)) (o7 o10:Nat) (sp:Sp) (L:List Sp) (T:Nat) (Mk:List (K4 × Bool)) (ws:List WP) (Tn tot:Nat) (H:AHeap):Prop where
 pk:PK base g tx tc k L T Mk H
 lne:L ≠ []
 f:∀ p ∈ F,H[p.1]?=some p.2 /\ p.1 ≠ k.ok /\ p.1 ≠ k.onum /\ p.1 ≠ k.orest /\ p.1 ≠ T /\ p.1 ≠ o7 /\ p.1 ≠ o10 /\ (ws ≠ [] -> p.1 ≠ Tn)
 nd:(F.map (·.1)).Nodup
 f7:H[o7]?=some (.cells 0 [i64 (tot:Int)])
 f10:H[o10]?=some (.cells 0 (nodeC sp ws Tn))
 tn:ws ≠ [] -> H[Tn]?=some (.tok ws.length) /\ Tn ≠ T /\ base <= Tn
 n7:o7 ≠ k.ok
 n10:o10 ≠ k.ok
 n71:o7 ≠ o10
 b7:base <= o7
 b10:base <= o10
 low:Low base h0 H
section
variable {base:Nat} {g:Gr} {tx:List ByteArray} {tc:Cap} {k:KD} {h0:AHeap} {F:List (Nat × AObj)} {o7 o10:Nat} {sp:Sp} {L:List Sp} {T:Nat} {Mk:List (K4 × Bool)} {ws:List WP} {Tn tot:Nat} {H:AHeap}
theorem lt_of {α:Type} {l:List α} {i:Nat} {x:α} (h:l[i]?=some x):i < l.length:=(List.getElem?_eq_some_iff.1 h).1
theorem PK.keep {H':AHeap} (h:PK base g tx tc k L T Mk H) (hL:L ≠ []) (hk:∀ (z:Nat) (w:AObj),H[z]?=some w -> z=k.ok \/ z=k.oc \/ z=k.orl \/ z=k.od \/ z=k.onum \/ z=k.orest \/ z=T -> H'[z]?=some w):PK base g tx tc k L T Mk H':=by
 obtain ⟨a,b,hch⟩:=h.ch
 exact ⟨hk _ _ h.pk (by simp),⟨a,b,hk _ _ hch (by simp)⟩,hk _ _ h.rl (by simp),hk _ _ h.dn (by simp),hk _ _ h.nm (by simp),hk _ _ h.rs (by simp),fun hl=>⟨hk _ _ (h.tk hl).1 (by simp),(h.tk hl).2⟩,h.memo,h.n1,h.n2,h.n3,h.n4,h.n5,h.n6,h.b1,h.b2,h.b3⟩
theorem PR.app (h:PR base g tx tc k h0 F o7 o10 sp L T Mk ws Tn tot H) (x:AObj):PR base g tx tc k h0 ((H.length,x) :: F) o7 o10 sp L T Mk ws Tn tot (H++[x]):=by
 have kp:∀ (z:Nat) (w:AObj),H[z]?=some w -> (H++[x])[z]?=some w:=fun z w hz=>by rw [List.getElem?_append_left (lt_of hz)]; exact hz
 have hT:=h.pk.tk h.lne
 refine ⟨h.pk.keep h.lne fun z w hz _=>kp z w hz,h.lne,fun p hp=>?_,?_,kp _ _ h.f7,kp _ _ h.f10,fun hw=>⟨kp _ _ (h.tn hw).1,(h.tn hw).2⟩,h.n7,h.n10,h.n71,h.b7,h.b10,h.low.trans (Low.app _ _ _)⟩
 .rcases List.mem_cons.1 hp with rfl | hp
  .refine ⟨by simp,?_,?_,?_,?_,?_,?_,fun hw=>?_⟩
   .have:=lt_of h.pk.pk; simp only; omega
   .have:=lt_of h.pk.nm; simp only; omega
   .have:=lt_of h.pk.rs; simp only; omega
   .have:=lt_of hT.1; simp only; omega
   .have:=lt_of h.f7; simp only; omega
   .have:=lt_of h.f10; simp only; omega
   .have:=lt_of (h.tn hw).1; simp only; omega
  .have:=h.f p hp
   exact ⟨kp _ _ this.1,this.2⟩
 .rw [List.map_cons,List.nodup_cons]
  refine ⟨fun hm=>?_,h.nd⟩
  obtain ⟨p,hp,he⟩:=List.mem_map.1 hm
  have:=lt_of (h.f p hp).1
  simp only at he; omega
theorem PR.setF {o:Nat} {x:AObj} (h:PR base g tx tc k h0 ((o,x) :: F) o7 o10 sp L T Mk ws Tn tot H) (y:AObj) (hb:base <= o) (hne:∀ z,z=k.oc \/ z=k.orl \/ z=k.od -> o ≠ z):PR base g tx tc k h0 ((o,y) :: F) o7 o10 sp L T Mk ws Tn tot (H.set o y):=by
 have ho:=h.f (o,x) (by simp)
 simp only at ho
 have kp:∀ (z:Nat) (w:AObj),H[z]?=some w -> z ≠ o -> (H.set o y)[z]?=some w:=fun z w hz hzo=>by rw [List.getElem?_set_ne (fun e=>hzo e.symm)]; exact hz
 refine ⟨h.pk.keep h.lne fun z w hz hz2=>kp z w hz ?_,h.lne,fun p hp=>?_,h.nd,kp _ _ h.f7 (fun e=>ho.2.2.2.2.2.1 e.symm),kp _ _ h.f10 (fun e=>ho.2.2.2.2.2.2.1 e.symm),fun hw=>⟨kp _ _ (h.tn hw).1 (fun e=>ho.2.2.2.2.2.2.2 hw e.symm),(h.tn hw).2⟩,h.n7,h.n10,h.n71,h.b7,h.b10,h.low.trans (Low.set hb)⟩
 .rintro rfl
  rcases hz2 with e | e | e | e | e | e | e
  .exact ho.2.1 e
  .exact hne _ (.inl rfl) e
  .exact hne _ (.inr (.inl rfl)) e
  .exact hne _ (.inr (.inr rfl)) e
  .exact ho.2.2.1 e
  .exact ho.2.2.2.1 e
  .exact ho.2.2.2.2.1 e
 .rcases List.mem_cons.1 hp with rfl | hp
  .exact ⟨by simp only; rw [List.getElem?_set_self (lt_of ho.1)],ho.2⟩
  .have:=h.f p (by simp [hp])
   refine ⟨kp _ _ this.1 ?_,this.2⟩
   rintro e
   have hnd:=h.nd
   rw [List.map_cons,List.nodup_cons] at hnd
   exact hnd.1 (List.mem_map.2 ⟨p,hp,e⟩)
def tkF (n T:Nat):List (Nat × AObj):=if n=0 then [] else [(T,.tok n)]
theorem PR.tok {n Tw:Nat} (h:PR base g tx tc k h0 (tkF n Tw++F) o7 o10 sp L T Mk ws Tn tot H) (hb:n ≠ 0 -> base <= Tw) (hbl:base <= H.length) :
  PR base g tx tc k h0 (tkF (n+1) (apT H n Tw)++F) o7 o10 sp L T Mk ws Tn tot (apG H n Tw) /\ base <= apT H n Tw:=by
 by_cases hn:n=0
 .subst hn
  have:=PR.app (F:=F) (by simpa [tkF] using h) (.tok 1)
  exact ⟨by simpa [tkF,apT,apG] using this,by simpa [apT] using hbl⟩
 .have h1:PR base g tx tc k h0 ((Tw,.tok n) :: F) o7 o10 sp L T Mk ws Tn tot H:=by simpa [tkF,hn] using h
  have ho:=(h1.f (Tw,.tok n) (by simp)).1
  simp only at ho
  obtain ⟨ca,cb,hch⟩:=h1.pk.ch
  have:=h1.setF (.tok (n+1)) (hb hn) (fun z hz=>by
   rintro rfl
   rcases hz with rfl | rfl | rfl
   .rw [hch] at ho; cases ho
   .have:=h1.pk.rl; rw [ho] at this; cases this
   .have:=h1.pk.dn; rw [ho] at this; cases this)
  exact ⟨by simpa [tkF,apT,apG,hn] using this,by simpa [apT,hn] using hb hn⟩
theorem PR.way (h:PR base g tx tc k h0 F o7 o10 sp L T Mk ws Tn tot H) (w:WP) (hbl:base <= H.length) :
  PR base g tx tc k h0 F o7 o10 sp L T Mk (ws++[w]) (apT H ws.length Tn) tot ((apG H ws.length Tn).set o10 (.cells 0 (nodeC sp (ws++[w]) (apT H ws.length Tn)))):=by
 have hT2:ws.length ≠ 0 -> ∃ q,H[Tn]?=some (.tok q):=fun hn=>⟨_,(h.tn (by rintro rfl; exact hn rfl)).1⟩
 have hT:=h.pk.tk h.lne
 have nn:∀ (z:Nat) (x:AObj),H[z]?=some x -> (ws ≠ [] -> z ≠ Tn) -> z ≠ apT H ws.length Tn:=fun z x hz hzT=>by
  unfold apT
  split
  .have:=lt_of hz; omega
  .rename_i hn; exact hzT (by rintro rfl; exact hn rfl)
 have kp:∀ (y:AObj) (z:Nat) (x:AObj),H[z]?=some x -> (ws ≠ [] -> z ≠ Tn) -> z ≠ o10 -> ((apG H ws.length Tn).set o10 y)[z]?=some x:=fun y z x hz h1 h2=>by
  rw [List.getElem?_set_ne (fun e=>h2 e.symm)]
  exact apG_keep' hz (fun hn=>h1 (by rintro rfl; exact hn rfl))
 have nc:∀ (z:Nat) (x:AObj),H[z]?=some x -> (∀ q,x ≠ .tok q) -> ws ≠ [] -> z ≠ Tn:=fun z x hz hx hw e=>by
  have:=(h.tn hw).1; rw [<- e,hz] at this; exact hx _ (Option.some.inj this)
 obtain ⟨ca,cb,hch⟩:=h.pk.ch
 have no10:o10 < (apG H ws.length Tn).length:=Nat.lt_of_lt_of_le (lt_of h.f10) (apG_len _ _ _)
 have t10:apT H ws.length Tn ≠ o10:=fun e=>nn _ _ h.f10 (nc _ _ h.f10 (by simp)) e.symm
 refine ⟨h.pk.keep h.lne fun z x hz hz2=>?_,h.lne,fun p hp=>?_,h.nd,kp _ _ _ h.f7 (nc _ _ h.f7 (by simp)) h.n71,?_,fun _=>⟨?_,?_,?_⟩,h.n7,h.n10,h.n71,h.b7,h.b10,(h.low.trans (Low.apG fun hn=>(h.tn (by rintro rfl; exact hn rfl)).2.2)).trans (Low.set h.b10)⟩
 .rcases hz2 with rfl | rfl | rfl | rfl | rfl | rfl | rfl
  .rw [h.pk.pk] at hz; cases hz; exact kp _ _ _ h.pk.pk (nc _ _ h.pk.pk (by simp)) h.n10.symm
  .refine kp _ _ _ hz (nc _ _ hz (by rw [hch] at hz; cases hz; simp)) ?_
   rintro rfl
   have:=h.f10
   rw [hch] at this; simp [chCells,nodeC] at this
  .refine kp _ _ _ hz (nc _ _ hz (by rw [h.pk.rl] at hz; cases hz; simp)) ?_
   rintro rfl
   have:=h.f10
   rw [h.pk.rl] at this; cases this
  .refine kp _ _ _ hz (nc _ _ hz (by rw [h.pk.dn] at hz; cases hz; simp)) ?_
   rintro rfl
   have:=h.f10
   rw [h.pk.dn] at this; cases this
  .refine kp _ _ _ hz (nc _ _ hz (by rw [h.pk.nm] at hz; cases hz; simp)) ?_
   rintro rfl
   have:=h.f10
   rw [h.pk.nm] at this; cases this
  .refine kp _ _ _ hz (nc _ _ hz (by rw [h.pk.rs] at hz; cases hz; simp)) ?_
   rintro rfl
   have:=h.f10
   rw [h.pk.rs] at this; cases this
  .refine kp _ _ _ hz (fun hw e=>(h.tn hw).2.1 e.symm) ?_
   rintro rfl
   have:=h.f10
   rw [hT.1] at this; cases this
 .have:=h.f p hp
  exact ⟨kp _ _ _ this.1 this.2.2.2.2.2.2.2 this.2.2.2.2.2.2.1,this.2.1,this.2.2.1,this.2.2.2.1,this.2.2.2.2.1,this.2.2.2.2.2.1,this.2.2.2.2.2.2.1,fun _=>nn _ _ this.1 this.2.2.2.2.2.2.2⟩
 .rw [List.getElem?_set_self no10]
 .rw [List.getElem?_set_ne (fun e=>t10 e.symm),apG_tok hT2]; simp
 .exact fun e=>nn _ _ hT.1 (fun hw e=>(h.tn hw).2.1 e.symm) e.symm
 .unfold apT
  split
  .exact hbl
  .rename_i hn; exact (h.tn (by rintro rfl; exact hn rfl)).2.2
theorem PR.memo {H':AHeap} {Mk':List (K4 × Bool)} (h:PR base g tx tc k h0 F o7 o10 sp L T Mk ws Tn tot H) (hp:PK base g tx tc k L T Mk' H') (hb:But k.orest H H'):PR base g tx tc k h0 F o7 o10 sp L T Mk' ws Tn tot H':=by
 have h7:=h.f7
 have h10:=h.f10
 have kp:∀ (z:Nat) (w:AObj),H[z]?=some w -> z ≠ k.orest -> H'[z]?=some w:=fun z w hz hzo=>by rw [hb z hzo]; exact hz
 refine ⟨hp,h.lne,fun p hp'=>⟨kp _ _ (h.f p hp').1 (h.f p hp').2.2.2.1,(h.f p hp').2⟩,h.nd,kp _ _ h7 ?_,kp _ _ h10 ?_,fun hw=>⟨kp _ _ (h.tn hw).1 ?_,(h.tn hw).2⟩,h.n7,h.n10,h.n71,h.b7,h.b10,fun z x hz hx=>?_⟩
 .rintro rfl; rw [h.pk.rs] at h7; cases h7
 .rintro rfl; rw [h.pk.rs] at h10; cases h10
 .rintro rfl; have:=(h.tn hw).1; rw [h.pk.rs] at this; cases this
 .rw [hb z (fun e=>by have:=h.pk.b3; omega)]; exact h.low z x hz hx
end
end Go.Apx
end
section
namespace Go.Apx
open Go.Proofs
set_option maxRecDepth 4000
def numAll (L:List Sp) (w:List Sp):List Sp × List Nat:=w.foldl (fun st x=>((numSp st.1 x).1,st.2++[(numSp st.1 x).2])) (L,[])
theorem PR.drop {base:Nat} {g:Gr} {tx:List ByteArray} {tc:Cap} {k:KD} {h0:AHeap} {F F':List (Nat × AObj)} {o7 o10:Nat} {sp:Sp} {L:List Sp} {T:Nat} {Mk:List (K4 × Bool)} {ws:List WP} {Tn tot:Nat} {H:AHeap}
  (h:PR base g tx tc k h0 (F'++F) o7 o10 sp L T Mk ws Tn tot H):PR base g tx tc k h0 F o7 o10 sp L T Mk ws Tn tot H :=
 ⟨h.pk,h.lne,fun p hp=>h.f p (by simp [hp]),by have:=h.nd; rw [List.map_append,List.nodup_append] at this; exact this.2.1,h.f7,h.f10,h.tn,h.n7,h.n10,h.n71,h.b7,h.b10,h.low⟩
end Go.Apx
end
section
namespace Go.Apx
open Go.Proofs
set_option maxRecDepth 4000
structure PB (base:Nat) (g:Gr) (tx:List ByteArray) (tc:Cap) (k:KD) (h0:AHeap) (F:List (Nat × AObj)) (L:List Sp) (T:Nat) (Mk:List (K4 × Bool)) (H:AHeap):Prop where
 pk:PK base g tx tc k L T Mk H
 lne:L ≠ []
 f:∀ p ∈ F,H[p.1]?=some p.2 /\ p.1 ≠ k.ok /\ p.1 ≠ k.onum /\ p.1 ≠ k.orest /\ p.1 ≠ T
 nd:(F.map (·.1)).Nodup
 low:Low base h0 H
section
variable {base:Nat} {g:Gr} {tx:List ByteArray} {tc:Cap} {k:KD} {h0:AHeap} {F F':List (Nat × AObj)} {o7 o10:Nat} {sp:Sp} {L:List Sp} {T:Nat} {Mk:List (K4 × Bool)} {ws:List WP} {Tn tot:Nat} {H:AHeap}
theorem PB.app (h:PB base g tx tc k h0 F L T Mk H) (x:AObj):PB base g tx tc k h0 ((H.length,x) :: F) L T Mk (H++[x]):=by
 have kp:∀ (z:Nat) (w:AObj),H[z]?=some w -> (H++[x])[z]?=some w:=fun z w hz=>by rw [List.getElem?_append_left (lt_of hz)]; exact hz
 have hT:=h.pk.tk h.lne
 refine ⟨h.pk.keep h.lne fun z w hz _=>kp z w hz,h.lne,fun p hp=>?_,?_,h.low.trans (Low.app _ _ _)⟩
 .rcases List.mem_cons.1 hp with rfl | hp
  .refine ⟨by simp,?_,?_,?_,?_⟩
   .have:=lt_of h.pk.pk; simp only; omega
   .have:=lt_of h.pk.nm; simp only; omega
   .have:=lt_of h.pk.rs; simp only; omega
   .have:=lt_of hT.1; simp only; omega
  .have:=h.f p hp
   exact ⟨kp _ _ this.1,this.2⟩
 .rw [List.map_cons,List.nodup_cons]
  refine ⟨fun hm=>?_,h.nd⟩
  obtain ⟨p,hp,he⟩:=List.mem_map.1 hm
  have:=lt_of (h.f p hp).1
  simp only at he; omega
theorem PB.setF {o:Nat} {x:AObj} (h:PB base g tx tc k h0 ((o,x) :: F) L T Mk H) (y:AObj) (hb:base <= o) (hne:∀ z,z=k.oc \/ z=k.orl \/ z=k.od -> o ≠ z):PB base g tx tc k h0 ((o,y) :: F) L T Mk (H.set o y):=by
 have ho:=h.f (o,x) (by simp)
 simp only at ho
 have kp:∀ (z:Nat) (w:AObj),H[z]?=some w -> z ≠ o -> (H.set o y)[z]?=some w:=fun z w hz hzo=>by rw [List.getElem?_set_ne (fun e=>hzo e.symm)]; exact hz
 refine ⟨h.pk.keep h.lne fun z w hz hz2=>kp z w hz ?_,h.lne,fun p hp=>?_,h.nd,h.low.trans (Low.set hb)⟩
 .rintro rfl
  rcases hz2 with e | e | e | e | e | e | e
  .exact ho.2.1 e
  .exact hne _ (.inl rfl) e
  .exact hne _ (.inr (.inl rfl)) e
  .exact hne _ (.inr (.inr rfl)) e
  .exact ho.2.2.1 e
  .exact ho.2.2.2.1 e
  .exact ho.2.2.2.2 e
 .rcases List.mem_cons.1 hp with rfl | hp
  .exact ⟨by simp only; rw [List.getElem?_set_self (lt_of ho.1)],ho.2⟩
  .have:=h.f p (by simp [hp])
   refine ⟨kp _ _ this.1 ?_,this.2⟩
   rintro e
   have hnd:=h.nd
   rw [List.map_cons,List.nodup_cons] at hnd
   exact hnd.1 (List.mem_map.2 ⟨p,hp,e⟩)
theorem PB.tok {n Tw:Nat} (h:PB base g tx tc k h0 (tkF n Tw++F) L T Mk H) (hb:n ≠ 0 -> base <= Tw) (hbl:base <= H.length) :
  PB base g tx tc k h0 (tkF (n+1) (apT H n Tw)++F) L T Mk (apG H n Tw) /\ base <= apT H n Tw:=by
 by_cases hn:n=0
 .subst hn
  have:=PB.app (F:=F) (by simpa [tkF] using h) (.tok 1)
  exact ⟨by simpa [tkF,apT,apG] using this,by simpa [apT] using hbl⟩
 .have h1:PB base g tx tc k h0 ((Tw,.tok n) :: F) L T Mk H:=by simpa [tkF,hn] using h
  have ho:=(h1.f (Tw,.tok n) (by simp)).1
  simp only at ho
  obtain ⟨ca,cb,hch⟩:=h1.pk.ch
  have:=h1.setF (.tok (n+1)) (hb hn) (fun z hz=>by
   rintro rfl
   rcases hz with rfl | rfl | rfl
   .rw [hch] at ho; cases ho
   .have:=h1.pk.rl; rw [ho] at this; cases this
   .have:=h1.pk.dn; rw [ho] at this; cases this)
  exact ⟨by simpa [tkF,apT,apG,hn] using this,by simpa [apT,hn] using hb hn⟩
theorem PB.drop (h:PB base g tx tc k h0 (F'++F) L T Mk H):PB base g tx tc k h0 F L T Mk H :=
 ⟨h.pk,h.lne,fun p hp=>h.f p (by simp [hp]),by have:=h.nd; rw [List.map_append,List.nodup_append] at this; exact this.2.1,h.low⟩
end
end Go.Apx
end
section
namespace Go.Apx
open Go.Proofs
set_option maxRecDepth 4000
def wayP (L:List Sp) (c:Nat × List Sp):List Sp × (Nat × List Nat):=((numAll L c.2).1,(c.1,(numAll L c.2).2))
theorem PK.grow {base:Nat} {g:Gr} {tx:List ByteArray} {tc:Cap} {k:KD} {T:Nat} {Mk:List (K4 × Bool)} {H:AHeap} (h:PK base g tx tc k [] T Mk H) (K:AHeap):PK base g tx tc k [] T Mk (H++K):=by
 have kp:∀ (z:Nat) (w:AObj),H[z]?=some w -> (H++K)[z]?=some w:=fun z w hz=>by rw [List.getElem?_append_left (lt_of hz)]; exact hz
 obtain ⟨a,b,hch⟩:=h.ch
 exact ⟨kp _ _ h.pk,⟨a,b,kp _ _ hch⟩,kp _ _ h.rl,kp _ _ h.dn,kp _ _ h.nm,kp _ _ h.rs,by simp,h.memo,h.n1,h.n2,h.n3,h.n4,h.n5,h.n6,h.b1,h.b2,h.b3⟩
def InT (tx:List ByteArray) (L:List Sp):Prop:=∀ x ∈ L,x.i <= tx.length /\ x.j <= tx.length
theorem InT.num {tx:List ByteArray} {L:List Sp} {x:Sp} (h:InT tx L) (hx:x.i <= tx.length /\ x.j <= tx.length):InT tx (numSp L x).1:=by
 unfold numSp
 split
 .exact h
 .intro y hy
  rcases List.mem_append.1 hy with h' | h'
  .exact h y h'
  .simp at h'; subst h'; exact hx
theorem InT.all {tx:List ByteArray}:∀ {w L:List Sp} {ns:List Nat},InT tx L -> InT tx w -> InT tx (w.foldl (fun st x=>((numSp st.1 x).1,st.2++[(numSp st.1 x).2])) (L,ns)).1
 | [],L,ns,h,_=>h
 | x :: w,L,ns,h,hw=>InT.all (w:=w) (h.num (hw x (by simp))) (fun y hy=>hw y (by simp [hy]))
theorem InT.run {tx:List ByteArray}:∀ {c:List (Nat × List Sp)} {st:List Sp × List (Nat × List Nat)},InT tx st.1 -> (∀ x ∈ c,InT tx x.2) -> InT tx (runW wayP st c).1
 | [],st,h,_=>h
 | a :: c,st,h,hc=>InT.run (c:=c) (st:=((wayP st.1 a).1,st.2++[(wayP st.1 a).2])) (InT.all h (hc a (by simp))) (fun x hx=>hc x (by simp [hx]))
theorem PK.swap {base:Nat} {g:Gr} {tx:List ByteArray} {tc:Cap} {k:KD} {L L':List Sp} {T T':Nat} {Mk1 Mk':List (K4 × Bool)} {H H':AHeap} (h:PK base g tx tc k L' T' Mk1 H) (h2:PK base g tx tc k L T Mk' H') (hb:But k.orest H H'):PK base g tx tc k L' T' Mk' H':=by
 have kp:∀ (z:Nat) (w:AObj),H[z]?=some w -> z ≠ k.orest -> H'[z]?=some w:=fun z w hz hzo=>by rw [hb z hzo]; exact hz
 have nc:∀ (z gg:Nat) (cs:List AV),H[z]?=some (.cells gg cs) -> z ≠ k.orest:=fun z gg cs hz e=>by rw [e,h.rs] at hz; cases hz
 have nt:∀ (z n:Nat),H[z]?=some (.tok n) -> z ≠ k.orest:=fun z n hz e=>by rw [e,h.rs] at hz; cases hz
 obtain ⟨a,b,hch⟩:=h.ch
 exact ⟨kp _ _ h.pk (nc _ _ _ h.pk),⟨a,b,kp _ _ hch (nc _ _ _ hch)⟩,kp _ _ h.rl h.n1.symm,kp _ _ h.dn h.n2.symm,kp _ _ h.nm h.n3.symm,h2.rs,fun hl=>⟨kp _ _ (h.tk hl).1 (nt _ _ (h.tk hl).1),(h.tk hl).2⟩,h2.memo,h.n1,h.n2,h.n3,h.n4,h.n5,h.n6,h.b1,h.b2,h.b3⟩
end Go.Apx
end
