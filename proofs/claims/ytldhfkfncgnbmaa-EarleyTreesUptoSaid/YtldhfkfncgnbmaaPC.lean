/- Charts: maps by any keys, items, the heap of a chart. -/
import Derived.Test.YtldhfkfncgnbmaaPB
section
namespace Go.Apx
open Go.Proofs
set_option maxRecDepth 4000
section
variable {α β:Type} [DecidableEq α]
def afind:List (α × β) -> α -> Option β
 | [],_=>none
 | (k,v) :: r,a=>if a=k then some v else afind r a
def aset:List (α × β) -> α -> β -> List (α × β)
 | [],a,v=>[(a,v)]
 | (k,u) :: r,a,v=>if a=k then (a,v) :: r else (k,u) :: aset r a v
def amapOf (kf:α -> AV) (vf:β -> AV) (l:List (α × β)):List (AV × AV):=l.map fun p=>(kf p.1,vf p.2)
def KeyF (kf:α -> AV):Prop:=∀ a b,keyEq (kf a) (kf b)=some (decide (a=b))
theorem amapFind_of {kf:α -> AV} (hk:KeyF kf) (vf:β -> AV) (l:List (α × β)) (a:α):amapFind (kf a) (amapOf kf vf l)=some ((afind l a).map vf):=by
 induction l with
 | nil=>rfl
 | cons p r ih =>
  obtain ⟨k,v⟩:=p
  show (match keyEq (kf a) (kf k) with
   | some true=>some (some (vf v))
   | some false=>amapFind (kf a) (amapOf kf vf r)
   | none=>none)=_
  rw [hk,ih]
  simp only [afind]
  by_cases e:a=k <;> simp [e]
theorem amapSet_of {kf:α -> AV} (hk:KeyF kf) (vf:β -> AV) (l:List (α × β)) (a:α) (v:β):amapSet (kf a) (vf v) (amapOf kf vf l)=some (amapOf kf vf (aset l a v)):=by
 induction l with
 | nil=>rfl
 | cons p r ih =>
  obtain ⟨k,u⟩:=p
  show (match keyEq (kf a) (kf k) with
   | some true=>some ((kf a,vf v) :: amapOf kf vf r)
   | some false=>(amapSet (kf a) (vf v) (amapOf kf vf r)).map ((kf k,vf u) :: ·)
   | none=>none)=_
  rw [hk,ih]
  simp only [aset]
  by_cases e:a=k <;> simp [e,amapOf]
theorem afind_aset (l:List (α × β)) (a b:α) (v:β):afind (aset l a v) b=if b=a then some v else afind l b:=by
 induction l with
 | nil=>simp [aset,afind]
 | cons p r ih =>
  obtain ⟨k,u⟩:=p
  simp only [aset]
  by_cases e:a=k
  .subst e
   by_cases e2:b=a <;> simp [afind,e2]
  .simp only [if_neg e,afind,ih]
   by_cases e2:b=k
   .subst e2; simp [Ne.symm e]
   .simp [e2]
def tkeys (l:List α):List (α × Bool):=l.map fun a=>(a,true)
theorem tkeys_find (l:List α) (a:α):afind (tkeys l) a=if a ∈ l then some true else none:=by
 induction l with
 | nil=>rfl
 | cons k r ih =>
  simp only [tkeys,List.map_cons,afind,List.mem_cons] at ih ⊢
  by_cases e:a=k
  .simp [e]
  .simp [e,ih]
theorem tkeys_set (l:List α) (a:α) (h:a ∉ l):aset (tkeys l) a true=tkeys (l++[a]):=by
 induction l with
 | nil=>rfl
 | cons k r ih =>
  simp only [List.mem_cons,not_or] at h
  have:=ih h.2
  simp only [tkeys,List.map_cons,aset,if_neg h.1,List.cons_append] at this ⊢
  rw [this]
end
def boolV (b:Bool):AV:=.sc (.bool b)
def encI (x:Itm):AV:=.agg [i64 (x.r:Int),i64 (x.d:Int),i64 (x.h:Int)]
def encSp (x:Sp):AV:=.agg [.sc (.string x.s),i64 (x.i:Int),i64 (x.j:Int)]
@[simp] theorem kindOf_int (k:IntKind) (n:Int):kindOf (.sc (.int k n))=0:=rfl
@[simp] theorem kindOf_str (s:ByteArray):kindOf (.sc (.string s))=1:=rfl
structure K4 where
 r:Nat
 d:Nat
 i:Nat
 j:Nat
deriving DecidableEq
def encK (x:K4):AV:=.agg [i64 (x.r:Int),i64 (x.d:Int),i64 (x.i:Int),i64 (x.j:Int)]
abbrev RM:=List (ByteArray × (List Nat × Nat))
def rulesV (v:List Nat × Nat):AV:=apd 1 (i64s v.1) v.2
def rulesTo (g:Gr) (n:Nat) (s:ByteArray):List Nat:=(List.range n).filter fun r=>match g.rules[r]? with | some R=>decide (R.sort=s) && g.us R | none=>false
structure RMOk (g:Gr) (M:RM) (n:Nat):Prop where
 get:∀ s,(sfind M s).map (·.1)=if rulesTo g n s=[] then none else some (rulesTo g n s)
structure CD where
 o:Nat
 orl:Nat
 od:Nat
 os:Nat
 M:RM
 S:List (List Itm × Nat)
 L:List Itm
 T:Nat
 ms:List Nat
 Tm:Nat
 m:Nat
 D:List Sp
def setV (p:List Itm × Nat):AV:=apd 3 (p.1.map encI) p.2
def chCells (g:Gr) (tx:List ByteArray) (tc:Cap) (orl od:Nat) (a b:AV):List AV :=
 [.sl 1 (g.sorts.map sv) g.sc,.sl 4 (g.rules.map encR) g.rc,.mp orl,.sl 1 (tx.map sv) tc,a,b,.mp od]
def msV (ms:List Nat) (m:Nat):List AV:=(ms++[m]).map .mp
structure CI (base:Nat) (g:Gr) (tx:List ByteArray) (tc:Cap) (c:CD) (H:AHeap):Prop where
 ch:H[c.o]?=some (.cells 0 (chCells g tx tc c.orl c.od (.rf c.os c.S.length 0 (c.S.length+1) (.own 1)) (.sl 1 (msV c.ms c.m) (.tok c.Tm))))
 rl:H[c.orl]?=some (.amap (smap rulesV c.M))
 dn:H[c.od]?=some (.amap (amapOf encSp boolV (tkeys c.D)))
 st:H[c.os]?=some (.cells c.S.length (c.S.map setV++[setV (c.L,c.T)]))
 it:H[c.m]?=some (.amap (amapOf encI boolV (tkeys c.L)))
 tk:c.L ≠ [] -> H[c.T]?=some (.tok c.L.length) /\ c.T ≠ c.Tm /\ base <= c.T
 tm:H[c.Tm]?=some (.tok (c.ms.length+1))
 ml:c.ms.length=c.S.length
 n1:c.o ≠ c.os
 n2:c.m ≠ c.od
 n3:c.m ≠ c.orl
 n4:c.od ≠ c.orl
 b1:base <= c.o
 b2:base <= c.orl
 b3:base <= c.od
 b4:base <= c.os
 b5:base <= c.Tm
 b6:base <= c.m
def Low (base:Nat) (H H':AHeap):Prop:=∀ (z:Nat) (x:AObj),z < base -> H[z]?=some x -> H'[z]?=some x
theorem Low.refl (b:Nat) (H:AHeap):Low b H H:=fun _ _ _ h=>h
theorem Low.trans {b:Nat} {H H' H'':AHeap} (h:Low b H H') (h':Low b H' H''):Low b H H'':=fun z x hz hx=>h' z x hz (h z x hz hx)
theorem Low.app (b:Nat) (H K:AHeap):Low b H (H++K):=fun z x _ h=>by rw [List.getElem?_append_left (List.getElem?_eq_some_iff.1 h).1]; exact h
theorem Low.set {b:Nat} {H:AHeap} {o:Nat} {x:AObj} (ho:b <= o):Low b H (H.set o x):=fun z y hz h=>by
 rw [List.getElem?_set_ne (by omega)]; exact h
theorem Low.apG {b:Nat} {H:AHeap} {n T:Nat} (hT:n ≠ 0 -> b <= T):Low b H (apG H n T):=by
 unfold Go.Apx.apG
 split
 .exact Low.app _ _ _
 .rename_i hn; exact Low.set (hT hn)
def addI (L:List Itm) (x:Itm):List Itm:=if x ∈ L then L else L++[x]
end Go.Apx
end
section
namespace Go.Apx
open Go.Proofs
set_option maxRecDepth 4000
def SameC (c c':CD):Prop:=c'={ c with L:=c'.L,T:=c'.T }
theorem SameC.refl (c:CD):SameC c c:=rfl
theorem SameC.of (c:CD) (L:List Itm) (T:Nat):SameC c { c with L:=L,T:=T }:=rfl
theorem SameC.trans {c c' c'':CD} (h:SameC c c') (h':SameC c' c''):SameC c c'':=by
 unfold SameC at *
 rw [h'] ; rw [h]
theorem SameC.o {c c':CD} (h:SameC c c'):c'.o=c.o:=by rw [h]
theorem SameC.S {c c':CD} (h:SameC c c'):c'.S=c.S:=by rw [h]
theorem SameC.D {c c':CD} (h:SameC c c'):c'.D=c.D:=by rw [h]
theorem SameC.M {c c':CD} (h:SameC c c'):c'.M=c.M:=by rw [h]
def predF (L:List Itm) (k:Nat) (l:List Nat):List Itm:=l.foldl (fun L r=>addI L ⟨r,0,k⟩) L
def MoreR (g:Gr) (tx:List ByteArray) (tc:Cap) (base:Nat) (c:CD) (H:AHeap) (P:List Itm -> Prop) (r:AEnd) (H':AHeap):Prop :=
 ∃ c',r=.ret (.tup []) /\ SameC c c' /\ P c'.L /\ CI base g tx tc c' H' /\ Low base H H' /\ H.length <= H'.length
end Go.Apx
end
section
namespace Go.Apx
open Go.Proofs
set_option maxRecDepth 4000
structure Snd (g:Gr) (tx:List ByteArray) (k:Nat) (x:Itm):Prop where
 ex:∃ R:Rl,g.rules[x.r]?=some R /\ x.d <= R.parts.length /\ x.h <= k /\ k <= tx.length /\ DerP g tx (R.parts.take x.d) x.h k
 it:It g tx k x
theorem Snd.adv {g:Gr} {tx:List ByteArray} {i k:Nat} {x:Itm} {p:Pt} (h:Snd g tx i x) (hn:nextF g x=some p) (hs:p.sort ≠ emp) (hd:Der g tx p.sort i k) (hk:k <= tx.length):Snd g tx k x.adv:=by
 obtain ⟨R,hR,h1,h2,h3,h4⟩:=h.ex
 have hp:R.parts[x.d]?=some p:=by simpa [nextF,hR] using hn
 have hlt:=(List.getElem?_eq_some_iff.1 hp).1
 have hle:=hd.le.1
 refine ⟨⟨R,hR,by simp [Itm.adv]; omega,by simp [Itm.adv]; omega,hk,?_⟩,.comp h.it hn hs hd⟩
 simp only [Itm.adv]
 rw [List.take_add_one,hp]
 exact h4.append (.arg' hs hd (.nil _))
theorem Snd.scan {g:Gr} {tx:List ByteArray} {k:Nat} {x:Itm} {p:Pt} (h:Snd g tx k x) (hn:nextF g x=some p) (hs:p.sort=emp) (ht:tx[k]?=some p.sym):Snd g tx (k+1) x.adv:=by
 obtain ⟨R,hR,h1,h2,h3,h4⟩:=h.ex
 have hp:R.parts[x.d]?=some p:=by simpa [nextF,hR] using hn
 have hlt:=(List.getElem?_eq_some_iff.1 hp).1
 have hk:=(List.getElem?_eq_some_iff.1 ht).1
 refine ⟨⟨R,hR,by simp [Itm.adv]; omega,by simp [Itm.adv]; omega,by omega,?_⟩,.scan h.it hn hs ht⟩
 simp only [Itm.adv]
 rw [List.take_add_one,hp]
 exact h4.append (.sym hs ht (.nil _))
theorem Snd.begin {g:Gr} {tx:List ByteArray} {k r:Nat} {R:Rl} (hR:g.rules[r]?=some R) (hk:k <= tx.length) (hi:It g tx k ⟨r,0,k⟩):Snd g tx k ⟨r,0,k⟩:=⟨⟨R,hR,by simp,by simp,hk,by simpa using DerP.nil k⟩,hi⟩
theorem nodup_le:∀ (B:Nat) (l:List Nat),l.Nodup -> (∀ x ∈ l,x < B) -> l.length <= B
 | 0,l,_,h=>by
  cases l with
  | nil=>simp
  | cons a l=>have:=h a (by simp); omega
 | B+1,l,hn,h=>by
  by_cases hB:B ∈ l
  .have h1:=nodup_le B (l.erase B) (hn.erase B) (fun x hx=>by
    have h2:=h x (List.mem_of_mem_erase hx)
    have h3:x ≠ B:=by rintro rfl; exact (hn.not_mem_erase hx)
    omega)
   rw [List.length_erase_of_mem hB] at h1
   omega
  .have:=nodup_le B l hn (fun x hx=>by
    have h2:=h x hx
    have h3:x ≠ B:=by rintro rfl; exact hB hx
    omega)
   omega
structure BdG (g:Gr) (tx:List ByteArray):Prop where
 r:g.rules.length <= 100
 p:∀ R ∈ g.rules,R.parts.length <= 10
 n:tx.length <= 300
def codeI (x:Itm):Nat:=(x.r * 11+x.d) * 301+x.h
theorem Snd.code {g:Gr} {tx:List ByteArray} {k:Nat} {x:Itm} (hb:BdG g tx) (h:Snd g tx k x):codeI x < 331100 /\ x.d < 11 /\ x.h < 301 /\ x.r < 100:=by
 obtain ⟨R,hR,h1,h2,h3,_⟩:=h.ex
 have h4:=(List.getElem?_eq_some_iff.1 hR).1
 have h5:=hb.p R (List.mem_of_getElem? hR)
 have h6:=hb.r
 have h7:=hb.n
 refine ⟨?_,by omega,by omega,by omega⟩
 have:x.r * 11+x.d <= 1099:=by omega
 have:=Nat.mul_le_mul_right 301 this
 unfold codeI; omega
structure LI (g:Gr) (tx:List ByteArray) (S:List (List Itm × Nat)) (L:List Itm):Prop where
 s0:∀ (k:Nat) (p:List Itm × Nat),S[k]?=some p -> (∀ x ∈ p.1,Snd g tx k x) /\ p.1.Nodup
 sL:∀ x ∈ L,Snd g tx S.length x
 nd:L.Nodup
 n:S.length <= tx.length
theorem addI_nodup {L:List Itm} {x:Itm} (h:L.Nodup):(addI L x).Nodup:=by
 unfold addI
 split
 .exact h
 .rename_i hx
  rw [List.nodup_append]
  exact ⟨h,by simp,fun a ha b hb=>by simp at hb; subst hb; rintro rfl; exact hx ha⟩
theorem addI_mem {L:List Itm} {x y:Itm}:y ∈ addI L x ↔ y ∈ L \/ y=x:=by
 unfold addI
 split
 .rename_i hx; exact ⟨.inl,fun h=>by rcases h with h | rfl; exact h; exact hx⟩
 .simp
theorem LI.add {g:Gr} {tx:List ByteArray} {S:List (List Itm × Nat)} {L:List Itm} {x:Itm} (h:LI g tx S L) (hx:Snd g tx S.length x):LI g tx S (addI L x) :=
 ⟨h.s0,fun y hy=>by rcases addI_mem.1 hy with hy | rfl; exact h.sL y hy; exact hx,addI_nodup h.nd,h.n⟩
def plc (S:List (List Itm × Nat)) (L:List Itm) (k:Nat):List Itm:=((S.map (·.1))++[L]).getD k []
theorem plc_last (S:List (List Itm × Nat)) (L:List Itm):plc S L S.length=L:=by simp [plc,List.getD]
theorem plc_lt {S:List (List Itm × Nat)} {L:List Itm} {k:Nat} {p:List Itm × Nat} (h:S[k]?=some p):plc S L k=p.1:=by
 have:=(List.getElem?_eq_some_iff.1 h).1
 simp only [plc,List.getD]
 rw [List.getElem?_append_left (by simpa using this)]
 simp [h]
theorem LI.place {g:Gr} {tx:List ByteArray} {S:List (List Itm × Nat)} {L:List Itm} (h:LI g tx S L) {k:Nat} (hk:k <= S.length):(∀ x ∈ plc S L k,Snd g tx k x) /\ (plc S L k).Nodup:=by
 rcases Nat.lt_or_eq_of_le hk with hk | rfl
 .obtain ⟨p,hp⟩:∃ p,S[k]?=some p:=⟨S[k],by simp [hk]⟩
  rw [plc_lt hp]; exact h.s0 k p hp
 .rw [plc_last]; exact ⟨h.sL,h.nd⟩
end Go.Apx
end
section
namespace Go.Apx
open Go.Proofs
set_option maxRecDepth 4000
theorem MoreR.mono {g:Gr} {tx:List ByteArray} {tc:Cap} {base:Nat} {c:CD} {H H':AHeap} {P P':List Itm -> Prop} {r:AEnd} (h:MoreR g tx tc base c H P r H') (hp:∀ L,P L -> P' L):MoreR g tx tc base c H P' r H':=by
 obtain ⟨c',h1,h2,h3,h4⟩:=h
 exact ⟨c',h1,h2,hp _ h3,h4⟩
end Go.Apx
end
section
namespace Go.Apx
open Go.Proofs
set_option maxRecDepth 4000
structure CloseI (g:Gr) (tx:List ByteArray) (S:List (List Itm × Nat)) (L:List Itm) (D:List Sp) (n:Nat):Prop where
 li:LI g tx S L
 dr:∀ s ∈ D,Der g tx s.s s.i s.j /\ s.j <= S.length /\ s.s ≠ emp
 p1:∀ (j:Nat) (x:Itm) (p:Pt),j < n -> L[j]?=some x -> nextF g x=some p -> p.sort ≠ emp -> ∀ (r:Nat) (R:Rl),g.rules[r]?=some R -> R.sort=p.sort /\ g.us R=true -> (⟨r,0,S.length⟩:Itm) ∈ L
 p2:∀ (j:Nat) (x:Itm) (R:Rl),j < n -> L[j]?=some x -> g.rules[x.r]?=some R -> x.d=R.parts.length -> (⟨R.sort,x.h,S.length⟩:Sp) ∈ D
 p3:∀ s ∈ D,s.j=S.length -> ∀ (j:Nat) (x:Itm) (p:Pt),(s.i < S.length \/ j < n) -> (plc S L s.i)[j]?=some x -> nextF g x=some p -> p.sort=s.s -> x.adv ∈ L
theorem plc_low {S:List (List Itm × Nat)} {L L':List Itm} {k:Nat} (hk:k < S.length):plc S L k=plc S L' k:=by
 obtain ⟨p,hp⟩:∃ p,S[k]?=some p:=⟨S[k],by simp [hk]⟩
 rw [plc_lt hp,plc_lt hp]
theorem CloseI.next {g:Gr} {tx:List ByteArray} {S:List (List Itm × Nat)} {L M:List Itm} {D E:List Sp} {i:Nat} {x:Itm} (h:CloseI g tx S L D i) (hx:L[i]?=some x) (hli:LI g tx S (L++M))
  (hE:∀ s ∈ E,Der g tx s.s s.i s.j /\ s.j <= S.length /\ s.s ≠ emp)
  (h1:∀ p,nextF g x=some p -> p.sort ≠ emp -> ∀ (r:Nat) (R:Rl),g.rules[r]?=some R -> R.sort=p.sort /\ g.us R=true -> (⟨r,0,S.length⟩:Itm) ∈ L++M)
  (h2:∀ R,g.rules[x.r]?=some R -> x.d=R.parts.length -> (⟨R.sort,x.h,S.length⟩:Sp) ∈ D++E)
  (h3:∀ s ∈ D,s.j=S.length -> s.i=S.length -> ∀ p,nextF g x=some p -> p.sort=s.s -> x.adv ∈ L++M)
  (h4:∀ s ∈ E,∀ z p,z ∈ plc S (L++M) s.i -> nextF g z=some p -> p.sort=s.s -> z.adv ∈ L++M):CloseI g tx S (L++M) (D++E) (i+1):=by
 have hil:=(List.getElem?_eq_some_iff.1 hx).1
 have old:∀ (j:Nat) (y:Itm),j < i+1 -> (L++M)[j]?=some y -> (j < i /\ L[j]?=some y) \/ (j=i /\ y=x):=fun j y hj hy=>by
  rw [List.getElem?_append_left (by omega)] at hy
  by_cases hji:j < i
  .exact .inl ⟨hji,hy⟩
  .have:j=i:=by omega
   subst this
   rw [hx] at hy
   exact .inr ⟨rfl,(Option.some.inj hy).symm⟩
 refine ⟨hli,fun s hs=>?_,fun j y p hj hy hn hp r R hr he=>?_,fun j y R hj hy hr hd=>?_,fun s hs hsj j y p hj hy hn hp=>?_⟩
 .rcases List.mem_append.1 hs with hs | hs
  .exact h.dr s hs
  .exact hE s hs
 .rcases old j y hj hy with ⟨h5,h6⟩ | ⟨rfl,rfl⟩
  .exact List.mem_append.2 (.inl (h.p1 j y p h5 h6 hn hp r R hr he))
  .exact h1 p hn hp r R hr he
 .rcases old j y hj hy with ⟨h5,h6⟩ | ⟨rfl,rfl⟩
  .exact List.mem_append.2 (.inl (h.p2 j y R h5 h6 hr hd))
  .exact h2 R hr hd
 .rcases List.mem_append.1 hs with hs | hs
  .rcases Nat.lt_or_ge s.i S.length with hlt | hge
   .rw [plc_low (L':=L) hlt] at hy
    exact List.mem_append.2 (.inl (h.p3 s hs hsj j y p (.inl hlt) hy hn hp))
   .have hle:=(h.dr s hs).1.le.1
    have hsi:s.i=S.length:=by omega
    rw [hsi,plc_last] at hy
    rcases old j y (by omega) hy with ⟨h5,h6⟩ | ⟨rfl,rfl⟩
    .exact List.mem_append.2 (.inl (h.p3 s hs hsj j y p (.inr h5) (by rw [hsi,plc_last]; exact h6) hn hp))
    .exact h3 s hs hsj hsi p hn hp
  .exact h4 s hs y p (List.mem_of_getElem? hy) hn hp
def SameD (c c':CD):Prop:=c'={ c with L:=c'.L,T:=c'.T,D:=c'.D }
theorem SameD.refl (c:CD):SameD c c:=rfl
theorem SameD.trans {c c' c'':CD} (h:SameD c c') (h':SameD c' c''):SameD c c'':=by
 unfold SameD at *
 rw [h'] ; rw [h]
theorem SameD.o {c c':CD} (h:SameD c c'):c'.o=c.o:=by rw [h]
theorem SameD.S {c c':CD} (h:SameD c c'):c'.S=c.S:=by rw [h]
theorem SameD.M {c c':CD} (h:SameD c c'):c'.M=c.M:=by rw [h]
theorem CI.done {base:Nat} {g:Gr} {tx:List ByteArray} {tc:Cap} {c:CD} {H:AHeap} (h:CI base g tx tc c H) {s:Sp} (hs:s ∉ c.D) :
  CI base g tx tc { c with D:=c.D++[s] } (H.set c.od (.amap (amapOf encSp boolV (aset (tkeys c.D) s true)))):=by
 have hd:=h.dn
 have keep:∀ (y:AObj) (z:Nat) (x:AObj),H[z]?=some x -> z ≠ c.od -> (H.set c.od y)[z]?=some x:=fun y z x hz hzo=>by
  rw [List.getElem?_set_ne (fun e=>hzo e.symm)]; exact hz
 have nc:∀ (z gg:Nat) (cs:List AV),H[z]?=some (.cells gg cs) -> z ≠ c.od:=fun z gg cs hz e=>by rw [e,hd] at hz; cases hz
 have nt:∀ (z n:Nat),H[z]?=some (.tok n) -> z ≠ c.od:=fun z n hz e=>by rw [e,hd] at hz; cases hz
 refine ⟨keep _ _ _ h.ch (nc _ _ _ h.ch),keep _ _ _ h.rl h.n4.symm,?_,keep _ _ _ h.st (nc _ _ _ h.st),keep _ _ _ h.it h.n2,fun hl=>⟨keep _ _ _ (h.tk hl).1 (nt _ _ (h.tk hl).1),(h.tk hl).2⟩,keep _ _ _ h.tm (nt _ _ h.tm),h.ml,h.n1,h.n2,h.n3,h.n4,h.b1,h.b2,h.b3,h.b4,h.b5,h.b6⟩
 simp only
 rw [List.getElem?_set_self (List.getElem?_eq_some_iff.1 hd).1,tkeys_set _ _ hs]
theorem predF_mem {k:Nat}:∀ {l:List Nat} {L:List Itm} {y:Itm},y ∈ predF L k l ↔ y ∈ L \/ ∃ r ∈ l,y=⟨r,0,k⟩
 | [],L,y=>by simp [predF]
 | r :: l,L,y=>by
  show y ∈ predF (addI L ⟨r,0,k⟩) k l ↔ _
  rw [predF_mem,addI_mem]
  simp [or_assoc]
theorem rulesTo_mem {g:Gr} {s:ByteArray} {r:Nat}:r ∈ rulesTo g g.rules.length s ↔ ∃ R,g.rules[r]?=some R /\ (R.sort=s /\ g.us R=true):=by
 unfold rulesTo
 rw [List.mem_filter]
 constructor
 .rintro ⟨h1,h2⟩
  cases hR:g.rules[r]? with
  | none=>rw [hR] at h2; simp at h2
  | some R=>rw [hR] at h2; exact ⟨R,rfl,by simpa using h2⟩
 .rintro ⟨R,hR,he⟩
  exact ⟨by simp [(List.getElem?_eq_some_iff.1 hR).1],by rw [hR]; simpa using he⟩
theorem LI.pred {g:Gr} {tx:List ByteArray} {S:List (List Itm × Nat)} {L:List Itm} (h:LI g tx S L) (s:ByteArray) (hit:∀ (r:Nat) (R:Rl),g.rules[r]?=some R -> R.sort=s /\ g.us R=true -> It g tx S.length ⟨r,0,S.length⟩):LI g tx S (predF L S.length (rulesTo g g.rules.length s)):=by
 have:∀ (l:List Nat) (L:List Itm),LI g tx S L -> (∀ r ∈ l,∃ R,g.rules[r]?=some R /\ It g tx S.length ⟨r,0,S.length⟩) -> LI g tx S (predF L S.length l):=by
  intro l
  induction l with
  | nil=>intro L h _; exact h
  | cons r l ih =>
   intro L h hr
   obtain ⟨R,hR,hi⟩:=hr r (by simp)
   exact ih _ (h.add (Snd.begin hR h.n hi)) (fun r' hr'=>hr r' (by simp [hr']))
 exact this _ _ h (fun r hr=>by obtain ⟨R,hR,he⟩:=rulesTo_mem.1 hr; exact ⟨R,hR,hit r R hR he⟩)
end Go.Apx
end
section
namespace Go.Apx
open Go.Proofs
set_option maxRecDepth 4000
def scanX (g:Gr) (tx:List ByteArray) (k:Nat) (x:Itm):Option Itm:=match nextF g x with
 | some p=>if p.sort=emp /\ tx[k]?=some p.sym then some x.adv else none
 | none=>none
def scanF (g:Gr) (tx:List ByteArray) (k:Nat) (L:List Itm):List Itm:=L.filterMap (scanX g tx k)
def addL (L l:List Itm):List Itm:=l.foldl addI L
theorem addL_mem:∀ {l L:List Itm} {y:Itm},y ∈ addL L l ↔ y ∈ L \/ y ∈ l
 | [],L,y=>by simp [addL]
 | x :: l,L,y=>by
  show y ∈ addL (addI L x) l ↔ _
  rw [addL_mem,addI_mem]
  simp [or_assoc]
theorem addL_nodup:∀ {l L:List Itm},L.Nodup -> (addL L l).Nodup
 | [],L,h=>h
 | x :: l,L,h=>by show (addL (addI L x) l).Nodup; exact addL_nodup (addI_nodup h)
theorem CI.apG {base:Nat} {g:Gr} {tx:List ByteArray} {tc:Cap} {c:CD} {H:AHeap} (h:CI base g tx tc c H) {n T:Nat} (hT:n ≠ 0 -> (∃ q,H[T]?=some (.tok q)) /\ T ≠ c.Tm /\ (c.L ≠ [] -> T ≠ c.T)):CI base g tx tc c (Go.Apx.apG H n T):=by
 have hT1:n ≠ 0 -> ∃ q,H[T]?=some (.tok q):=fun hn=>(hT hn).1
 exact ⟨apG_keep hT1 h.ch (by simp),apG_keep hT1 h.rl (by simp),apG_keep hT1 h.dn (by simp),apG_keep hT1 h.st (by simp),apG_keep hT1 h.it (by simp),fun hl=>⟨apG_keep' (h.tk hl).1 (fun hn=>((hT hn).2.2 hl).symm),(h.tk hl).2⟩,apG_keep' h.tm (fun hn=>(hT hn).2.1.symm),h.ml,h.n1,h.n2,h.n3,h.n4,h.b1,h.b2,h.b3,h.b4,h.b5,h.b6⟩
end Go.Apx
end
section
namespace Go.Apx
open Go.Proofs
set_option maxRecDepth 4000
structure NC (g:Gr) (tx:List ByteArray) (s0:ByteArray) (S:List (List Itm × Nat)) (L:List Itm) (D:List Sp):Prop where
 li:LI g tx S L
 dr:∀ s ∈ D,Der g tx s.s s.i s.j /\ s.j < S.length /\ s.s ≠ emp
 f1:∀ (k:Nat) (x:Itm) (p:Pt),k < S.length -> x ∈ plc S L k -> nextF g x=some p -> p.sort ≠ emp -> ∀ (r:Nat) (R:Rl),g.rules[r]?=some R -> R.sort=p.sort /\ g.us R=true -> (⟨r,0,k⟩:Itm) ∈ plc S L k
 f2:∀ (k:Nat) (x:Itm) (R:Rl),k < S.length -> x ∈ plc S L k -> g.rules[x.r]?=some R -> x.d=R.parts.length -> (⟨R.sort,x.h,k⟩:Sp) ∈ D
 f3:∀ s ∈ D,∀ (x:Itm) (p:Pt),x ∈ plc S L s.i -> nextF g x=some p -> p.sort=s.s -> x.adv ∈ plc S L s.j
 f4:∀ (k:Nat) (x:Itm) (p:Pt),k < S.length -> x ∈ plc S L k -> nextF g x=some p -> p.sort=emp -> tx[k]?=some p.sym -> x.adv ∈ plc S L (k+1)
 bg:∀ (r:Nat) (R:Rl),g.rules[r]?=some R -> R.sort=s0 /\ g.us R=true -> (⟨r,0,0⟩:Itm) ∈ plc S L 0
 ne:S ≠ [] -> L ≠ []
structure NF (g:Gr) (tx:List ByteArray) (s0:ByteArray) (S:List (List Itm × Nat)) (L:List Itm) (D:List Sp):Prop where
 li:LI g tx S L
 dr:∀ s ∈ D,Der g tx s.s s.i s.j /\ s.j <= S.length /\ s.s ≠ emp
 f1:∀ (k:Nat) (x:Itm) (p:Pt),k <= S.length -> x ∈ plc S L k -> nextF g x=some p -> p.sort ≠ emp -> ∀ (r:Nat) (R:Rl),g.rules[r]?=some R -> R.sort=p.sort /\ g.us R=true -> (⟨r,0,k⟩:Itm) ∈ plc S L k
 f2:∀ (k:Nat) (x:Itm) (R:Rl),k <= S.length -> x ∈ plc S L k -> g.rules[x.r]?=some R -> x.d=R.parts.length -> (⟨R.sort,x.h,k⟩:Sp) ∈ D
 f3:∀ s ∈ D,∀ (x:Itm) (p:Pt),x ∈ plc S L s.i -> nextF g x=some p -> p.sort=s.s -> x.adv ∈ plc S L s.j
 f4:∀ (k:Nat) (x:Itm) (p:Pt),k < S.length -> x ∈ plc S L k -> nextF g x=some p -> p.sort=emp -> tx[k]?=some p.sym -> x.adv ∈ plc S L (k+1)
 bg:∀ (r:Nat) (R:Rl),g.rules[r]?=some R -> R.sort=s0 /\ g.us R=true -> (⟨r,0,0⟩:Itm) ∈ plc S L 0
 ne:S ≠ [] -> L ≠ []
theorem NF.next {g:Gr} {tx:List ByteArray} {s0:ByteArray} {S:List (List Itm × Nat)} {L:List Itm} {D:List Sp} (h:NF g tx s0 S L D) (T:Nat) (hat:S.length < tx.length) (hsc:scanF g tx S.length L ≠ []):NC g tx s0 (S++[(L,T)]) (addL [] (scanF g tx S.length L)) D:=by
 have same:∀ {k:Nat},k <= S.length -> plc (S++[(L,T)]) (addL [] (scanF g tx S.length L)) k=plc S L k:=fun {k} hk=>by
  rcases Nat.lt_or_eq_of_le hk with hk | rfl
  .obtain ⟨p,hp⟩:∃ p,S[k]?=some p:=⟨S[k],by simp [hk]⟩
   rw [plc_lt hp,plc_lt (p:=p) (by rw [List.getElem?_append_left hk]; exact hp)]
  .rw [plc_last,plc_lt (p:=(L,T)) (by simp)]
 have last:plc (S++[(L,T)]) (addL [] (scanF g tx S.length L)) (S.length+1)=addL [] (scanF g tx S.length L):=by
  have:=plc_last (S++[(L,T)]) (addL [] (scanF g tx S.length L))
  simpa using this
 have mem:∀ y,y ∈ addL [] (scanF g tx S.length L) ↔ ∃ x p,x ∈ L /\ nextF g x=some p /\ p.sort=emp /\ tx[S.length]?=some p.sym /\ y=x.adv:=fun y=>by
  rw [addL_mem]
  simp only [List.not_mem_nil,false_or,scanF,List.mem_filterMap]
  constructor
  .rintro ⟨x,hx,hy⟩
   unfold scanX at hy
   cases hn:nextF g x with
   | none=>rw [hn] at hy; cases hy
   | some p =>
    rw [hn] at hy
    simp only at hy
    split at hy
    .rename_i hc; cases hy; exact ⟨x,p,hx,hn,hc.1,hc.2,rfl⟩
    .cases hy
  .rintro ⟨x,p,hx,hn,hp,ht,rfl⟩
   exact ⟨x,hx,by simp [scanX,hn,hp,ht]⟩
 have hsl:(S++[(L,T)]).length=S.length+1:=by simp
 refine ⟨⟨fun k p hp=>?_,fun y hy=>?_,addL_nodup (by simp),by rw [hsl]; omega⟩,fun s hs=>?_,fun k x p hk hx hn hp r R hr he=>?_,fun k x R hk hx hr hd=>?_,fun s hs x p hx hn hp=>?_,fun k x p hk hx hn hp ht=>?_,fun r R hr he=>?_,fun _ hL=>?_⟩
 .by_cases hk:k < S.length
  .rw [List.getElem?_append_left hk] at hp; exact h.li.s0 k p hp
  .rw [List.getElem?_append_right (by omega)] at hp
   have hk0:k - S.length=0:=by
    have:=(List.getElem?_eq_some_iff.1 hp).1
    simp at this; omega
   rw [hk0] at hp
   simp at hp
   subst hp
   have:k=S.length:=by omega
   subst this
   exact ⟨h.li.sL,h.li.nd⟩
 .obtain ⟨x,p,hx,hn,hp,ht,rfl⟩:=(mem y).1 hy
  rw [hsl]
  exact (h.li.sL x hx).scan hn hp ht
 .have:=h.dr s hs
  exact ⟨this.1,by rw [hsl]; omega,this.2.2⟩
 .rw [hsl] at hk
  rw [same (by omega)] at hx ⊢
  exact h.f1 k x p (by omega) hx hn hp r R hr he
 .rw [hsl] at hk
  rw [same (by omega)] at hx
  exact h.f2 k x R (by omega) hx hr hd
 .have hdr:=h.dr s hs
  have hle:=hdr.1.le.1
  rw [same (by omega)] at hx
  rw [same (by omega)]
  exact h.f3 s hs x p hx hn hp
 .rw [hsl] at hk
  rw [same (by omega)] at hx
  rcases Nat.lt_or_ge k S.length with h' | h'
  .rw [same (by omega)]
   exact h.f4 k x p h' hx hn hp ht
  .have:k=S.length:=by omega
   subst this
   rw [plc_last] at hx
   rw [last]
   exact (mem _).2 ⟨x,p,hx,hn,hp,ht,rfl⟩
 .rw [same (by omega)]; exact h.bg r R hr he
 .obtain ⟨y,hy⟩:=List.exists_mem_of_ne_nil _ hsc
  have:y ∈ addL [] (scanF g tx S.length L):=by rw [addL_mem]; exact .inr hy
  rw [hL] at this; cases this
theorem NF.all {g:Gr} {tx:List ByteArray} {s0:ByteArray} {S:List (List Itm × Nat)} {L:List Itm} {D:List Sp} (h:NF g tx s0 S L D) (hus:UsOk g tx) (he:S.length=tx.length \/ scanF g tx S.length L=[]) :
  Closed g tx (fun k x=>x ∈ plc S L k) (fun s i j=>(⟨s,i,j⟩:Sp) ∈ D) /\ Begun g (fun k x=>x ∈ plc S L k) s0 0:=by
 have hle:∀ {k:Nat} {x:Itm},x ∈ plc S L k -> k <= S.length:=fun {k x} hx=>by
  rcases Nat.lt_or_ge S.length k with h' | h'
  .exfalso
   unfold plc at hx
   rw [List.getD,List.getElem?_eq_none (by simp; omega)] at hx
   simp at hx
  .exact h'
 refine ⟨⟨fun k x p hx hn hp r R hr he=>h.f1 k x p (hle hx) hx hn hp r R hr he,fun k x p hx hn hp ht=>?_,fun k x R hx hr hd=>h.f2 k x R (hle hx) hx hr hd,fun s i k x p hD hx hn hp hs=>h.f3 _ hD x p hx hn hp,fun k x hx=>?_,fun s i k hD=>⟨(h.dr _ hD).1,Nat.le_trans (h.dr _ hD).2.1 h.li.n⟩,hus,fun k x hx=>((h.li.place (hle hx)).1 x hx).it⟩,h.bg⟩
 .rcases Nat.lt_or_eq_of_le (hle hx) with hk | rfl
  .exact h.f4 k x p hk hx hn hp ht
  .exfalso
   rcases he with he | he
   .have:=(List.getElem?_eq_some_iff.1 ht).1; omega
   .rw [plc_last] at hx
    have:x.adv ∈ scanF g tx S.length L:=by
     unfold scanF
     exact List.mem_filterMap.2 ⟨x,hx,by simp [scanX,hn,hp,ht]⟩
    rw [he] at this; cases this
 .have:=((h.li.place (hle hx)).1 x hx).ex
  exact this
theorem NC.first {g:Gr} {tx:List ByteArray} (s0:ByteArray) (hst:g.st=s0):NC g tx s0 [] (predF [] 0 (rulesTo g g.rules.length s0)) []:=by
 have hli:LI g tx [] []:=⟨fun k p hp=>by simp at hp,by simp,by simp,by simp⟩
 refine ⟨hli.pred s0 fun r R hR he=>.start hR (by rw [hst]; exact he),by simp,fun k x p hk=>by simp at hk,fun k x R hk=>by simp at hk,by simp,fun k x p hk=>by simp at hk,fun r R hr he=>?_,fun h=>(h rfl).elim⟩
 have:=plc_last [] (predF [] 0 (rulesTo g g.rules.length s0))
 simp only [List.length_nil] at this
 rw [this]
 exact predF_mem.2 (.inr ⟨r,rulesTo_mem.2 ⟨R,hr,he⟩,rfl⟩)
end Go.Apx
end
section
namespace Go.Apx
open Go.Proofs
set_option maxRecDepth 4000
theorem rulesTo_succ {g:Gr} {n:Nat} {R:Rl} (hR:g.rules[n]?=some R) (s:ByteArray):rulesTo g (n+1) s=rulesTo g n s++(if R.sort=s /\ g.us R=true then [n] else []):=by
 unfold rulesTo
 rw [List.range_succ,List.filter_append]
 congr 1
 by_cases e:R.sort=s <;> by_cases e2:g.us R=true <;> simp [List.filter_cons,hR,e,e2]
structure RMI (g:Gr) (M:RM) (n:Nat) (base:Nat) (H:AHeap):Prop where
 ok:RMOk g M n
 tk:∀ s v,sfind M s=some v -> H[v.2]?=some (.tok v.1.length) /\ base <= v.2
 dj:∀ s s' v v',sfind M s=some v -> sfind M s'=some v' -> v.2=v'.2 -> s=s'
theorem rmok_getD {g:Gr} {M:RM} {n:Nat} (h:RMOk g M n) (s:ByteArray):((sfind M s).getD ([],0)).1=rulesTo g n s:=by
 have:=h.get s
 cases hf:sfind M s with
 | none =>
  rw [hf] at this
  by_cases e:rulesTo g n s=[]
  .rw [e]; rfl
  .rw [if_neg e] at this; cases this
 | some v =>
  rw [hf] at this
  by_cases e:rulesTo g n s=[]
  .rw [if_pos e] at this; cases this
  .rw [if_neg e] at this; exact Option.some.inj this
theorem RMI.add {g:Gr} {M:RM} {n base:Nat} {H:AHeap} {R:Rl} (h:RMI g M n base H) (hR:g.rules[n]?=some R) (hu:g.us R=true) (hb:base <= H.length) {orl:Nat} {y:AObj} (ho:∃ es,H[orl]?=some (.amap es)) :
  RMI g (sset M R.sort (rulesTo g n R.sort++[n],apT H (rulesTo g n R.sort).length ((sfind M R.sort).getD ([],0)).2)) (n+1) base ((apG H (rulesTo g n R.sort).length ((sfind M R.sort).getD ([],0)).2).set orl y):=by
 obtain ⟨es,ho⟩:=ho
 have hg:=rmok_getD h.ok R.sort
 obtain ⟨v,hv⟩:∃ v,v=(sfind M R.sort).getD ([],0):=⟨_,rfl⟩
 rw [<- hv] at hg ⊢
 have hT:(rulesTo g n R.sort).length ≠ 0 -> sfind M R.sort=some v:=fun hn=>by
  cases hf:sfind M R.sort with
  | none=>rw [hf] at hv; simp at hv; subst hv; rw [<- hg] at hn; simp at hn
  | some w=>rw [hf] at hv; simp at hv; rw [hv]
 have hT2:(rulesTo g n R.sort).length ≠ 0 -> ∃ q,H[v.2]?=some (.tok q):=fun hn=>⟨_,(h.tk _ _ (hT hn)).1⟩
 have hnew:(apG H (rulesTo g n R.sort).length v.2)[apT H (rulesTo g n R.sort).length v.2]?=some (.tok ((rulesTo g n R.sort).length+1)):=apG_tok hT2
 have hno:apT H (rulesTo g n R.sort).length v.2 ≠ orl:=by
  unfold apT
  split
  .have:=(List.getElem?_eq_some_iff.1 ho).1; omega
  .rename_i hn
   obtain ⟨q,hq⟩:=hT2 hn
   rintro rfl; rw [ho] at hq; cases hq
 have hother:∀ s w,sfind M s=some w -> s ≠ R.sort -> apT H (rulesTo g n R.sort).length v.2 ≠ w.2:=fun s w hw hs=>by
  unfold apT
  split
  .have:=(List.getElem?_eq_some_iff.1 (h.tk s w hw).1).1; omega
  .rename_i hn; intro e; exact hs (h.dj _ _ _ _ (hT hn) hw e).symm
 refine ⟨⟨fun s=>?_⟩,fun s w hw=>?_,fun s s' w w' hw hw' he=>?_⟩
 .rw [sfind_sset,rulesTo_succ hR]
  by_cases e:s=R.sort
  .subst e; simp [hu]
  .have e2:¬ R.sort=s:=fun e'=>e e'.symm
   have e3:¬ (R.sort=s /\ g.us R=true):=fun h=>e2 h.1
   simp only [if_neg e,if_neg e3,List.append_nil]; exact h.ok.get s
 .rw [sfind_sset] at hw
  by_cases e:s=R.sort
  .rw [if_pos e] at hw
   cases hw
   simp only
   refine ⟨by rw [List.getElem?_set_ne (fun e=>hno e.symm),hnew]; simp,?_⟩
   unfold apT
   split
   .exact hb
   .rename_i hn; exact (h.tk _ _ (hT hn)).2
  .rw [if_neg e] at hw
   have hw1:=h.tk s w hw
   refine ⟨?_,hw1.2⟩
   rw [List.getElem?_set_ne (by rintro rfl; rw [ho] at hw1; cases hw1.1)]
   exact apG_keep' hw1.1 (fun hn e'=>e (h.dj _ _ _ _ (hT hn) hw e'.symm).symm)
 .rw [sfind_sset] at hw hw'
  by_cases e:s=R.sort
  .by_cases e':s'=R.sort
   .rw [e,e']
   .rw [if_pos e] at hw; rw [if_neg e'] at hw'
    cases hw
    exact (hother s' w' hw' e' he).elim
  .by_cases e':s'=R.sort
   .rw [if_neg e] at hw; rw [if_pos e'] at hw'
    cases hw'
    exact (hother s w hw e he.symm).elim
   .rw [if_neg e] at hw; rw [if_neg e'] at hw'
    exact h.dj _ _ _ _ hw hw' he
theorem RMI.pass {g:Gr} {M:RM} {n base:Nat} {H:AHeap} {R:Rl} (h:RMI g M n base H) (hR:g.rules[n]?=some R) (hu:g.us R=false):RMI g M (n+1) base H :=
 ⟨⟨fun s=>by
  have e:rulesTo g (n+1) s=rulesTo g n s:=by rw [rulesTo_succ hR]; simp [hu]
  rw [e]; exact h.ok.get s⟩,h.tk,h.dj⟩
end Go.Apx
end
section
namespace Go.Apx
open Go.Proofs
set_option maxRecDepth 4000
structure KD where
 ok:Nat
 oc:Nat
 orl:Nat
 od:Nat
 onum:Nat
 orest:Nat
 M:RM
 D:List Sp
def natV (n:Nat):AV:=i64 (n:Int)
def numM (L:List Sp):List (Sp × Nat):=L.zipIdx
def spsV (L:List Sp) (T:Nat):AV:=apd 3 (L.map encSp) T
abbrev DD (k:KD) (s:ByteArray) (i j:Nat):Prop:=(⟨s,i,j⟩:Sp) ∈ k.D
def MemoOk (g:Gr) (tx:List ByteArray) (k:KD) (Mk:List (K4 × Bool)):Prop:=∀ (x:K4) (v:Bool),afind Mk x=some v -> ∀ R,g.rules[x.r]?=some R -> (v=true ↔ PX (DD k) tx (R.parts.drop x.d) x.i x.j)
structure PK (base:Nat) (g:Gr) (tx:List ByteArray) (tc:Cap) (k:KD) (L:List Sp) (T:Nat) (Mk:List (K4 × Bool)) (H:AHeap):Prop where
 pk:H[k.ok]?=some (.cells 0 [.ptr k.oc 0 0,.mp k.onum,spsV L T,.mp k.orest])
 ch:∃ a b,H[k.oc]?=some (.cells 0 (chCells g tx tc k.orl k.od a b))
 rl:H[k.orl]?=some (.amap (smap rulesV k.M))
 dn:H[k.od]?=some (.amap (amapOf encSp boolV (tkeys k.D)))
 nm:H[k.onum]?=some (.amap (amapOf encSp natV (numM L)))
 rs:H[k.orest]?=some (.amap (amapOf encK boolV Mk))
 tk:L ≠ [] -> H[T]?=some (.tok L.length) /\ base <= T
 memo:MemoOk g tx k Mk
 n1:k.orest ≠ k.orl
 n2:k.orest ≠ k.od
 n3:k.orest ≠ k.onum
 n4:k.onum ≠ k.orl
 n5:k.onum ≠ k.od
 n6:k.ok ≠ k.oc
 b1:base <= k.ok
 b2:base <= k.onum
 b3:base <= k.orest
def But (e:Nat) (H H':AHeap):Prop:=∀ z,z ≠ e -> H'[z]?=H[z]?
theorem But.refl (e:Nat) (H:AHeap):But e H H:=fun _ _=>rfl
theorem But.trans {e:Nat} {H H' H'':AHeap} (h:But e H H') (h':But e H' H''):But e H H'':=fun z hz=>(h' z hz).trans (h z hz)
theorem But.set (e:Nat) (H:AHeap) (x:AObj):But e H (H.set e x):=fun z hz=>List.getElem?_set_ne (fun e'=>hz e'.symm)
end Go.Apx
end
