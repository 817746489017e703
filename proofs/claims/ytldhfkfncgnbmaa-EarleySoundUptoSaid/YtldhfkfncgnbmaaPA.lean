/- Plain law of the parser: what can be derived, and what a closed chart holds. -/
import Derived.Test.YtldhfkfncgnbmaaEA
set_option linter.unusedVariables false
set_option linter.unusedSimpArgs false
set_option linter.unnecessarySimpa false
section
namespace Go.Apx
open Go.Proofs
abbrev emp:ByteArray:=⟨#[]⟩
inductive DerP (g:Gr) (tx:List ByteArray):List Pt -> Nat -> Nat -> Prop
 | nil (i:Nat):DerP g tx [] i i
 | sym {p:Pt} {ps:List Pt} {i j:Nat} (hs:p.sort=emp) (ht:tx[i]?=some p.sym) (h:DerP g tx ps (i+1) j):DerP g tx (p :: ps) i j
 | arg {p:Pt} {ps:List Pt} {i k j:Nat} {r:Nat} {R:Rl} (hs:p.sort ≠ emp) (hr:g.rules[r]?=some R) (he:R.sort=p.sort) (h1:DerP g tx R.parts i k) (h2:DerP g tx ps k j):DerP g tx (p :: ps) i j
def Der (g:Gr) (tx:List ByteArray) (s:ByteArray) (i j:Nat):Prop:=∃ (r:Nat) (R:Rl),g.rules[r]?=some R /\ R.sort=s /\ DerP g tx R.parts i j
theorem DerP.arg' {g:Gr} {tx:List ByteArray} {p:Pt} {ps:List Pt} {i k j:Nat} (hs:p.sort ≠ emp) (h1:Der g tx p.sort i k) (h2:DerP g tx ps k j):DerP g tx (p :: ps) i j:=by
 obtain ⟨r,R,hr,he,h⟩:=h1
 exact .arg hs hr he h h2
theorem DerP.le {g:Gr} {tx:List ByteArray} {ps:List Pt} {i j:Nat} (h:DerP g tx ps i j):i <= j /\ (i <= tx.length -> j <= tx.length):=by
 induction h with
 | nil=>exact ⟨Nat.le_refl _,id⟩
 | sym hs ht h ih =>
  have:=(List.getElem?_eq_some_iff.1 ht).1
  exact ⟨by omega,fun _=>ih.2 (by omega)⟩
 | arg hs hr he h1 h2 ih1 ih2=>exact ⟨by omega,fun hi=>ih2.2 (ih1.2 hi)⟩
theorem Der.le {g:Gr} {tx:List ByteArray} {s:ByteArray} {i j:Nat} (h:Der g tx s i j):i <= j /\ (i <= tx.length -> j <= tx.length):=by
 obtain ⟨r,R,hr,he,h⟩:=h
 exact h.le
theorem DerP.append {g:Gr} {tx:List ByteArray} {ps qs:List Pt} {i j k:Nat} (h:DerP g tx ps i j) (h':DerP g tx qs j k):DerP g tx (ps++qs) i k:=by
 induction h with
 | nil=>exact h'
 | sym hs ht h ih=>exact .sym hs ht (ih h')
 | arg hs hr he h1 h2 ih1 ih2=>exact .arg hs hr he h1 (ih2 h')
def PX (X:ByteArray -> Nat -> Nat -> Prop) (tx:List ByteArray):List Pt -> Nat -> Nat -> Prop
 | [],i,j=>i=j
 | p :: ps,i,j=>(p.sort=emp /\ tx[i]?=some p.sym /\ PX X tx ps (i+1) j) \/ (p.sort ≠ emp /\ ∃ k,X p.sort i k /\ PX X tx ps k j)
theorem PX_der {g:Gr} {tx:List ByteArray}:∀ {ps:List Pt} {i j:Nat},PX (Der g tx) tx ps i j ↔ DerP g tx ps i j
 | [],i,j=>⟨fun h=>by cases h; exact .nil _,fun h=>by cases h; rfl⟩
 | p :: ps,i,j=>by
  simp only [PX]
  constructor
  .rintro (⟨hs,ht,h⟩ | ⟨hs,k,h1,h2⟩)
   .exact .sym hs ht (PX_der.1 h)
   .exact .arg' hs h1 (PX_der.1 h2)
  .intro h
   cases h with
   | sym hs ht h=>exact .inl ⟨hs,ht,PX_der.2 h⟩
   | arg hs hr he h1 h2=>exact .inr ⟨hs,_,⟨_,_,hr,he,h1⟩,PX_der.2 h2⟩
structure Itm where
 r:Nat
 d:Nat
 h:Nat
deriving DecidableEq
def Itm.adv (x:Itm):Itm:=⟨x.r,x.d+1,x.h⟩
def nextF (g:Gr) (x:Itm):Option Pt:=(g.rules[x.r]?).bind fun R=>R.parts[x.d]?
def UsOk (g:Gr) (tx:List ByteArray):Prop:=∀ (r:Nat) (R:Rl) (i j:Nat),g.rules[r]?=some R -> DerP g tx R.parts i j -> g.us R=true
inductive It (g:Gr) (tx:List ByteArray):Nat -> Itm -> Prop where
 | start {r:Nat} {R:Rl} (hr:g.rules[r]?=some R) (he:R.sort=g.st /\ g.us R=true):It g tx 0 ⟨r,0,0⟩
 | pred {k:Nat} {x:Itm} {p:Pt} {r:Nat} {R:Rl} (h:It g tx k x) (hn:nextF g x=some p) (hs:p.sort ≠ emp) (hr:g.rules[r]?=some R) (he:R.sort=p.sort /\ g.us R=true):It g tx k ⟨r,0,k⟩
 | scan {k:Nat} {x:Itm} {p:Pt} (h:It g tx k x) (hn:nextF g x=some p) (hs:p.sort=emp) (ht:tx[k]?=some p.sym):It g tx (k+1) x.adv
 | comp {i k:Nat} {x:Itm} {p:Pt} (h:It g tx i x) (hn:nextF g x=some p) (hs:p.sort ≠ emp) (hd:Der g tx p.sort i k):It g tx k x.adv
structure Closed (g:Gr) (tx:List ByteArray) (S:Nat -> Itm -> Prop) (D:ByteArray -> Nat -> Nat -> Prop):Prop where
 pred:∀ k x p,S k x -> nextF g x=some p -> p.sort ≠ emp -> ∀ (r:Nat) (R:Rl),g.rules[r]?=some R -> R.sort=p.sort /\ g.us R=true -> S k ⟨r,0,k⟩
 scan:∀ k x p,S k x -> nextF g x=some p -> p.sort=emp -> tx[k]?=some p.sym -> S (k+1) x.adv
 done:∀ (k:Nat) (x:Itm) (R:Rl),S k x -> g.rules[x.r]?=some R -> x.d=R.parts.length -> D R.sort x.h k
 move:∀ s i k x p,D s i k -> S i x -> nextF g x=some p -> p.sort=s -> s ≠ emp -> S k x.adv
 sound:∀ k x,S k x -> ∃ R:Rl,g.rules[x.r]?=some R /\ x.d <= R.parts.length /\ x.h <= k /\ k <= tx.length /\ DerP g tx (R.parts.take x.d) x.h k
 right:∀ s i k,D s i k -> Der g tx s i k /\ k <= tx.length
 us:UsOk g tx
 it:∀ k x,S k x -> It g tx k x
def Begun (g:Gr) (S:Nat -> Itm -> Prop) (s:ByteArray) (k:Nat):Prop:=∀ (r:Nat) (R:Rl),g.rules[r]?=some R -> R.sort=s /\ g.us R=true -> S k ⟨r,0,k⟩
theorem Closed.comp {g:Gr} {tx:List ByteArray} {S:Nat -> Itm -> Prop} {D:ByteArray -> Nat -> Nat -> Prop} (hc:Closed g tx S D) {ps:List Pt} {i j:Nat} (h:DerP g tx ps i j) :
  ∀ (x:Itm) (R:Rl),S i x -> g.rules[x.r]?=some R -> x.d+ps.length=R.parts.length -> R.parts.drop x.d=ps -> S j ⟨x.r,R.parts.length,x.h⟩:=by
 induction h with
 | nil=>intro x R hS hR hl hd; simp at hl; obtain ⟨r,d,h⟩:=x; simp at hl; subst hl; exact hS
 | @sym p ps i j hs ht h ih =>
  intro x R hS hR hl hd
  have hn:nextF g x=some p:=by
   have:(R.parts.drop x.d)[0]?=some p:=by rw [hd]; rfl
   rw [List.getElem?_drop] at this
   simpa [nextF,hR] using this
  have hd':R.parts.drop (x.d+1)=ps:=by rw [<- List.drop_drop,hd]; rfl
  exact ih x.adv R (hc.scan _ _ _ hS hn hs ht) hR (by simp [Itm.adv] at hl ⊢; omega) hd'
 | @arg p ps i k j r R' hs hr he h1 h2 ih1 ih2 =>
  intro x R hS hR hl hd
  have hn:nextF g x=some p:=by
   have:(R.parts.drop x.d)[0]?=some p:=by rw [hd]; rfl
   rw [List.getElem?_drop] at this
   simpa [nextF,hR] using this
  have hd':R.parts.drop (x.d+1)=ps:=by rw [<- List.drop_drop,hd]; rfl
  have hb:=hc.pred _ _ _ hS hn hs r R' hr ⟨he,hc.us r R' _ _ hr h1⟩
  have hw:=ih1 ⟨r,0,i⟩ R' hb hr (by simp) rfl
  have hD:=hc.done _ _ R' hw hr rfl
  exact ih2 x.adv R (hc.move _ _ _ _ _ hD hS hn he.symm (by rw [he]; exact hs)) hR (by simp [Itm.adv] at hl ⊢; omega) hd'
theorem Closed.iff {g:Gr} {tx:List ByteArray} {S:Nat -> Itm -> Prop} {D:ByteArray -> Nat -> Nat -> Prop} (hc:Closed g tx S D) {s:ByteArray} {i:Nat} (hb:Begun g S s i) (j:Nat):D s i j ↔ Der g tx s i j:=by
 constructor
 .exact fun h=>(hc.right _ _ _ h).1
 .rintro ⟨r,R,hr,rfl,h⟩
  exact hc.done _ _ R (hc.comp h ⟨r,0,i⟩ R (hb r R hr ⟨rfl,hc.us r R _ _ hr h⟩) hr (by simp) rfl) hr rfl
theorem Closed.parts {g:Gr} {tx:List ByteArray} {S:Nat -> Itm -> Prop} {D:ByteArray -> Nat -> Nat -> Prop} (hc:Closed g tx S D):∀ (ps:List Pt) (i:Nat) (x:Itm) (R:Rl),S i x -> g.rules[x.r]?=some R -> R.parts.drop x.d=ps -> ∀ j,PX D tx ps i j ↔ PX (Der g tx) tx ps i j
 | [],i,x,R,hS,hR,hd,j=>Iff.rfl
 | p :: ps,i,x,R,hS,hR,hd,j=>by
  have hn:nextF g x=some p:=by
   have:(R.parts.drop x.d)[0]?=some p:=by rw [hd]; rfl
   rw [List.getElem?_drop] at this
   simpa [nextF,hR] using this
  have hd':R.parts.drop (x.d+1)=ps:=by rw [<- List.drop_drop,hd]; rfl
  simp only [PX]
  by_cases hs:p.sort=emp
  .simp only [hs,ne_eq,not_true_eq_false,false_and,or_false,true_and]
   constructor
   .rintro ⟨ht,h⟩; exact ⟨ht,(hc.parts ps (i+1) x.adv R (hc.scan _ _ _ hS hn hs ht) hR hd' j).1 h⟩
   .rintro ⟨ht,h⟩; exact ⟨ht,(hc.parts ps (i+1) x.adv R (hc.scan _ _ _ hS hn hs ht) hR hd' j).2 h⟩
  .have hb:Begun g S p.sort i:=fun r R' hr he=>hc.pred _ _ _ hS hn hs r R' hr he
   simp only [hs,false_and,ne_eq,not_false_eq_true,true_and,false_or]
   constructor
   .rintro ⟨k,hk,h⟩; exact ⟨k,(hc.iff hb k).1 hk,(hc.parts ps k x.adv R (hc.move _ _ _ _ _ hk hS hn rfl hs) hR hd' j).1 h⟩
   .rintro ⟨k,hk,h⟩
    have hk':=(hc.iff hb k).2 hk
    exact ⟨k,hk',(hc.parts ps k x.adv R (hc.move _ _ _ _ _ hk' hS hn rfl hs) hR hd' j).2 h⟩
end Go.Apx
end
section
namespace Go.Apx
open Go.Proofs
set_option maxRecDepth 4000
def atF (n s i j:Nat):Nat:=(s * (n+1)+i) * (n+1)+j
end Go.Apx
end
section
namespace Go.Apx
open Go.Proofs
set_option maxRecDepth 4000
abbrev bl (b:Bool):AV:=.sc (.bool b)
def markF (g:Gr) (n:Nat) (X:List Bool) (s:ByteArray) (i j:Nat):Bool:=X.getD (atF n (indexF g.sorts s).toNat i j) false
end Go.Apx
end
section
namespace Go.Apx
open Go.Proofs
def Mk (g:Gr) (n:Nat) (X:List Bool) (s:ByteArray) (i k:Nat):Prop:=i <= k /\ k <= n /\ markF g n X s i k=true
end Go.Apx
end
section
namespace Go.Apx
open Go.Proofs
set_option maxRecDepth 4000
def HA (h:AHeap) (n L:Nat) (X:List Bool) (J:AHeap):AHeap:=h++(.cells 0 [i64 n,.rf (h.length+1) 0 0 L .full] :: .cells 0 (X.map bl) :: J)
end Go.Apx
end
