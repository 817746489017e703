/- Plain law of the parser: what can be derived, and what a closed chart holds. -/
import Derived.Test.YtldhfkfncgnbmaaGreatEA
section
namespace Go.Apx
open Go.Proofs
set_option linter.unusedVariables false
set_option linter.unusedSimpArgs false
abbrev emp : ByteArray:=⟨#[]⟩
inductive DerP (g : Gr) (tx : List ByteArray) : List Pt → Nat → Nat → Prop
 | nil (i : Nat) : DerP g tx [] i i
 | sym {p : Pt} {ps : List Pt} {i j : Nat} (hs : p.sort = emp) (ht : tx[i]? = some p.sym) (h : DerP g tx ps (i + 1) j) : DerP g tx (p :: ps) i j
 | arg {p : Pt} {ps : List Pt} {i k j : Nat} {r : Nat} {R : Rl} (hs : p.sort ≠ emp) (hr : g.rules[r]? = some R) (he : R.sort = p.sort) (h1 : DerP g tx R.parts i k) (h2 : DerP g tx ps k j) : DerP g tx (p :: ps) i j
def Der (g : Gr) (tx : List ByteArray) (s : ByteArray) (i j : Nat) : Prop:=∃ (r : Nat) (R : Rl),g.rules[r]? = some R ∧ R.sort = s ∧ DerP g tx R.parts i j
theorem DerP.arg' {g : Gr} {tx : List ByteArray} {p : Pt} {ps : List Pt} {i k j : Nat} (hs : p.sort ≠ emp) (h1 : Der g tx p.sort i k) (h2 : DerP g tx ps k j) : DerP g tx (p :: ps) i j:=by
 obtain ⟨r,R,hr,he,h⟩:=h1
 exact .arg hs hr he h h2
theorem DerP.le {g : Gr} {tx : List ByteArray} {ps : List Pt} {i j : Nat} (h : DerP g tx ps i j) : i ≤ j ∧ (i ≤ tx.length → j ≤ tx.length):=by
 induction h with
 | nil=>exact ⟨Nat.le_refl _,id⟩
 | sym hs ht h ih =>
  have:=(List.getElem?_eq_some_iff.1 ht).1
  exact ⟨by omega,fun _=>ih.2 (by omega)⟩
 | arg hs hr he h1 h2 ih1 ih2=>exact ⟨by omega,fun hi=>ih2.2 (ih1.2 hi)⟩
theorem Der.le {g : Gr} {tx : List ByteArray} {s : ByteArray} {i j : Nat} (h : Der g tx s i j) : i ≤ j ∧ (i ≤ tx.length → j ≤ tx.length):=by
 obtain ⟨r,R,hr,he,h⟩:=h
 exact h.le
theorem DerP.append {g : Gr} {tx : List ByteArray} {ps qs : List Pt} {i j k : Nat} (h : DerP g tx ps i j) (h' : DerP g tx qs j k) : DerP g tx (ps ++ qs) i k:=by
 induction h with
 | nil=>exact h'
 | sym hs ht h ih=>exact .sym hs ht (ih h')
 | arg hs hr he h1 h2 ih1 ih2=>exact .arg hs hr he h1 (ih2 h')
def PX (X : ByteArray → Nat → Nat → Prop) (tx : List ByteArray) : List Pt → Nat → Nat → Prop
 | [],i,j=>i = j
 | p :: ps,i,j=>(p.sort = emp ∧ tx[i]? = some p.sym ∧ PX X tx ps (i + 1) j) ∨ (p.sort ≠ emp ∧ ∃ k,X p.sort i k ∧ PX X tx ps k j)
theorem PX.mono {X Y : ByteArray → Nat → Nat → Prop} {tx : List ByteArray} (hxy : ∀ s i k,X s i k → Y s i k) : ∀ {ps : List Pt} {i j : Nat},PX X tx ps i j → PX Y tx ps i j
 | [],i,j,h=>h
 | p :: ps,i,j,h=>by
  simp only [PX] at h ⊢
  rcases h with ⟨hs,ht,h⟩ | ⟨hs,k,h1,h2⟩
  ·exact .inl ⟨hs,ht,h.mono hxy⟩
  ·exact .inr ⟨hs,k,hxy _ _ _ h1,h2.mono hxy⟩
theorem PX_append {X : ByteArray → Nat → Nat → Prop} {tx : List ByteArray} : ∀ {ps qs : List Pt} {i j : Nat},PX X tx (ps ++ qs) i j ↔ ∃ k,PX X tx ps i k ∧ PX X tx qs k j
 | [],qs,i,j=>by simp [PX]
 | p :: ps,qs,i,j=>by
  simp only [List.cons_append,PX,PX_append]
  constructor
  ·rintro (⟨hs,ht,k,h1,h2⟩ | ⟨hs,m,hm,k,h1,h2⟩)
   ·exact ⟨k,.inl ⟨hs,ht,h1⟩,h2⟩
   ·exact ⟨k,.inr ⟨hs,m,hm,h1⟩,h2⟩
  ·rintro ⟨k,⟨hs,ht,h1⟩ | ⟨hs,m,hm,h1⟩,h2⟩
   ·exact .inl ⟨hs,ht,k,h1,h2⟩
   ·exact .inr ⟨hs,m,hm,k,h1,h2⟩
theorem closed_der {g : Gr} {tx : List ByteArray} {X : ByteArray → Nat → Nat → Prop} (hc : ∀ (r : Nat) (R : Rl) (i j : Nat),g.rules[r]? = some R → i ≤ tx.length → PX X tx R.parts i j → X R.sort i j) : ∀ {ps : List Pt} {i j : Nat},i ≤ tx.length → DerP g tx ps i j → PX X tx ps i j:=by
 intro ps i j hi h
 induction h with
 | nil=>rfl
 | sym hs ht h ih=>exact .inl ⟨hs,ht,ih (by have:=(List.getElem?_eq_some_iff.1 ht).1; omega)⟩
 | arg hs hr he h1 h2 ih1 ih2=>exact .inr ⟨hs,_,he ▸ hc _ _ _ _ hr hi (ih1 hi),ih2 (h1.le.2 hi)⟩
theorem closed_der' {g : Gr} {tx : List ByteArray} {X : ByteArray → Nat → Nat → Prop} (hc : ∀ (r : Nat) (R : Rl) (i j : Nat),g.rules[r]? = some R → i ≤ tx.length → PX X tx R.parts i j → X R.sort i j) {s : ByteArray} {i j : Nat} (hi : i ≤ tx.length) (h : Der g tx s i j) : X s i j:=by
 obtain ⟨r,R,hr,rfl,h⟩:=h
 exact hc r R i j hr hi (closed_der hc hi h)
structure Itm where
 r : Nat
 d : Nat
 h : Nat
deriving DecidableEq
def Itm.adv (x : Itm) : Itm:=⟨x.r,x.d + 1,x.h⟩
def nextF (g : Gr) (x : Itm) : Option Pt:=(g.rules[x.r]?).bind fun R=>R.parts[x.d]?
def UsOk (g : Gr) (tx : List ByteArray) : Prop:=∀ (r : Nat) (R : Rl) (i j : Nat),g.rules[r]? = some R → DerP g tx R.parts i j → g.us R = true
inductive It (g : Gr) (tx : List ByteArray) : Nat → Itm → Prop where
 | start {r : Nat} {R : Rl} (hr : g.rules[r]? = some R) (he : R.sort = g.st ∧ g.us R = true) : It g tx 0 ⟨r,0,0⟩
 | pred {k : Nat} {x : Itm} {p : Pt} {r : Nat} {R : Rl} (h : It g tx k x) (hn : nextF g x = some p) (hs : p.sort ≠ emp) (hr : g.rules[r]? = some R) (he : R.sort = p.sort ∧ g.us R = true) : It g tx k ⟨r,0,k⟩
 | scan {k : Nat} {x : Itm} {p : Pt} (h : It g tx k x) (hn : nextF g x = some p) (hs : p.sort = emp) (ht : tx[k]? = some p.sym) : It g tx (k + 1) x.adv
 | comp {i k : Nat} {x : Itm} {p : Pt} (h : It g tx i x) (hn : nextF g x = some p) (hs : p.sort ≠ emp) (hd : Der g tx p.sort i k) : It g tx k x.adv
structure Closed (g : Gr) (tx : List ByteArray) (S : Nat → Itm → Prop) (D : ByteArray → Nat → Nat → Prop) : Prop where
 pred : ∀ k x p,S k x → nextF g x = some p → p.sort ≠ emp → ∀ (r : Nat) (R : Rl),g.rules[r]? = some R → R.sort = p.sort ∧ g.us R = true → S k ⟨r,0,k⟩
 scan : ∀ k x p,S k x → nextF g x = some p → p.sort = emp → tx[k]? = some p.sym → S (k + 1) x.adv
 done : ∀ (k : Nat) (x : Itm) (R : Rl),S k x → g.rules[x.r]? = some R → x.d = R.parts.length → D R.sort x.h k
 move : ∀ s i k x p,D s i k → S i x → nextF g x = some p → p.sort = s → s ≠ emp → S k x.adv
 sound : ∀ k x,S k x → ∃ R : Rl,g.rules[x.r]? = some R ∧ x.d ≤ R.parts.length ∧ x.h ≤ k ∧ k ≤ tx.length ∧ DerP g tx (R.parts.take x.d) x.h k
 right : ∀ s i k,D s i k → Der g tx s i k ∧ k ≤ tx.length
 us : UsOk g tx
 it : ∀ k x,S k x → It g tx k x
def Begun (g : Gr) (S : Nat → Itm → Prop) (s : ByteArray) (k : Nat) : Prop:=∀ (r : Nat) (R : Rl),g.rules[r]? = some R → R.sort = s ∧ g.us R = true → S k ⟨r,0,k⟩
theorem Closed.comp {g : Gr} {tx : List ByteArray} {S : Nat → Itm → Prop} {D : ByteArray → Nat → Nat → Prop} (hc : Closed g tx S D) {ps : List Pt} {i j : Nat} (h : DerP g tx ps i j) :
  ∀ (x : Itm) (R : Rl),S i x → g.rules[x.r]? = some R → x.d + ps.length = R.parts.length → R.parts.drop x.d = ps → S j ⟨x.r,R.parts.length,x.h⟩:=by
 induction h with
 | nil=>intro x R hS hR hl hd; simp at hl; obtain ⟨r,d,h⟩:=x; simp at hl; subst hl; exact hS
 | @sym p ps i j hs ht h ih =>
  intro x R hS hR hl hd
  have hn : nextF g x = some p:=by
   have : (R.parts.drop x.d)[0]? = some p:=by rw [hd]; rfl
   rw [List.getElem?_drop] at this
   simpa [nextF,hR] using this
  have hd' : R.parts.drop (x.d + 1) = ps:=by rw [← List.drop_drop,hd]; rfl
  exact ih x.adv R (hc.scan _ _ _ hS hn hs ht) hR (by simp [Itm.adv] at hl ⊢; omega) hd'
 | @arg p ps i k j r R' hs hr he h1 h2 ih1 ih2 =>
  intro x R hS hR hl hd
  have hn : nextF g x = some p:=by
   have : (R.parts.drop x.d)[0]? = some p:=by rw [hd]; rfl
   rw [List.getElem?_drop] at this
   simpa [nextF,hR] using this
  have hd' : R.parts.drop (x.d + 1) = ps:=by rw [← List.drop_drop,hd]; rfl
  have hb:=hc.pred _ _ _ hS hn hs r R' hr ⟨he,hc.us r R' _ _ hr h1⟩
  have hw:=ih1 ⟨r,0,i⟩ R' hb hr (by simp) rfl
  have hD:=hc.done _ _ R' hw hr rfl
  exact ih2 x.adv R (hc.move _ _ _ _ _ hD hS hn he.symm (by rw [he]; exact hs)) hR (by simp [Itm.adv] at hl ⊢; omega) hd'
theorem Closed.iff {g : Gr} {tx : List ByteArray} {S : Nat → Itm → Prop} {D : ByteArray → Nat → Nat → Prop} (hc : Closed g tx S D) {s : ByteArray} {i : Nat} (hb : Begun g S s i) (j : Nat) : D s i j ↔ Der g tx s i j:=by
 constructor
 ·exact fun h=>(hc.right _ _ _ h).1
 ·rintro ⟨r,R,hr,rfl,h⟩
  exact hc.done _ _ R (hc.comp h ⟨r,0,i⟩ R (hb r R hr ⟨rfl,hc.us r R _ _ hr h⟩) hr (by simp) rfl) hr rfl
theorem Closed.parts {g : Gr} {tx : List ByteArray} {S : Nat → Itm → Prop} {D : ByteArray → Nat → Nat → Prop} (hc : Closed g tx S D) : ∀ (ps : List Pt) (i : Nat) (x : Itm) (R : Rl),S i x → g.rules[x.r]? = some R → R.parts.drop x.d = ps → ∀ j,PX D tx ps i j ↔ PX (Der g tx) tx ps i j
 | [],i,x,R,hS,hR,hd,j=>Iff.rfl
 | p :: ps,i,x,R,hS,hR,hd,j=>by
  have hn : nextF g x = some p:=by
   have : (R.parts.drop x.d)[0]? = some p:=by rw [hd]; rfl
   rw [List.getElem?_drop] at this
   simpa [nextF,hR] using this
  have hd' : R.parts.drop (x.d + 1) = ps:=by rw [← List.drop_drop,hd]; rfl
  simp only [PX]
  by_cases hs : p.sort = emp
  ·simp only [hs,ne_eq,not_true_eq_false,false_and,or_false,true_and]
   constructor
   ·rintro ⟨ht,h⟩; exact ⟨ht,(hc.parts ps (i + 1) x.adv R (hc.scan _ _ _ hS hn hs ht) hR hd' j).1 h⟩
   ·rintro ⟨ht,h⟩; exact ⟨ht,(hc.parts ps (i + 1) x.adv R (hc.scan _ _ _ hS hn hs ht) hR hd' j).2 h⟩
  ·have hb : Begun g S p.sort i:=fun r R' hr he=>hc.pred _ _ _ hS hn hs r R' hr he
   simp only [hs,false_and,ne_eq,not_false_eq_true,true_and,false_or]
   constructor
   ·rintro ⟨k,hk,h⟩; exact ⟨k,(hc.iff hb k).1 hk,(hc.parts ps k x.adv R (hc.move _ _ _ _ _ hk hS hn rfl hs) hR hd' j).1 h⟩
   ·rintro ⟨k,hk,h⟩
    have hk':=(hc.iff hb k).2 hk
    exact ⟨k,hk',(hc.parts ps k x.adv R (hc.move _ _ _ _ _ hk' hS hn rfl hs) hR hd' j).2 h⟩
end Go.Apx
end
section
namespace Go.Apx
open Go.Proofs
set_option linter.unusedVariables false
set_option linter.unusedSimpArgs false
set_option linter.unnecessarySimpa false
set_option maxRecDepth 4000
theorem rindex14_c (l : List ByteArray) (c : Cap) (s : ByteArray) (hl : l.length ≤ 2 ^ 31) {h : AHeap} : AEx PP Gl 25 [.sl 1 (l.map sv) c,.sc (.string s)] h (.ret (.sc (.int .i64 (indexF l s)))) h:=by
 refine enter_ref14_index (by simp) ?_
 simp [code_ref14_index,res_ref14_index,ann_ref14_index]
 refine AWp.cnt l.length [0,1] (fun i=>[(5,i64 i)]) (fun _=>h) (fun i=>∀ y ∈ l.take i,decide (y = s) = false) mixed (by simp) (le_of (by simp [dslot])) rfl ?_ ?_
 ·intro i hi hz
  obtain ⟨k,hki⟩ : ∃ k,l[i]? = some k:=⟨l[i],by simp [hi]⟩
  have hlt : (i : Int) < l.length:=by omega
  have hne : l ≠ []:=by intro e; rw [e] at hi; simp at hi
  simp [lp0_ref14_index,hlt,hki,sv]
  refine ⟨fun hk=>?_,fun hk=>?_⟩
  ·exact retE (by simp [deferred,dslot]) rfl (by simp [indexF,placeF_some hki (by simpa using hk) hz]) rfl
  ·rw [IntWalk.i64_in ((i : Int) + 1) (by omega)]
   refine ⟨by simpa using take_ext hki (q:=fun y=>decide (y = s) = false) hz (by simpa using hk),le_of (by simp [dslot])⟩
 ·intro hz
  simp [lp0_ref14_index]
  exact retE (by simp [deferred,dslot]) rfl (by simp [indexF,placeF_none (take_all hz)]) rfl
def atF (n s i j : Nat) : Nat:=(s * (n + 1) + i) * (n + 1) + j
theorem atF_lt {n s i j S : Nat} (hs : s < S) (hi : i ≤ n) (hj : j ≤ n) : atF n s i j < S * (n + 1) * (n + 1):=by
 unfold atF
 have h1 : s * (n + 1) + i + 1 ≤ S * (n + 1):=by
  have : (s + 1) * (n + 1) ≤ S * (n + 1):=Nat.mul_le_mul_right _ hs
  rw [Nat.succ_mul] at this; omega
 have h2 : (s * (n + 1) + i + 1) * (n + 1) ≤ S * (n + 1) * (n + 1):=Nat.mul_le_mul_right _ h1
 rw [Nat.succ_mul] at h2; omega
theorem atF_inj {n s i j s' i' j' : Nat} (hi : i ≤ n) (hj : j ≤ n) (hi' : i' ≤ n) (hj' : j' ≤ n) (h : atF n s i j = atF n s' i' j') : s = s' ∧ i = i' ∧ j = j':=by
 unfold atF at h
 have e1 : ((s * (n + 1) + i) * (n + 1) + j) % (n + 1) = j:=by rw [Nat.mul_comm,Nat.mul_add_mod]; exact Nat.mod_eq_of_lt (by omega)
 have e2 : ((s' * (n + 1) + i') * (n + 1) + j') % (n + 1) = j':=by rw [Nat.mul_comm,Nat.mul_add_mod]; exact Nat.mod_eq_of_lt (by omega)
 have hjj : j = j':=by rw [← e1,← e2,h]
 have d1 : ((s * (n + 1) + i) * (n + 1) + j) / (n + 1) = s * (n + 1) + i:=by
  rw [Nat.mul_comm,Nat.mul_add_div (by omega),Nat.div_eq_of_lt (by omega)]; rfl
 have d2 : ((s' * (n + 1) + i') * (n + 1) + j') / (n + 1) = s' * (n + 1) + i':=by
  rw [Nat.mul_comm,Nat.mul_add_div (by omega),Nat.div_eq_of_lt (by omega)]; rfl
 have hm : s * (n + 1) + i = s' * (n + 1) + i':=by rw [← d1,← d2,h]
 have f1 : (s * (n + 1) + i) % (n + 1) = i:=by rw [Nat.mul_comm,Nat.mul_add_mod]; exact Nat.mod_eq_of_lt (by omega)
 have f2 : (s' * (n + 1) + i') % (n + 1) = i':=by rw [Nat.mul_comm,Nat.mul_add_mod]; exact Nat.mod_eq_of_lt (by omega)
 have g1 : (s * (n + 1) + i) / (n + 1) = s:=by
  rw [Nat.mul_comm,Nat.mul_add_div (by omega),Nat.div_eq_of_lt (by omega)]; rfl
 have g2 : (s' * (n + 1) + i') / (n + 1) = s':=by
  rw [Nat.mul_comm,Nat.mul_add_div (by omega),Nat.div_eq_of_lt (by omega)]; rfl
 exact ⟨by rw [← g1,← g2,hm],by rw [← f1,← f2,hm],hjj⟩
abbrev encX (n o L : Nat) : AV:=.agg [i64 n,.rf o 0 0 L .full]
theorem at_c (n o L s i j : Nat) {h : AHeap} (hn : n ≤ 300) (hs : s ≤ 1000) (hi : i ≤ 300) (hj : j ≤ 300) : AEx PP Gl 29 [encX n o L,i64 s,i64 i,i64 j] h (.ret (i64 (atF n s i j))) h:=by
 have h1 : s * (n + 1) ≤ 1000 * 301:=Nat.mul_le_mul hs (by omega)
 have h2 : (s * (n + 1) + i) * (n + 1) ≤ (1000 * 301 + 300) * 301:=Nat.mul_le_mul (by omega) (by omega)
 have e1 : (s : Int) * ((n : Int) + 1) = ((s * (n + 1) : Nat) : Int):=by simp
 have e2 : (((s * (n + 1) : Nat) : Int) + i) * ((n : Int) + 1) = (((s * (n + 1) + i) * (n + 1) : Nat) : Int):=by simp
 refine enter_ref14_spans_at (by simp) ?_
 simp -implicitDefEqProofs [code_ref14_spans_at,res_ref14_spans_at,ann_ref14_spans_at]
 rw [IntWalk.i64_in ((n : Int) + 1) (by omega),e1,IntWalk.i64_in ((s * (n + 1) : Nat) : Int) (by omega),IntWalk.i64_in (((s * (n + 1) : Nat) : Int) + i) (by omega),e2,IntWalk.i64_in (((s * (n + 1) + i) * (n + 1) : Nat) : Int) (by omega),
  IntWalk.i64_in ((((s * (n + 1) + i) * (n + 1) : Nat) : Int) + j) (by omega)]
 exact retE (by simp [deferred,dslot]) rfl (by simp [atF]) rfl
end Go.Apx
end
section
namespace Go.Apx
open Go.Proofs
set_option linter.unusedVariables false
set_option linter.unusedSimpArgs false
set_option linter.unnecessarySimpa false
set_option maxRecDepth 4000
abbrev bl (b : Bool) : AV:=.sc (.bool b)
def markF (g : Gr) (n : Nat) (X : List Bool) (s : ByteArray) (i j : Nat) : Bool:=X.getD (atF n (indexF g.sorts s).toNat i j) false
def lieF (g : Gr) (tx : List ByteArray) (X : List Bool) (p : Pt) (i j : Nat) : Bool :=
 if p.sort = emp then decide (j = i + 1) && decide (tx[i]? = some p.sym) else decide (i ≤ j) && markF g tx.length X p.sort i j
def rowF (n : Nat) (f : Nat → Bool) : List Bool:=(List.range (n + 1)).map f
@[simp] theorem rowF_length (n : Nat) (f : Nat → Bool) : (rowF n f).length = n + 1:=by simp [rowF]
theorem rowF_get {n : Nat} {f : Nat → Bool} {j : Nat} (h : j ≤ n) : (rowF n f)[j]? = some (f j):=by simp [rowF,show j < n + 1 by omega]
theorem rowF_congr {n : Nat} {f f' : Nat → Bool} (h : ∀ j,j ≤ n → f j = f' j) : rowF n f = rowF n f':=by
 unfold rowF
 refine List.map_congr_left fun j hj=>h j ?_
 have:=List.mem_range.1 hj; omega
theorem rowF_set {n : Nat} {f : Nat → Bool} {m : Nat} (hm : m ≤ n) : (rowF n f).set m true = rowF n (fun j=>f j || decide (j = m)):=by
 refine List.ext_getElem? fun j=>?_
 rw [List.getElem?_set]
 by_cases hj : j ≤ n
 ·by_cases e : m = j
  ·subst e; rw [if_pos rfl,if_pos (by simp; omega),rowF_get hj]; simp
  ·rw [if_neg e,rowF_get hj,rowF_get hj]
   simp [show ¬ j = m from fun h=>e h.symm]
 ·have h1 : (rowF n f)[j]? = none:=by simp [rowF]; omega
  have h2 : (rowF n (fun j=>f j || decide (j = m)))[j]? = none:=by simp [rowF]; omega
  rw [if_neg (by omega),h1,h2]
def nextB (now : List Bool) (lie : Nat → Nat → Bool) (k : Nat) (j : Nat) : Bool:=(List.range k).any fun i=>now.getD i false && lie i j
theorem nextB_succ (now : List Bool) (lie : Nat → Nat → Bool) (k j : Nat) : nextB now lie (k + 1) j = (nextB now lie k j || (now.getD k false && lie k j)):=by
 simp [nextB,List.range_succ,List.any_append]
def nextRow (g : Gr) (tx : List ByteArray) (X : List Bool) (p : Pt) (now : List Bool) : List Bool:=rowF tx.length (nextB now (lieF g tx X p) (tx.length + 1))
def endsF (g : Gr) (tx : List ByteArray) (X : List Bool) (now : List Bool) (ps : List Pt) : List Bool:=ps.foldl (fun now p=>nextRow g tx X p now) now
def startF (n i : Nat) : List Bool:=rowF n fun j=>decide (j = i)
theorem endsF_take {g : Gr} {tx : List ByteArray} {X now : List Bool} {ps : List Pt} {i : Nat} {p : Pt} (h : ps[i]? = some p) : endsF g tx X now (ps.take (i + 1)) = nextRow g tx X p (endsF g tx X now (ps.take i)):=by
 simp [endsF,List.take_add_one,h,List.foldl_append]
theorem endsF_length {g : Gr} {tx : List ByteArray} {X : List Bool} {i : Nat} (ps : List Pt) : (endsF g tx X (startF tx.length i) ps).length = tx.length + 1:=by
 cases h : ps.reverse with
 | nil =>
      have : ps = []:=by simpa using h
      subst this; simp [endsF,startF]
 | cons p r =>
  have : ps = r.reverse ++ [p]:=by have:=congrArg List.reverse h; simpa using this
  subst this; simp [endsF,List.foldl_append,nextRow]
def stg (g : Gr) (tx : List ByteArray) (X : List Bool) (i : Nat) (ps : List Pt) (k : Nat) : AHeap:=(List.range (k + 1)).map fun m=>AObj.cells 0 ((endsF g tx X (startF tx.length i) (ps.take m)).map bl)
theorem stg_succ {g : Gr} {tx : List ByteArray} {X : List Bool} {i : Nat} {ps : List Pt} {k : Nat} : stg g tx X i ps (k + 1) = stg g tx X i ps k ++ [.cells 0 ((endsF g tx X (startF tx.length i) (ps.take (k + 1))).map bl)]:=by
 simp [stg,List.range_succ]
@[simp] theorem stg_length {g : Gr} {tx : List ByteArray} {X : List Bool} {i : Nat} {ps : List Pt} {k : Nat} : (stg g tx X i ps k).length = k + 1:=by simp [stg]
def SortsOk (g : Gr) (ps : List Pt) : Prop:=∀ p ∈ ps,p.sort ≠ emp → 0 ≤ indexF g.sorts p.sort ∧ indexF g.sorts p.sort < g.sorts.length
theorem rep_start {n i : Nat} (hi : i ≤ n) : (List.replicate (n + 1) (bl false)).set i (bl true) = (startF n i).map bl:=by
 have h0 : List.replicate (n + 1) false = rowF n (fun _=>false):=by
  refine List.ext_getElem? fun j=>?_
  by_cases hj : j ≤ n
  ·rw [rowF_get hj,List.getElem?_replicate,if_pos (by omega)]
  ·have h2 : (rowF n (fun _=>false))[j]? = none:=by simp [rowF]; omega
   rw [h2,List.getElem?_replicate,if_neg (by omega)]
 rw [← List.map_replicate (f:=bl) (a:=false),show bl true = bl true from rfl,← List.map_set,h0,rowF_set hi]
 simp [startF]
theorem rep_start' {n i : Nat} (hi : i ≤ n) : List.replicate (min i (n + 1)) (bl false) ++ bl true :: List.replicate (n - i) (bl false) = (startF n i).map bl:=by
 rw [← rep_start hi,← put_eq _ _ _ (by simp; omega)]
 simp
theorem rep_zero {n : Nat} {now : List Bool} {lie : Nat → Nat → Bool} : List.replicate (n + 1) (bl false) = (rowF n (nextB now lie 0)).map bl:=by
 refine List.ext_getElem? fun j=>?_
 rw [List.getElem?_map]
 by_cases hj : j ≤ n
 ·rw [rowF_get hj,List.getElem?_replicate,if_pos (by omega)]; rfl
 ·have h2 : (rowF n (nextB now lie 0))[j]? = none:=by simp [rowF]; omega
  rw [h2,List.getElem?_replicate,if_neg (by omega)]; rfl
theorem stg_zero {g : Gr} {tx : List ByteArray} {X : List Bool} {i : Nat} {ps : List Pt} : stg g tx X i ps 0 = [.cells 0 ((startF tx.length i).map bl)]:=by
 simp [stg,endsF]
theorem stg_get {g : Gr} {tx : List ByteArray} {X : List Bool} {i : Nat} {ps : List Pt} {k : Nat} : (stg g tx X i ps k)[k]? = some (.cells 0 ((endsF g tx X (startF tx.length i) (ps.take k)).map bl)):=by
 simp [stg]
set_option maxHeartbeats 4000000 in
theorem ends_c (g : Gr) (tx : List ByteArray) (tc : Cap) (X : List Bool) (o : Nat) (ps : List Pt) (pc : Cap) (i : Nat) {h : AHeap} (hn : tx.length ≤ 300) (hs : g.sorts.length ≤ 1000) (hp : ps.length ≤ 2 ^ 31) (hi : i ≤ tx.length) (hok : SortsOk g ps)
  (hX : X.length = g.sorts.length * (tx.length + 1) * (tx.length + 1)) (ho : h[o]? = some (.cells 0 (X.map bl))) :
  AEx PP Gl 52 [encG g,encX tx.length o X.length,.sl 1 (tx.map sv) tc,.sl 3 (ps.map encP) pc,i64 i] h
   (.ret (.rf (h.length + ps.length) 0 0 (tx.length + 1) .full)) (h ++ stg g tx X i ps ps.length):=by
 have hol:=(List.getElem?_eq_some_iff.1 ho).1
 have w1 : IntKind.i64.wrap ((tx.length : Int) + 1) = (tx.length : Int) + 1:=IntWalk.i64_in _ (by omega)
 have w2 : ((tx.length : Int) + 1).toNat = tx.length + 1:=by omega
 have w3 : (0 : Int) ≤ (tx.length : Int) + 1:=by omega
 have w4 : (tx.length : Int) + 1 ≤ 4294967296:=by omega
 have hi' : i < tx.length + 1:=by omega
 refine enter_ref14_ends (by simp) ?_
 simp -implicitDefEqProofs [code_ref14_ends,res_ref14_ends,ann_ref14_ends,encG,w1,w2,w3,w4,maxLenA,hi']
 simp -implicitDefEqProofs only [hi,if_true,rep_start' hi]
 simp -implicitDefEqProofs
 refine AWp.cnt ps.length [2,3,5,6] (fun k=>[(11,.rf (h.length + k) 0 0 (tx.length + 1) .full),(12,i64 k)]) (fun k=>h ++ stg g tx X i ps k) (fun _=>True) mixed trivial (le_of (by simp [dslot])) (by simp [stg_zero]) ?_ ?_
 ·intro k hk _
  obtain ⟨p,hpk⟩ : ∃ p,ps[k]? = some p:=⟨ps[k],by simp [hk]⟩
  have hlt : (k : Int) < ps.length:=by omega
  have hq : (h ++ stg g tx X i ps k)[h.length + k]? = some (.cells 0 ((endsF g tx X (startF tx.length i) (ps.take k)).map bl)):=by
   rw [List.getElem?_append_right (by omega),Nat.add_sub_cancel_left]; exact stg_get
  have hoB : (h ++ stg g tx X i ps k)[o]? = some (.cells 0 (X.map bl)):=by rw [List.getElem?_append_left hol]; exact ho
  have hBl : (h ++ stg g tx X i ps k).length = h.length + (k + 1):=by simp
  have hnext:=endsF_take (g:=g) (tx:=tx) (X:=X) (now:=startF tx.length i) hpk
  rw [stg_succ,hnext,← List.append_assoc]
  have hnl:=endsF_length (g:=g) (tx:=tx) (X:=X) (i:=i) (ps.take k)
  generalize endsF g tx X (startF tx.length i) (ps.take k) = now at *
  generalize h ++ stg g tx X i ps k = B at *
  have hql:=(List.getElem?_eq_some_iff.1 hq).1
  have hoBl:=(List.getElem?_eq_some_iff.1 hoB).1
  have hqB : ∀ z,(B ++ [z])[h.length + k]? = some (.cells 0 (now.map bl)):=fun z=>by rw [List.getElem?_append_left hql]; exact hq
  have hoB2 : ∀ z,(B ++ [z])[o]? = some (.cells 0 (X.map bl)):=fun z=>by rw [List.getElem?_append_left hoBl]; exact hoB
  simp -implicitDefEqProofs [lp0_ref14_ends,hlt,w1,w2,w3,w4,maxLenA]
  refine AWp.cnt (tx.length + 1) [2,3,5,6,11,12,13] (fun m=>[(14,i64 m)]) (fun m=>B ++ [.cells 0 ((rowF tx.length (nextB now (lieF g tx X p) m)).map bl)]) (fun _=>True) mixed trivial (le_of (by simp [dslot])) ?_ ?_ ?_
  ·rw [show AV.sc (.bool false) = bl false from rfl,rep_zero (now:=now) (lie:=lieF g tx X p)]
  ·intro m hm _
   have hmle : (m : Int) ≤ tx.length:=by omega
   obtain ⟨b,hb⟩ : ∃ b,now[m]? = some b:=⟨now[m],by simp [hnl,hm]⟩
   have hbd : now.getD m false = b:=by simp [List.getD,hb]
   have w5 : IntKind.i64.wrap ((m : Int) + 1) = (m : Int) + 1:=IntWalk.i64_in _ (by omega)
   cases b with
   | false =>
    have hrow : rowF tx.length (nextB now (lieF g tx X p) (m + 1)) = rowF tx.length (nextB now (lieF g tx X p) m):=rowF_congr fun j _=>by rw [nextB_succ,hbd]; simp
    simp -implicitDefEqProofs [lp1_ref14_ends,hmle,hm,hqB,hb,w5,hrow]
    exact le_of (by simp [dslot])
   | true =>
    by_cases hse : p.sort = ⟨#[]⟩
    ·by_cases hmn : m < tx.length
     ·obtain ⟨t,ht⟩ : ∃ t,tx[m]? = some t:=⟨tx[m],by simp [hmn]⟩
      have hmn' : (m : Int) < tx.length:=by omega
      by_cases hts : t = p.sym
      ·have hrow : rowF tx.length (nextB now (lieF g tx X p) (m + 1)) = (rowF tx.length (nextB now (lieF g tx X p) m)).set (m + 1) true:=by
        rw [rowF_set (by omega)]
        refine rowF_congr fun j _=>?_
        rw [nextB_succ,hbd]; simp [lieF,hse,emp,ht,hts]
       have w6 : (0 : Int) ≤ (m : Int) + 1:=by omega
       have w7 : ((m : Int) + 1).toNat = m + 1:=by omega
       have w8 : m + 1 < tx.length + 1:=by omega
       have w9 : m + 1 + 1 ≤ tx.length + 1:=by omega
       rw [hrow]
       have hRl:=rowF_length tx.length (nextB now (lieF g tx X p) m)
       generalize rowF tx.length (nextB now (lieF g tx X p) m) = R at *
       have hput : List.take (m + 1) (R.map bl) ++ AV.sc (.bool true) :: List.drop (m + 1 + 1) (R.map bl) = (R.set (m + 1) true).map bl:=by
        rw [put_eq _ _ _ (by simp; omega),List.map_set]
       simp -implicitDefEqProofs [lp1_ref14_ends,hmle,hm,hqB,hb,hpk,encP,hse,hmn',ht,sv,hts,w5,w6,w7,w8,w9,hRl,hput]
       exact le_of (by simp [dslot])
      ·have hrow : rowF tx.length (nextB now (lieF g tx X p) (m + 1)) = rowF tx.length (nextB now (lieF g tx X p) m):=rowF_congr fun j _=>by rw [nextB_succ,hbd]; simp [lieF,hse,emp,ht,hts]
       simp -implicitDefEqProofs [lp1_ref14_ends,hmle,hm,hqB,hb,hpk,encP,hse,hmn',ht,sv,hts,w5,hrow]
       exact le_of (by simp [dslot])
     ·have hmn' : ¬ (m : Int) < tx.length:=by omega
      have ht : tx[m]? = none:=by simp; omega
      have hrow : rowF tx.length (nextB now (lieF g tx X p) (m + 1)) = rowF tx.length (nextB now (lieF g tx X p) m):=rowF_congr fun j _=>by rw [nextB_succ,hbd]; simp [lieF,hse,emp,ht]
      simp -implicitDefEqProofs [lp1_ref14_ends,hmle,hm,hqB,hb,hpk,encP,hse,hmn',w5,hrow]
      exact le_of (by simp [dslot])
    ·obtain ⟨hx0,hx1⟩:=hok p (List.mem_of_getElem? hpk) hse
     obtain ⟨x,hx⟩ : ∃ x : Nat,indexF g.sorts p.sort = x:=⟨(indexF g.sorts p.sort).toNat,by omega⟩
     simp -implicitDefEqProofs [lp1_ref14_ends,hmle,hm,hqB,hb,hpk,encP,hse]
     refine callk (rindex14_c g.sorts g.sc p.sort (by omega)) rfl rfl ?_
     simp -implicitDefEqProofs [hx]
     have hxn : x < g.sorts.length:=by omega
     have hrow : rowF tx.length (nextB now (lieF g tx X p) (m + 1)) = rowF tx.length (fun j=>nextB now (lieF g tx X p) m j || (decide (j < tx.length + 1) && lieF g tx X p m j)):=rowF_congr fun j hj=>by
      rw [nextB_succ,hbd]; simp [show j < tx.length + 1 by omega]
     have hrow0 : rowF tx.length (nextB now (lieF g tx X p) m) = rowF tx.length (fun j=>nextB now (lieF g tx X p) m j || (decide (j < m) && lieF g tx X p m j)):=rowF_congr fun j hj=>by
      by_cases hjm : j < m
      ·simp [hjm,lieF,hse,show ¬ m ≤ j by omega]
      ·simp [hjm]
     rw [hrow,hrow0]
     refine AWp.cnt (tx.length + 1 - m) [2,3,5,6,11,12,13,14,15] (fun c=>[(16,i64 ((m + c : Nat) : Int))]) (fun c=>B ++ [.cells 0 ((rowF tx.length (fun j=>nextB now (lieF g tx X p) m j || (decide (j < m + c) && lieF g tx X p m j))).map bl)]) (fun _=>True) mixed trivial (le_of (by simp [dslot])) (by simp) ?_ ?_
     ·intro c hc _
      have hcle : ((m : Int) + (c : Int)) ≤ tx.length:=by omega
      have hlt2 : atF tx.length x m (m + c) < X.length:=by rw [hX]; exact atF_lt hxn (by omega) (by omega)
      obtain ⟨v,hv⟩ : ∃ v,X[atF tx.length x m (m + c)]? = some v:=⟨_,List.getElem?_eq_getElem hlt2⟩
      have hv2 : X[atF tx.length x m (m + c)] = v:=(List.getElem?_eq_some_iff.1 hv).2
      have hlie : lieF g tx X p m (m + c) = v:=by
       have : (indexF g.sorts p.sort).toNat = x:=by omega
       simp [lieF,hse,markF,this,List.getD,hv]
      have hsucc : (m : Int) + ((c : Int) + 1) = (m : Int) + (c : Int) + 1:=by omega
      have hnn : (m : Int) + (c : Int) = ((m + c : Nat) : Int):=by omega
      have v1 : m + c < tx.length + 1:=by omega
      have v2 : m + c + 1 ≤ tx.length + 1:=by omega
      have v3 : ((m : Int) + (c : Int)).toNat = m + c:=by omega
      have v4 : (0 : Int) ≤ (m : Int) + (c : Int):=by omega
      have v5 : IntKind.i64.wrap ((m : Int) + (c : Int) + 1) = (m : Int) + (c : Int) + 1:=IntWalk.i64_in _ (by omega)
      simp -implicitDefEqProofs [lp2_ref14_ends,hcle]
      refine callk (at_c tx.length o X.length x m (m + c) (by omega) (by omega) (by omega) (by omega)) (by simp) rfl ?_
      cases v with
      | false =>
       have hr : rowF tx.length (fun j=>nextB now (lieF g tx X p) m j || (decide (j < m + (c + 1)) && lieF g tx X p m j)) = rowF tx.length (fun j=>nextB now (lieF g tx X p) m j || (decide (j < m + c) && lieF g tx X p m j)):=rowF_congr fun j hj=>by
        by_cases e : j = m + c
        ·subst e; simp [hlie]
        ·have : (decide (j < m + (c + 1))) = decide (j < m + c):=by
          by_cases h1 : j < m + c
          ·simp [h1,show j < m + (c + 1) by omega]
          ·simp [h1,show ¬ j < m + (c + 1) by omega]
         rw [this]
       simp -implicitDefEqProofs [hlt2,hoB2,hv,hv2,hsucc,v5,hr]
       exact le_of (by simp [dslot])
      | true =>
       have hr : rowF tx.length (fun j=>nextB now (lieF g tx X p) m j || (decide (j < m + (c + 1)) && lieF g tx X p m j)) = (rowF tx.length (fun j=>nextB now (lieF g tx X p) m j || (decide (j < m + c) && lieF g tx X p m j))).set (m + c) true:=by
        rw [rowF_set (by omega)]
        refine rowF_congr fun j hj=>?_
        by_cases e : j = m + c
        ·subst e; simp [hlie]
        ·have : (decide (j < m + (c + 1))) = decide (j < m + c):=by
          by_cases h1 : j < m + c
          ·simp [h1,show j < m + (c + 1) by omega]
          ·simp [h1,show ¬ j < m + (c + 1) by omega]
         simp [this,e]
       rw [hr]
       have hRl:=rowF_length tx.length (fun j=>nextB now (lieF g tx X p) m j || (decide (j < m + c) && lieF g tx X p m j))
       generalize rowF tx.length (fun j=>nextB now (lieF g tx X p) m j || (decide (j < m + c) && lieF g tx X p m j)) = R at *
       have hput : List.take (m + c) (R.map bl) ++ AV.sc (.bool true) :: List.drop (m + c + 1) (R.map bl) = (R.set (m + c) true).map bl:=by
        rw [put_eq _ _ _ (by simp; omega),List.map_set]
       simp -implicitDefEqProofs [hlt2,hoB2,hv,hv2,hsucc,v1,v2,v3,v4,v5,hRl,hput]
       exact le_of (by simp [dslot])
     ·intro _
      have hno : ¬ ((m : Int) + ((tx.length + 1 - m : Nat) : Int) ≤ tx.length):=by omega
      have hmx : m + (tx.length + 1 - m) = tx.length + 1:=by omega
      have hno2 : ¬ ((tx.length : Int) + 1 ≤ tx.length):=by omega
      simp -implicitDefEqProofs [lp2_ref14_ends,hno,hno2,hmx,w5]
      exact le_of (by simp [dslot])
  ·intro _
   have hno : ¬ ((tx.length : Int) + 1 ≤ tx.length):=by omega
   simp -implicitDefEqProofs [lp1_ref14_ends,hBl,hno]
   rw [IntWalk.i64_in ((k : Int) + 1) (by omega)]
   exact ⟨le_of (by simp [dslot]),rfl⟩
 ·intro _
  simp -implicitDefEqProofs [lp0_ref14_ends]
  exact retE (by simp [deferred,dslot]) rfl (by simp) rfl
end Go.Apx
end
section
namespace Go.Apx
open Go.Proofs
set_option linter.unusedVariables false
set_option linter.unusedSimpArgs false
def Mk (g : Gr) (n : Nat) (X : List Bool) (s : ByteArray) (i k : Nat) : Prop:=i ≤ k ∧ k ≤ n ∧ markF g n X s i k = true
theorem nextB_true {now : List Bool} {lie : Nat → Nat → Bool} {k j : Nat} : nextB now lie k j = true ↔ ∃ i,i < k ∧ now.getD i false = true ∧ lie i j = true:=by
 simp [nextB,List.any_eq_true]
theorem lieF_true {g : Gr} {tx : List ByteArray} {X : List Bool} {p : Pt} {i j : Nat} (hj : j ≤ tx.length) :
  lieF g tx X p i j = true ↔ (p.sort = emp ∧ tx[i]? = some p.sym ∧ j = i + 1) ∨ (p.sort ≠ emp ∧ Mk g tx.length X p.sort i j):=by
 unfold lieF Mk
 by_cases hs : p.sort = emp
 ·simp [hs]; exact ⟨fun ⟨a,b⟩=>⟨b,a⟩,fun ⟨a,b⟩=>⟨b,a⟩⟩
 ·simp [hs,hj]
theorem PX_one {X : ByteArray → Nat → Nat → Prop} {tx : List ByteArray} {p : Pt} {i j : Nat} : PX X tx [p] i j ↔ (p.sort = emp ∧ tx[i]? = some p.sym ∧ j = i + 1) ∨ (p.sort ≠ emp ∧ X p.sort i j):=by
 simp only [PX]
 constructor
 ·rintro (⟨a,b,c⟩ | ⟨a,k,b,c⟩)
  ·exact .inl ⟨a,b,c.symm⟩
  ·subst c; exact .inr ⟨a,b⟩
 ·rintro (⟨a,b,c⟩ | ⟨a,b⟩)
  ·exact .inl ⟨a,b,c.symm⟩
  ·exact .inr ⟨a,j,b,rfl⟩
theorem PX_le {g : Gr} {tx : List ByteArray} {X : List Bool} : ∀ {ps : List Pt} {i j : Nat},PX (Mk g tx.length X) tx ps i j → i ≤ tx.length → i ≤ j ∧ j ≤ tx.length
 | [],i,j,h,hi=>by simp only [PX] at h; omega
 | p :: ps,i,j,h,hi=>by
  simp only [PX] at h
  rcases h with ⟨_,ht,h⟩ | ⟨_,k,⟨h1,h2,_⟩,h⟩
  ·have:=(List.getElem?_eq_some_iff.1 ht).1
   have:=PX_le h (by omega)
   omega
  ·have:=PX_le h h2
   omega
theorem endsF_append {g : Gr} {tx : List ByteArray} {X now : List Bool} {ps : List Pt} {p : Pt} : endsF g tx X now (ps ++ [p]) = nextRow g tx X p (endsF g tx X now ps):=by
 simp [endsF,List.foldl_append]
theorem endsF_true {g : Gr} {tx : List ByteArray} {X : List Bool} {i : Nat} (hi : i ≤ tx.length) : ∀ (n : Nat) (ps : List Pt),ps.length = n → ∀ j,j ≤ tx.length → ((endsF g tx X (startF tx.length i) ps).getD j false = true ↔ PX (Mk g tx.length X) tx ps i j)
 | 0,ps,hn,j,hj=>by
  have : ps = []:=List.eq_nil_of_length_eq_zero hn
  subst this
  simp only [endsF,List.foldl_nil,startF,List.getD,rowF_get hj,Option.getD_some,decide_eq_true_eq,PX]
  exact eq_comm
 | n + 1,ps,hn,j,hj=>by
  obtain ⟨qs,p,rfl⟩ : ∃ qs p,ps = qs ++ [p]:=by
   rcases List.eq_nil_or_concat ps with h | ⟨qs,p,h⟩
   ·subst h; simp at hn
   ·exact ⟨qs,p,by simpa using h⟩
  have ih:=endsF_true (g:=g) (X:=X) hi n qs (by simp at hn; omega)
  rw [endsF_append,PX_append]
  simp only [nextRow,List.getD,rowF_get hj,Option.getD_some,nextB_true]
  constructor
  ·rintro ⟨k,hk,h1,h2⟩
   exact ⟨k,(ih k (by omega)).1 h1,PX_one.2 ((lieF_true hj).1 h2)⟩
  ·rintro ⟨k,h1,h2⟩
   have hk:=(PX_le h1 hi).2
   exact ⟨k,by omega,(ih k hk).2 h1,(lieF_true hj).2 (PX_one.1 h2)⟩
def Sound (g : Gr) (tx : List ByteArray) (X : List Bool) : Prop:=∀ s i k,Mk g tx.length X s i k → s ∈ g.sorts → Der g tx s i k
def Full (g : Gr) (tx : List ByteArray) (X : List Bool) : Prop:=∀ (r : Nat) (R : Rl) (i j : Nat),g.rules[r]? = some R → i ≤ tx.length → PX (Mk g tx.length X) tx R.parts i j → Mk g tx.length X R.sort i j
def Named (g : Gr) : Prop:=∀ R ∈ g.rules,R.sort ∈ g.sorts ∧ ∀ p ∈ R.parts,p.sort ≠ emp → p.sort ∈ g.sorts
theorem PX_sound {g : Gr} {tx : List ByteArray} {X : List Bool} (hs : Sound g tx X) : ∀ {ps : List Pt} {i j : Nat},(∀ p ∈ ps,p.sort ≠ emp → p.sort ∈ g.sorts) → PX (Mk g tx.length X) tx ps i j → DerP g tx ps i j
 | [],i,j,_,h=>by simp only [PX] at h; subst h; exact .nil _
 | p :: ps,i,j,hp,h=>by
  simp only [PX] at h
  rcases h with ⟨h1,h2,h3⟩ | ⟨h1,k,h2,h3⟩
  ·exact .sym h1 h2 (PX_sound hs (fun q hq=>hp q (by simp [hq])) h3)
  ·exact .arg' h1 (hs _ _ _ h2 (hp p (by simp) h1)) (PX_sound hs (fun q hq=>hp q (by simp [hq])) h3)
theorem marks_right {g : Gr} {tx : List ByteArray} {X : List Bool} (hs : Sound g tx X) (hf : Full g tx X) {s : ByteArray} (hm : s ∈ g.sorts) {i : Nat} (hi : i ≤ tx.length) (k : Nat) : Mk g tx.length X s i k ↔ Der g tx s i k :=
 ⟨fun h=>hs s i k h hm,fun h=>closed_der' hf hi h⟩
theorem index_of {l : List ByteArray} {s : ByteArray} (h : s ∈ l) : ∃ x : Nat,indexF l s = x ∧ l[x]? = some s:=by
 unfold indexF placeF
 cases hf : l.findIdx? (fun x=>decide (x = s)) with
 | none =>
  have:=List.findIdx?_eq_none_iff.1 hf s h
  simp at this
 | some i =>
  obtain ⟨h1,h2,_⟩:=List.findIdx?_eq_some_iff_getElem.1 hf
  exact ⟨i,rfl,by rw [List.getElem?_eq_getElem h1]; simp at h2; rw [h2]⟩
theorem mark_set {g : Gr} {n : Nat} {X : List Bool} {s s' : ByteArray} {i k i' k' : Nat} (hs : s ∈ g.sorts) (hs' : s' ∈ g.sorts) (hi : i ≤ n) (hk : k ≤ n) (hi' : i' ≤ n) (hk' : k' ≤ n)
  (hX : X.length = g.sorts.length * (n + 1) * (n + 1)) :
  markF g n (X.set (atF n (indexF g.sorts s).toNat i k) true) s' i' k' = true ↔ (s' = s ∧ i' = i ∧ k' = k) ∨ markF g n X s' i' k' = true:=by
 obtain ⟨x,hx,hxs⟩:=index_of hs
 obtain ⟨y,hy,hys⟩:=index_of hs'
 have hxl:=(List.getElem?_eq_some_iff.1 hxs).1
 have hyl:=(List.getElem?_eq_some_iff.1 hys).1
 have e1 : (indexF g.sorts s).toNat = x:=by omega
 have e2 : (indexF g.sorts s').toNat = y:=by omega
 unfold markF
 rw [e1,e2]
 have h1 : atF n x i k < X.length:=by rw [hX]; exact atF_lt hxl hi hk
 simp only [List.getD,List.getElem?_set]
 by_cases e : atF n x i k = atF n y i' k'
 ·obtain ⟨rfl,rfl,rfl⟩:=atF_inj hi hk hi' hk' e
  rw [hxs] at hys
  have:=Option.some.inj hys
  subst this
  simp [h1]
 ·rw [if_neg e]
  constructor
  ·exact .inr
  ·rintro (⟨rfl,rfl,rfl⟩ | h)
   ·exact (e (by rw [← e1,← e2])).elim
   ·exact h
end Go.Apx
end
section
namespace Go.Apx
open Go.Proofs
set_option linter.unusedVariables false
set_option linter.unusedSimpArgs false
set_option linter.unnecessarySimpa false
set_option maxRecDepth 4000
def HA (h : AHeap) (n L : Nat) (X : List Bool) (J : AHeap) : AHeap:=h ++ (.cells 0 [i64 n,.rf (h.length + 1) 0 0 L .full] :: .cells 0 (X.map bl) :: J)
theorem HA_get0 {h : AHeap} {n L : Nat} {X : List Bool} {J : AHeap} : (HA h n L X J)[h.length]? = some (.cells 0 [i64 n,.rf (h.length + 1) 0 0 L .full]):=by
 unfold HA; rw [List.getElem?_append_right (by omega)]; simp
theorem HA_get1 {h : AHeap} {n L : Nat} {X : List Bool} {J : AHeap} : (HA h n L X J)[h.length + 1]? = some (.cells 0 (X.map bl)):=by
 unfold HA; rw [List.getElem?_append_right (by omega)]; simp
theorem HA_set {h : AHeap} {n L : Nat} {X : List Bool} {J : AHeap} (Y : List Bool) : (HA h n L X J).set (h.length + 1) (.cells 0 (Y.map bl)) = HA h n L Y J:=by
 unfold HA; rw [List.set_append_right _ _ (by omega)]; simp
theorem HA_getJ {h : AHeap} {n L : Nat} {X : List Bool} {J : AHeap} (k : Nat) : (HA h n L X J)[h.length + 2 + k]? = J[k]?:=by
 unfold HA; rw [List.getElem?_append_right (by omega),show h.length + 2 + k - h.length = k + 1 + 1 by omega]; simp
theorem HA_app {h : AHeap} {n L : Nat} {X : List Bool} {J K : AHeap} : HA h n L X J ++ K = HA h n L X (J ++ K):=by
 unfold HA; simp
theorem HA_len {h : AHeap} {n L : Nat} {X : List Bool} {J : AHeap} : (HA h n L X J).length = h.length + 2 + J.length:=by
 unfold HA; simp; omega
theorem HA_old {h : AHeap} {n L : Nat} {X : List Bool} {J : AHeap} {j : Nat} (hj : j < h.length) : (HA h n L X J)[j]? = h[j]?:=by
 unfold HA; rw [List.getElem?_append_left hj]
def cntF (X : List Bool) : Nat:=X.count false
theorem cntF_set {X : List Bool} {k : Nat} (h : X[k]? = some false) : cntF (X.set k true) < cntF X:=by
 unfold cntF
 obtain ⟨hk,he⟩:=List.getElem?_eq_some_iff.1 h
 rw [List.count_set hk,he]
 have : 0 < X.count false:=List.count_pos_iff.2 (List.mem_of_getElem? h)
 simp; omega
def PassOk (g : Gr) (tx : List ByteArray) (X : List Bool) (A : Prop) (more : Bool) (Y : List Bool) : Prop :=
 (more = false → Y = X ∧ A) ∧ (more = true → cntF Y < cntF X) ∧ Sound g tx Y ∧ Y.length = g.sorts.length * (tx.length + 1) * (tx.length + 1)
theorem PassOk.mono {g : Gr} {tx : List ByteArray} {X : List Bool} {A A' : Prop} {more : Bool} {Y : List Bool} (h : PassOk g tx X A more Y) (ha : Y = X → A → A') : PassOk g tx X A' more Y :=
 ⟨fun e=>⟨(h.1 e).1,ha (h.1 e).1 (h.1 e).2⟩,h.2⟩
structure P0S where
 m : Bool
 X : List Bool
 J : AHeap
structure P1S where
 i : Nat
 m : Bool
 X : List Bool
 J : AHeap
structure P3S where
 c : Nat
 m : Bool
 X : List Bool
structure AllOk (g : Gr) (tx : List ByteArray) : Prop where
 n : tx.length ≤ 300
 s : g.sorts.length ≤ 1000
 r : g.rules.length ≤ 2 ^ 31
 p : ∀ R ∈ g.rules,R.parts.length ≤ 2 ^ 31
 nm : Named g
theorem sorts_of {g : Gr} {ps : List Pt} (h : ∀ p ∈ ps,p.sort ≠ emp → p.sort ∈ g.sorts) : SortsOk g ps:=fun p hp hs=>by
 obtain ⟨x,h1,h2⟩:=index_of (h p hp hs)
 have:=(List.getElem?_eq_some_iff.1 h2).1
 omega
def DoneAt (g : Gr) (tx : List ByteArray) (X : List Bool) (R : Rl) (i : Nat) : Prop:=∀ j,j ≤ tx.length → PX (Mk g tx.length X) tx R.parts i j → Mk g tx.length X R.sort i j
set_option maxHeartbeats 4000000 in
theorem all_c (g : Gr) (tx : List ByteArray) (tc : Cap) {h : AHeap} (hk : AllOk g tx) :
  ACalls PP Gl 28 [encG g,.sl 1 (tx.map sv) tc] h (fun r h'=>∃ X J,r = .ret (encX tx.length (h.length + 1) X.length) ∧ h' = HA h tx.length X.length X J ∧ Sound g tx X ∧ Full g tx X ∧ X.length = g.sorts.length * (tx.length + 1) * (tx.length + 1)):=by
 obtain ⟨hn,hs,hr,hp,hnm⟩:=hk
 have l1 : g.sorts.length * (tx.length + 1) ≤ 1000 * 301:=Nat.mul_le_mul hs (by omega)
 have l2 : g.sorts.length * (tx.length + 1) * (tx.length + 1) ≤ 1000 * 301 * 301:=Nat.mul_le_mul l1 (by omega)
 obtain ⟨L,hL⟩ : ∃ L,L = g.sorts.length * (tx.length + 1) * (tx.length + 1):=⟨_,rfl⟩
 have c1 : (g.sorts.length : Int) * ((tx.length : Int) + 1) = ((g.sorts.length * (tx.length + 1) : Nat) : Int):=by simp
 have c2 : (g.sorts.length : Int) * ((tx.length : Int) + 1) * ((tx.length : Int) + 1) = (L : Int):=by rw [hL]; simp
 have w1 : IntKind.i64.wrap ((tx.length : Int) + 1) = (tx.length : Int) + 1:=IntWalk.i64_in _ (by omega)
 have w2 : IntKind.i64.wrap ((g.sorts.length : Int) * ((tx.length : Int) + 1)) = (g.sorts.length : Int) * ((tx.length : Int) + 1):=IntWalk.i64_in _ (by rw [c1]; omega)
 have w3 : IntKind.i64.wrap (L : Int) = L:=IntWalk.i64_in _ (by omega)
 have w4 : (L : Int) ≤ 4294967296:=by omega
 refine enter_ref14_all (by simp) ?_
 simp -implicitDefEqProofs [code_ref14_all,res_ref14_all,ann_ref14_all,encG,w1,w2,c2,w3,w4,maxLenA]
 have hstart : h ++ [AObj.cells 0 [AV.sc (.int .i64 tx.length),.rf (h.length + 1) 0 0 L .full],AObj.cells 0 (List.replicate L (AV.sc (.bool false)))] = HA h tx.length L (List.replicate L false) []:=by
  unfold HA; simp
 have hmk0 : ∀ s i k,¬ Mk g tx.length (List.replicate L false) s i k:=by
  rintro s i k ⟨_,_,hm⟩
  unfold markF at hm
  simp only [List.getD,List.getElem?_replicate] at hm
  split at hm <;> simp at hm
 rw [hstart]
 refine AWp.till (S:=P0S) ⟨true,List.replicate L false,[]⟩ (fun s=>2 * cntF s.X + s.m.toNat) [1,2,4,5] (fun s=>[(6,bl s.m)]) (fun s=>HA h tx.length L s.X s.J)
  (fun s=>(s.m = false → Full g tx s.X) ∧ Sound g tx s.X ∧ s.X.length = L) mixed ⟨by simp,fun s i k hm=>(hmk0 s i k hm).elim,by simp⟩ (le_of (by simp [dslot])) rfl ?_
 rintro ⟨more,X,J⟩ ⟨z1,z2,z3⟩
 simp only at z1 z2 z3
 cases more with
 | false =>
  simp -implicitDefEqProofs [lp0_ref14_all,HA_get0]
  exact ret1 (v:=encX tx.length (h.length + 1) L) (by simp [deferred,dslot]) (by simp [evalRes,evalRes1]) ⟨X,by rw [z3],⟨J,by rw [z3]⟩,z2,z1 rfl,by rw [z3,hL]⟩
 | true =>
  simp -implicitDefEqProofs [lp0_ref14_all]
  refine AWp.till (S:=P1S) ⟨0,false,X,J⟩ (fun s=>g.rules.length - s.i) [1,2,4,5] (fun s=>[(6,bl s.m),(7,i64 s.i)]) (fun s=>HA h tx.length L s.X s.J)
   (fun s=>s.i ≤ g.rules.length ∧ PassOk g tx X (∀ r R,r < s.i → g.rules[r]? = some R → ∀ a,a ≤ tx.length → DoneAt g tx X R a) s.m s.X) mixed ⟨by simp,fun _=>⟨rfl,fun r R hr=>by simp at hr⟩,by simp,z2,by rw [z3,hL]⟩ (le_of (by simp [dslot])) rfl ?_
  rintro ⟨i,more,Y,K⟩ ⟨y1,y2⟩
  simp only at y1 y2
  by_cases hi : i < g.rules.length
  ·obtain ⟨R,hR⟩ : ∃ R,g.rules[i]? = some R:=⟨g.rules[i],by simp [hi]⟩
   have hRm:=List.mem_of_getElem? hR
   obtain ⟨hRs,hRp⟩:=hnm R hRm
   obtain ⟨x,hx,hxs⟩:=index_of hRs
   have hxl:=(List.getElem?_eq_some_iff.1 hxs).1
   have hlt : (i : Int) < g.rules.length:=by omega
   have hne : g.rules ≠ []:=by intro e; rw [e] at hi; simp at hi
   simp -implicitDefEqProofs [lp1_ref14_all,hlt,hR,encR]
   refine callk (rindex14_c g.sorts g.sc R.sort (by omega)) rfl rfl ?_
   simp -implicitDefEqProofs [hx]
   refine AWp.till (S:=P1S) ⟨0,more,Y,K⟩ (fun s=>tx.length + 1 - s.i) [1,2,4,5,7,8] (fun s=>[(6,bl s.m),(9,i64 s.i)]) (fun s=>HA h tx.length L s.X s.J)
    (fun s=>s.i ≤ tx.length + 1 ∧ PassOk g tx X ((∀ r R,r < i → g.rules[r]? = some R → ∀ a,a ≤ tx.length → DoneAt g tx X R a) ∧ ∀ a,a < s.i → DoneAt g tx X R a) s.m s.X) mixed ⟨by simp,y2.mono fun _ ha=>⟨ha,fun a ha=>by simp at ha⟩⟩ (le_of (by simp [dslot])) rfl ?_
   rintro ⟨a,more,Y,K⟩ ⟨x1,x2⟩
   simp only at x1 x2
   by_cases hal : a ≤ tx.length
   ·have hale : (a : Int) ≤ tx.length:=by omega
    have hYl : Y.length = L:=by rw [x2.2.2.2,hL]
    simp -implicitDefEqProofs [lp2_ref14_all,hale,HA_get0,hR,encR]
    have he:=ends_c (h:=HA h tx.length L Y K) g tx tc Y (h.length + 1) R.parts R.cap a hn hs (hp R hRm) hal (sorts_of hRp) x2.2.2.2 HA_get1
    rw [hYl] at he
    refine callk he (by simp [encG]) rfl ?_
    rw [HA_app,HA_len]
    have hrow : ∀ Z : List Bool,(HA h tx.length L Z (K ++ stg g tx Y a R.parts R.parts.length))[h.length + 2 + K.length + R.parts.length]? = some (.cells 0 ((endsF g tx Y (startF tx.length a) R.parts).map bl)):=fun Z=>by
     rw [Nat.add_assoc (h.length + 2),HA_getJ,List.getElem?_append_right (by omega),Nat.add_sub_cancel_left,stg_get,List.take_length]
    have hends:=fun j hj=>endsF_true (g:=g) (X:=Y) hal R.parts.length R.parts rfl j hj
    have hel:=endsF_length (g:=g) (tx:=tx) (X:=Y) (i:=a) R.parts
    generalize K ++ stg g tx Y a R.parts R.parts.length = K2 at *
    generalize endsF g tx Y (startF tx.length a) R.parts = row at *
    generalize hqd : h.length + 2 + K.length + R.parts.length = q at *
    simp -implicitDefEqProofs [HA_get0]
    refine AWp.till (S:=P3S) ⟨0,more,Y⟩ (fun s=>tx.length + 1 - s.c) [1,2,4,5,7,8,9,10] (fun s=>[(6,bl s.m),(11,i64 ((a + s.c : Nat) : Int))]) (fun s=>HA h tx.length L s.X K2)
     (fun s=>a + s.c ≤ tx.length + 1 ∧ PassOk g tx X (((∀ r R,r < i → g.rules[r]? = some R → ∀ a,a ≤ tx.length → DoneAt g tx X R a) ∧ ∀ a',a' < a → DoneAt g tx X R a') ∧ Y = X ∧ ∀ j,j < a + s.c → PX (Mk g tx.length X) tx R.parts a j → Mk g tx.length X R.sort a j) s.m s.X) mixed
     ⟨by simp; omega,x2.mono fun e ha=>⟨ha,e,fun j hj hpx=>by have hj' : j < a + 0:=hj; have:=(PX_le hpx hal).1; omega⟩⟩ (le_of (by simp [dslot])) rfl ?_
    rintro ⟨c,m,Z⟩ ⟨v1,v2⟩
    simp only at v1 v2
    by_cases hc : a + c ≤ tx.length
    ·have hce : (a : Int) + (c : Int) ≤ tx.length:=by omega
     have t1 : ((a : Int) + (c : Int)).toNat = a + c:=by omega
     have t2 : (0 : Int) ≤ (a : Int) + (c : Int):=by omega
     have t3 : a + c < tx.length + 1:=by omega
     have t4 : IntKind.i64.wrap ((a : Int) + (c : Int) + 1) = (a : Int) + (c : Int) + 1:=IntWalk.i64_in _ (by omega)
     have hZl : Z.length = L:=by rw [v2.2.2.2,hL]
     have hix : atF tx.length x a (a + c) < L:=by rw [hL]; exact atF_lt hxl hal hc
     have hxn : (indexF g.sorts R.sort).toNat = x:=by omega
     obtain ⟨b,hb⟩ : ∃ b,row[a + c]? = some b:=⟨row[a + c],by simp [hel,t3]⟩
     have hbr : row[a + c] = b:=(List.getElem?_eq_some_iff.1 hb).2
     have hbe:=hends (a + c) hc
     rw [show row.getD (a + c) false = b by simp [List.getD,hb]] at hbe
     cases b with
     | false =>
      simp -implicitDefEqProofs [lp3_ref14_all,HA_get0,hce,t1,t2,t3,t4,hrow,hel,hb,hbr]
      refine ⟨⟨c + 1,m,Z⟩,by simp; omega,⟨by simp; omega,v2.mono fun e hh=>⟨hh.1,hh.2.1,fun j hj hpx=>?_⟩⟩,le_of (by simp [dslot]; omega),rfl⟩
      by_cases hjc : j < a + c
      ·exact hh.2.2 j hjc hpx
      ·have hj' : j < a + (c + 1):=hj
       have : j = a + c:=by omega
       subst this
       rw [hh.2.1] at hbe
       exact absurd (hbe.2 hpx) (by simp)
     | true =>
      have hpxY:=hbe.1 rfl
      obtain ⟨v,hv⟩ : ∃ v,Z[atF tx.length x a (a + c)]? = some v:=⟨_,List.getElem?_eq_getElem (by omega)⟩
      have hv2 : Z[atF tx.length x a (a + c)]'(by omega) = v:=(List.getElem?_eq_some_iff.1 hv).2
      have hmv : markF g tx.length Z R.sort a (a + c) = v:=by unfold markF; rw [hxn]; simp [List.getD,hv]
      simp -implicitDefEqProofs [lp3_ref14_all,HA_get0,hce,t1,t2,t3,t4,hrow,hel,hb,hbr]
      refine callk (at_c tx.length (h.length + 1) L x a (a + c) (by omega) (by omega) (by omega) (by omega)) (by simp) rfl ?_
      cases v with
      | true =>
       simp -implicitDefEqProofs [HA_get0,HA_get1,hix,hv,hv2,hZl,t4]
       refine ⟨⟨c + 1,m,Z⟩,by simp; omega,⟨by simp; omega,v2.mono fun e hh=>⟨hh.1,hh.2.1,fun j hj hpx=>?_⟩⟩,le_of (by simp [dslot]; omega),rfl⟩
       have hj' : j < a + (c + 1):=hj
       by_cases hjc : j < a + c
       ·exact hh.2.2 j hjc hpx
       ·have : j = a + c:=by omega
        subst this
        rw [e] at hmv
        exact ⟨by omega,hc,hmv⟩
      | false =>
       have hput : List.take (atF tx.length x a (a + c)) (Z.map bl) ++ AV.sc (.bool true) :: List.drop (atF tx.length x a (a + c) + 1) (Z.map bl) = (Z.set (atF tx.length x a (a + c)) true).map bl:=by
        rw [put_eq _ _ _ (by simp; omega),List.map_set]
       have hix1 : atF tx.length x a (a + c) + 1 ≤ L:=hix
       simp -implicitDefEqProofs [HA_get0,HA_get1,hix,hv,hv2,hZl]
       refine callk (at_c tx.length (h.length + 1) L x a (a + c) (by omega) (by omega) (by omega) (by omega)) (by simp) rfl ?_
       simp -implicitDefEqProofs [HA_get0,HA_get1,hix,hix1,hv,hv2,hZl,hput,HA_set,t4]
       have hms:=fun s' i' k' hs' hi' hk'=>mark_set (X:=Z) (s:=R.sort) (s':=s') (i:=a) (k:=a + c) (i':=i') (k':=k') (n:=tx.length) hRs hs' hal hc hi' hk' v2.2.2.2
       rw [hxn] at hms
       have hcs:=cntF_set hv
       refine ⟨⟨c + 1,true,Z.set (atF tx.length x a (a + c)) true⟩,by simp; omega,⟨by simp; omega,fun e=>by simp at e,fun _=>?_,fun s' i' k' hm hs'=>?_,by simp [v2.2.2.2]⟩,le_of (by simp [dslot]; omega),by rw [← List.map_set]; exact HA_set _⟩
       ·cases m with
        | false=>have:=(v2.1 rfl).1; rw [← this]; exact hcs
        | true=>exact Nat.lt_trans hcs (v2.2.1 rfl)
       ·obtain ⟨h1,h2,h3⟩:=hm
        rcases (hms s' i' k' hs' (by omega) h2).1 h3 with ⟨rfl,rfl,rfl⟩ | h3
        ·exact ⟨i,R,hR,rfl,PX_sound x2.2.2.1 hRp hpxY⟩
        ·exact v2.2.2.1 s' i' k' ⟨h1,h2,h3⟩ hs'
    ·have hac : a + c = tx.length + 1:=by omega
     have hce : ¬ (a : Int) + (c : Int) ≤ tx.length:=by omega
     simp -implicitDefEqProofs [lp3_ref14_all,HA_get0,hce]
     rw [IntWalk.i64_in ((a : Int) + 1) (by omega)]
     refine ⟨⟨a + 1,m,Z,K2⟩,by simp; omega,⟨by simp; omega,v2.mono fun e hh=>⟨hh.1.1,fun a' ha'=>?_⟩⟩,le_of (by simp [dslot]),rfl⟩
     rcases Nat.lt_succ_iff_lt_or_eq.1 ha' with h1 | rfl
     ·exact hh.1.2 a' h1
     ·exact fun j hj hpx=>hh.2.2 j (by omega) hpx
   ·have ha' : a = tx.length + 1:=by omega
    subst ha'
    have hno : ¬ ((tx.length : Int) + 1 ≤ tx.length):=by omega
    simp -implicitDefEqProofs [lp2_ref14_all,HA_get0,hno]
    rw [IntWalk.i64_in ((i : Int) + 1) (by omega)]
    refine ⟨⟨i + 1,more,Y,K⟩,by simp; omega,⟨by simp; omega,x2.mono fun _ ha r R' hr hR' a hal2=>?_⟩,le_of (by simp [dslot]),rfl⟩
    rcases Nat.lt_succ_iff_lt_or_eq.1 hr with hr | rfl
    ·exact ha.1 r R' hr hR' a hal2
    ·rw [hR] at hR'
     cases hR'
     exact ha.2 a (by omega)
  ·have hi' : i = g.rules.length:=by omega
   subst hi'
   simp -implicitDefEqProofs [lp1_ref14_all]
   refine ⟨⟨more,Y,K⟩,?_,⟨fun e=>?_,y2.2.2.1,by rw [y2.2.2.2,hL]⟩,le_of (by simp [dslot]),rfl⟩
   ·cases more with
    | false=>have:=(y2.1 rfl).1; subst this; simp
    | true=>have:=y2.2.1 rfl; simp; omega
   ·obtain ⟨e1,e2⟩:=y2.1 e
    simp only at e1 ⊢
    rw [e1]
    intro r R i0 j hr hi0 hpx
    exact e2 r R (List.getElem?_eq_some_iff.1 hr).1 hr i0 hi0 j (PX_le hpx hi0).2 hpx
end Go.Apx
end
