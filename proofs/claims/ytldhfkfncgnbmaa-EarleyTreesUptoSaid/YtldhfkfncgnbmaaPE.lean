/- What a checked grammar is; forests as values. -/
import Derived.Test.YtldhfkfncgnbmaaPD
import Derived.Test.YtldhfkfncgnbmaaEB
import Derived.Test.YtldhfkfncgnbmaaAw
section
namespace Go.Apx
open Go.Proofs
set_option maxRecDepth 4000
theorem has_mem {l:List ByteArray} {s:ByteArray} (h:hasF l s=true):s ∈ l:=by
 unfold hasF indexF placeF at h
 cases hf:l.findIdx? (fun x=>decide (x=s)) with
 | none=>rw [hf] at h; simp at h
 | some i =>
  obtain ⟨h1,h2,_⟩:=List.findIdx?_eq_some_iff_getElem.1 hf
  have h3:l[i]=s:=by simpa using h2
  rw [<- h3]; exact List.getElem_mem h1
theorem check_rule {g:Gr} (h:checkF g=0):∀ R ∈ g.rules,R.sort ∈ g.sorts /\ (∀ p ∈ R.parts,partF g p=true) /\ onceF R.parts=true:=by
 intro R hR
 obtain ⟨i,hi⟩:=List.getElem?_of_mem hR
 have:=(check_ok h).2.2 i R hi
 simp only [ruleOkF,rruleF,Bool.and_eq_true,List.all_eq_true] at this
 refine ⟨?_,this.1.1.1.2,this.1.1.2⟩
 exact has_mem this.1.1.1.1.2
theorem strip_apd (k:Nat) (es es':List AV) (T:Nat) (h:stripL es=es'):(apd k es T).strip=grown k es':=by
 subst h
 cases es with
 | nil=>rfl
 | cons a es=>simp only [apd_cons,AV.strip]; rfl
theorem inb_grown (n k:Nat) (es:List AV) (h:inbL n es=true):(grown k es).inb n=true:=by
 cases es with
 | nil=>rfl
 | cons a es=>simp only [grown,if_neg (List.cons_ne_nil a es),AV.inb,h]; rfl
theorem Low.cl {h H:AHeap} (hl:Low h.length h H):Cl h H h.length:=by
 intro i o hi ho
 have:h[i]?=some h[i]:=by simp [hi]
 have h2:=hl i h[i] hi this
 rw [ho] at h2
 left
 rw [<- h2] at this
 exact this
theorem Low.take {h H:AHeap} (hl:Low h.length h H):H.take h.length=h:=by
 refine List.ext_getElem? fun i=>?_
 by_cases hi:i < h.length
 .rw [List.getElem?_take,if_pos hi,hl i h[i] hi (by simp [hi])]; simp [hi]
 .rw [List.getElem?_take,if_neg hi,List.getElem?_eq_none (by omega)]
end Go.Apx
end
section
namespace Go.Apx
open Go.Proofs
set_option maxRecDepth 4000
section
variable {g:Gr} {tx:List ByteArray} {X:List Bool} {S:Nat -> Itm -> Prop} {D:List Sp}
def Met (g:Gr) (tx:List ByteArray) (S:Nat -> Itm -> Prop) (x:Sp):Prop:=Begun g S x.s x.i /\ x.i <= tx.length /\ x.j <= tx.length
theorem Met.num {L:List Sp} {x:Sp} (h:∀ y ∈ L,Met g tx S y) (hx:Met g tx S x):∀ y ∈ (numSp L x).1,Met g tx S y:=by
 unfold numSp
 split
 .exact h
 .intro y hy
  rcases List.mem_append.1 hy with h' | h'
  .exact h y h'
  .simp at h'; subst h'; exact hx
theorem Met.all:∀ {w L:List Sp} {ns:List Nat},(∀ y ∈ L,Met g tx S y) -> (∀ y ∈ w,Met g tx S y) -> ∀ y ∈ (w.foldl (fun st x=>((numSp st.1 x).1,st.2++[(numSp st.1 x).2])) (L,ns)).1,Met g tx S y
 | [],L,ns,h,_=>h
 | x :: w,L,ns,h,hw=>Met.all (w:=w) (Met.num h (hw x (by simp))) (fun y hy=>hw y (by simp [hy]))
theorem Met.run:∀ {c:List (Nat × List Sp)} {st:List Sp × List (Nat × List Nat)},(∀ y ∈ st.1,Met g tx S y) -> (∀ x ∈ c,∀ y ∈ x.2,Met g tx S y) -> ∀ y ∈ (runW wayP st c).1,Met g tx S y
 | [],st,h,_=>h
 | a :: c,st,h,hc=>Met.run (c:=c) (st:=((wayP st.1 a).1,st.2++[(wayP st.1 a).2])) (Met.all h (hc a (by simp))) (fun x hx=>hc x (by simp [hx]))
end
end Go.Apx
end
section
namespace Go.Apx
open Go.Proofs
set_option maxRecDepth 4000
theorem conv_get (g:Gr) (r:Nat):(convG g).rules[r]?=(g.rules[r]?).map convR:=by
 show (g.rules.map convR)[r]?=_
 rw [List.getElem?_map]
end Go.Apx
end
section
namespace Go.Apx
open Go.Proofs
set_option maxRecDepth 4000
theorem awake_c {h:AHeap}:AEx PP Gl 8 [] h (.ret (.sc (.bool true))) h:=KOk.at aw_root rfl rfl
structure LawP (g:Gr) (tx:List ByteArray):Prop where
 sorts:g.sorts.length <= 2 ^ 31
 rules:g.rules.length <= 2 ^ 31
 rparts:∀ r ∈ g.rules,r.parts.length <= 2 ^ 31
 sc:g.sc.strip=g.sc
 text:tx.length <= 2 ^ 31
def shortF (g:Gr) (tx:List ByteArray) (most:Int):Bool:=smallF g 10 5 && (decide ((tx.length:Int) <= most) || (decide (200 < (tx.length:Int)) && decide ((tx.length:Int) < 300)))
theorem short_c (g:Gr) (tx:List ByteArray) (tc:Cap) (most:Int) {h:AHeap} (hi:LawP g tx):AEx PP Gl 7 [encG g,.sl 1 (tx.map sv) tc,i64 most] h (.ret (bl (shortF g tx most))) h:=by
 refine enter_law14_short (by simp) ?_
 simp -implicitDefEqProofs [code_law14_short,res_law14_short,ann_law14_short,encG]
 refine callk (small_c g 10 5 hi.sorts hi.rules) (by simp [encG]) rfl ?_
 cases h1:smallF g 10 5 with
 | false =>
  simp -implicitDefEqProofs
  exact retE (by simp [deferred,dslot]) rfl (by simp [shortF,h1]) rfl
 | true =>
  by_cases h2:(tx.length:Int) <= most
  .simp -implicitDefEqProofs [h2]
   exact retE (by simp [deferred,dslot]) rfl (by simp [shortF,h1,h2]) rfl
  .by_cases h3:200 < (tx.length:Int)
   .simp -implicitDefEqProofs [h2,h3]
    exact retE (by simp [deferred,dslot]) rfl (by simp [shortF,h1,h2,h3]) rfl
   .simp -implicitDefEqProofs [h2,h3]
    exact retE (by simp [deferred,dslot]) rfl (by simp [shortF,h1,h2,h3]) rfl
theorem short_small {g:Gr} (hs:smallF g 10 5=true) (hck:checkF g=0):g.rules.length <= 10 /\ g.sorts.length <= 8 /\ ∀ R ∈ g.rules,R.parts.length <= 5:=by
 obtain ⟨c1,c2,_⟩:=check_ok hck
 have c3:g.sorts.length <= 32:=by
  unfold checkF at hck
  split at hck
  .omega
  .omega
 unfold smallF at hs
 rw [if_neg (by omega),if_neg (by omega)] at hs
 simp only [Bool.and_eq_true,List.all_eq_true,decide_eq_true_eq] at hs
 refine ⟨by omega,by omega,fun R hR=>?_⟩
 have h1:=hs.1.1 R hR
 have h2:=c2 R hR
 simp [badR] at h1
 omega
theorem small_parts {g:Gr} (hs:smallF g 10 5=true):g.sorts.length <= 32 -> g.rules.length <= 600 -> ∀ r ∈ g.rules,longF r=false -> r.parts.length <= 12:=fun h1 h2 r hr hlong=>by
 unfold smallF at hs
 rw [if_neg (by omega),if_neg (by omega)] at hs
 simp only [Bool.and_eq_true,List.all_eq_true] at hs
 have:=hs.1.1 r hr
 simp [badR,longF] at this hlong
 omega
end Go.Apx
end
