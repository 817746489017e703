/- Plain law: what begins an expression, from below. -/
import Derived.Test.YtldhfkfncgnbmaaGreatPG
import Derived.Test.YtldhfkfncgnbmaaGreatCode
import Derived.Test.YtldhfkfncgnbmaaGreatAw
section
namespace Go.Apx
open Go.Proofs
set_option linter.unusedVariables false
set_option linter.unusedSimpArgs false
set_option linter.unnecessarySimpa false
set_option maxRecDepth 4000
inductive Opn (g : Gr) (tx : List ByteArray) : ByteArray → Nat → Prop
 | stop {r k i : Nat} {R : Rl} (hr : g.rules[r]? = some R) (hu : g.us R = true) (hd : DerP g tx (R.parts.take k) i tx.length) : Opn g tx R.sort i
 | into {r k i j : Nat} {R : Rl} {p : Pt} (hr : g.rules[r]? = some R) (hu : g.us R = true) (hp : R.parts[k]? = some p) (hs : p.sort ≠ emp) (hd : DerP g tx (R.parts.take k) i j) (h : Opn g tx p.sort j) : Opn g tx R.sort i
theorem next_part {g : Gr} {x : Itm} {p : Pt} {R : Rl} (hR : g.rules[x.r]? = some R) (hn : nextF g x = some p) : R.parts[x.d]? = some p:=by
 simpa [nextF,hR] using hn
theorem take_next {l : List Pt} {d : Nat} {p : Pt} (h : l[d]? = some p) : l.take (d + 1) = l.take d ++ [p] ∧ d + 1 ≤ l.length:=by
 have:=(List.getElem?_eq_some_iff.1 h).1
 exact ⟨by rw [List.take_add_one,h]; rfl,by omega⟩
theorem It.right {g : Gr} {tx : List ByteArray} {k : Nat} {x : Itm} (h : It g tx k x) : ∃ R : Rl,g.rules[x.r]? = some R ∧ g.us R = true ∧ x.d ≤ R.parts.length ∧ DerP g tx (R.parts.take x.d) x.h k:=by
 induction h with
 | start hr he=>exact ⟨_,hr,he.2,Nat.zero_le _,.nil _⟩
 | pred h hn hs hr he ih=>exact ⟨_,hr,he.2,Nat.zero_le _,.nil _⟩
 | @scan k x p h hn hs ht ih =>
  obtain ⟨R,h1,h2,h3,h4⟩:=ih
  obtain ⟨e1,e2⟩:=take_next (next_part h1 hn)
  exact ⟨R,h1,h2,e2,by show DerP g tx (R.parts.take (x.d + 1)) x.h (k + 1); rw [e1]; exact h4.append (.sym hs ht (.nil _))⟩
 | @comp i k x p h hn hs hd ih =>
  obtain ⟨R,h1,h2,h3,h4⟩:=ih
  obtain ⟨e1,e2⟩:=take_next (next_part h1 hn)
  exact ⟨R,h1,h2,e2,by show DerP g tx (R.parts.take (x.d + 1)) x.h k; rw [e1]; exact h4.append (.arg' hs hd (.nil _))⟩
theorem it_opn {g : Gr} {tx : List ByteArray} {k : Nat} {x : Itm} (h : It g tx k x) : ∀ R : Rl,g.rules[x.r]? = some R → Opn g tx R.sort x.h → Opn g tx g.st 0:=by
 induction h with
 | start hr he =>
  intro R' hR' ho
  rw [hr] at hR'; cases hR'
  rw [← he.1]; exact ho
 | @pred k x p r R h hn hs hr he ih =>
  intro R' hR' ho
  rw [hr] at hR'; cases hR'
  obtain ⟨Rx,h1,h2,h3,h4⟩:=h.right
  exact ih Rx h1 (.into h1 h2 (next_part h1 hn) hs h4 (by rw [← he.1]; exact ho))
 | scan h hn hs ht ih=>exact ih
 | comp h hn hs hd ih=>exact ih
theorem it_end {g : Gr} {tx : List ByteArray} {x : Itm} (h : It g tx tx.length x) : Opn g tx g.st 0:=by
 obtain ⟨R,h1,h2,h3,h4⟩:=h.right
 exact it_opn h R h1 (.stop h1 h2 h4)
theorem it_parts {g : Gr} {tx : List ByteArray} {ps : List Pt} {i j : Nat} (h : DerP g tx ps i j) : ∀ (x : Itm) (R : Rl) (qs : List Pt),It g tx i x → g.rules[x.r]? = some R → R.parts.drop x.d = ps ++ qs → It g tx j ⟨x.r,x.d + ps.length,x.h⟩:=by
 induction h with
 | nil=>intro x R qs hx _ _; exact hx
 | @sym p ps i j hs ht h ih =>
  intro x R qs hx hR hd
  obtain ⟨hn,hd'⟩:=next_of hR hd
  have:=ih x.adv R qs (.scan hx hn hs ht) hR hd'
  simp only [Itm.adv] at this
  rw [List.length_cons,show x.d + (ps.length + 1) = x.d + 1 + ps.length by omega]
  exact this
 | @arg p ps i m j r R' hs hr he ha hb ih1 ih2 =>
  intro x R qs hx hR hd
  obtain ⟨hn,hd'⟩:=next_of hR hd
  have:=ih2 x.adv R qs (.comp hx hn hs ⟨r,R',hr,he,ha⟩) hR hd'
  simp only [Itm.adv] at this
  rw [List.length_cons,show x.d + (ps.length + 1) = x.d + 1 + ps.length by omega]
  exact this
theorem opn_it {g : Gr} {tx : List ByteArray} {s : ByteArray} {i : Nat} (h : Opn g tx s i) : (∀ (r : Nat) (R : Rl),g.rules[r]? = some R → R.sort = s → g.us R = true → It g tx i ⟨r,0,i⟩) → ∃ y,It g tx tx.length y:=by
 induction h with
 | @stop r k i R hr hu hd =>
  intro hb
  exact ⟨_,it_parts hd ⟨r,0,i⟩ R (R.parts.drop k) (hb r R hr rfl hu) hr (by simp)⟩
 | @into r k i j R p hr hu hp hs hd h ih =>
  intro hb
  have h1:=it_parts hd ⟨r,0,i⟩ R (R.parts.drop k) (hb r R hr rfl hu) hr (by simp)
  have hk:=(List.getElem?_eq_some_iff.1 hp).1
  have hl : (R.parts.take k).length = k:=by simp; omega
  rw [hl,Nat.zero_add] at h1
  have hn : nextF g ⟨r,k,i⟩ = some p:=by simp [nextF,hr,hp]
  exact ih fun r' R' hr' he hu'=>.pred h1 hn hs hr' ⟨he,hu'⟩
theorem opn_iff {g : Gr} {tx : List ByteArray} : Opn g tx g.st 0 ↔ ∃ y,It g tx tx.length y :=
 ⟨fun h=>opn_it h fun r R hr he hu=>.start hr ⟨he,hu⟩,fun ⟨y,hy⟩=>it_end hy⟩
theorem it_down {g : Gr} {tx : List ByteArray} (hu : UsOk g tx) : ∀ (d m : Nat),(∃ y,It g tx (m + d) y) → ∃ y,It g tx m y
 | 0,m,h=>h
 | d + 1,m,⟨y,hy⟩=>by
  obtain ⟨y',p,h1,_⟩:=it_scan hu hy (m + d) (by omega)
  exact it_down hu d m ⟨y',h1⟩
theorem opn_take {g : Gr} {tx : List ByteArray} {m : Nat} (hm : m ≤ tx.length) : Opn g (tx.take m) g.st 0 ↔ ∃ y,It g tx m y:=by
 have hl : (tx.take m).length = m:=by simp; omega
 rw [opn_iff,hl]
 exact ⟨fun ⟨y,hy⟩=>⟨y,hy.pre (pre_take tx m).symm (Nat.le_refl _)⟩,fun ⟨y,hy⟩=>⟨y,hy.pre (pre_take tx m) (Nat.le_refl _)⟩⟩
section
variable {g : Gr} {tx : List ByteArray} {s : ByteArray} {Q : List (List Itm × Nat)} {L : List Itm} {D : List Sp}
theorem opn_len (h : NF g tx s Q L D) (hu : UsOk g tx) (hst : g.st = s) (he : Q.length = tx.length ∨ scanF g tx Q.length L = []) {m : Nat} (hm0 : 0 < m) (hm : m ≤ tx.length) : Opn g (tx.take m) g.st 0 ↔ m ≤ Q.length:=by
 rw [opn_take hm]
 constructor
 ·rintro ⟨y,hy⟩
  exact plc_le ((via_mem h hu hst he).2 hy)
 ·intro hQ
  have hne : Q ≠ []:=by rintro rfl; simp at hQ; omega
  obtain ⟨z,hz⟩:=List.exists_mem_of_ne_nil _ (h.ne hne)
  exact it_down hu (Q.length - m) m ⟨z,by rw [show m + (Q.length - m) = Q.length by omega]; exact (via_last h hu hst he).1 hz⟩
theorem opn_more (h : NF g tx s Q L D) (hu : UsOk g tx) (hu' : ∀ y,UsOk g (tx.take Q.length ++ [y])) (hst : g.st = s) (he : Q.length = tx.length ∨ scanF g tx Q.length L = []) {y : ByteArray} :
  Opn g (tx.take Q.length ++ [y]) g.st 0 ↔ ∃ x p,x ∈ L ∧ nextF g x = some p ∧ p.sort = emp ∧ p.sym = y:=by
 have hn:=h.li.n
 have hl : (tx.take Q.length ++ [y]).length = Q.length + 1:=by simp [Nat.min_eq_left hn]
 have hy : (tx.take Q.length ++ [y])[Q.length]? = some y:=by
  rw [List.getElem?_append_right (by simp; omega)]; simp [Nat.min_eq_left hn]
 have hp:=pre_take_add tx Q.length y hn
 rw [opn_iff,hl]
 constructor
 ·rintro ⟨z,hz⟩
  obtain ⟨x,p,h2,h3,h4,h5⟩:=it_scan (hu' y) hz _ rfl
  rw [hy] at h5
  exact ⟨x,p,(via_last h hu hst he).2 (h2.pre hp.symm (Nat.le_refl _)),h3,h4,(Option.some.inj h5).symm⟩
 ·rintro ⟨x,p,h2,h3,h4,h5⟩
  have h6:=((via_last h hu hst he).1 h2).pre hp (Nat.le_refl _)
  exact ⟨x.adv,.scan h6 h3 h4 (by rw [hy,h5])⟩
end
end Go.Apx
end
section
namespace Go.Apx
open Go.Proofs
set_option linter.unusedVariables false
set_option linter.unusedSimpArgs false
set_option linter.unnecessarySimpa false
set_option maxRecDepth 4000
def sLt (a b : ByteArray) : Prop:=bytesL a < bytesL b
theorem sLt_irrefl (a : ByteArray) : ¬ sLt a a:=List.lt_irrefl _
theorem sLt_trans {a b c : ByteArray} (h : sLt a b) (h' : sLt b c) : sLt a c:=List.lt_trans h h'
theorem bytesL_inj {a b : ByteArray} (h : bytesL a = bytesL b) : a = b:=by
 rw [← strL_bytesL a,← strL_bytesL b,h]
theorem sLt_tri {a b : ByteArray} (h : ¬ sLt a b) (hn : a ≠ b) : sLt b a:=by
 rcases Decidable.em (bytesL b < bytesL a) with h' | h'
 ·exact h'
 ·exact (hn (bytesL_inj (List.le_antisymm (List.not_lt.1 h') (List.not_lt.1 h)))).elim
def Str (l : List ByteArray) : Prop:=l.Pairwise sLt
theorem strL_eq : ∀ {l k : List ByteArray},Str l → Str k → (∀ s,s ∈ l ↔ s ∈ k) → l = k
 | [],[],_,_,_=>rfl
 | [],b :: k,_,_,h=>by have:=(h b).2 (by simp); cases this
 | a :: l,[],_,_,h=>by have:=(h a).1 (by simp); cases this
 | a :: l,b :: k,hl,hk,h=>by
  obtain ⟨h1,h2⟩:=List.pairwise_cons.1 hl
  obtain ⟨h3,h4⟩:=List.pairwise_cons.1 hk
  have hab : a = b:=by
   rcases List.mem_cons.1 ((h a).1 (by simp)) with e | e
   ·exact e
   ·rcases List.mem_cons.1 ((h b).2 (by simp)) with e' | e'
    ·exact e'.symm
    ·exact (sLt_irrefl _ (sLt_trans (h3 a e) (h1 b e'))).elim
  subst hab
  rw [strL_eq h2 h4 fun s=>⟨fun hs=>?_,fun hs=>?_⟩]
  ·rcases List.mem_cons.1 ((h s).1 (by simp [hs])) with e | e
   ·subst e; exact (sLt_irrefl _ (h1 _ hs)).elim
   ·exact e
  ·rcases List.mem_cons.1 ((h s).2 (by simp [hs])) with e | e
   ·subst e; exact (sLt_irrefl _ (h3 _ hs)).elim
   ·exact e
theorem strL_put {l : List ByteArray} {s : ByteArray} {k : Nat} (hl : Str l) (hs : s ∉ l) (h1 : ∀ x ∈ l.drop k,sLt s x) (h2 : k = 0 ∨ ∃ x,l[k - 1]? = some x ∧ ¬ sLt s x) : Str (l.take k ++ s :: l.drop k):=by
 have hl':=hl
 unfold Str at hl'
 rw [← List.take_append_drop k l,List.pairwise_append] at hl'
 obtain ⟨e1,e2,e3⟩:=hl'
 refine List.pairwise_append.2 ⟨e1,List.pairwise_cons.2 ⟨h1,e2⟩,fun a ha b hb=>?_⟩
 rcases List.mem_cons.1 hb with rfl | hb
 ·rcases h2 with rfl | ⟨x,hx,hn⟩
  ·simp at ha
  ·have hxm : x ∈ l:=List.mem_of_getElem? hx
   have hxs : sLt x b:=sLt_tri hn (by rintro rfl; exact hs hxm)
   obtain ⟨j,hj⟩:=List.getElem?_of_mem ha
   rw [List.getElem?_take] at hj
   split at hj
   ·rename_i hjk
    by_cases e : j = k - 1
    ·subst e; rw [hx] at hj; cases hj; exact hxs
    ·obtain ⟨hj1,hj2⟩:=List.getElem?_eq_some_iff.1 hj
     obtain ⟨hx1,hx2⟩:=List.getElem?_eq_some_iff.1 hx
     have:=List.pairwise_iff_getElem.1 hl j (k - 1) hj1 hx1 (by omega)
     rw [hj2,hx2] at this
     exact sLt_trans this hxs
   ·cases hj
 ·exact e3 a ha b hb
theorem mem_put {l : List ByteArray} {s x : ByteArray} {k : Nat} : x ∈ l.take k ++ s :: l.drop k ↔ x = s ∨ x ∈ l:=by
 have : x ∈ l ↔ x ∈ l.take k ∨ x ∈ l.drop k:=by rw [← List.mem_append,List.take_append_drop]
 rw [this]
 simp only [List.mem_append,List.mem_cons]
 constructor
 ·rintro (h | h | h)
  ·exact .inr (.inl h)
  ·exact .inl h
  ·exact .inr (.inr h)
 ·rintro (h | h | h)
  ·exact .inr (.inl h)
  ·exact .inl h
  ·exact .inr (.inr h)
theorem upTo_strict (d : Array (List UInt8)) : ∀ m,(∀ i j,i ≤ j → j < m → d[i]! ≤ d[j]!) → (Lib.compactUpTo d m).Pairwise (· < ·)
 | 0,_=>by simp [Lib.compactUpTo]
 | m + 1,h=>by
  rw [Lib.compactUpTo_succ]
  refine List.pairwise_append.2 ⟨upTo_strict d m fun i j h1 h2=>h i j h1 (by omega),by split <;> simp,fun a ha b hb=>?_⟩
  split at hb
  ·rename_i hk
   simp only [List.mem_singleton] at hb
   subst hb
   obtain ⟨j,hj,rfl⟩:=(upTo_mem d a m).1 ha
   have hne : d[m]! ≠ d[m - 1]!:=by
    simp only [Lib.keeps,decide_eq_true_eq] at hk
    rcases hk with hk | hk
    ·omega
    ·exact hk
   have a1:=h j (m - 1) (by omega) (by omega)
   have a2:=h (m - 1) m (by omega) (by omega)
   rcases Decidable.em (d[m - 1]! < d[m]!) with a3 | a3
   ·exact List.lt_of_le_of_lt a1 a3
   ·exact (hne (List.le_antisymm (List.not_lt.1 a3) a2)).elim
  ·cases hb
theorem outS_str (l : List ByteArray) : Str (outS l):=by
 have hs : List.Pairwise (fun a b=>decide (a ≤ b) = true) ((l.map bytesL).mergeSort fun x y=>decide (x ≤ y)) :=
  List.pairwise_mergeSort (le:=fun x y : List UInt8=>decide (x ≤ y)) (fun a b c h1 h2=>by simp at h1 h2 ⊢; exact List.le_trans h1 h2) lecomp _
 unfold outS cmpS srtS
 rw [map_bytesL_strL]
 generalize (l.map bytesL).mergeSort (fun x y=>decide (x ≤ y)) = m at hs
 have hst:=upTo_strict m.toArray m.length fun i j hij hj=>by
  rw [getElem!_pos _ i (by simp; omega),getElem!_pos _ j (by simpa using hj)]
  simp only [List.getElem_toArray]
  rcases Nat.lt_or_eq_of_le hij with h1 | rfl
  ·have:=List.pairwise_iff_getElem.1 hs i j (by omega) hj h1
   simpa using this
  ·exact List.le_refl _
 unfold Str
 rw [List.pairwise_map]
 refine hst.imp fun {a b} h=>?_
 unfold sLt
 rw [bytesL_strL,bytesL_strL]; exact h
end Go.Apx
end
section
namespace Go.Apx
open Go.Proofs
set_option linter.unusedVariables false
set_option linter.unusedSimpArgs false
set_option linter.unnecessarySimpa false
set_option maxRecDepth 4000
def mkS (g : Gr) (M : List Bool) (s : ByteArray) : Bool:=M.getD (indexF g.sorts s).toNat false
def mset (g : Gr) (M : List Bool) : List ByteArray:=g.sorts.filter (mkS g M)
theorem mset_mem {g : Gr} {M : List Bool} {s : ByteArray} : s ∈ mset g M ↔ s ∈ g.sorts ∧ mkS g M s = true:=by simp [mset]
def okS (g : Gr) (M : List Bool) (p : Pt) : Bool:=decide (p.sort = emp) || mkS g M p.sort
theorem mkS_at {g : Gr} {M : List Bool} {s : ByteArray} {x : Nat} (hx : indexF g.sorts s = x) {b : Bool} (hb : M[x]? = some b) : mkS g M s = b:=by
 unfold mkS
 rw [hx]
 simp [List.getD,hb]
theorem mkS_set {g : Gr} {M : List Bool} {s s' : ByteArray} {x : Nat} (hs : s ∈ g.sorts) (hs' : s' ∈ g.sorts) (hx : indexF g.sorts s = x) (hl : M.length = g.sorts.length) : mkS g (M.set x true) s' = (mkS g M s' || decide (s' = s)):=by
 obtain ⟨x1,h1,h2⟩:=index_of hs
 obtain ⟨x2,h3,h4⟩:=index_of hs'
 have e1 : x1 = x:=by omega
 subst e1
 have l1:=(List.getElem?_eq_some_iff.1 h2).1
 unfold mkS
 rw [h3]
 simp only [Int.toNat_natCast,List.getD,List.getElem?_set]
 by_cases e : x1 = x2
 ·subst e
  have : s' = s:=by rw [h2] at h4; exact (Option.some.inj h4).symm
  simp [this,hl,l1]
 ·have : s' ≠ s:=by
   rintro rfl
   apply e; omega
  simp [e,this]
theorem ok_ref {g : Gr} {M : List Bool} {R : Rl} (hn : ∀ p ∈ R.parts,p.sort ≠ emp → p.sort ∈ g.sorts) : R.parts.any (refF (mset g M) yesP) = !(R.parts.all (okS g M)):=by
 rw [← Bool.not_eq_eq_eq_not,Bool.eq_iff_iff]
 simp only [Bool.not_eq_true',List.any_eq_false,List.all_eq_true]
 constructor
 ·intro h p hp
  have:=h p hp
  unfold refF at this
  unfold okS
  by_cases e : p.sort = emp
  ·simp [e]
  ·rw [if_neg e] at this
   simp only [Bool.not_eq_true,Bool.not_eq_false',decide_eq_true_eq] at this
   simp [e,(mset_mem.1 this).2]
 ·intro h p hp
  have:=h p hp
  unfold okS at this
  unfold refF
  by_cases e : p.sort = emp
  ·simp [e]
  ·rw [if_neg e]
   simp only [e,decide_false,Bool.false_or] at this
   simp [mset_mem.2 ⟨hn p hp e,this⟩]
structure PassM (g : Gr) (M0 : List Bool) (A : Prop) (more : Bool) (M : List Bool) : Prop where
 same : more = false → M = M0 ∧ A
 less : more = true → cntF M < cntF M0
 least : ∀ C : List ByteArray,ClosedS g yesP C → ∀ s ∈ mset g M,s ∈ C
 len : M.length = g.sorts.length
theorem PassM.mono {g : Gr} {M0 : List Bool} {A A' : Prop} {more : Bool} {M : List Bool} (h : PassM g M0 A more M) (ha : M = M0 → A → A') : PassM g M0 A' more M :=
 ⟨fun e=>⟨(h.same e).1,ha (h.same e).1 (h.same e).2⟩,h.less,h.least,h.len⟩
theorem PassM.mark {g : Gr} {M0 : List Bool} {A A' : Prop} {more : Bool} {M : List Bool} (h : PassM g M0 A more M) {R : Rl} {x : Nat} (hn : Named g) (hR : R ∈ g.rules) (hx : indexF g.sorts R.sort = x) (hb : M[x]? = some false) (ha : R.parts.all (okS g M) = true) : PassM g M0 A' true (M.set x true):=by
 refine ⟨fun e=>(by cases e),fun _=>?_,fun C hC s hs=>?_,by simp [h.len]⟩
 ·have:=cntF_set hb
  cases more with
  | false=>rw [← (h.same rfl).1]; exact this
  | true=>exact Nat.lt_trans this (h.less rfl)
 ·obtain ⟨h1,h2⟩:=mset_mem.1 hs
  rw [mkS_set (hn R hR).1 h1 hx h.len] at h2
  rcases Bool.or_eq_true_iff.1 h2 with h2 | h2
  ·exact h.least C hC s (mset_mem.2 ⟨h1,h2⟩)
  ·have : s = R.sort:=by simpa using h2
   subst this
   refine hC R hR (refF_mono (h.least C hC) ?_)
   rw [ok_ref (hn R hR).2,ha]; rfl
theorem PassM.zero {g : Gr} : PassM g (List.replicate g.sorts.length false) True false (List.replicate g.sorts.length false):=by
 refine ⟨fun _=>⟨rfl,trivial⟩,fun e=>(by cases e),fun C hC s hs=>?_,by simp⟩
 obtain ⟨_,h2⟩:=mset_mem.1 hs
 unfold mkS at h2
 simp only [List.getD,List.getElem?_replicate] at h2
 split at h2 <;> simp at h2
theorem PassM.grow {g : Gr} {M0 M : List Bool} (hn : Named g) (h : PassM g M0 (∀ r R,r < g.rules.length → g.rules[r]? = some R → mkS g M0 R.sort = true ∨ R.parts.all (okS g M0) = false) false M) : GrowS g yesP (mset g M):=by
 obtain ⟨e,hA⟩:=h.same rfl
 subst e
 refine ⟨fun R hR ha=>?_,h.least⟩
 obtain ⟨r,hr⟩:=List.getElem?_of_mem hR
 rcases hA r R (List.getElem?_eq_some_iff.1 hr).1 hr with h1 | h1
 ·exact mset_mem.2 ⟨(hn R hR).1,h1⟩
 ·rw [ok_ref (hn R hR).2,h1] at ha; cases ha
theorem mset_pick (g : Gr) (M : List Bool) : pickS g (mset g M) = mset g M:=by
 unfold pickS
 rw [show mset g M = g.sorts.filter (mkS g M) from rfl]
 refine List.filter_congr fun s hs=>?_
 rw [Bool.eq_iff_iff]
 simp [hs]
end Go.Apx
end
section
namespace Go.Apx
open Go.Proofs
set_option linter.unusedVariables false
set_option linter.unusedSimpArgs false
set_option linter.unnecessarySimpa false
set_option maxRecDepth 4000
structure MS where
 i : Nat
 m : Bool
 X : List Bool
def DoneM (g : Gr) (M : List Bool) (i : Nat) : Prop:=∀ r R,r < i → g.rules[r]? = some R → mkS g M R.sort = true ∨ R.parts.all (okS g M) = false
set_option maxHeartbeats 4000000 in
theorem grown_c (g : Gr) (hs : g.sorts.length ≤ 1000) (hr : g.rules.length ≤ 2 ^ 31) (hp : ∀ R ∈ g.rules,R.parts.length ≤ 2 ^ 31) (hn : Named g) {h : AHeap} :
  ACalls PP Gl 50 [encG g,bl true] h (fun r h'=>∃ M,r = .ret (.rf h.length 0 0 g.sorts.length .full) ∧ h' = h ++ [.cells 0 (M.map bl)] ∧ GrowS g yesP (mset g M) ∧ M.length = g.sorts.length):=by
 have w4 : (g.sorts.length : Int) ≤ 4294967296:=by omega
 refine enter_ref13_grown (by simp) ?_
 simp -implicitDefEqProofs [code_ref13_grown,res_ref13_grown,ann_ref13_grown,encG,w4,maxLenA]
 have hrep : List.replicate g.sorts.length (AV.sc (.bool false)) = (List.replicate g.sorts.length false).map bl:=by simp
 rw [hrep]
 have hz:=PassM.zero (g:=g)
 generalize List.replicate g.sorts.length false = M0 at *
 refine AWp.till (S:=MS) ⟨0,true,M0⟩ (fun s=>2 * cntF s.X + s.m.toNat) [1,2,5] (fun s=>[(6,bl s.m)]) (fun s=>h ++ [.cells 0 (s.X.map bl)])
  (fun s=>(s.m = false → GrowS g yesP (mset g s.X)) ∧ (∀ C : List ByteArray,ClosedS g yesP C → ∀ x ∈ mset g s.X,x ∈ C) ∧ s.X.length = g.sorts.length) mixed ⟨by simp,hz.least,hz.len⟩ (le_of (by simp [dslot])) rfl ?_
 rintro ⟨i0,more,X⟩ ⟨z1,z2,z3⟩
 simp only at z1 z2 z3
 cases more with
 | false =>
  simp -implicitDefEqProofs [lp0_ref13_grown]
  exact ret1 (v:=.rf h.length 0 0 g.sorts.length .full) (by simp [deferred,dslot]) (by simp [evalRes,evalRes1]) ⟨rfl,X,rfl,z1 rfl,z3⟩
 | true =>
  simp -implicitDefEqProofs [lp0_ref13_grown]
  refine AWp.till (S:=MS) ⟨0,false,X⟩ (fun s=>g.rules.length - s.i) [1,2,5] (fun s=>[(6,bl s.m),(7,i64 s.i)]) (fun s=>h ++ [.cells 0 (s.X.map bl)])
   (fun s=>s.i ≤ g.rules.length ∧ PassM g X (DoneM g X s.i) s.m s.X) mixed ⟨by simp,⟨fun _=>⟨rfl,fun r R hr=>by simp at hr⟩,by simp,z2,z3⟩⟩ (le_of (by simp [dslot])) rfl ?_
  rintro ⟨i,more,Y⟩ ⟨y1,y2⟩
  simp only at y1 y2
  by_cases hi : i < g.rules.length
  ·obtain ⟨R,hR⟩ : ∃ R,g.rules[i]? = some R:=⟨g.rules[i],by simp [hi]⟩
   have hRm:=List.mem_of_getElem? hR
   obtain ⟨hRs,hRp⟩:=hn R hRm
   obtain ⟨x,hx,hxs⟩:=index_of hRs
   have hxl:=(List.getElem?_eq_some_iff.1 hxs).1
   have hlt : (i : Int) < g.rules.length:=by omega
   have hne : g.rules ≠ []:=by intro e; rw [e] at hi; simp at hi
   have wi : IntKind.i64.wrap ((i : Int) + 1) = (i : Int) + 1:=IntWalk.i64_in _ (by omega)
   have hYl:=y2.len
   obtain ⟨b,hb⟩ : ∃ b,Y[x]? = some b:=⟨_,List.getElem?_eq_getElem (by omega)⟩
   have hxY : x < Y.length:=by omega
   have hb2 : Y[x] = b:=(List.getElem?_eq_some_iff.1 hb).2
   have hpl:=hp R hRm
   simp -implicitDefEqProofs [lp1_ref13_grown,hlt,hR,encR]
   refine callk (rindex_c g.sorts g.sc R.sort (by omega)) rfl rfl ?_
   simp -implicitDefEqProofs [hx,hxl,hb,hb2]
   refine AWp.cnt R.parts.length [1,2,5,6,7] (fun k=>[(8,bl (!b && (R.parts.take k).all (okS g Y))),(9,i64 (k : Int))]) (fun _=>h ++ [.cells 0 (Y.map bl)]) (fun _=>True) mixed trivial (le_of (by simp [dslot])) rfl (fun k hk _=>?_) fun _=>?_
   ·obtain ⟨p,hpk⟩ : ∃ p,R.parts[k]? = some p:=⟨R.parts[k],by simp [hk]⟩
    have hkl : (k : Int) < R.parts.length:=by omega
    have wk : IntKind.i64.wrap ((k : Int) + 1) = (k : Int) + 1:=IntWalk.i64_in _ (by omega)
    have hne2 : R.parts ≠ []:=by intro e; rw [e] at hk; simp at hk
    have hst : (R.parts.take (k + 1)).all (okS g Y) = ((R.parts.take k).all (okS g Y) && okS g Y p):=by
     rw [List.take_add_one,hpk,List.all_append]; simp
    rw [hst]
    by_cases hse : p.sort = (⟨#[]⟩ : ByteArray)
    ·have hok : okS g Y p = true:=by simp [okS,hse,emp]
     rw [hok]
     cases ha : (!b && (R.parts.take k).all (okS g Y)) with
     | true =>
      simp -implicitDefEqProofs [lp2_ref13_grown,hkl,hR,encR,hpk,encP,hse,wk,ha]
      exact le_of (by simp [dslot,ha])
     | false =>
      simp -implicitDefEqProofs [lp2_ref13_grown,hkl,hR,encR,hpk,encP,hse,wk,ha]
      exact le_of (by simp [dslot,ha])
    ·obtain ⟨q,hq,hqs⟩:=index_of (hRp p (List.mem_of_getElem? hpk) hse)
     have hql:=(List.getElem?_eq_some_iff.1 hqs).1
     obtain ⟨c,hc⟩ : ∃ c,Y[q]? = some c:=⟨_,List.getElem?_eq_getElem (by omega)⟩
     have hc2 : Y[q]'(by omega) = c:=(List.getElem?_eq_some_iff.1 hc).2
     have hok : okS g Y p = c:=by simp [okS,hse,emp,mkS_at hq hc]
     rw [hok]
     have hab : (!b && ((R.parts.take k).all (okS g Y) && c)) = ((!b && (R.parts.take k).all (okS g Y)) && c):=by simp [Bool.and_assoc]
     rw [hab]
     cases ha : (!b && (R.parts.take k).all (okS g Y)) with
     | true =>
      simp -implicitDefEqProofs [lp2_ref13_grown,hkl,hR,encR,hpk,encP,hse,wk,ha]
      refine callk (rindex_c g.sorts g.sc p.sort (by omega)) rfl rfl ?_
      simp -implicitDefEqProofs [hq,hql,hc,hc2,wk]
      exact le_of (by simp [dslot,hab])
     | false =>
      simp -implicitDefEqProofs [lp2_ref13_grown,hkl,hR,encR,hpk,encP,hse,wk,ha]
      exact le_of (by simp [dslot,hab])
   ·rw [List.take_length]
    generalize ha : (!b && R.parts.all (okS g Y)) = a
    cases a with
    | false =>
     simp -implicitDefEqProofs [lp2_ref13_grown,hR,encR,wi]
     refine ⟨⟨i + 1,more,Y⟩,by simp; omega,⟨by simp; omega,y2.mono fun e hd r R' hr hR'=>?_⟩,le_of (by simp [dslot]),rfl⟩
     rcases Nat.lt_succ_iff_lt_or_eq.1 hr with hr | rfl
     ·exact hd r R' hr hR'
     ·rw [hR] at hR'; cases hR'
      rw [← e,mkS_at hx hb]
      cases b with
      | true=>exact .inl rfl
      | false=>exact .inr (by simpa using ha)
    | true =>
     have hbf : b = false:=by cases b <;> simp_all
     have hal : R.parts.all (okS g Y) = true:=by cases b <;> simp_all
     subst hbf
     have hx1 : x + 1 ≤ Y.length:=hxY
     have hput : List.take x (Y.map bl) ++ AV.sc (.bool true) :: List.drop (x + 1) (Y.map bl) = (Y.set x true).map bl:=by
      rw [put_eq _ _ _ (by simp; omega),List.map_set]
     simp -implicitDefEqProofs [lp2_ref13_grown,hR,encR,hlt]
     refine callk (rindex_c g.sorts g.sc R.sort (by omega)) rfl rfl ?_
     simp -implicitDefEqProofs [hx,hxl,hx1,hxY,hb,hb2,hput,wi]
     refine ⟨⟨i + 1,true,Y.set x true⟩,by simp; omega,⟨by simp; omega,y2.mark hn hRm hx hb hal⟩,le_of (by simp [dslot]),by simp [List.map_set]⟩
  ·have hi' : i = g.rules.length:=by omega
   subst hi'
   simp -implicitDefEqProofs [lp1_ref13_grown]
   refine ⟨⟨0,more,Y⟩,?_,⟨fun e=>?_,y2.least,y2.len⟩,le_of (by simp [dslot]),rfl⟩
   ·cases more with
    | false=>have:=(y2.same rfl).1; subst this; simp
    | true=>have:=y2.less rfl; simp; omega
   ·simp only at e
    subst e
    exact y2.grow hn
theorem mset_take {g : Gr} {M : List Bool} (hd : ∀ (i : Nat) (s : ByteArray),g.sorts[i]? = some s → indexF g.sorts s = i) (hl : M.length = g.sorts.length) {i : Nat} {s : ByteArray} (hs : g.sorts[i]? = some s) {b : Bool} (hb : M[i]? = some b) : (g.sorts.take (i + 1)).filter (mkS g M) = (g.sorts.take i).filter (mkS g M) ++ (if b then [s] else []):=by
 rw [List.take_add_one,hs,List.filter_append]
 congr 1
 have:=mkS_at (M:=M) (hd i s hs) hb
 cases b <;> simp [this]
set_option maxHeartbeats 4000000 in
theorem rpicked_c (g : Gr) (M : List Bool) (o : Nat) {h : AHeap} (ho : h[o]? = some (.cells 0 (M.map bl))) (hs : g.sorts.length ≤ 1000) (hd : ∀ (i : Nat) (s : ByteArray),g.sorts[i]? = some s → indexF g.sorts s = i) (hl : M.length = g.sorts.length) :
  AEx PP Gl 49 [encG g,.rf o 0 0 g.sorts.length .full] h (.ret (grown 1 ((mset g M).map sv))) h:=by
 refine enter_ref13_picked (by simp) ?_
 simp -implicitDefEqProofs [code_ref13_picked,res_ref13_picked,ann_ref13_picked,encG]
 refine AWp.till (S:=VP) ⟨0,[],0,h⟩ (fun st=>g.sorts.length - st.i) [1,2] (fun st=>[(5,apd 1 (st.l.map sv) st.T),(6,i64 (st.i : Int))]) (fun st=>st.H)
  (fun st=>st.i ≤ g.sorts.length ∧ st.l = (g.sorts.take st.i).filter (mkS g M) ∧ (st.l ≠ [] → st.H[st.T]? = some (.tok st.l.length) ∧ h.length ≤ st.T) ∧ Low h.length h st.H ∧ h.length ≤ st.H.length) mixed
  ⟨by simp,by simp,by simp,Low.refl _ _,Nat.le_refl _⟩ (le_of (by simp [dslot])) rfl ?_
 rintro ⟨i,l,T,H⟩ ⟨z1,z0,z2,z3,z4⟩
 simp only at z1 z0 z2 z3 z4
 have hol:=lt_of ho
 have hoH : H[o]? = some (.cells 0 (M.map bl)):=z3 _ _ hol ho
 by_cases hi : i < g.sorts.length
 case neg =>
  have hno : ¬ (i : Int) < g.sorts.length:=by omega
  simp -implicitDefEqProofs [lp0_ref13_picked,hno]
  have hfin : l = mset g M:=by rw [z0,List.take_of_length_le (by omega)]; rfl
  have hst : (apd 1 (l.map sv) T).strip = grown 1 (l.map sv):=strip_apd 1 _ _ _ (strip_strs l)
  refine retCut (v:=apd 1 (l.map sv) T) h.length (by simp [deferred,dslot]) (by simp [evalRes,evalRes1]) (Nat.le_refl _) z4 (by rw [hst]; exact inb_strs _ _) z3.cl ?_
  rw [z3.take,hst,hfin]
  exact ⟨rfl,rfl⟩
 obtain ⟨s,hs2⟩ : ∃ s,g.sorts[i]? = some s:=⟨g.sorts[i],by simp [hi]⟩
 obtain ⟨b,hb⟩ : ∃ b,M[i]? = some b:=⟨M[i]'(by omega),by simp⟩
 have hb2 : M[i]'(by omega) = b:=(List.getElem?_eq_some_iff.1 hb).2
 have hlt : (i : Int) < g.sorts.length:=by omega
 have hne : g.sorts ≠ []:=by intro e; rw [e] at hi; simp at hi
 have wi : IntKind.i64.wrap ((i : Int) + 1) = (i : Int) + 1:=IntWalk.i64_in _ (by omega)
 have hgs : g.sorts[i]'hi = s:=(List.getElem?_eq_some_iff.1 hs2).2
 have htk:=mset_take hd hl hs2 hb
 rw [← z0] at htk
 cases b with
 | true =>
  simp -implicitDefEqProofs [lp0_ref13_picked,hlt,hi,hne,hs2,hgs,hoH,hb,hb2,sv]
  have hll : l.length ≤ g.sorts.length:=by rw [z0]; exact Nat.le_trans (List.length_filter_le _ _) (by simp; omega)
  refine appG (l.map sv) (sv s) T (by simp) (by simp [sv]) (fun hne=>by simpa using (z2 (by simpa using hne)).1) (by simp; unfold maxLenA; omega) ?_
  simp -implicitDefEqProofs [wi]
  rw [show l.map sv ++ [.sc (.string s)] = (l ++ [s]).map sv by simp [sv]]
  have hT : l.length ≠ 0 → ∃ q,H[T]? = some (.tok q):=fun hn0=>⟨_,(z2 (by rintro rfl; exact hn0 rfl)).1⟩
  refine ⟨⟨i + 1,l ++ [s],apT H l.length T,apG H l.length T⟩,by simp; omega,⟨by simp; omega,by simp only; rw [htk]; rfl,fun _=>⟨by simp only; rw [apG_tok hT]; simp,?_⟩,z3.trans (Low.apG fun hn0=>(z2 (by rintro rfl; exact hn0 rfl)).2),?_⟩,le_of (by simp [dslot]),by simp⟩
  ·simp only; unfold apT
   split
   ·exact z4
   ·rename_i hn0; exact (z2 (by rintro rfl; exact hn0 rfl)).2
  ·simp only; unfold apG
   split <;> simp <;> omega
 | false =>
  simp -implicitDefEqProofs [lp0_ref13_picked,hlt,hi,hne,hs2,hoH,hb,hb2,sv,wi]
  exact ⟨⟨i + 1,l,T,H⟩,by simp; omega,⟨by simp; omega,by simp only; rw [htk]; simp,z2,z3,z4⟩,le_of (by simp [dslot]),rfl⟩
theorem rproductive_c (g : Gr) (S : List ByteArray) (hS : GrowS g yesP S) (hck : checkF g = 0) (hr : g.rules.length ≤ 2 ^ 31) (hs : g.sorts.length ≤ 1000) (hp : ∀ R ∈ g.rules,R.parts.length ≤ 2 ^ 31) (hd : ∀ (i : Nat) (s : ByteArray),g.sorts[i]? = some s → indexF g.sorts s = i) {h : AHeap} :
  AEx PP Gl 26 [encG g] h (.ret (.tup [grown 1 ((pickS g S).map sv),i64 0])) h:=by
 refine enter_ref13_Productive (by simp) ?_
 simp -implicitDefEqProofs [code_ref13_Productive,res_ref13_Productive,ann_ref13_Productive,encG]
 refine callk (rcheck_c g (by omega) hr) (by simp [encG]) rfl ?_
 simp -implicitDefEqProofs [hck]
 refine callr (grown_c g hs hr hp (check_named hck)) (by simp [encG]) rfl ?_
 rintro r h' ⟨M,rfl,rfl,hM,hl⟩
 simp -implicitDefEqProofs
 refine callk (rpicked_c g M h.length (by simp) hs hd hl) (by simp [encG]) rfl ?_
 simp -implicitDefEqProofs
 have hpk : mset g M = pickS g S:=by rw [← mset_pick,hM.pick hS]
 rw [hpk]
 have hst : (grown 1 ((pickS g S).map sv)).strip = grown 1 ((pickS g S).map sv):=by
  unfold grown
  split
  ·rename_i e; rw [e]; rfl
  ·simp only [AV.strip,strip_strs]; rfl
 refine retCut (v:=.tup [grown 1 ((pickS g S).map sv),i64 0]) h.length (by simp [deferred,dslot]) (by simp [evalRes,evalRes1]) (Nat.le_refl _) (by simp) ?_ (Cl.app h _) ?_
 ·simp only [AV.strip,stripL,hst,AV.inb,inbL,inb_strs]; rfl
 ·simp only [AV.strip,stripL,hst,List.take_left]
  exact ⟨trivial,trivial⟩
theorem check_places {g : Gr} (h : checkF g = 0) : ∀ (i : Nat) (s : ByteArray),g.sorts[i]? = some s → indexF g.sorts s = i:=fun i s hs=>by
 unfold checkF at h
 split at h
 ·omega
 ·split at h
  ·omega
  ·split at h
   ·rename_i c3
    have:=allIdx_iff.1 c3 i s hs
    simp only [nameOkF,Bool.and_eq_true,decide_eq_true_eq] at this
    exact this.2
   ·omega
end Go.Apx
end
section
namespace Go.Apx
open Go.Proofs
set_option linter.unusedVariables false
set_option linter.unusedSimpArgs false
set_option linter.unnecessarySimpa false
set_option maxRecDepth 4000
structure OpenH (H : AHeap) (oo b n : Nat) (O : List (List Bool)) : Prop where
 rows : H[oo]? = some (.cells 0 ((List.range O.length).map fun s=>.rf (b + s) 0 0 (n + 1) .full))
 row : ∀ s r,O[s]? = some r → H[b + s]? = some (.cells 0 (r.map bl)) ∧ r.length = n + 1
theorem OpenH.app {H : AHeap} {oo b n : Nat} {O : List (List Bool)} (h : OpenH H oo b n O) (J : AHeap) : OpenH (H ++ J) oo b n O :=
 ⟨Kp.app H J _ _ h.rows,fun s r hr=>⟨Kp.app H J _ _ (h.row s r hr).1,(h.row s r hr).2⟩⟩
def opAt (O : List (List Bool)) (s i : Nat) : Bool:=(O.getD s []).getD i false
def rowK (g : Gr) (tx : List ByteArray) (X : List Bool) (ps : List Pt) (a k : Nat) : List Bool:=endsF g tx X (startF tx.length a) (ps.take k)
theorem rowK_len {g : Gr} {tx : List ByteArray} {X : List Bool} {ps : List Pt} {a k : Nat} : (rowK g tx X ps a k).length = tx.length + 1:=endsF_length _
def goesF (g : Gr) (tx : List ByteArray) (X : List Bool) (O : List (List Bool)) (ps : List Pt) (a k i : Nat) : Bool :=
 (rowK g tx X ps a k).getD i false && (match ps[k]? with | some p=>!decide (p.sort = emp) && opAt O (indexF g.sorts p.sort).toNat i | none=>false)
def stepF (g : Gr) (tx : List ByteArray) (X : List Bool) (O : List (List Bool)) (ps : List Pt) (a k : Nat) : Bool :=
 (rowK g tx X ps a k).getD tx.length false || (List.range (tx.length + 1)).any (goesF g tx X O ps a k)
def reachF (g : Gr) (tx : List ByteArray) (X : List Bool) (O : List (List Bool)) (ps : List Pt) (a : Nat) : Bool:=(List.range (ps.length + 1)).any (stepF g tx X O ps a)
structure KJ where
 k : Nat
 J : AHeap
theorem any_range_true {n : Nat} {f : Nat → Bool} {k : Nat} (hk : k < n) (h : f k = true) : (List.range n).any f = true:=by
 rw [List.any_eq_true]; exact ⟨k,by simpa using hk,h⟩
theorem any_range_false {n : Nat} {f : Nat → Bool} (h : ∀ k,k < n → f k = false) : (List.range n).any f = false:=by
 rw [List.any_eq_false]; intro k hk; rw [h k (by simpa using hk)]; simp
set_option maxHeartbeats 4000000 in
theorem reaches_c (g : Gr) (tx : List ByteArray) (tc : Cap) (X : List Bool) (o : Nat) (ps : List Pt) (pc : Cap) (O : List (List Bool)) (oo b a : Nat) {h : AHeap} (hn : tx.length ≤ 300) (hs : g.sorts.length ≤ 1000) (hp : ps.length ≤ 2 ^ 31) (ha : a ≤ tx.length) (hok : SortsOk g ps)
  (hX : X.length = g.sorts.length * (tx.length + 1) * (tx.length + 1)) (ho : h[o]? = some (.cells 0 (X.map bl))) (hO : OpenH h oo b tx.length O) (hOl : O.length = g.sorts.length) :
  ACalls PP Gl 51 [encG g,encX tx.length o X.length,.sl 1 (tx.map sv) tc,.sl 3 (ps.map encP) pc,.rf oo 0 0 g.sorts.length .full,i64 a] h (fun r h'=>r = .ret (bl (reachF g tx X O ps a)) ∧ ∃ J,h' = h ++ J):=by
 refine enter_ref14_reaches (by simp) ?_
 simp -implicitDefEqProofs [code_ref14_reaches,res_ref14_reaches,ann_ref14_reaches,encG]
 refine AWp.till (S:=KJ) ⟨0,[]⟩ (fun s=>ps.length + 1 - s.k) [2,3,4,5,6,7] (fun s=>[(13,i64 (s.k : Int))]) (fun s=>h ++ s.J)
  (fun s=>s.k ≤ ps.length + 1 ∧ ∀ k,k < s.k → stepF g tx X O ps a k = false) mixed ⟨by simp,by simp⟩ (le_of (by simp [dslot])) (by simp) ?_
 rintro ⟨k,J⟩ ⟨z1,z2⟩
 simp only at z1 z2
 by_cases hk : k ≤ ps.length
 case neg =>
  have hno : ¬ (k : Int) ≤ ps.length:=by omega
  have hre : reachF g tx X O ps a = false:=any_range_false fun q hq=>z2 q (by omega)
  simp -implicitDefEqProofs [lp0_ref14_reaches,hno]
  exact ret1 (v:=bl false) (by simp [deferred,dslot]) (by simp [evalRes,evalRes1]) ⟨by rw [hre],J,rfl⟩
 have hkl : (k : Int) ≤ ps.length:=by omega
 have hoJ:=Kp.app h J _ _ ho
 have hOJ:=hO.app J
 have wk : IntKind.i64.wrap ((k : Int) + 1) = (k : Int) + 1:=IntWalk.i64_in _ (by omega)
 simp -implicitDefEqProofs [lp0_ref14_reaches,hkl,hk]
 generalize (if k = ps.length then pc else if pc = Cap.full ∧ k = ps.length then Cap.full else Cap.any) = pc2
 have htl : (ps.take k).length = k:=by simp; omega
 have hec:=ends_c (h:=h ++ J) g tx tc X o (ps.take k) pc2 a hn hs (by omega) ha (fun p hp'=>hok p (List.mem_of_mem_take hp')) hX hoJ
 refine callk hec (by simp [encG]) rfl ?_
 rw [List.append_assoc,htl,List.length_append]
 have hrow : (h ++ (J ++ stg g tx X a (ps.take k) k))[h.length + J.length + k]? = some (.cells 0 ((rowK g tx X ps a k).map bl)):=by
  rw [← List.append_assoc,List.getElem?_append_right (by simp),List.length_append,Nat.add_sub_cancel_left,stg_get,List.take_take,Nat.min_self]; rfl
 have hO2:=hO.app (J ++ stg g tx X a (ps.take k) k)
 have hgo : ∀ i,goesF g tx X O ps a k i = ((rowK g tx X ps a k).getD i false && (match ps[k]? with | some p=>!decide (p.sort = emp) && opAt O (indexF g.sorts p.sort).toNat i | none=>false)):=fun i=>rfl
 have hstp : stepF g tx X O ps a k = ((rowK g tx X ps a k).getD tx.length false || (List.range (tx.length + 1)).any (goesF g tx X O ps a k)):=rfl
 have hrl:=rowK_len (g:=g) (tx:=tx) (X:=X) (ps:=ps) (a:=a) (k:=k)
 generalize J ++ stg g tx X a (ps.take k) k = J2 at *
 generalize rowK g tx X ps a k = row at *
 generalize h.length + J.length + k = q at *
 have hnl : tx.length < tx.length + 1:=by omega
 obtain ⟨v,hv⟩ : ∃ v,row[tx.length]? = some v:=⟨_,List.getElem?_eq_getElem (by omega)⟩
 have hv2 : row[tx.length]'(by omega) = v:=(List.getElem?_eq_some_iff.1 hv).2
 have hvd : row.getD tx.length false = v:=by simp [List.getD,hv]
 have hkp : k < ps.length + 1:=by omega
 cases v with
 | true =>
  have hre : reachF g tx X O ps a = true:=any_range_true hkp (by rw [hstp,hvd]; rfl)
  simp -implicitDefEqProofs [hrow,hv,hv2,hrl]
  exact ret1 (v:=bl true) (by simp [deferred,dslot]) (by simp [evalRes,evalRes1]) ⟨by rw [hre],J2,rfl⟩
 | false =>
  simp -implicitDefEqProofs [hrow,hv,hv2,hrl]
  refine AWp.till (S:=KJ) ⟨0,J2⟩ (fun s=>tx.length + 1 - s.k) [2,3,4,5,6,7,13,14] (fun s=>[(15,i64 (s.k : Int))]) (fun s=>h ++ J2)
   (fun s=>s.k ≤ tx.length + 1 ∧ ∀ i,i < s.k → goesF g tx X O ps a k i = false) mixed ⟨by simp,by simp⟩ (le_of (by simp [dslot])) rfl ?_
  rintro ⟨i,J3⟩ ⟨y1,y2⟩
  simp only at y1 y2
  have hstop : (∀ i,i ≤ tx.length → goesF g tx X O ps a k i = false) → ∀ k',k' < k + 1 → stepF g tx X O ps a k' = false:=fun hall k' hk'=>by
   rcases Nat.lt_succ_iff_lt_or_eq.1 hk' with h1 | rfl
   ·exact z2 k' h1
   ·rw [hstp,hvd,any_range_false fun i hi=>hall i (by omega)]; rfl
  cases hpk : ps[k]? with
  | none =>
   have hkk : ps.length ≤ k:=by simpa using hpk
   have hkn : ¬ (k : Int) < ps.length:=by omega
   simp -implicitDefEqProofs [lp1_ref14_reaches,hkn,wk]
   exact ⟨⟨k + 1,J2⟩,by simp; omega,⟨by simp; omega,hstop fun i _=>by rw [hgo,hpk]; simp⟩,le_of (by simp [dslot]),rfl⟩
  | some p =>
   have hkk:=(List.getElem?_eq_some_iff.1 hpk).1
   have hkl2 : (k : Int) < ps.length:=by omega
   have hpne : ps ≠ []:=by intro e; rw [e] at hkk; simp at hkk
   by_cases hse : p.sort = (⟨#[]⟩ : ByteArray)
   ·simp -implicitDefEqProofs [lp1_ref14_reaches,hkl2,hpk,encP,hse,wk]
    exact ⟨⟨k + 1,J2⟩,by simp; omega,⟨by simp; omega,hstop fun i _=>by rw [hgo,hpk]; simp [hse,emp]⟩,le_of (by simp [dslot]),rfl⟩
   ·by_cases hi : i ≤ tx.length
    case neg =>
     have hin : ¬ (i : Int) ≤ tx.length:=by omega
     simp -implicitDefEqProofs [lp1_ref14_reaches,hkl2,hpk,encP,hse,hin,wk]
     exact ⟨⟨k + 1,J2⟩,by simp; omega,⟨by simp; omega,hstop fun i' hi'=>y2 i' (by omega)⟩,le_of (by simp [dslot]),rfl⟩
    have hil : (i : Int) ≤ tx.length:=by omega
    have hi1 : i < tx.length + 1:=by omega
    have wi : IntKind.i64.wrap ((i : Int) + 1) = (i : Int) + 1:=IntWalk.i64_in _ (by omega)
    obtain ⟨u,hu⟩ : ∃ u,row[i]? = some u:=⟨_,List.getElem?_eq_getElem (by omega)⟩
    have hu2 : row[i]'(by omega) = u:=(List.getElem?_eq_some_iff.1 hu).2
    have hud : row.getD i false = u:=by simp [List.getD,hu]
    cases u with
    | false =>
     simp -implicitDefEqProofs [lp1_ref14_reaches,hkl2,hpk,encP,hse,hil,hi1,hrow,hu,hu2,hrl,wi]
     refine ⟨⟨i + 1,J2⟩,by simp; omega,⟨by simp; omega,fun i' hi'=>?_⟩,le_of (by simp [dslot])⟩
     rcases Nat.lt_succ_iff_lt_or_eq.1 hi' with h1 | rfl
     ·exact y2 i' h1
     ·rw [hgo,hud]; rfl
    | true =>
     obtain ⟨hx0,hx1⟩:=hok p (List.mem_of_getElem? hpk) hse
     obtain ⟨x,hx⟩ : ∃ x : Nat,indexF g.sorts p.sort = x:=⟨(indexF g.sorts p.sort).toNat,by omega⟩
     have hxl : x < O.length:=by omega
     have hxs : x < g.sorts.length:=by omega
     obtain ⟨r,hr⟩ : ∃ r,O[x]? = some r:=⟨_,List.getElem?_eq_getElem hxl⟩
     obtain ⟨hr1,hr2⟩:=hO2.row x r hr
     obtain ⟨w,hw⟩ : ∃ w,r[i]? = some w:=⟨_,List.getElem?_eq_getElem (by omega)⟩
     have hw2 : r[i]'(by omega) = w:=(List.getElem?_eq_some_iff.1 hw).2
     have hop : opAt O (indexF g.sorts p.sort).toNat i = w:=by
      rw [hx]; simp [opAt,List.getD,hr,hw]
     have hrows:=hO2.rows
     have hse' : decide (p.sort = emp) = false:=by simp [emp,hse]
     simp -implicitDefEqProofs [lp1_ref14_reaches,hkl2,hpk,encP,hse,hil,hi1,hrow,hu,hu2,hrl]
     refine callk (rindex14_c g.sorts g.sc p.sort (by omega)) rfl rfl ?_
     cases w with
     | true =>
      have hre : reachF g tx X O ps a = true:=any_range_true hkp (by rw [hstp,any_range_true hi1 (by rw [hgo,hud,hpk]; simp only [hse',hop]; rfl)]; simp)
      simp -implicitDefEqProofs [hx,hxs,hrows,hOl,hr1,hr2,hw,hw2,hi1]
      exact ret1 (v:=bl true) (by simp [deferred,dslot]) (by simp [evalRes,evalRes1]) ⟨by rw [hre],J2,rfl⟩
     | false =>
      simp -implicitDefEqProofs [hx,hxs,hrows,hOl,hr1,hr2,hw,hw2,hi1,wi]
      refine ⟨⟨i + 1,J2⟩,by simp; omega,⟨by simp; omega,fun i' hi'=>?_⟩,le_of (by simp [dslot])⟩
      rcases Nat.lt_succ_iff_lt_or_eq.1 hi' with h1 | rfl
      ·exact y2 i' h1
      ·rw [hgo,hud,hpk]; simp only [hse',hop]; rfl
end Go.Apx
end
section
namespace Go.Apx
open Go.Proofs
set_option linter.unusedVariables false
set_option linter.unusedSimpArgs false
set_option linter.unnecessarySimpa false
set_option maxRecDepth 4000
section
variable {g gv : Gr} {tx : List ByteArray} {X : List Bool} {O : List (List Bool)}
theorem row_iff (hs : Sound g tx X) (hf : Full g tx X) {ps : List Pt} (hn : ∀ p ∈ ps,p.sort ≠ emp → p.sort ∈ g.sorts) {a k j : Nat} (ha : a ≤ tx.length) (hj : j ≤ tx.length) : (rowK g tx X ps a k).getD j false = true ↔ DerP g tx (ps.take k) a j :=
 (endsF_true ha _ _ rfl j hj).trans ⟨PX_sound hs (fun p hp=>hn p (List.mem_of_mem_take hp)),closed_der hf ha⟩
def SoundO (g gv : Gr) (tx : List ByteArray) (O : List (List Bool)) : Prop:=∀ s ∈ g.sorts,∀ i,i ≤ tx.length → opAt O (indexF g.sorts s).toNat i = true → Opn gv tx s i
def DoneO (g gv : Gr) (tx : List ByteArray) (X : List Bool) (O : List (List Bool)) (R : Rl) (a : Nat) : Prop:=gv.us R = true → reachF g tx X O R.parts a = true → opAt O (indexF g.sorts R.sort).toNat a = true
theorem reach_sound (hg : gv.rules = g.rules) (hs : Sound g tx X) (hf : Full g tx X) (hnm : Named g) (hO : SoundO g gv tx O) {r a : Nat} {R : Rl} (hr : g.rules[r]? = some R) (hu : gv.us R = true) (ha : a ≤ tx.length) (h : reachF g tx X O R.parts a = true) : Opn gv tx R.sort a:=by
 have hps:=(hnm R (List.mem_of_getElem? hr)).2
 have hr' : gv.rules[r]? = some R:=by rw [hg]; exact hr
 unfold reachF at h
 obtain ⟨k,hk,h⟩:=List.any_eq_true.1 h
 unfold stepF at h
 rcases Bool.or_eq_true_iff.1 h with h | h
 ·exact .stop hr' hu (((row_iff hs hf hps ha (Nat.le_refl _)).1 h).conv hg)
 ·obtain ⟨i,hi,h⟩:=List.any_eq_true.1 h
  have hi' : i ≤ tx.length:=by have:=List.mem_range.1 hi; omega
  unfold goesF at h
  obtain ⟨h1,h2⟩:=Bool.and_eq_true_iff.1 h
  cases hp : R.parts[k]? with
  | none=>rw [hp] at h2; cases h2
  | some p =>
   rw [hp] at h2
   simp only [Bool.and_eq_true,Bool.not_eq_true',decide_eq_false_iff_not] at h2
   exact .into hr' hu hp h2.1 (((row_iff hs hf hps ha hi').1 h1).conv hg) (hO _ (hps p (List.mem_of_getElem? hp) h2.1) i hi' h2.2)
theorem open_full (hg : gv.rules = g.rules) (hs : Sound g tx X) (hf : Full g tx X) (hnm : Named g) (hd : ∀ (r : Nat) (R : Rl),g.rules[r]? = some R → ∀ a,a ≤ tx.length → DoneO g gv tx X O R a) {s : ByteArray} {i : Nat} (h : Opn gv tx s i) : i ≤ tx.length → opAt O (indexF g.sorts s).toNat i = true:=by
 induction h with
 | @stop r k i R hr hu hdp =>
  intro hi
  rw [hg] at hr
  have hps:=(hnm R (List.mem_of_getElem? hr)).2
  refine hd r R hr i hi hu (any_range_true (k:=min k R.parts.length) (by omega) ?_)
  unfold stepF
  have : R.parts.take (min k R.parts.length) = R.parts.take k:=by rw [List.take_eq_take_iff]; omega
  rw [(row_iff hs hf hps hi (Nat.le_refl _)).2 (by rw [this]; exact hdp.conv hg.symm)]; rfl
 | @into r k i j R p hr hu hp hse hdp h ih =>
  intro hi
  rw [hg] at hr
  have hps:=(hnm R (List.mem_of_getElem? hr)).2
  have hj:=hdp.le.2 hi
  have hk:=(List.getElem?_eq_some_iff.1 hp).1
  refine hd r R hr i hi hu (any_range_true (k:=k) (by omega) ?_)
  unfold stepF
  rw [any_range_true (k:=j) (by omega) (by
   unfold goesF
   rw [(row_iff hs hf hps hi hj).2 (hdp.conv hg.symm),hp]
   simp only [ih hj,hse,decide_false,Bool.not_false,Bool.and_self])]
  simp
end
def cntO (O : List (List Bool)) : Nat:=(O.map cntF).sum
theorem cntO_set : ∀ {O : List (List Bool)} {s : Nat} {r r' : List Bool},O[s]? = some r → cntF r' < cntF r → cntO (O.set s r') < cntO O
 | [],s,r,r',h,_=>by simp at h
 | q :: O,0,r,r',h,hl=>by
  simp at h; subst h
  simp only [cntO,List.set_cons_zero,List.map_cons,List.sum_cons]; omega
 | q :: O,s + 1,r,r',h,hl=>by
  simp at h
  have:=cntO_set h hl
  simp only [cntO,List.set_cons_succ,List.map_cons,List.sum_cons] at this ⊢; omega
theorem opAt_set {O : List (List Bool)} {s i : Nat} {r : List Bool} (hr : O[s]? = some r) (hi : i < r.length) (s' i' : Nat) : opAt (O.set s (r.set i true)) s' i' = (opAt O s' i' || (decide (s' = s) && decide (i' = i))):=by
 have hs:=(List.getElem?_eq_some_iff.1 hr).1
 unfold opAt
 simp only [List.getD,List.getElem?_set]
 by_cases e : s = s'
 ·subst e
  simp only [hs,if_true,Option.getD_some,hr,List.getElem?_set,decide_true,Bool.true_and]
  by_cases e2 : i = i'
  ·subst e2; simp [hi]
  ·simp [e2,Ne.symm e2]
 ·simp [e,Ne.symm e]
def Shape (n m : Nat) (O : List (List Bool)) : Prop:=O.length = m ∧ ∀ r ∈ O,r.length = n + 1
theorem Shape.set {n m s i : Nat} {O : List (List Bool)} {r : List Bool} (h : Shape n m O) (hr : O[s]? = some r) : Shape n m (O.set s (r.set i true)):=by
 refine ⟨by simp [h.1],fun q hq=>?_⟩
 rcases List.mem_or_eq_of_mem_set hq with h1 | h1
 ·exact h.2 q h1
 ·subst h1; simp [h.2 r (List.mem_of_getElem? hr)]
structure PassO (g gv : Gr) (tx : List ByteArray) (O0 : List (List Bool)) (A : Prop) (more : Bool) (O : List (List Bool)) : Prop where
 same : more = false → O = O0 ∧ A
 less : more = true → cntO O < cntO O0
 sound : SoundO g gv tx O
 shape : Shape tx.length g.sorts.length O
theorem PassO.mono {g gv : Gr} {tx : List ByteArray} {O0 O : List (List Bool)} {A A' : Prop} {more : Bool} (h : PassO g gv tx O0 A more O) (ha : O = O0 → A → A') : PassO g gv tx O0 A' more O :=
 ⟨fun e=>⟨(h.same e).1,ha (h.same e).1 (h.same e).2⟩,h.less,h.sound,h.shape⟩
theorem PassO.mark {g gv : Gr} {tx : List ByteArray} {O0 O : List (List Bool)} {A A' : Prop} {more : Bool} (h : PassO g gv tx O0 A more O) {s : ByteArray} (hs : s ∈ g.sorts) {x i : Nat} (hx : indexF g.sorts s = x) {r : List Bool} (hr : O[x]? = some r) (hb : r[i]? = some false) (hop : Opn gv tx s i) : PassO g gv tx O0 A' true (O.set x (r.set i true)):=by
 refine ⟨fun e=>(by cases e),fun _=>?_,fun s' hs' i' hi' ho=>?_,h.shape.set hr⟩
 ·have:=cntO_set hr (cntF_set hb)
  cases more with
  | false=>rw [← (h.same rfl).1]; exact this
  | true=>exact Nat.lt_trans this (h.less rfl)
 ·rw [opAt_set hr (List.getElem?_eq_some_iff.1 hb).1] at ho
  rcases Bool.or_eq_true_iff.1 ho with ho | ho
  ·exact h.sound s' hs' i' hi' ho
  ·simp only [Bool.and_eq_true,decide_eq_true_eq] at ho
   obtain ⟨x',h1,h2⟩:=index_of hs'
   obtain ⟨x2,h3,h4⟩:=index_of hs
   have e1 : x' = x2:=by omega
   subst e1
   rw [h2] at h4
   have : s' = s:=Option.some.inj h4
   rw [this,ho.2]; exact hop
def rowsV (b n m : Nat) : List AV:=(List.range m).map fun s=>.rf (b + s) 0 0 (n + 1) .full
def rowC (r : List Bool) : AObj:=.cells 0 (r.map bl)
def HO (H0 : AHeap) (n m : Nat) (O : List (List Bool)) (J : AHeap) : AHeap:=H0 ++ (AObj.cells 0 (rowsV (H0.length + 1) n m) :: (O.map rowC ++ J))
theorem HO_old {H0 : AHeap} {n m : Nat} {O : List (List Bool)} {J : AHeap} : Kp H0 (HO H0 n m O J):=Kp.app _ _
theorem HO_open {H0 : AHeap} {n m : Nat} {O : List (List Bool)} {J : AHeap} (h : Shape n m O) : OpenH (HO H0 n m O J) H0.length (H0.length + 1) n O:=by
 refine ⟨?_,fun s r hr=>⟨?_,h.2 r (List.mem_of_getElem? hr)⟩⟩
 ·unfold HO
  rw [List.getElem?_append_right (Nat.le_refl _),Nat.sub_self,h.1]; rfl
 ·have hs:=(List.getElem?_eq_some_iff.1 hr).1
  unfold HO
  rw [List.getElem?_append_right (by omega),show H0.length + 1 + s - H0.length = s + 1 by omega,List.getElem?_cons_succ,List.getElem?_append_left (by simpa using hs),List.getElem?_map,hr]; rfl
theorem HO_set {H0 : AHeap} {n m s : Nat} {O : List (List Bool)} {J : AHeap} {r : List Bool} (hs : s < O.length) : (HO H0 n m O J).set (H0.length + 1 + s) (.cells 0 (r.map bl)) = HO H0 n m (O.set s r) J:=by
 unfold HO
 rw [List.set_append_right _ _ (by omega),show H0.length + 1 + s - H0.length = s + 1 by omega,List.set_cons_succ,List.set_append_left _ _ (by simpa using hs),List.map_set]
 rfl
theorem HO_app {H0 : AHeap} {n m : Nat} {O : List (List Bool)} {J K : AHeap} : HO H0 n m O J ++ K = HO H0 n m O (J ++ K):=by
 unfold HO; simp
theorem rindex14g_c (l : List ByteArray) (s : ByteArray) (hl : l.length ≤ 2 ^ 31) {h : AHeap} : AEx PP Gl 25 [grown 1 (l.map sv),.sc (.string s)] h (.ret (.sc (.int .i64 (indexF l s)))) h :=
 ACalls.args (rindex14_c l _ s hl) (.cons (grown_le l) (.refl _))
end Go.Apx
end
section
namespace Go.Apx
open Go.Proofs
set_option linter.unusedVariables false
set_option linter.unusedSimpArgs false
set_option linter.unnecessarySimpa false
set_option maxRecDepth 4000
structure OS where
 i : Nat
 m : Bool
 O : List (List Bool)
 J : AHeap
def rows0 (b n m i : Nat) : List AV:=(List.range m).map fun s=>if s < i then .rf (b + s) 0 0 (n + 1) .full else .sl 0 [] .nil
theorem rows0_set {b n m i : Nat} (hi : i < m) : (rows0 b n m i).set i (.rf (b + i) 0 0 (n + 1) .full) = rows0 b n m (i + 1):=by
 refine List.ext_getElem? fun j=>?_
 unfold rows0
 rw [List.getElem?_set]
 simp only [List.getElem?_map,List.length_map,List.length_range,hi,if_true]
 by_cases e : i = j
 ·subst e; simp [hi]
 ·by_cases hj : j < m
  ·rw [if_neg e,List.getElem?_range hj]
   simp only [Option.map_some]
   by_cases h1 : j < i
   ·simp [h1,show j < i + 1 by omega]
   ·simp [h1,show ¬ j < i + 1 by omega]
  ·rw [if_neg e,List.getElem?_eq_none (by simp; omega)]; rfl
theorem rows0_zero {b n m : Nat} : rows0 b n m 0 = List.replicate m (.sl 0 [] .nil):=by
 refine List.ext_getElem? fun j=>?_
 unfold rows0
 rw [List.getElem?_replicate]
 by_cases hj : j < m
 ·simp [hj]
 ·rw [if_neg hj,List.getElem?_eq_none (by simp; omega)]
theorem rows0_all {b n m : Nat} : rows0 b n m m = rowsV b n m:=by
 unfold rows0 rowsV
 refine List.map_congr_left fun s hs=>?_
 rw [if_pos (by simpa using hs)]
theorem rows0_len {b n m i : Nat} : (rows0 b n m i).length = m:=by simp [rows0]
def zeroO (n m : Nat) : List (List Bool):=List.replicate m (List.replicate (n + 1) false)
theorem zero_at {n m s i : Nat} : opAt (zeroO n m) s i = false:=by
 unfold opAt zeroO
 simp only [List.getD,List.getElem?_replicate]
 split
 ·simp only [Option.getD_some,List.getElem?_replicate]; split <;> rfl
 ·rfl
theorem zero_shape {n m : Nat} : Shape n m (zeroO n m):=⟨by simp [zeroO],fun r hr=>by
 unfold zeroO at hr
 have:=List.eq_of_mem_replicate hr
 subst this; simp⟩
def usK (P : List ByteArray) (R : Rl) (k : Nat) : Bool:=!((R.parts.take k).any (needF P))
set_option maxHeartbeats 8000000 in
theorem begins_c (g gv : Gr) (s : ByteArray) (tx : List ByteArray) (tc : Cap) (S : List ByteArray) (hS : GrowS g yesP S) (hck : checkF g = 0) (hg : gv.rules = g.rules) (hu : gv.us = usF (pickS g S)) (hst : s ∈ g.sorts)
  (hn : tx.length ≤ 300) (hs : g.sorts.length ≤ 1000) (hr : g.rules.length ≤ 2 ^ 31) (hp : ∀ R ∈ g.rules,R.parts.length ≤ 2 ^ 31) {h : AHeap} :
  ACalls PP Gl 27 [encG g,.sc (.string s),.sl 1 (tx.map sv) tc] h (fun r h'=>(∃ b : Bool,r = .ret (bl b) ∧ (b = true ↔ Opn gv tx s 0)) ∧ Kp h h'):=by
 have hnm:=check_named hck
 have w1 : IntKind.i64.wrap ((tx.length : Int) + 1) = (tx.length : Int) + 1:=IntWalk.i64_in _ (by omega)
 have w2 : ((tx.length : Int) + 1).toNat = tx.length + 1:=by omega
 have w3 : (0 : Int) ≤ (tx.length : Int) + 1:=by omega
 have w4 : (tx.length : Int) + 1 ≤ 4294967296:=by omega
 have w5 : (g.sorts.length : Int) ≤ 4294967296:=by omega
 refine enter_ref14_begins (by simp) ?_
 simp -implicitDefEqProofs [code_ref14_begins,res_ref14_begins,ann_ref14_begins,encG]
 refine callr (all_c g tx tc (h:=h) ⟨hn,hs,hr,hp,hnm⟩) (by simp [encG]) rfl ?_
 rintro r h' ⟨X,J0,rfl,rfl,hso,hfu,hXl⟩
 have ho : (HA h tx.length X.length X J0)[h.length + 1]? = some (.cells 0 (X.map bl)):=HA_get1
 have hk0 : Kp h (HA h tx.length X.length X J0):=fun z x hz=>by rw [HA_old (List.getElem?_eq_some_iff.1 hz).1]; exact hz
 generalize h.length + 1 = o at *
 generalize HA h tx.length X.length X J0 = H0 at *
 simp -implicitDefEqProofs
 refine callk (rproductive_c g S hS hck hr hs hp (check_places hck)) (by simp [encG]) rfl ?_
 have hPl : (pickS g S).length ≤ 2 ^ 31:=Nat.le_trans (List.length_filter_le _ _) (by omega)
 generalize pickS g S = P at *
 simp -implicitDefEqProofs [w5,maxLenA]
 refine AWp.cnt g.sorts.length [1,2,3,7,8,10] (fun i=>[(11,i64 (i : Int))]) (fun i=>H0 ++ (AObj.cells 0 (rows0 (H0.length + 1) tx.length g.sorts.length i) :: (List.replicate i (List.replicate (tx.length + 1) false)).map rowC)) (fun _=>True) mixed trivial (le_of (by simp [dslot])) (by simp [rows0_zero]) (fun i hi _=>?_) fun _=>?_
 ·have hil : (i : Int) < g.sorts.length:=by omega
  have wi : IntKind.i64.wrap ((i : Int) + 1) = (i : Int) + 1:=IntWalk.i64_in _ (by omega)
  have hi1 : i + 1 ≤ g.sorts.length:=hi
  have hput : List.take i (rows0 (H0.length + 1) tx.length g.sorts.length i) ++ AV.rf (H0.length + (i + 1)) 0 0 (tx.length + 1) .full :: List.drop (i + 1) (rows0 (H0.length + 1) tx.length g.sorts.length i) = rows0 (H0.length + 1) tx.length g.sorts.length (i + 1):=by
   rw [put_eq _ _ _ (by rw [rows0_len]; exact hi),show H0.length + (i + 1) = H0.length + 1 + i by omega]
   exact rows0_set hi
  simp -implicitDefEqProofs [lp0_ref14_begins,hil,hi,hi1,hput,rows0_len,w1,w2,w3,w4,maxLenA,wi,encX]
  exact ⟨le_of (by simp [dslot,encX]),by rw [List.replicate_succ' (n:=i)]; simp [rowC]⟩
 ·simp -implicitDefEqProofs [lp0_ref14_begins]
  have hstart : H0 ++ AObj.cells 0 (rows0 (H0.length + 1) tx.length g.sorts.length g.sorts.length) :: List.replicate g.sorts.length (rowC (List.replicate (tx.length + 1) false)) = HO H0 tx.length g.sorts.length (zeroO tx.length g.sorts.length) []:=by
   simp [HO,rows0_all,zeroO]
  rw [hstart]
  have hRV : ∀ y,y < g.sorts.length → (rowsV (H0.length + 1) tx.length g.sorts.length)[y]? = some (.rf (H0.length + 1 + y) 0 0 (tx.length + 1) .full):=fun y hy=>by simp [rowsV,hy]
  refine AWp.till (S:=OS) ⟨0,true,zeroO tx.length g.sorts.length,[]⟩ (fun st=>2 * cntO st.O + st.m.toNat) [1,2,3,7,8,10] (fun st=>[(12,bl st.m)]) (fun st=>HO H0 tx.length g.sorts.length st.O st.J)
   (fun st=>(st.m = false → ∀ (r : Nat) (R : Rl),g.rules[r]? = some R → ∀ a,a ≤ tx.length → DoneO g gv tx X st.O R a) ∧ SoundO g gv tx st.O ∧ Shape tx.length g.sorts.length st.O) mixed ⟨by simp,fun s _ i _ hh=>(by simp only at hh; rw [zero_at] at hh; cases hh),zero_shape⟩ (le_of (by simp [dslot])) rfl ?_
  rintro ⟨i0,more,O0,J1⟩ ⟨z1,z2,z3⟩
  simp only at z1 z2 z3
  cases more with
  | false =>
   obtain ⟨x,hx,hxs⟩:=index_of hst
   have hxl:=(List.getElem?_eq_some_iff.1 hxs).1
   obtain ⟨r,hr0⟩ : ∃ r,O0[x]? = some r:=⟨_,List.getElem?_eq_getElem (by rw [z3.1]; exact hxl)⟩
   have hrl:=z3.2 r (List.mem_of_getElem? hr0)
   obtain ⟨w,hw⟩ : ∃ w,r[0]? = some w:=⟨_,List.getElem?_eq_getElem (by omega)⟩
   have hw2 : r[0]'(by omega) = w:=(List.getElem?_eq_some_iff.1 hw).2
   have hop : opAt O0 (indexF g.sorts s).toNat 0 = w:=by rw [hx]; simp [opAt,List.getD,hr0,hw]
   have hiff : w = true ↔ Opn gv tx s 0:=by
    rw [← hop]
    exact ⟨fun hh=>z2 s hst 0 (Nat.zero_le _) hh,fun hh=>open_full hg hso hfu hnm (z1 rfl) hh (Nat.zero_le _)⟩
   have hOp:=HO_open (H0:=H0) (J:=J1) z3
   obtain ⟨hro1,_⟩:=hOp.row x r hr0
   have hrows:=hOp.rows
   have hkp : Kp h (HO H0 tx.length g.sorts.length O0 J1):=hk0.trans HO_old
   generalize HO H0 tx.length g.sorts.length O0 J1 = H1 at *
   simp -implicitDefEqProofs [lp1_ref14_begins]
   refine callk (rindex14_c g.sorts g.sc s (by omega)) rfl rfl ?_
   have hO0l : O0.length = g.sorts.length:=z3.1
   simp -implicitDefEqProofs [hx,hxl,hrows,hO0l,hro1,hrl,hw,hw2]
   refine ret1 (v:=bl w) (by simp [deferred,dslot]) (by simp [evalRes,evalRes1]) ⟨?_,hkp⟩
   cases w with
   | true=>exact .inr ⟨rfl,hiff.1 rfl⟩
   | false=>exact .inl ⟨rfl,fun hh=>by have:=hiff.2 hh; cases this⟩
  | true =>
   simp -implicitDefEqProofs [lp1_ref14_begins]
   refine AWp.till (S:=OS) ⟨0,false,O0,J1⟩ (fun st=>g.rules.length - st.i) [1,2,3,7,8,10] (fun st=>[(12,bl st.m),(13,i64 (st.i : Int))]) (fun st=>HO H0 tx.length g.sorts.length st.O st.J)
    (fun st=>st.i ≤ g.rules.length ∧ PassO g gv tx O0 (∀ r R,r < st.i → g.rules[r]? = some R → ∀ a,a ≤ tx.length → DoneO g gv tx X O0 R a) st.m st.O) mixed ⟨by simp,⟨fun _=>⟨rfl,fun r R hr=>by simp at hr⟩,by simp,z2,z3⟩⟩ (le_of (by simp [dslot])) rfl ?_
   rintro ⟨i,more,O1,J2⟩ ⟨y1,y2⟩
   simp only at y1 y2
   by_cases hi : i < g.rules.length
   case neg =>
    have hi' : i = g.rules.length:=by omega
    subst hi'
    simp -implicitDefEqProofs [lp2_ref14_begins]
    refine ⟨⟨0,more,O1,J2⟩,?_,⟨fun e=>?_,y2.sound,y2.shape⟩,le_of (by simp [dslot]),rfl⟩
    ·cases more with
     | false=>have:=(y2.same rfl).1; subst this; simp
     | true=>have:=y2.less rfl; simp; omega
    ·obtain ⟨e1,e2⟩:=y2.same e
     simp only at e1 ⊢
     rw [e1]
     exact fun r R hr=>e2 r R (List.getElem?_eq_some_iff.1 hr).1 hr
   obtain ⟨R,hR⟩ : ∃ R,g.rules[i]? = some R:=⟨g.rules[i],by simp [hi]⟩
   have hRm:=List.mem_of_getElem? hR
   obtain ⟨hRs,hRp⟩:=hnm R hRm
   obtain ⟨x,hx,hxs⟩:=index_of hRs
   have hxl:=(List.getElem?_eq_some_iff.1 hxs).1
   have hlt : (i : Int) < g.rules.length:=by omega
   have hne : g.rules ≠ []:=by intro e; rw [e] at hi; simp at hi
   have wi : IntKind.i64.wrap ((i : Int) + 1) = (i : Int) + 1:=IntWalk.i64_in _ (by omega)
   have hpl:=hp R hRm
   simp -implicitDefEqProofs [lp2_ref14_begins,hlt,hR,encR]
   refine callk (rindex14_c g.sorts g.sc R.sort (by omega)) rfl rfl ?_
   simp -implicitDefEqProofs [hx]
   refine AWp.cnt R.parts.length [1,2,3,7,8,10,12,13,14] (fun k=>[(15,bl (usK P R k)),(16,i64 (k : Int))]) (fun _=>HO H0 tx.length g.sorts.length O1 J2) (fun _=>True) mixed trivial (le_of (by simp [dslot,usK])) rfl (fun k hk _=>?_) fun _=>?_
   ·obtain ⟨p,hpk⟩ : ∃ p,R.parts[k]? = some p:=⟨R.parts[k],by simp [hk]⟩
    have hkl : (k : Int) < R.parts.length:=by omega
    have wk : IntKind.i64.wrap ((k : Int) + 1) = (k : Int) + 1:=IntWalk.i64_in _ (by omega)
    have hne2 : R.parts ≠ []:=by intro e; rw [e] at hk; simp at hk
    have hstp : usK P R (k + 1) = (usK P R k && !needF P p):=by
     unfold usK
     rw [List.take_add_one,hpk,List.any_append]; simp
    rw [hstp]
    cases hu1 : usK P R k with
    | false =>
     simp -implicitDefEqProofs [lp3_ref14_begins,hkl,hR,encR,hpk,encP,wk]
     exact le_of (by simp [dslot])
    | true =>
     by_cases hse : p.sort = (⟨#[]⟩ : ByteArray)
     ·have hnd : needF P p = false:=by simp [needF,hse,emp]
      rw [hnd]
      simp -implicitDefEqProofs [lp3_ref14_begins,hkl,hR,encR,hpk,encP,hse,wk]
      exact le_of (by simp [dslot])
     ·have hnd : needF P p = !decide (0 ≤ indexF P p.sort):=by simp [needF,hse,emp,hasF]
      rw [hnd]
      simp -implicitDefEqProofs [lp3_ref14_begins,hkl,hR,encR,hpk,encP,hse,wk]
      refine callk (rindex14g_c P p.sort hPl) rfl rfl ?_
      simp -implicitDefEqProofs [wk]
      exact le_of (by simp [dslot])
   ·simp -implicitDefEqProofs [lp3_ref14_begins,hR,encR]
    have hus : gv.us R = usK P R R.parts.length:=by rw [hu]; unfold usF usK; rw [List.take_length]
    generalize usK P R R.parts.length = u at *
    refine AWp.till (S:=OS) ⟨0,more,O1,J2⟩ (fun st=>tx.length + 1 - st.i) [1,2,3,7,8,10,13,14,15] (fun st=>[(12,bl st.m),(18,i64 (st.i : Int))]) (fun st=>HO H0 tx.length g.sorts.length st.O st.J)
     (fun st=>st.i ≤ tx.length + 1 ∧ PassO g gv tx O0 ((∀ r R,r < i → g.rules[r]? = some R → ∀ a,a ≤ tx.length → DoneO g gv tx X O0 R a) ∧ ∀ a,a < st.i → DoneO g gv tx X O0 R a) st.m st.O) mixed ⟨by simp,y2.mono fun _ hh=>⟨hh,fun a ha=>by simp at ha⟩⟩ (le_of (by simp [dslot])) rfl ?_
    rintro ⟨a,m,O,J⟩ ⟨x1,x2⟩
    simp only at x1 x2
    have hdone : ∀ (A : Prop),(A → ∀ a,a ≤ tx.length → DoneO g gv tx X O0 R a) → ((∀ r R,r < i → g.rules[r]? = some R → ∀ a,a ≤ tx.length → DoneO g gv tx X O0 R a) ∧ A) → ∀ r R',r < i + 1 → g.rules[r]? = some R' → ∀ a,a ≤ tx.length → DoneO g gv tx X O0 R' a:=fun A hA hh r R' hr hR'=>by
     rcases Nat.lt_succ_iff_lt_or_eq.1 hr with hr | rfl
     ·exact hh.1 r R' hr hR'
     ·rw [hR] at hR'; cases hR'
      exact hA hh.2
    cases u with
    | false =>
     simp -implicitDefEqProofs [lp4_ref14_begins,wi]
     exact ⟨⟨i + 1,m,O,J⟩,by simp; omega,⟨by simp; omega,x2.mono fun _ hh=>hdone _ (fun _ a _ hua=>by rw [hus] at hua; cases hua) hh⟩,le_of (by simp [dslot]),rfl⟩
    | true =>
     by_cases hal : a ≤ tx.length
     case neg =>
      have han : ¬ (a : Int) ≤ tx.length:=by omega
      simp -implicitDefEqProofs [lp4_ref14_begins,han,wi,encX]
      exact ⟨⟨i + 1,m,O,J⟩,by simp; omega,⟨by simp; omega,x2.mono fun _ hh=>hdone _ (fun h1 a' ha'=>h1 a' (by omega)) hh⟩,le_of (by simp [dslot,encX]),rfl⟩
     have hale : (a : Int) ≤ tx.length:=by omega
     have ha1 : a < tx.length + 1:=by omega
     have wa : IntKind.i64.wrap ((a : Int) + 1) = (a : Int) + 1:=IntWalk.i64_in _ (by omega)
     have hsh:=x2.shape
     have hOl : O.length = g.sorts.length:=hsh.1
     obtain ⟨r,hr0⟩ : ∃ r,O[x]? = some r:=⟨_,List.getElem?_eq_getElem (by rw [hOl]; exact hxl)⟩
     have hrl:=hsh.2 r (List.mem_of_getElem? hr0)
     obtain ⟨w,hw⟩ : ∃ w,r[a]? = some w:=⟨_,List.getElem?_eq_getElem (by omega)⟩
     have hw2 : r[a]'(by omega) = w:=(List.getElem?_eq_some_iff.1 hw).2
     have hop : opAt O (indexF g.sorts R.sort).toNat a = w:=by rw [hx]; simp [opAt,List.getD,hr0,hw]
     have hOp:=HO_open (H0:=H0) (J:=J) hsh
     have hro1:=(hOp.row x r hr0).1
     have hrows:=hOp.rows
     cases w with
     | true =>
      simp -implicitDefEqProofs [lp4_ref14_begins,hale,encX,hrows,hOl,hxl,hro1,hrl,ha1,hw,hw2,wa]
      refine ⟨⟨a + 1,m,O,J⟩,by simp; omega,⟨by simp; omega,x2.mono fun e hh=>⟨hh.1,fun a' ha'=>?_⟩⟩,le_of (by simp [dslot,encX]),rfl⟩
      rcases Nat.lt_succ_iff_lt_or_eq.1 ha' with h1 | rfl
      ·exact hh.2 a' h1
      ·exact fun _ _=>by rw [← e]; exact hop
     | false =>
      have hrc:=reaches_c g tx tc X o R.parts R.cap O H0.length (H0.length + 1) a hn hs hpl hal (sorts_of hRp) hXl (HO_old (O:=O) (J:=J) (n:=tx.length) (m:=g.sorts.length) _ _ ho) hOp hOl
      simp -implicitDefEqProofs [lp4_ref14_begins,hale,encX,hrows,hOl,hxl,hro1,hrl,ha1,hw,hw2,hR,encR,hlt]
      refine callr hrc (by simp [encG,encX]) rfl ?_
      rintro r1 h1 ⟨rfl,J3,rfl⟩
      rw [HO_app]
      cases hre : reachF g tx X O R.parts a with
      | false =>
       simp -implicitDefEqProofs [wa]
       refine ⟨⟨a + 1,m,O,J ++ J3⟩,by simp; omega,⟨by simp; omega,x2.mono fun e hh=>⟨hh.1,fun a' ha'=>?_⟩⟩,le_of (by simp [dslot,encX]),rfl⟩
       rcases Nat.lt_succ_iff_lt_or_eq.1 ha' with h1 | rfl
       ·exact hh.2 a' h1
       ·exact fun _ hq=>by rw [← e,hre] at hq; cases hq
      | true =>
       have hOp2:=HO_open (H0:=H0) (J:=J ++ J3) hsh
       have hro2:=(hOp2.row x r hr0).1
       have hrows2:=hOp2.rows
       have ha2 : a + 1 ≤ tx.length + 1:=ha1
       have hput : List.take a (r.map bl) ++ AV.sc (.bool true) :: List.drop (a + 1) (r.map bl) = (r.set a true).map bl:=by
        rw [put_eq _ _ _ (by simp; omega),List.map_set]
       have hset : (HO H0 tx.length g.sorts.length O (J ++ J3)).set (H0.length + 1 + x) (.cells 0 ((r.set a true).map bl)) = HO H0 tx.length g.sorts.length (O.set x (r.set a true)) (J ++ J3):=HO_set (by omega)
       simp -implicitDefEqProofs [hrows2,hOl,hxl,hro2,hrl,ha1,ha2,hw,hw2,hput,hset,wa]
       exact ⟨⟨a + 1,true,O.set x (r.set a true),J ++ J3⟩,by simp; omega,⟨by simp; omega,x2.mark hRs hx hr0 hw (reach_sound hg hso hfu hnm x2.sound hR hus hal hre)⟩,le_of (by simp [dslot,encX]),by rw [← hset,List.map_set]⟩
end Go.Apx
end
section
namespace Go.Apx
open Go.Proofs
set_option linter.unusedVariables false
set_option linter.unusedSimpArgs false
set_option linter.unnecessarySimpa false
set_option maxRecDepth 4000
def atPut (l : List ByteArray) (s : ByteArray) (k : Nat) : List ByteArray:=l.take k ++ s :: l.drop k
instance (a b : ByteArray) : Decidable (sLt a b):=inferInstanceAs (Decidable (bytesL a < bytesL b))
theorem bytes_lt (a b : ByteArray) : Op.bytesLess a.toList b.toList = decide (sLt a b):=by
 rw [Go.Proofs.bytesLess_eq,Lib.toList_data,Lib.toList_data]; rfl
theorem atPut_at {l : List ByteArray} {s : ByteArray} {k : Nat} (hk : k ≤ l.length) : (atPut l s k)[k]? = some s:=by
 unfold atPut
 rw [List.getElem?_append_right (by simp; omega)]
 simp [Nat.min_eq_left hk]
theorem atPut_len {l : List ByteArray} {s : ByteArray} {k : Nat} : (atPut l s k).length = l.length + 1:=by
 unfold atPut; simp; omega
theorem atPut_before {l : List ByteArray} {s : ByteArray} {k i : Nat} (hi : i < k) (hk : k ≤ l.length) : (atPut l s k)[i]? = l[i]?:=by
 unfold atPut
 rw [List.getElem?_append_left (by simp; omega),List.getElem?_take,if_pos hi]
theorem atPut_swap {l : List ByteArray} {s x : ByteArray} {k : Nat} (hk : k + 1 ≤ l.length) (hx : l[k]? = some x) : ((atPut l s (k + 1)).set (k + 1) x).set k s = atPut l s k:=by
 refine List.ext_getElem? fun j=>?_
 have h1 : j < k → (atPut l s (k + 1))[j]? = (atPut l s k)[j]?:=fun hj=>by rw [atPut_before (by omega) hk,atPut_before hj (by omega)]
 have h2 : k + 1 < j → (atPut l s (k + 1))[j]? = (atPut l s k)[j]?:=fun hj=>by
  unfold atPut
  rw [List.getElem?_append_right (by simp; omega),List.getElem?_append_right (by simp; omega)]
  simp only [List.length_take,Nat.min_eq_left hk,Nat.min_eq_left (show k ≤ l.length by omega)]
  rw [show j - (k + 1) = (j - k - 2) + 1 by omega,show j - k = (j - k - 2) + 1 + 1 by omega]
  simp only [List.getElem?_cons_succ,List.getElem?_drop]
  congr 1; omega
 have hl : k + 1 < (atPut l s (k + 1)).length:=by rw [atPut_len]; omega
 rw [List.getElem?_set,List.getElem?_set]
 by_cases e : k = j
 ·subst e
  rw [if_pos rfl,if_pos (by simp; omega),atPut_at (by omega)]
 ·rw [if_neg e]
  by_cases e2 : k + 1 = j
  ·subst e2
   rw [if_pos rfl,if_pos hl]
   unfold atPut
   rw [List.getElem?_append_right (by simp; omega)]
   simp only [List.length_take,Nat.min_eq_left (show k ≤ l.length by omega)]
   rw [show k + 1 - k = 0 + 1 by omega,List.getElem?_cons_succ,List.getElem?_drop]
   exact hx.symm
  ·rw [if_neg e2]
   rcases Nat.lt_or_ge j k with h3 | h3
   ·exact h1 h3
   ·exact h2 (by omega)
theorem rows_sv : ∀ (l : List ByteArray) (rest : List AV),rows 1 l.length (l.map sv ++ rest) = l.map sv
 | [],_=>rfl
 | a :: l,rest=>by
  simp only [List.length_cons,List.map_cons,List.cons_append,rows,if_true,List.headD_cons,List.drop_succ_cons,List.drop_zero,rows_sv l rest]
theorem flat_sv (l : List ByteArray) : (l.map sv).flatMap AV.cells = l.map sv:=by
 induction l with
 | nil=>rfl
 | cons a l ih=>simp only [List.map_cons,List.flatMap_cons,ih]; rfl
def PutR (l : List ByteArray) (s : ByteArray) (h : AHeap) (r : AEnd) (h' : AHeap) : Prop :=
 ∃ k w,r = .ret w ∧ OutV h' (atPut l s k) w ∧ (∀ x ∈ l.drop k,sLt s x) ∧ (k = 0 ∨ ∃ x,l[k - 1]? = some x ∧ ¬ sLt s x) ∧ Kp h h'
set_option maxHeartbeats 4000000 in
theorem put_c (l : List ByteArray) (s : ByteArray) (v : AV) {h : AHeap} (hl : l.length ≤ 100000) (hv : OutV h l v) :
  ACalls PP Gl 30 [v,.sc (.string s)] h (PutR l s h):=by
 rcases hv with ⟨rfl,rfl⟩ | ⟨hne,o,gn,rest,rc,rfl,hc⟩
 ·refine enter_ref14_put (by simp) ?_
  simp -implicitDefEqProofs [code_ref14_put,res_ref14_put,ann_ref14_put,elems,maxLenA]
  refine AWp.till (S:=KJ) ⟨0,[]⟩ (fun st=>st.k) [0] (fun st=>[(5,i64 (st.k : Int))]) (fun _=>h ++ [.cells 0 [sv s]]) (fun st=>st.k = 0) mixed rfl (le_of (by simp [dslot,sv])) (by simp [sv]) ?_
  rintro ⟨k,J⟩ hz
  simp only at hz
  subst hz
  simp -implicitDefEqProofs [lp0_ref14_put]
  refine ret1 (v:=.rf h.length 0 0 1 (.own 1)) (by simp [deferred,dslot]) (by simp [evalRes,evalRes1]) ?_
  exact ⟨0,_,rfl,.inr ⟨by simp [atPut],h.length,0,[],.own 1,by simp [atPut],by simp [atPut]⟩,by simp,.inl rfl,Kp.app _ _⟩
 ·refine enter_ref14_put (by simp) ?_
  have hmx : l.length ≤ 4294967296:=by omega
  have hmx1 : l.length + 1 ≤ 4294967296:=by omega
  have w0 : IntKind.i64.wrap (l.length : Int) = (l.length : Int):=IntWalk.i64_in _ (by omega)
  simp -implicitDefEqProofs [code_ref14_put,res_ref14_put,ann_ref14_put,elems,hc,hne,rows_sv,flat_sv,maxLenA,hmx,hmx1,w0]
  refine AWp.till (S:=KJ) ⟨l.length,[]⟩ (fun st=>st.k) [0] (fun st=>[(5,i64 (st.k : Int))]) (fun st=>h ++ [.cells 1 ((atPut l s st.k).map sv)]) (fun st=>st.k ≤ l.length ∧ ∀ x ∈ l.drop st.k,sLt s x) mixed ⟨Nat.le_refl _,by simp⟩ (le_of (by simp [dslot])) (by simp [atPut,sv]) ?_
  rintro ⟨k,J⟩ ⟨z1,z2⟩
  simp only at z1 z2
  have hout : ∀ k,OutV (h ++ [.cells 1 ((atPut l s k).map sv)]) (atPut l s k) (.rf h.length 1 0 (l.length + 1) (.own 1)):=fun k =>
   .inr ⟨by intro e; have:=atPut_len (l:=l) (s:=s) (k:=k); rw [e] at this; simp at this,h.length,1,[],.own 1,by rw [atPut_len],by simp⟩
  cases k with
  | zero =>
   simp -implicitDefEqProofs [lp0_ref14_put]
   refine ret1 (v:=.rf h.length 1 0 (l.length + 1) (.own 1)) (by simp [deferred,dslot]) (by simp [evalRes,evalRes1]) ?_
   exact ⟨0,_,rfl,hout 0,z2,.inl rfl,Kp.app _ _⟩
  | succ k =>
   obtain ⟨x,hx⟩ : ∃ x,l[k]? = some x:=⟨l[k]'(by omega),by simp⟩
   have hat:=atPut_at (l:=l) (s:=s) z1
   have hbf : (atPut l s (k + 1))[k]? = some x:=by rw [atPut_before (by omega) z1,hx]
   have hal:=atPut_len (l:=l) (s:=s) (k:=k + 1)
   have hsw:=atPut_swap (s:=s) z1 hx
   have ho1:=hout (k + 1)
   have wk : IntKind.i64.wrap (k : Int) = (k : Int):=IntWalk.i64_in _ (by omega)
   have q0 : (0 : Int) < (k : Int) + 1:=by omega
   have q1 : k + 1 < (atPut l s (k + 1)).length:=by omega
   have q2 : k < (atPut l s (k + 1)).length:=by omega
   have q3 : k < l.length + 1:=by omega
   have q4 : k + 1 < l.length + 1:=by omega
   have q5 : k + 1 ≤ l.length + 1:=by omega
   have q6 : k + 1 + 1 ≤ l.length + 1:=by omega
   have q7 : ((k : Int) + 1).toNat = k + 1:=by omega
   have q8 : (0 : Int) ≤ (k : Int) + 1:=by omega
   have hat2 : (atPut l s (k + 1))[k + 1]'q1 = s:=(List.getElem?_eq_some_iff.1 hat).2
   have hbf2 : (atPut l s (k + 1))[k]'q2 = x:=(List.getElem?_eq_some_iff.1 hbf).2
   by_cases hlt : sLt s x
   ·simp -implicitDefEqProofs [lp0_ref14_put,q0,q1,q2,q3,q4,q5,q6,q7,q8,hal,hat,hbf,hat2,hbf2,wk,bytes_lt,hlt]
    have hdr : List.drop (k + 1) (List.take (k + 1) ((atPut l s (k + 1)).map sv) ++ AV.sc (.string x) :: List.drop (k + 1 + 1) ((atPut l s (k + 1)).map sv)) = AV.sc (.string x) :: List.drop (k + 1 + 1) ((atPut l s (k + 1)).map sv) :=
     List.drop_left' (by simp; omega)
    refine ⟨⟨k,[]⟩,by simp,⟨by simp; omega,fun y hy=>?_⟩,le_of (by simp [dslot]),?_⟩
    ·simp only at hy
     rw [List.drop_eq_getElem_cons (show k < l.length by omega)] at hy
     rcases List.mem_cons.1 hy with h1 | h1
     ·have : l[k]'(by omega) = x:=(List.getElem?_eq_some_iff.1 hx).2
      rw [h1,this]; exact hlt
     ·exact z2 y h1
    ·have e1:=put_eq ((atPut l s (k + 1)).map sv) (k + 1) (sv x) (by simp; omega)
     have e2:=put_eq (((atPut l s (k + 1)).map sv).set (k + 1) (sv x)) k (sv s) (by simp; omega)
     rw [← e1] at e2
     simp only [sv] at e1 e2 hdr ⊢
     rw [hdr] at e2
     rw [← hsw,List.map_set,List.map_set]
     simp only [sv]
     rw [← e1]
     exact e2
   ·simp -implicitDefEqProofs [lp0_ref14_put,q0,q1,q2,q3,q4,q5,q6,q7,q8,hal,hat,hbf,hat2,hbf2,wk,bytes_lt,hlt]
    refine ret1 (v:=.rf h.length 1 0 (l.length + 1) (.own 1)) (by simp [deferred,dslot]) (by simp [evalRes,evalRes1]) ?_
    exact ⟨k + 1,_,rfl,ho1,z2,.inr ⟨x,hx,hlt⟩,Kp.app _ _⟩
end Go.Apx
end
section
namespace Go.Apx
open Go.Proofs
set_option maxRecDepth 100000
set_option linter.unusedVariables false
def cp0_ref14_Viable : ACode :=
 .reg [⟨(some 3),.box (.t 0),none,[]⟩,
  ⟨(some 6),.mv (.c (.sc (.int .i64 0))),none,[]⟩,
  ⟨(some 7),.mv (.c (.sl 0 [] .nil)),none,[1]⟩,
  ⟨(some 8),.mv (.c (.sc (.int .i64 0))),none,[2]⟩]
def cp1_ref14_Viable : ACode :=
 .seq (.reg [⟨(some 18),.load (.agg 2) (.t 3),none,[]⟩,
   ⟨(some 19),.call (.c (.fn (.func 24) [] [])) [(.t 18)],none,[0]⟩,
   ⟨(some 9),.mv (.t 19),none,[1,1,0,1]⟩]) (
 .seq (.reg [⟨(some 20),.mv (.t 9),none,[]⟩,
   ⟨(some 21),.bin .neq (.t 20) (.c (.sc (.int .i64 0))),none,[0]⟩]) (
 .cond (.t 21) (.seq (.reg [⟨(some 22),.mv (.t 9),none,[]⟩,
   ⟨(some 6),.mv (.c (.sc (.int .i64 0))),none,[]⟩,
   ⟨(some 7),.mv (.c (.sl 0 [] .nil)),none,[1,1]⟩,
   ⟨(some 8),.mv (.t 22),none,[0,2,0,1,2]⟩]) (
  .ret)) (
 .skip)))
def cp2_ref14_Viable : ACode :=
 .seq (.reg [⟨(some 23),.faddr 0 .one (.t 3),none,[]⟩,
   ⟨(some 24),.load .one (.t 23),none,[0]⟩,
   ⟨(some 25),.mv (.t 1),none,[]⟩,
   ⟨(some 26),.call (.c (.fn (.func 25) [] [])) [(.t 24),(.t 25)],none,[1,2]⟩,
   ⟨(some 27),.bin .lss (.t 26) (.c (.sc (.int .i64 0))),none,[3]⟩]) (
 .cond (.t 27) (.seq (.reg [⟨(some 6),.mv (.c (.sc (.int .i64 0))),none,[]⟩,
   ⟨(some 7),.mv (.c (.sl 0 [] .nil)),none,[0,0]⟩,
   ⟨(some 8),.mv (.c (.sc (.int .i64 5))),none,[1,0,1]⟩]) (
  .ret)) (
 .skip))
def cp3_ref14_Viable : ACode :=
 .seq (.reg [⟨(some 28),.mv (.t 2),none,[]⟩,
   ⟨(some 29),.len .sl (.t 28),none,[0]⟩,
   ⟨(some 30),.bin .gtr (.t 29) (.c (.sc (.int .i64 200))),none,[1]⟩]) (
 .cond (.t 30) (.seq (.reg [⟨(some 6),.mv (.c (.sc (.int .i64 0))),none,[]⟩,
   ⟨(some 7),.mv (.c (.sl 0 [] .nil)),none,[0,0]⟩,
   ⟨(some 8),.mv (.c (.sc (.int .i64 4))),none,[1,0,1]⟩]) (
  .ret)) (
 .skip))
def cp4_ref14_Viable : ACode :=
 .reg [⟨(some 32),.load (.agg 2) (.t 3),none,[]⟩,
  ⟨(some 33),.call (.c (.fn (.func 26) [] [])) [(.t 32)],none,[0]⟩,
  ⟨(some 31),.mv (.t 33),none,[1]⟩,
  ⟨(some 34),.extract (.t 31) 0,none,[2]⟩,
  ⟨(some 35),.extract (.t 31) 1,none,[2]⟩,
  ⟨(some 10),.mv (.t 34),none,[3,1,0,1,2,3]⟩,
  ⟨(some 11),.mv (.t 35),none,[4,5,0,1,2,3,4,5]⟩]
def cp5_ref14_Viable : ACode :=
 .seq (.reg [⟨(some 36),.mv (.t 10),none,[]⟩,
   ⟨(some 37),.mv (.t 1),none,[]⟩,
   ⟨(some 38),.call (.c (.fn (.func 25) [] [])) [(.t 36),(.t 37)],none,[0,1]⟩,
   ⟨(some 39),.bin .lss (.t 38) (.c (.sc (.int .i64 0))),none,[2]⟩]) (
 .cond (.t 39) (.seq (.reg [⟨(some 6),.mv (.c (.sc (.int .i64 0))),none,[]⟩,
   ⟨(some 7),.mv (.c (.sl 0 [] .nil)),none,[0,0]⟩,
   ⟨(some 8),.mv (.c (.sc (.int .i64 0))),none,[1,0,1]⟩]) (
  .ret)) (
 .skip))
def cp6_ref14_Viable : ACode :=
 .reg [⟨(some 12),.mv (.c (.sc (.int .i64 0))),none,[]⟩]
def cp7_ref14_Viable : ACode :=
 .block 0 (.loop lp0_ref14_Viable)
def cp8_ref14_Viable : ACode :=
 .reg [⟨(some 13),.mv (.c (.sl 0 [] .nil)),none,[]⟩]
def cp9_ref14_Viable : ACode :=
 .dreg [(true,⟨(some 55),.load (.agg 2) (.t 3),none,[]⟩),
  (true,⟨(some 56),.mv (.t 2),none,[]⟩),
  (true,⟨(some 57),.mv (.t 12),none,[]⟩),
  (true,⟨(some 58),.slice (.sl 1) (.t 56) none (some (.t 57)) none,none,[1,2]⟩),
  (true,⟨(some 14),.pnew 2,none,[]⟩),
  (false,⟨(some 59),.call (.c (.fn (.func 28) [] [])) [(.t 55),(.t 58)],none,[0,3]⟩),
  (false,⟨none,.pstore 2 14 (.t 59),none,[5,4,4,0,1,2,3,4,5]⟩)]
def cp10_ref14_Viable : ACode :=
 .seq (.dreg [(true,⟨(some 60),.faddr 1 .one (.t 14),none,[]⟩),
   (true,⟨(some 61),.load .one (.t 60),none,[0]⟩),
   (true,⟨(some 62),.load (.agg 2) (.t 14),none,[]⟩),
   (true,⟨(some 63),.faddr 0 .one (.t 3),none,[]⟩),
   (true,⟨(some 64),.load .one (.t 63),none,[3]⟩),
   (true,⟨(some 65),.mv (.t 1),none,[]⟩),
   (true,⟨(some 67),.mv (.t 12),none,[]⟩),
   (false,⟨(some 66),.call (.c (.fn (.func 25) [] [])) [(.t 64),(.t 65)],none,[4,5]⟩),
   (false,⟨(some 68),.call (.c (.fn (.func 29) [] [])) [(.t 62),(.t 66),(.c (.sc (.int .i64 0))),(.t 67)],none,[2,6,7,6]⟩),
   (false,⟨(some 69),.iaddr 1 (.t 61) (.t 68),none,[1,8]⟩),
   (false,⟨(some 70),.load .one (.t 69),none,[9]⟩)]) (
 .cond (.t 70) (.reg [⟨(some 71),.mv (.t 13),none,[]⟩,
   ⟨(some 72),.bslice 1 1 (.sc (.string ⟨#[]⟩)) [(0,(.c (.sc (.string ⟨#[]⟩))))],none,[]⟩,
   ⟨(some 73),.mappend 1 16 (.t 71) (.t 72),none,[0,1]⟩,
   ⟨(some 13),.mv (.t 73),none,[2,2,0,1,2]⟩]) (
 .skip))
def cp11_ref14_Viable : ACode :=
 .seq (.reg [⟨(some 15),.mv (.c (.sc (.int .i64 0))),none,[]⟩]) (
 .block 2 (.loop lp1_ref14_Viable))
def cp12_ref14_Viable : ACode :=
 .reg [⟨(some 126),.mv (.t 12),none,[]⟩,
  ⟨(some 127),.mv (.t 13),none,[]⟩,
  ⟨(some 6),.mv (.t 126),none,[0,0]⟩,
  ⟨(some 7),.mv (.t 127),none,[1,2,0,1,2]⟩,
  ⟨(some 8),.mv (.c (.sc (.int .i64 0))),none,[3,0,1,2,3]⟩]
def tl13_ref14_Viable : ACode:=.ret
def tl12_ref14_Viable : ACode:=.seq cp12_ref14_Viable tl13_ref14_Viable
def tl11_ref14_Viable : ACode:=.seq cp11_ref14_Viable tl12_ref14_Viable
def tl10_ref14_Viable : ACode:=.seq cp10_ref14_Viable tl11_ref14_Viable
def tl9_ref14_Viable : ACode:=.seq cp9_ref14_Viable tl10_ref14_Viable
def tl8_ref14_Viable : ACode:=.seq cp8_ref14_Viable tl9_ref14_Viable
def tl7_ref14_Viable : ACode:=.seq cp7_ref14_Viable tl8_ref14_Viable
def tl6_ref14_Viable : ACode:=.seq cp6_ref14_Viable tl7_ref14_Viable
def tl5_ref14_Viable : ACode:=.seq cp5_ref14_Viable tl6_ref14_Viable
def tl4_ref14_Viable : ACode:=.seq cp4_ref14_Viable tl5_ref14_Viable
def tl3_ref14_Viable : ACode:=.seq cp3_ref14_Viable tl4_ref14_Viable
def tl2_ref14_Viable : ACode:=.seq cp2_ref14_Viable tl3_ref14_Viable
def tl1_ref14_Viable : ACode:=.seq cp1_ref14_Viable tl2_ref14_Viable
def tl0_ref14_Viable : ACode:=.seq cp0_ref14_Viable tl1_ref14_Viable
end Go.Apx
end
section
namespace Go.Apx
open Go.Proofs
set_option linter.unusedVariables false
set_option linter.unusedSimpArgs false
set_option linter.unnecessarySimpa false
set_option maxRecDepth 4000
theorem OutV.keep {H H' : AHeap} {l : List ByteArray} {v : AV} (h : OutV H l v) (hk : Kp H H') : OutV H' l v:=by
 rcases h with h | ⟨h1,o,gn,rest,rc,h2,h3⟩
 ·exact .inl h
 ·exact .inr ⟨h1,o,gn,rest,rc,h2,hk _ _ h3⟩
theorem OutV.one {H : AHeap} {l : List ByteArray} {v : AV} (h : OutV H l v) : v.isPend = false ∧ v.one = true:=by
 rcases h with ⟨_,rfl⟩ | ⟨_,o,gn,rest,rc,rfl,_⟩ <;> exact ⟨rfl,rfl⟩
theorem rindexO_c (l : List ByteArray) (v : AV) (s : ByteArray) {h : AHeap} (hv : OutV h l v) (hl : l.length ≤ 2 ^ 31) : AEx PP Gl 25 [v,.sc (.string s)] h (.ret (.sc (.int .i64 (indexF l s)))) h:=by
 rcases hv with ⟨rfl,rfl⟩ | ⟨hne,o,gn,rest,rc,rfl,hc⟩
 ·refine enter_ref14_index (by simp) ?_
  simp [code_ref14_index,res_ref14_index,ann_ref14_index]
  refine AWp.cnt 0 [0,1] (fun i=>[(5,i64 i)]) (fun _=>h) (fun _=>True) mixed trivial (le_of (by simp [dslot])) rfl (fun i hi _=>absurd hi (by omega)) fun _=>?_
  simp [lp0_ref14_index]
  exact retE (by simp [deferred,dslot]) rfl (by simp [indexF,placeF]) rfl
 ·refine enter_ref14_index (by simp) ?_
  simp [code_ref14_index,res_ref14_index,ann_ref14_index]
  refine AWp.cnt l.length [0,1] (fun i=>[(5,i64 i)]) (fun _=>h) (fun i=>∀ y ∈ l.take i,decide (y = s) = false) mixed (by simp) (le_of (by simp [dslot])) rfl ?_ ?_
  ·intro i hi hz
   obtain ⟨k,hki⟩ : ∃ k,l[i]? = some k:=⟨l[i],by simp [hi]⟩
   have hlt : (i : Int) < l.length:=by omega
   have hx2 : (l.map sv ++ rest)[i]? = some (sv k):=by rw [List.getElem?_append_left (by simpa using hi)]; simp [hki]
   simp [lp0_ref14_index,hlt,hi,hc,hx2,hki,sv]
   refine ⟨fun hk=>?_,fun hk=>?_⟩
   ·exact retE (by simp [deferred,dslot]) rfl (by simp [indexF,placeF_some hki (by simpa using hk) hz]) rfl
   ·rw [IntWalk.i64_in ((i : Int) + 1) (by omega)]
    refine ⟨by simpa using take_ext hki (q:=fun y=>decide (y = s) = false) hz (by simpa using hk),le_of (by simp [dslot])⟩
  ·intro hz
   simp [lp0_ref14_index]
   exact retE (by simp [deferred,dslot]) rfl (by simp [indexF,placeF_none (take_all hz)]) rfl
theorem GoV {a b c : ACode} {k : Nat} {Q : APost} {env : Env} {h : AHeap} (e : c = .seq a b) (hw : codeWp ⟨PP,Gl,128,ann_ref14_Viable,k,none⟩ a (thenP (fun env' h'=>AWp ⟨PP,Gl,128,ann_ref14_Viable,k,none⟩ b Q env' h') Q) env h) : AWp ⟨PP,Gl,128,ann_ref14_Viable,k,none⟩ c Q env h:=by
 subst e; exact AWp.seq (codeWp_sound mixed hw)
def InL (g gv : Gr) (s : ByteArray) (tx : List ByteArray) (y : ByteArray) : Prop :=
 (y = emp ∧ Der g tx s 0 tx.length) ∨ (y ≠ emp ∧ (∃ R ∈ g.rules,∃ p ∈ R.parts,p.sym = y) ∧ Opn gv (tx ++ [y]) s 0)
structure PreF (gv : Gr) (s : ByteArray) (tx : List ByteArray) (n : Nat) : Prop where
 le : n ≤ tx.length
 all : ∀ m,m < n → Opn gv (tx.take (m + 1)) s 0
 stop : n < tx.length → ¬ Opn gv (tx.take (n + 1)) s 0
def RViaR (g : Gr) (s : ByteArray) (tx : List ByteArray) (S : List ByteArray) (h : AHeap) (r : AEnd) (h' : AHeap) : Prop :=
 Kp h h' ∧ ((askedF g s tx ≠ 0 ∧ r = .ret (.tup [i64 0,.sl 0 [] .nil,i64 (askedF g s tx)])) ∨
  (askedF g s tx = 0 ∧ ((s ∉ S ∧ r = .ret (.tup [i64 0,.sl 0 [] .nil,i64 0])) ∨
   (s ∈ S ∧ ∃ (n : Nat) (l : List ByteArray) (v : AV),r = .ret (.tup [i64 (n : Int),v,i64 0]) ∧ OutV h' l v ∧ PreF (viaG g s S) s tx n ∧ Str l ∧ ∀ y,y ∈ l ↔ InL g (viaG g s S) s (tx.take n) y))))
structure VOk (g : Gr) (s : ByteArray) (tx : List ByteArray) (S : List ByteArray) : Prop where
 so : g.sorts.length ≤ 1000
 r : g.rules.length ≤ 1000
 p : ∀ R ∈ g.rules,R.parts.length ≤ 60
 n : tx.length ≤ 200
 ck : checkF g = 0
 gs : GrowS g yesP S
 st : s ∈ g.sorts
theorem VOk.begins {g : Gr} {s : ByteArray} {tx S : List ByteArray} (hk : VOk g s tx S) (tx' : List ByteArray) (tc : Cap) (hl : tx'.length ≤ 300) {h : AHeap} :
  ACalls PP Gl 27 [encG g,.sc (.string s),.sl 1 (tx'.map sv) tc] h (fun r h'=>(∃ b : Bool,r = .ret (bl b) ∧ (b = true ↔ Opn (viaG g s S) tx' s 0)) ∧ Kp h h') :=
 begins_c g (viaG g s S) s tx' tc S hk.gs hk.ck rfl rfl hk.st hl hk.so (by have:=hk.r; omega) fun R hR=>by have:=hk.p R hR; omega
structure VS where
 i : Nat
 l : List ByteArray
 v : AV
 H : AHeap
structure VI (g gv : Gr) (s : ByteArray) (tx : List ByteArray) (h : AHeap) (m : Nat) (seen : ByteArray → Prop) (l : List ByteArray) (v : AV) (H : AHeap) : Prop where
 out : OutV H l v
 kp : Kp h H
 str : Str l
 sound : ∀ y ∈ l,InL g gv s tx y
 emp : Der g tx s 0 tx.length → emp ∈ l
 full : ∀ y,y ≠ Apx.emp → seen y → Opn gv (tx ++ [y]) s 0 → y ∈ l
 len : l.length ≤ 1 + m
section
variable {g gv : Gr} {s : ByteArray} {tx : List ByteArray} {h : AHeap} {m m' : Nat} {seen seen' : ByteArray → Prop} {l : List ByteArray} {v : AV} {H H' : AHeap}
theorem VI.skip (hv : VI g gv s tx h m seen l v H) (hk : Kp H H') (hm : m ≤ m') (hs : ∀ y,y ≠ Apx.emp → Opn gv (tx ++ [y]) s 0 → seen' y → seen y ∨ y ∈ l) : VI g gv s tx h m' seen' l v H' :=
 ⟨hv.out.keep hk,hv.kp.trans hk,hv.str,hv.sound,hv.emp,fun y hy hsy ho=>(hs y hy ho hsy).elim (fun h1=>hv.full y hy h1 ho) id,by have:=hv.len; omega⟩
theorem VI.put {y : ByteArray} {k : Nat} {w : AV} (hv : VI g gv s tx h m seen l v H) (hk : Kp H H') (hy : y ≠ Apx.emp) (hr : ∃ R ∈ g.rules,∃ p ∈ R.parts,p.sym = y) (ho : Opn gv (tx ++ [y]) s 0) (hn : y ∉ l) (hw : OutV H' (atPut l y k) w) (h1 : ∀ x ∈ l.drop k,sLt y x) (h2 : k = 0 ∨ ∃ x,l[k - 1]? = some x ∧ ¬ sLt y x)
  (hm : m + 1 ≤ m') (hs : ∀ z,seen' z → seen z ∨ z = y) : VI g gv s tx h m' seen' (atPut l y k) w H':=by
 refine ⟨hw,hv.kp.trans hk,strL_put hv.str hn h1 h2,fun z hz=>?_,fun hd=>mem_put.2 (.inr (hv.emp hd)),fun z hz hsz hoz=>?_,?_⟩
 ·rcases mem_put.1 hz with rfl | hz
  ·exact .inr ⟨hy,hr,ho⟩
  ·exact hv.sound z hz
 ·rcases hs z hsz with h3 | rfl
  ·exact mem_put.2 (.inr (hv.full z hz h3 hoz))
  ·exact mem_put.2 (.inl rfl)
 ·rw [atPut_len]; have:=hv.len; omega
end
def seenR (g : Gr) (i : Nat) (y : ByteArray) : Prop:=∃ (r : Nat) (R : Rl) (p : Pt),r < i ∧ g.rules[r]? = some R ∧ p ∈ R.parts ∧ p.sym = y
def seenP (g : Gr) (i k : Nat) (R : Rl) (y : ByteArray) : Prop:=seenR g i y ∨ ∃ (j : Nat) (p : Pt),j < k ∧ R.parts[j]? = some p ∧ p.sym = y
theorem seenP_step {g : Gr} {i k : Nat} {R : Rl} {p : Pt} (hp : R.parts[k]? = some p) {y : ByteArray} (h : seenP g i (k + 1) R y) : seenP g i k R y ∨ y = p.sym:=by
 rcases h with h | ⟨j,q,h1,h2,h3⟩
 ·exact .inl (.inl h)
 ·rcases Nat.lt_succ_iff_lt_or_eq.1 h1 with h1 | rfl
  ·exact .inl (.inr ⟨j,q,h1,h2,h3⟩)
  ·rw [hp] at h2; cases h2; exact .inr h3.symm
theorem seenR_step {g : Gr} {i : Nat} {R : Rl} (hR : g.rules[i]? = some R) {y : ByteArray} (h : seenR g (i + 1) y) : seenP g i R.parts.length R y:=by
 obtain ⟨r,R',p,h1,h2,h3,h4⟩:=h
 rcases Nat.lt_succ_iff_lt_or_eq.1 h1 with h1 | rfl
 ·exact .inl ⟨r,R',p,h1,h2,h3,h4⟩
 ·rw [hR] at h2; cases h2
  obtain ⟨j,hj⟩:=List.getElem?_of_mem h3
  exact .inr ⟨j,p,(List.getElem?_eq_some_iff.1 hj).1,hj,h4⟩
theorem seen_all {g : Gr} {y : ByteArray} (h : ∃ R ∈ g.rules,∃ p ∈ R.parts,p.sym = y) : seenR g g.rules.length y:=by
 obtain ⟨R,hR,p,hp,e⟩:=h
 obtain ⟨r,hr⟩:=List.getElem?_of_mem hR
 exact ⟨r,R,p,(List.getElem?_eq_some_iff.1 hr).1,hr,hp,e⟩
theorem index_neg {l : List ByteArray} {s : ByteArray} : indexF l s < 0 ↔ s ∉ l:=by
 rw [← hasF_iff]; unfold hasF; simp
set_option maxHeartbeats 8000000 in
theorem rv11 (g : Gr) (s : ByteArray) (tx S : List ByteArray) (tc : Cap) (n : Nat) (l0 : List ByteArray) (v0 : AV) {h H : AHeap} (hk : VOk g s tx S) (ha : askedF g s tx = 0) (hsS : s ∈ S) (hn : PreF (viaG g s S) s tx n) (h0 : VI g (viaG g s S) s (tx.take n) h 0 (seenR g 0) l0 v0 H) :
  AWp ⟨PP,Gl,128,ann_ref14_Viable,h.length,none⟩ tl11_ref14_Viable (retPost PP Gl h res_ref14_Viable (RViaR g s tx S h)) [(1,.sc (.string s)),(2,.sl 1 (tx.map sv) tc),(3,.ip (encG g)),(12,i64 (n : Int)),(13,v0)] H:=by
 have hnl:=hn.le
 have htl : (tx.take n).length = n:=by simp; omega
 have hk1:=hk.r
 have hk2:=hk.n
 have h0v:=h0.out.one
 refine GoV (a:=cp11_ref14_Viable) (b:=tl12_ref14_Viable) rfl ?_
 simp -implicitDefEqProofs [cp11_ref14_Viable,h0v.1,encG]
 refine AWp.till (S:=VS) ⟨0,l0,v0,H⟩ (fun st=>g.rules.length - st.i) [1,2,3,12] (fun st=>[(13,st.v),(15,i64 (st.i : Int))]) (fun st=>st.H)
  (fun st=>st.i ≤ g.rules.length ∧ VI g (viaG g s S) s (tx.take n) h (60 * st.i) (seenR g st.i) st.l st.v st.H) mixed ⟨by simp,by simpa using h0⟩ (le_of (by simp [dslot,h0v.1])) rfl ?_
 rintro ⟨i,l,v,H1⟩ ⟨z1,z2⟩
 simp only at z1 z2
 have hv1:=z2.out.one
 by_cases hi : i < g.rules.length
 case neg =>
  have hno : ¬ (i : Int) < g.rules.length:=by omega
  have hie : i = g.rules.length:=by omega
  subst hie
  simp -implicitDefEqProofs [lp1_ref14_Viable,hv1.1]
  refine codeWp_sound mixed ?_
  simp -implicitDefEqProofs [tl12_ref14_Viable,cp12_ref14_Viable,tl13_ref14_Viable,res_ref14_Viable,hv1.1]
  refine ret1 (v:=.tup [i64 (n : Int),v,i64 0]) (by simp [deferred,dslot]) (by simp [evalRes,evalRes1,hv1.1,hv1.2]) ⟨z2.kp,.inr ⟨ha,.inr ⟨hsS,n,l,v,rfl,z2.out,hn,z2.str,fun y=>⟨fun hy=>z2.sound y hy,fun hy=>?_⟩⟩⟩⟩
  rcases hy with ⟨rfl,hd⟩ | ⟨hne,hr,ho⟩
  ·exact z2.emp hd
  ·exact z2.full y hne (seen_all hr) ho
 obtain ⟨R,hR⟩ : ∃ R,g.rules[i]? = some R:=⟨g.rules[i],by simp [hi]⟩
 have hRm:=List.mem_of_getElem? hR
 have hlt : (i : Int) < g.rules.length:=by omega
 have hne : g.rules ≠ []:=by intro e; rw [e] at hi; simp at hi
 have wi : IntKind.i64.wrap ((i : Int) + 1) = (i : Int) + 1:=IntWalk.i64_in _ (by omega)
 have hpl:=hk.p R hRm
 simp -implicitDefEqProofs [lp1_ref14_Viable,hlt,hv1.1]
 refine AWp.till (S:=VS) ⟨0,l,v,H1⟩ (fun st=>R.parts.length - st.i) [1,2,3,12,15] (fun st=>[(13,st.v),(16,i64 (st.i : Int))]) (fun st=>st.H)
  (fun st=>st.i ≤ R.parts.length ∧ VI g (viaG g s S) s (tx.take n) h (60 * i + st.i) (seenP g i st.i R) st.l st.v st.H) mixed ⟨by simp,z2.skip (fun _ _ hz=>hz) (by simp) fun y _ _ hy=>.inl ?_⟩ (le_of (by simp [dslot,hv1.1])) rfl ?_
 ·rcases hy with hy | ⟨j,p,hj,_⟩
  ·exact hy
  ·exact absurd hj (Nat.not_lt_zero _)
 rintro ⟨k,l2,v2,H2⟩ ⟨y1,y2⟩
 simp only at y1 y2
 have hv2:=y2.out.one
 by_cases hkk : k < R.parts.length
 case neg =>
  have hno : ¬ (k : Int) < R.parts.length:=by omega
  have hke : k = R.parts.length:=by omega
  subst hke
  simp -implicitDefEqProofs [lp2_ref14_Viable,hR,encR,hv2.1,wi]
  exact ⟨⟨i + 1,l2,v2,H2⟩,by simp; omega,⟨by simp; omega,y2.skip (fun _ _ hz=>hz) (by simp; omega) fun y _ _ hy=>.inl (seenR_step hR hy)⟩,le_of (by simp [dslot,hv2.1]),rfl⟩
 obtain ⟨p,hp⟩ : ∃ p,R.parts[k]? = some p:=⟨R.parts[k],by simp [hkk]⟩
 have hpm:=List.mem_of_getElem? hp
 have hkl : (k : Int) < R.parts.length:=by omega
 have hpne : R.parts ≠ []:=by intro e; rw [e] at hkk; simp at hkk
 have wk : IntKind.i64.wrap ((k : Int) + 1) = (k : Int) + 1:=IntWalk.i64_in _ (by omega)
 have hl2:=y2.len
 by_cases hy : p.sym = (⟨#[]⟩ : ByteArray)
 ·simp -implicitDefEqProofs [lp2_ref14_Viable,hR,encR,hkl,hp,encP,hy,hv2.1,wk]
  refine ⟨⟨k + 1,l2,v2,H2⟩,by simp; omega,⟨by simp; omega,y2.skip (fun _ _ hz=>hz) (by simp) fun y hne2 _ hsy=>?_⟩,le_of (by simp [dslot,hv2.1]),rfl⟩
  rcases seenP_step hp hsy with h1 | h1
  ·exact .inl h1
  ·exact (hne2 (h1.trans hy)).elim
 by_cases hm : p.sym ∈ l2
 ·have hx : ¬ indexF l2 p.sym < 0:=fun hh=>index_neg.1 hh hm
  simp -implicitDefEqProofs [lp2_ref14_Viable,hR,encR,hkl,hp,encP,hy,hv2.1]
  refine callk (rindexO_c l2 v2 p.sym y2.out (by omega)) rfl rfl ?_
  simp -implicitDefEqProofs [hx,wk,hv2.1]
  refine ⟨⟨k + 1,l2,v2,H2⟩,by simp; omega,⟨by simp; omega,y2.skip (fun _ _ hz=>hz) (by simp) fun y hne2 _ hsy=>?_⟩,le_of (by simp [dslot,hv2.1]),rfl⟩
  rcases seenP_step hp hsy with h1 | h1
  ·exact .inl h1
  ·exact .inr (by rw [h1]; exact hm)
 have hx : indexF l2 p.sym < 0:=index_neg.2 hm
 simp -implicitDefEqProofs [lp2_ref14_Viable,hR,encR,hkl,hp,encP,hy,hv2.1]
 refine callk (rindexO_c l2 v2 p.sym y2.out (by omega)) rfl rfl ?_
 simp -implicitDefEqProofs [hx,hv2.1,hnl]
 generalize (if n = tx.length then tc else if tc = Cap.full ∧ n = tx.length then Cap.full else Cap.any) = tc2
 refine appCopy ((tx.take n).map sv) (by simp) (by simp [elems]) (by simp; unfold maxLenA; omega) fun c1 J1 hc1=>?_
 simp -implicitDefEqProofs
 refine appOn ((tx.take n).map sv) (sv p.sym) hc1 (by simp) (by simp [elems,sv]) (by simp; unfold maxLenA; omega) fun c2 J2=>?_
 simp -implicitDefEqProofs
 refine callr (hk.begins (tx.take n ++ [p.sym]) c2 (by simp; omega) (h:=H2 ++ J2)) (by simp [encG,sv]) rfl ?_
 rintro r3 H3 ⟨⟨b,rfl,hb⟩,hkp⟩
 have hkp2:=(Kp.app H2 J2).trans hkp
 cases b with
 | false =>
  simp -implicitDefEqProofs [hv2.1,wk]
  refine ⟨⟨k + 1,l2,v2,H3⟩,by simp; omega,⟨by simp; omega,y2.skip hkp2 (by simp) fun y hne2 ho hsy=>?_⟩,le_of (by simp [dslot,hv2.1]),rfl⟩
  rcases seenP_step hp hsy with h1 | h1
  ·exact .inl h1
  ·rw [h1] at ho; have:=hb.2 ho; cases this
 | true =>
  simp -implicitDefEqProofs [hv2.1]
  refine callr (put_c l2 p.sym v2 (by omega) (y2.out.keep hkp2)) rfl rfl ?_
  rintro r4 H4 ⟨kk,w,rfl,hw,q1,q2,hkp4⟩
  have hv4:=hw.one
  simp -implicitDefEqProofs [hv4.1,hv4.2,wk]
  exact ⟨⟨k + 1,atPut l2 p.sym kk,w,H4⟩,by simp; omega,⟨by simp; omega,y2.put (hkp2.trans hkp4) hy ⟨R,hRm,p,hpm,rfl⟩ (hb.1 rfl) hm hw q1 q2 (by simp; omega) fun z hz=>seenP_step hp hz⟩,le_of (by simp [dslot,hv4.1]),rfl⟩
end Go.Apx
end
section
namespace Go.Apx
open Go.Proofs
set_option linter.unusedVariables false
set_option linter.unusedSimpArgs false
set_option linter.unnecessarySimpa false
set_option maxRecDepth 4000
set_option maxHeartbeats 8000000 in
theorem rv9 (g : Gr) (s : ByteArray) (tx S : List ByteArray) (tc : Cap) (n : Nat) {h H : AHeap} (hk : VOk g s tx S) (ha : askedF g s tx = 0) (hsS : s ∈ S) (hn : PreF (viaG g s S) s tx n) (hH : Kp h H) :
  AWp ⟨PP,Gl,128,ann_ref14_Viable,h.length,none⟩ tl9_ref14_Viable (retPost PP Gl h res_ref14_Viable (RViaR g s tx S h)) [(1,.sc (.string s)),(2,.sl 1 (tx.map sv) tc),(3,.ip (encG g)),(12,i64 (n : Int)),(13,.sl 0 [] .nil)] H:=by
 have hnl:=hn.le
 have hk1:=hk.r
 have hk2:=hk.n
 have hk3:=hk.so
 have hnm:=check_named hk.ck
 obtain ⟨t,ht⟩ : ∃ t,t = tx.take n:=⟨_,rfl⟩
 have htl : t.length = n:=by rw [ht]; simp; omega
 obtain ⟨x,hx,hxs⟩:=index_of hk.st
 have hxl:=(List.getElem?_eq_some_iff.1 hxs).1
 have h0 : ∀ y,¬ seenR g 0 y:=fun y ⟨r,_,_,hr,_⟩=>absurd hr (Nat.not_lt_zero _)
 refine GoV (a:=cp9_ref14_Viable) (b:=tl10_ref14_Viable) rfl ?_
 simp -implicitDefEqProofs [cp9_ref14_Viable,encG,hnl]
 generalize (if n = tx.length then tc else if tc = Cap.full ∧ n = tx.length then Cap.full else Cap.any) = tc2
 refine callr (all_c g t tc2 (h:=H) ⟨by omega,hk.so,by omega,fun R hR=>by have:=hk.p R hR; omega,hnm⟩) (by simp [encG,ht]) rfl ?_
 rintro r2 H2 ⟨X,J0,rfl,rfl,hso,hfu,hXl⟩
 have hg1 : (HA H t.length X.length X J0)[H.length + 1]? = some (.cells 0 (X.map bl)):=HA_get1
 have hHk : Kp H (HA H t.length X.length X J0):=fun z x hz=>by rw [HA_old (List.getElem?_eq_some_iff.1 hz).1]; exact hz
 have hix : atF n x 0 n < X.length:=by rw [hXl,htl]; exact atF_lt hxl (Nat.zero_le _) (Nat.le_refl _)
 obtain ⟨w,hw⟩ : ∃ w,X[atF n x 0 n]? = some w:=⟨_,List.getElem?_eq_getElem hix⟩
 have hw2 : X[atF n x 0 n]'hix = w:=(List.getElem?_eq_some_iff.1 hw).2
 have hd : w = true ↔ Der g t s 0 n:=by
  rw [← marks_right hso hfu hk.st (Nat.zero_le _) n]
  unfold Mk markF
  rw [htl,hx]
  simp [List.getD,hw]
 rw [htl] at hg1 hHk hXl ⊢
 generalize HA H n X.length X J0 = H2 at *
 generalize H.length + 1 = o at *
 simp -implicitDefEqProofs
 refine AWp.keep [1,2,3,12,13,14] (le_of (by simp [dslot])) ?_
 refine GoV (a:=cp10_ref14_Viable) (b:=tl11_ref14_Viable) rfl ?_
 simp -implicitDefEqProofs [cp10_ref14_Viable,encX]
 refine callk (rindex14_c g.sorts g.sc s (by omega)) rfl rfl ?_
 simp -implicitDefEqProofs [hx]
 refine callk (at_c n o X.length x 0 n (by omega) (by omega) (by omega) (by omega)) (by simp [encX]) rfl ?_
 cases w with
 | true =>
  have hvi : VI g (viaG g s S) s (tx.take n) h 0 (seenR g 0) [emp] (.rf H2.length 0 0 1 (.own 1)) (H2 ++ [.cells 0 [sv emp]]):=by
   rw [← ht]
   exact ⟨.inr ⟨by simp,H2.length,0,[],.own 1,rfl,by simp⟩,(hH.trans hHk).trans (Kp.app _ _),List.pairwise_singleton _ _,fun y hy=>.inl ⟨by simpa using hy,by rw [htl]; exact hd.1 rfl⟩,fun _=>by simp,fun y _ hy=>(h0 y hy).elim,by simp⟩
  simp -implicitDefEqProofs [hg1,hix,hw,hw2,maxLenA,elems]
  exact (rv11 g s tx S tc n [emp] _ hk ha hsS hn hvi).weaken (le_of (by simp [dslot,encG]))
 | false =>
  have hvi : VI g (viaG g s S) s (tx.take n) h 0 (seenR g 0) [] (.sl 0 [] .nil) H2:=by
   rw [← ht]
   exact ⟨.inl ⟨rfl,rfl⟩,hH.trans hHk,List.Pairwise.nil,fun y hy=>(by cases hy),fun hdd=>(by rw [htl] at hdd; have:=hd.2 hdd; cases this),fun y _ hy=>(h0 y hy).elim,by simp⟩
  simp -implicitDefEqProofs [hg1,hix,hw,hw2]
  exact (rv11 g s tx S tc n [] _ hk ha hsS hn hvi).weaken (le_of (by simp [dslot,encG]))
set_option maxHeartbeats 8000000 in
theorem rv8 (g : Gr) (s : ByteArray) (tx S : List ByteArray) (tc : Cap) (n : Nat) {h H : AHeap} (hk : VOk g s tx S) (ha : askedF g s tx = 0) (hsS : s ∈ S) (hn : PreF (viaG g s S) s tx n) (hH : Kp h H) :
  AWp ⟨PP,Gl,128,ann_ref14_Viable,h.length,none⟩ tl8_ref14_Viable (retPost PP Gl h res_ref14_Viable (RViaR g s tx S h)) [(1,.sc (.string s)),(2,.sl 1 (tx.map sv) tc),(3,.ip (encG g)),(12,i64 (n : Int))] H:=by
 refine GoV (a:=cp8_ref14_Viable) (b:=tl9_ref14_Viable) rfl ?_
 simp -implicitDefEqProofs [cp8_ref14_Viable]
 exact (rv9 g s tx S tc n hk ha hsS hn hH).weaken (le_of (by simp [dslot]))
set_option maxHeartbeats 8000000 in
theorem rv7 (g : Gr) (s : ByteArray) (tx S : List ByteArray) (tc : Cap) {h : AHeap} (hk : VOk g s tx S) (ha : askedF g s tx = 0) (hsS : s ∈ S) :
  AWp ⟨PP,Gl,128,ann_ref14_Viable,h.length,none⟩ tl7_ref14_Viable (retPost PP Gl h res_ref14_Viable (RViaR g s tx S h)) [(1,.sc (.string s)),(2,.sl 1 (tx.map sv) tc),(3,.ip (encG g)),(12,i64 0)] h:=by
 have hk2:=hk.n
 refine GoV (a:=cp7_ref14_Viable) (b:=tl8_ref14_Viable) rfl ?_
 simp -implicitDefEqProofs [cp7_ref14_Viable]
 refine AWp.till (S:=KJ) ⟨0,h⟩ (fun st=>tx.length - st.k) [1,2,3] (fun st=>[(12,i64 (st.k : Int))]) (fun st=>st.J)
  (fun st=>st.k ≤ tx.length ∧ Kp h st.J ∧ ∀ m,m < st.k → Opn (viaG g s S) (tx.take (m + 1)) s 0) mixed ⟨by simp,fun _ _ hz=>hz,fun m hm=>absurd hm (Nat.not_lt_zero _)⟩ (le_of (by simp [dslot])) rfl ?_
 rintro ⟨k,H⟩ ⟨z1,z2,z3⟩
 simp only at z1 z2 z3
 by_cases hkl : k < tx.length
 case neg =>
  have hno : ¬ (k : Int) < tx.length:=by omega
  simp -implicitDefEqProofs [lp0_ref14_Viable,hno]
  exact (rv8 g s tx S tc k hk ha hsS ⟨by omega,z3,fun hh=>(hkl hh).elim⟩ z2).weaken (le_of (by simp [dslot]))
 have hlt : (k : Int) < tx.length:=by omega
 have wk : IntKind.i64.wrap ((k : Int) + 1) = (k : Int) + 1:=IntWalk.i64_in _ (by omega)
 have w2 : ((k : Int) + 1).toNat = k + 1:=by omega
 have w3 : (0 : Int) ≤ (k : Int) + 1:=by omega
 have w5 : k + 1 ≤ tx.length:=hkl
 simp -implicitDefEqProofs [lp0_ref14_Viable,hlt,wk,w2,w3,w5,encG]
 generalize (if k + 1 = tx.length then tc else if tc = Cap.full ∧ k + 1 = tx.length then Cap.full else Cap.any) = tc2
 refine callr (hk.begins (tx.take (k + 1)) tc2 (by simp; omega) (h:=H)) (by simp [encG]) rfl ?_
 rintro r3 H3 ⟨⟨b,rfl,hb⟩,hkp⟩
 cases b with
 | false =>
  simp -implicitDefEqProofs
  exact (rv8 g s tx S tc k hk ha hsS ⟨by omega,z3,fun _ hh=>by have:=hb.2 hh; cases this⟩ (z2.trans hkp)).weaken (le_of (by simp [dslot,encG]))
 | true =>
  simp -implicitDefEqProofs [wk]
  refine ⟨⟨k + 1,H3⟩,by simp; omega,⟨by simp; omega,z2.trans hkp,fun m hm=>?_⟩,le_of (by simp [dslot,encG]),rfl⟩
  rcases Nat.lt_succ_iff_lt_or_eq.1 hm with h1 | rfl
  ·exact z3 m h1
  ·exact hb.1 rfl
set_option maxHeartbeats 8000000 in
theorem rviable_c (g : Gr) (s : ByteArray) (tx S : List ByteArray) (tc : Cap) (hs31 : g.sorts.length ≤ 2 ^ 31) (hr31 : g.rules.length ≤ 2 ^ 31) (hk : askedF g s tx = 0 → VOk g s tx S) {h : AHeap} :
  ACalls PP Gl 7 [encG g,.sc (.string s),.sl 1 (tx.map sv) tc] h (RViaR g s tx S h):=by
 have hkr : Kp h h:=fun _ _ hz=>hz
 refine acalls_of_code Tryz.func7 body_ref14_Viable comp_ref14_Viable resc_ref14_Viable (by simp) (by simp [dslot]) ?_
 show AWp _ tl0_ref14_Viable _ _ _
 refine GoV (a:=cp0_ref14_Viable) (b:=tl1_ref14_Viable) rfl ?_
 simp -implicitDefEqProofs [cp0_ref14_Viable,ann_ref14_Viable,encG]
 refine GoV (a:=cp1_ref14_Viable) (b:=tl2_ref14_Viable) rfl ?_
 simp -implicitDefEqProofs [cp1_ref14_Viable]
 refine callk (rcheck_c g hs31 hr31) (by simp [encG]) rfl ?_
 by_cases hck : checkF g = 0
 case neg =>
  have ha : askedF g s tx = checkF g:=by unfold askedF; rw [if_pos hck]
  simp -implicitDefEqProofs [hck,res_ref14_Viable]
  exact ret1 (v:=.tup [i64 0,.sl 0 [] .nil,i64 (checkF g)]) (by simp [deferred,dslot]) (by simp [evalRes,evalRes1]) ⟨hkr,.inl ⟨by rw [ha]; exact hck,by rw [ha]⟩⟩
 simp -implicitDefEqProofs [hck]
 refine GoV (a:=cp2_ref14_Viable) (b:=tl3_ref14_Viable) rfl ?_
 simp -implicitDefEqProofs [cp2_ref14_Viable]
 refine callk (rindex14_c g.sorts g.sc s hs31) rfl rfl ?_
 have hasf : askedF g s tx = if hasF g.sorts s = true then (if tx.length > 200 then 4 else 0) else 5:=by
  unfold askedF
  rw [if_neg (by simpa using hck)]
  cases hh : hasF g.sorts s <;> simp
 by_cases hss : s ∈ g.sorts
 case neg =>
  have hx:=index_neg.2 hss
  have hh : hasF g.sorts s = false:=by cases hq : hasF g.sorts s with
   | false=>rfl
   | true=>exact (hss (has_mem hq)).elim
  have ha : askedF g s tx = 5:=by rw [hasf,hh]; rfl
  simp -implicitDefEqProofs [hx,res_ref14_Viable]
  exact ret1 (v:=.tup [i64 0,.sl 0 [] .nil,i64 5]) (by simp [deferred,dslot]) (by simp [evalRes,evalRes1]) ⟨hkr,.inl ⟨by rw [ha]; decide,by rw [ha]⟩⟩
 have hx : ¬ indexF g.sorts s < 0:=fun hh=>index_neg.1 hh hss
 rw [mem_has hss] at hasf
 simp -implicitDefEqProofs [hx]
 refine GoV (a:=cp3_ref14_Viable) (b:=tl4_ref14_Viable) rfl ?_
 by_cases hl : (200 : Int) < tx.length
 ·have ha : askedF g s tx = 4:=by rw [hasf,if_pos rfl,if_pos (by omega)]
  simp -implicitDefEqProofs [cp3_ref14_Viable,hl,res_ref14_Viable]
  exact ret1 (v:=.tup [i64 0,.sl 0 [] .nil,i64 4]) (by simp [deferred,dslot]) (by simp [evalRes,evalRes1]) ⟨hkr,.inl ⟨by rw [ha]; decide,by rw [ha]⟩⟩
 have ha : askedF g s tx = 0:=by rw [hasf,if_pos rfl,if_neg (by omega)]
 have hv:=hk ha
 simp -implicitDefEqProofs [cp3_ref14_Viable,hl]
 refine GoV (a:=cp4_ref14_Viable) (b:=tl5_ref14_Viable) rfl ?_
 simp -implicitDefEqProofs [cp4_ref14_Viable]
 refine callk (rproductive_c g S hv.gs hck hr31 hv.so (fun R hR=>by have:=hv.p R hR; omega) (check_places hck)) (by simp [encG]) rfl ?_
 simp -implicitDefEqProofs
 refine GoV (a:=cp5_ref14_Viable) (b:=tl6_ref14_Viable) rfl ?_
 simp -implicitDefEqProofs [cp5_ref14_Viable]
 have hPl : (pickS g S).length ≤ 2 ^ 31:=Nat.le_trans (List.length_filter_le _ _) (by have:=hv.so; omega)
 refine callk (rindex14g_c (pickS g S) s hPl) rfl rfl ?_
 by_cases hsS : s ∈ S
 case neg =>
  have hx2 : indexF (pickS g S) s < 0:=index_neg.2 fun hh=>hsS (pickS_mem.1 hh).2
  simp -implicitDefEqProofs [hx2,res_ref14_Viable]
  exact ret1 (v:=.tup [i64 0,.sl 0 [] .nil,i64 0]) (by simp [deferred,dslot]) (by simp [evalRes,evalRes1]) ⟨hkr,.inr ⟨ha,.inl ⟨hsS,rfl⟩⟩⟩
 have hx2 : ¬ indexF (pickS g S) s < 0:=fun hh=>index_neg.1 hh (pickS_mem.2 ⟨hss,hsS⟩)
 simp -implicitDefEqProofs [hx2]
 refine GoV (a:=cp6_ref14_Viable) (b:=tl7_ref14_Viable) rfl ?_
 simp -implicitDefEqProofs [cp6_ref14_Viable]
 exact (rv7 g s tx S tc hv ha hsS).weaken (le_of (by simp [dslot,encG]))
end Go.Apx
end
section
namespace Go.Apx
open Go.Proofs
set_option linter.unusedVariables false
set_option linter.unusedSimpArgs false
set_option linter.unnecessarySimpa false
set_option maxRecDepth 4000
theorem derP_conv {g : Gr} {tx : List ByteArray} {ps : List Pt} {i j : Nat} (h : DerP g tx ps i j) : DerP (convG g) tx ps i j:=by
 induction h with
 | nil=>exact .nil _
 | sym hs ht h ih=>exact .sym hs ht ih
 | @arg p ps i k j r R hs hr he h1 h2 ih1 ih2=>exact .arg (r:=r) (R:=convR R) hs (by rw [conv_get,hr]; rfl) he ih1 ih2
theorem der_conv {g : Gr} {tx : List ByteArray} {s : ByteArray} {i j : Nat} (h : Der g tx s i j) : Der (convG g) tx s i j:=by
 obtain ⟨r,R,hr,he,h⟩:=h
 exact ⟨r,convR R,by rw [conv_get,hr]; rfl,he,derP_conv h⟩
theorem opn_to {g : Gr} {s y : ByteArray} {S tx : List ByteArray} {i : Nat} (h : Opn (viaG g s S) tx y i) : Opn (viaG (convG g) s S) tx y i:=by
 induction h with
 | @stop r k i R hr hu hd =>
  have h1 : (viaG (convG g) s S).rules[r]? = some (convR R):=by
   show (convG g).rules[r]? = _
   rw [conv_get,show g.rules[r]? = some R from hr]; rfl
  exact Opn.stop (k:=k) (R:=convR R) h1 hu (DerP.conv (g:=convG g) (g':=viaG (convG g) s S) rfl (derP_conv (DerP.conv (g:=viaG g s S) (g':=g) rfl hd)))
 | @into r k i j R p hr hu hp hs hd h ih =>
  have h1 : (viaG (convG g) s S).rules[r]? = some (convR R):=by
   show (convG g).rules[r]? = _
   rw [conv_get,show g.rules[r]? = some R from hr]; rfl
  exact Opn.into (k:=k) (R:=convR R) h1 hu hp hs (DerP.conv (g:=convG g) (g':=viaG (convG g) s S) rfl (derP_conv (DerP.conv (g:=viaG g s S) (g':=g) rfl hd))) ih
theorem opn_back {g : Gr} {s y : ByteArray} {S tx : List ByteArray} {i : Nat} (h : Opn (viaG (convG g) s S) tx y i) : Opn (viaG g s S) tx y i:=by
 induction h with
 | @stop r k i R hr hu hd =>
  have hr' : (convG g).rules[r]? = some R:=hr
  rw [conv_get] at hr'
  cases hR : g.rules[r]? with
  | none=>rw [hR] at hr'; cases hr'
  | some R0 =>
   rw [hR] at hr'
   cases hr'
   exact Opn.stop (g:=viaG g s S) (k:=k) (R:=R0) hR hu (DerP.conv (g:=g) (g':=viaG g s S) rfl (conv_derP (DerP.conv (g:=viaG (convG g) s S) (g':=convG g) rfl hd)))
 | @into r k i j R p hr hu hp hs hd h ih =>
  have hr' : (convG g).rules[r]? = some R:=hr
  rw [conv_get] at hr'
  cases hR : g.rules[r]? with
  | none=>rw [hR] at hr'; cases hr'
  | some R0 =>
   rw [hR] at hr'
   cases hr'
   exact Opn.into (g:=viaG g s S) (k:=k) (R:=R0) hR hu hp hs (DerP.conv (g:=g) (g':=viaG g s S) rfl (conv_derP (DerP.conv (g:=viaG (convG g) s S) (g':=convG g) rfl hd))) ih
theorem closed_conv {g : Gr} {pm : Pt → Bool} {S : List ByteArray} : ClosedS (convG g) pm S ↔ ClosedS g pm S :=
 ⟨fun h R hR hp=>h (convR R) (List.mem_map.2 ⟨R,hR,rfl⟩) hp,fun h R hR hp=>by
  obtain ⟨R0,h0,rfl⟩:=List.mem_map.1 hR
  exact h R0 h0 hp⟩
theorem grow_conv {g : Gr} {pm : Pt → Bool} {S : List ByteArray} (h : GrowS g pm S) : GrowS (convG g) pm S:=⟨closed_conv.2 h.closed,fun C hC=>h.least C (closed_conv.1 hC)⟩
theorem conv_asked (g : Gr) (s : ByteArray) (tx : List ByteArray) : askedF (convG g) s tx = askedF g s tx:=by
 unfold askedF
 rw [conv_check]; rfl
theorem pre_eq {gv : Gr} {s : ByteArray} {tx : List ByteArray} {n m : Nat} (h : PreF gv s tx n) (hm : m ≤ tx.length) (ho : ∀ k,0 < k → k ≤ tx.length → (Opn gv (tx.take k) s 0 ↔ k ≤ m)) : n = m:=by
 have hn:=h.le
 rcases Nat.lt_trichotomy n m with h1 | h1 | h1
 ·exact (h.stop (by omega) ((ho (n + 1) (by omega) (by omega)).2 h1)).elim
 ·exact h1
 ·have:=(ho (m + 1) (by omega) (by omega)).1 (h.all m h1); omega
theorem in_out {g : Gr} {s : ByteArray} {S : List ByteArray} {tx : List ByteArray} {Q : List (List Itm × Nat)} {L : List Itm} {D : List Sp} (hck : checkF g = 0) (hS : GrowS g yesP S)
  (h : NF (viaG g s S) tx s Q L D) (he : Q.length = tx.length ∨ scanF (viaG g s S) tx Q.length L = []) (y : ByteArray) : y ∈ outS (outL g s Q.length L D) ↔ InL (convG g) (viaG (convG g) s S) s (tx.take Q.length) y:=by
 have hl : (tx.take Q.length).length = Q.length:=by have:=h.li.n; simp; omega
 unfold InL
 by_cases hy : y = emp
 ·subst hy
  rw [via_emp hck hS h he,hl]
  constructor
  ·intro hd; exact .inl ⟨rfl,der_conv hd⟩
  ·rintro (⟨_,hd⟩ | ⟨hn,_⟩)
   ·exact conv_der hd
   ·exact (hn rfl).elim
 ·have h2:=opn_more h (via_us hS hck s tx) (fun y=>via_us hS hck s _) rfl he (y:=y)
  rw [outS_mem,outL_sym hy]
  constructor
  ·rintro ⟨x,p,h3,h4,h5,h6⟩
   refine .inr ⟨hy,?_,opn_to (h2.2 ⟨x,p,h3,h4,h5,h6⟩)⟩
   unfold nextF at h4
   cases hR : g.rules[x.r]? with
   | none=>rw [hR] at h4; cases h4
   | some R =>
    rw [hR] at h4
    exact ⟨convR R,List.mem_map.2 ⟨R,List.mem_of_getElem? hR,rfl⟩,p,List.mem_of_getElem? (show R.parts[x.d]? = some p from h4),h6⟩
  ·rintro (⟨h3,_⟩ | ⟨_,_,h3⟩)
   ·exact (hy h3).elim
   ·exact h2.1 (opn_back h3)
theorem via_ref {g : Gr} {s : ByteArray} {tx S : List ByteArray} {h h' : AHeap} {r : AEnd} (hbd : askedF g s tx = 0 → BdG g tx) (p : ViaR g s tx h r h') (hS : askedF g s tx = 0 → GrowS g yesP S) :
  ∃ (n : Nat) (l : List ByteArray) (v : AV) (e : Int),r = .ret (.tup [i64 (n : Int),v,i64 e]) ∧ OutV h' l v ∧ l.length ≤ 400000 ∧
   ∀ (H2 : AHeap) (r2 : AEnd),RViaR (convG g) s tx S h' r2 H2 → ∃ w,r2 = .ret (.tup [i64 (n : Int),w,i64 e]) ∧ OutV H2 l w:=by
 rcases p.2 with ⟨q1,rfl⟩ | ⟨ha,S',hS',q⟩
 ·refine ⟨0,[],_,_,rfl,.inl ⟨rfl,rfl⟩,by simp,fun H2 r2 hr=>?_⟩
  rcases hr.2 with ⟨_,rfl⟩ | ⟨e1,_⟩
  ·rw [conv_asked]; exact ⟨_,rfl,.inl ⟨rfl,rfl⟩⟩
  ·rw [conv_asked] at e1; exact (q1 e1).elim
 have hck:=(asked_check ha).1
 have hSS:=hS ha
 have hvv:=hSS.via hS' s
 rcases q with ⟨q1,rfl⟩ | ⟨q1,Q,L,D,q2,q3,v,q4,rfl⟩
 ·refine ⟨0,[],_,_,rfl,.inl ⟨rfl,rfl⟩,by simp,fun H2 r2 hr=>?_⟩
  rcases hr.2 with ⟨e1,_⟩ | ⟨_,⟨_,rfl⟩ | ⟨e1,_⟩⟩
  ·rw [conv_asked] at e1; exact (e1 ha).elim
  ·exact ⟨_,rfl,.inl ⟨rfl,rfl⟩⟩
  ·exact (q1 ((hSS.mem hS').1 e1)).elim
 ·have hbdg:=hbd ha
  have hbd' : BdG (viaG g s S') tx:=⟨hbdg.r,hbdg.p,hbdg.n⟩
  have hbL:=snd_bound hbd' q2.li.sL q2.li.nd
  have hlen : (outS (outL g s Q.length L D)).length ≤ 400000:=by
   refine Nat.le_trans (outS_length _) ?_
   unfold outL
   have h1:=List.length_filterMap_le (follX g) L
   rw [List.length_append]
   split <;> simp <;> omega
  refine ⟨Q.length,_,v,_,rfl,q4,hlen,fun H2 r2 hr=>?_⟩
  rcases hr.2 with ⟨e1,_⟩ | ⟨_,⟨e1,_⟩ | ⟨_,n,l,w,rfl,hw,hp,hstr,hin⟩⟩
  ·rw [conv_asked] at e1; exact (e1 ha).elim
  ·exact (e1 ((hSS.mem hS').2 q1)).elim
  rw [← hvv] at q2 q3
  have hus:=via_us hSS hck s tx
  obtain rfl : n = Q.length:=pre_eq hp q2.li.n fun k hk0 hk =>
   ⟨fun ho=>(opn_len q2 hus rfl q3 hk0 hk).1 (opn_back ho),fun hk1=>opn_to ((opn_len q2 hus rfl q3 hk0 hk).2 hk1)⟩
  obtain rfl : l = outS (outL g s Q.length L D):=strL_eq hstr (outS_str _) fun y=>(hin y).trans (in_out hck hSS q2 q3 y).symm
  exact ⟨w,rfl,hw⟩
end Go.Apx
end
section
namespace Go.Apx
open Go.Proofs
set_option linter.unusedVariables false
set_option linter.unusedSimpArgs false
set_option linter.unnecessarySimpa false
set_option maxRecDepth 4000
theorem sameO_c (l : List ByteArray) (v w : AV) {h : AHeap} (hv : OutV h l v) (hw : OutV h l w) (hl : l.length ≤ 400000) : AEx PP Gl 9 [v,w] h (.ret (bl true)) h:=by
 rcases hv with ⟨rfl,rfl⟩ | ⟨hne,o,gn,rest,rc,rfl,hc⟩
 ·rcases hw with ⟨_,rfl⟩ | ⟨hne,_⟩
  ·exact same_c 0 0 [] [] .nil .nil (by simp) (by simp) (by simp)
  ·exact (hne rfl).elim
 rcases hw with ⟨h1,_⟩ | ⟨_,o',gn',rest',rc',rfl,hc'⟩
 ·exact (hne h1).elim
 refine enter_law14_same (by simp) ?_
 simp -implicitDefEqProofs [code_law14_same,res_law14_same,ann_law14_same]
 refine AWp.cnt l.length [0,1] (fun i=>[(5,i64 i)]) (fun _=>h) (fun i=>True) mixed trivial (le_of (by simp [dslot])) rfl ?_ ?_
 ·intro i hi hz
  obtain ⟨k,hki⟩ : ∃ k,l[i]? = some k:=⟨l[i],by simp [hi]⟩
  have hlt : (i : Int) < l.length:=by omega
  have hx2 : (l.map sv ++ rest)[i]? = some (sv k):=by rw [List.getElem?_append_left (by simpa using hi)]; simp [hki]
  have hx3 : (l.map sv ++ rest')[i]? = some (sv k):=by rw [List.getElem?_append_left (by simpa using hi)]; simp [hki]
  have wi : IntKind.i64.wrap ((i : Int) + 1) = (i : Int) + 1:=IntWalk.i64_in _ (by omega)
  simp -implicitDefEqProofs [lp0_law14_same,hlt,hi,hc,hc',hx2,hx3,hki,sv,wi]
  exact le_of (by simp [dslot])
 ·intro hz
  simp -implicitDefEqProofs [lp0_law14_same]
  exact retE (by simp [deferred,dslot]) rfl rfl rfl
set_option maxHeartbeats 4000000 in
theorem EarleyViable_c (g : Gr) (s : ByteArray) (tx : List ByteArray) (tc : Cap) (hi : LawP g tx) (hss : s.size ≤ 2 ^ 31) : AEx PP Gl 3 [encG g,.sc (.string s),.sl 1 (tx.map sv) tc] [] (.ret (bl true)) []:=by
 refine enter_law14_EarleyViable (by simp) ?_
 simp -implicitDefEqProofs [code_law14_EarleyViable,res_law14_EarleyViable,ann_law14_EarleyViable,encG]
 refine callk (short_c g tx tc 5 hi) (by simp [encG]) rfl ?_
 cases hsf : shortF g tx 5 with
 | false =>
  simp -implicitDefEqProofs
  refine callk awake_c rfl rfl ?_
  simp -implicitDefEqProofs
  exact retE (by simp [deferred,dslot]) rfl rfl rfl
 | true =>
  by_cases c1 : (300 : Int) < s.size
  ·simp -implicitDefEqProofs [c1]
   refine callk awake_c rfl rfl ?_
   simp -implicitDefEqProofs
   exact retE (by simp [deferred,dslot]) rfl rfl rfl
  simp -implicitDefEqProofs [c1]
  have hsm : smallF g 10 5 = true:=by
   unfold shortF at hsf
   simp only [Bool.and_eq_true] at hsf
   exact hsf.1
  have hck0 : ∀ h : AHeap,AEx PP Gl 34 [encG g] h (.ret (i64 (checkF g))) h:=fun h=>check_c g (small_parts hsm) hi.sorts hi.rules
  refine callr (viable_c g s tx tc hi.sorts hi.rules hi.rparts hck0 (fun h=>short_bd (most:=0) hsm h)) (by simp [encG]) rfl ?_
  rintro r1 H1 p
  obtain ⟨S,hS⟩ : ∃ S,askedF g s tx = 0 → GrowS g yesP S:=by
   rcases p.2 with ⟨q1,_⟩ | ⟨_,S,hS,_⟩
   ·exact ⟨[],fun h=>(q1 h).elim⟩
   ·exact ⟨S,fun _=>hS⟩
  obtain ⟨n,l,v,e,rfl,hO,hll,href⟩:=via_ref (fun h=>short_bd (most:=0) hsm h) p hS
  have hvp:=hO.one
  simp -implicitDefEqProofs [hvp.1,hvp.2]
  refine callk (conv_c g hi.rules hi.rparts hi.sc) (by simp [encG]) rfl ?_
  simp -implicitDefEqProofs [convS,hvp.1,hvp.2]
  have hvok : askedF (convG g) s tx = 0 → VOk (convG g) s tx S:=fun h=>by
   rw [conv_asked] at h
   have hck:=(asked_check h).1
   obtain ⟨c1,c2,c3⟩:=short_small hsm hck
   refine ⟨Nat.le_trans c2 (by omega),by simp [convG]; omega,fun R hR=>?_,(asked_check h).2,by rw [conv_check]; exact hck,grow_conv (hS h),?_⟩
   ·obtain ⟨R0,h0,rfl⟩:=List.mem_map.1 hR
    exact Nat.le_trans (c3 R0 h0) (by omega)
   ·show s ∈ g.sorts
    unfold askedF at h
    rw [if_neg (by simpa using hck)] at h
    by_cases hh : hasF g.sorts s = false
    ·rw [if_pos hh] at h; omega
    ·exact has_mem (by simpa using hh)
  refine callr (ACalls.args (rviable_c (convG g) s tx S tc hi.sorts (by simpa [convG] using hi.rules) hvok) (.cons (conv_le g) (.refl _))) rfl rfl ?_
  intro r2 H2 q
  obtain ⟨w,rfl,hw⟩:=href H2 r2 q
  have hwp:=hw.one
  simp -implicitDefEqProofs [hvp.1,hvp.2,hwp.1,hwp.2]
  refine callk (sameO_c l v w (hO.keep q.1) hw hll) rfl rfl ?_
  simp -implicitDefEqProofs [hvp.1,hvp.2,hwp.1,hwp.2]
  refine callk awake_c rfl rfl ?_
  simp -implicitDefEqProofs
  exact retD (h0:=[]) (x:=H2) (by simp [deferred,dslot]) rfl rfl rfl rfl
end Go.Apx
end
