/- What a checked grammar is; forests as values. -/
import Derived.Test.YtldhfkfncgnbmaaPD
section
namespace Go.Apx
open Go.Proofs
set_option linter.unusedVariables false
set_option linter.unusedSimpArgs false
set_option linter.unnecessarySimpa false
set_option maxRecDepth 4000
theorem check_names {g : Gr} (h : checkF g = 0) : ∀ s ∈ g.sorts,okName s = true:=by
 unfold checkF at h
 split at h
 ·omega
 ·split at h
  ·omega
  ·split at h
   ·rename_i c3
    intro s hs
    obtain ⟨i,hi⟩:=List.getElem?_of_mem hs
    have:=allIdx_iff.1 c3 i s hi
    simp only [nameOkF,Bool.and_eq_true] at this
    exact this.1
   ·omega
theorem has_mem {l : List ByteArray} {s : ByteArray} (h : hasF l s = true) : s ∈ l:=by
 unfold hasF indexF placeF at h
 cases hf : l.findIdx? (fun x=>decide (x = s)) with
 | none=>rw [hf] at h; simp at h
 | some i =>
  obtain ⟨h1,h2,_⟩:=List.findIdx?_eq_some_iff_getElem.1 hf
  have h3 : l[i] = s:=by simpa using h2
  rw [← h3]; exact List.getElem_mem h1
theorem mem_has {l : List ByteArray} {s : ByteArray} (h : s ∈ l) : hasF l s = true:=by
 obtain ⟨x,hx,_⟩:=index_of h
 unfold hasF
 rw [hx]; simp
theorem check_rule {g : Gr} (h : checkF g = 0) : ∀ R ∈ g.rules,R.sort ∈ g.sorts ∧ (∀ p ∈ R.parts,partF g p = true) ∧ onceF R.parts = true:=by
 intro R hR
 obtain ⟨i,hi⟩:=List.getElem?_of_mem hR
 have:=(check_ok h).2.2 i R hi
 simp only [ruleOkF,rruleF,Bool.and_eq_true,List.all_eq_true] at this
 refine ⟨?_,this.1.1.1.2,this.1.1.2⟩
 exact has_mem this.1.1.1.1.2
theorem check_named {g : Gr} (h : checkF g = 0) : Named g:=fun R hR=>by
 obtain ⟨h1,h2,h3⟩:=check_rule h R hR
 refine ⟨h1,fun p hp hs=>?_⟩
 have:=h2 p hp
 unfold partF at this
 rw [if_neg hs] at this
 simp only [Bool.and_eq_true] at this
 exact has_mem this.2
theorem check_sorts {g : Gr} (h : checkF g = 0) : ∀ R ∈ g.rules,R.sort ≠ emp:=fun R hR e=>by
 have:=check_names h R.sort (check_rule h R hR).1
 rw [e] at this
 simp [okName,emp] at this
theorem timesF_mono {l : List Pt} {i j : Nat} (h : i ≤ j) (k : Int) : timesF (l.take i) k ≤ timesF (l.take j) k:=by
 have hs : (l.take i).Sublist (l.take j):=by
  have : l.take i = (l.take j).take i:=by rw [List.take_take,Nat.min_eq_left h]
  rw [this]; exact List.take_sublist _ _
 exact (hs.filter _).length_le
theorem once_args {l : List Pt} (h : onceF l = true) : ArgsOk l (argsF l):=by
 have ht : ∀ a : Nat,a < argsF l → timesF l a = 1:=fun a ha=>by
  unfold onceF at h
  rw [List.all_eq_true] at h
  simpa using h a (by simpa using ha)
 have hr : ∀ (q : Nat) (p : Pt),l[q]? = some p → p.sort ≠ emp → ∃ a : Nat,p.arg = a ∧ a < argsF l:=fun q p hq hp=>by
  have:=once_arg h p (List.mem_of_getElem? hq) hp
  exact ⟨p.arg.toNat,by omega,by omega⟩
 have key : ∀ (q q' : Nat) (p p' : Pt),q < q' → l[q]? = some p → l[q']? = some p' → p.sort ≠ emp → p'.sort ≠ emp → p.arg = p'.arg → False:=fun q q' p p' hlt hq hq' hp hp' he=>by
  obtain ⟨a,ha,han⟩:=hr q p hq hp
  have h1:=ht a han
  have t1:=timesF_take (k:=(a : Int)) hq
  have t2:=timesF_take (k:=(a : Int)) hq'
  rw [if_neg hp,if_pos ha] at t1
  rw [if_neg hp',if_pos (by rw [← he,ha])] at t2
  have m1:=timesF_mono (l:=l) (show q + 1 ≤ q' from hlt) (a : Int)
  have m2 : timesF (l.take (q' + 1)) a ≤ timesF l a:=by
   have:=timesF_mono (l:=l) (show q' + 1 ≤ l.length from (List.getElem?_eq_some_iff.1 hq').1) (a : Int)
   rwa [List.take_length] at this
  omega
 refine ⟨hr,fun q q' p p' hq hq' hp hp' he=>?_,fun a ha=>?_⟩
 ·rcases Nat.lt_trichotomy q q' with h' | h' | h'
  ·exact (key q q' p p' h' hq hq' hp hp' he).elim
  ·exact h'
  ·exact (key q' q p' p h' hq' hq hp' hp he.symm).elim
 ·have h1:=ht a ha
  unfold timesF at h1
  obtain ⟨p,hp⟩ : ∃ p,p ∈ l.filter (fun p : Pt=>!decide (p.sort = ⟨#[]⟩) && decide (p.arg = (a : Int))):=by
   cases hl : l.filter (fun p : Pt=>!decide (p.sort = ⟨#[]⟩) && decide (p.arg = (a : Int))) with
   | nil=>rw [hl] at h1; simp at h1
   | cons x r=>exact ⟨x,by simp⟩
  obtain ⟨hm,hq⟩:=List.mem_filter.1 hp
  obtain ⟨q,hq2⟩:=List.getElem?_of_mem hm
  simp at hq
  exact ⟨q,p,hq2,by simpa [emp] using hq.1,hq.2⟩
def wayV (w : Nat × List Nat) : AV:=.agg [i64 (w.1 : Int),grown 1 (i64s w.2)]
def nodeV (x : Sp × List (Nat × List Nat)) : AV:=.agg [.sc (.string x.1.s),i64 (x.1.i : Int),i64 (x.1.j : Int),grown 2 (x.2.map wayV)]
def forestV (l : List (Sp × List (Nat × List Nat))) : AV:=.agg [grown 4 (l.map nodeV)]
theorem strip_apd (k : Nat) (es es' : List AV) (T : Nat) (h : stripL es = es') : (apd k es T).strip = grown k es':=by
 subst h
 cases es with
 | nil=>rfl
 | cons a es=>simp only [apd_cons,AV.strip]; rfl
theorem strip_i64s (l : List Nat) : stripL (i64s l) = i64s l:=by
 induction l with
 | nil=>rfl
 | cons a l ih=>simp only [i64s,List.map_cons,stripL] at ih ⊢; rw [ih]; rfl
theorem strip_ways (ws : List WP) : stripL (ws.map encWP) = (pwl ws).map wayV:=by
 induction ws with
 | nil=>rfl
 | cons w ws ih =>
  simp only [List.map_cons,stripL,pwl] at ih ⊢
  rw [ih]
  congr 1
  simp only [encWP,AV.strip,stripL,strip_apd 1 _ _ _ (strip_i64s w.kids),wayV]
theorem strip_nodes (ns : List NP) : stripL (ns.map encNP) = (ns.map fun x=>(x.sp,pwl x.ws)).map nodeV:=by
 induction ns with
 | nil=>rfl
 | cons x ns ih =>
  simp only [List.map_cons,stripL] at ih ⊢
  rw [ih]
  congr 1
  simp only [encNP,nodeC,AV.strip,stripL,strip_apd 2 _ _ _ (strip_ways x.ws),nodeV]
theorem strip_for (ns : List NP) (T : Nat) : (AV.agg [forV ns T]).strip = forestV (ns.map fun x=>(x.sp,pwl x.ws)):=by
 simp only [AV.strip,stripL,forV,strip_apd 4 _ _ _ (strip_nodes ns),forestV]
theorem inb_grown (n k : Nat) (es : List AV) (h : inbL n es = true) : (grown k es).inb n = true:=by
 cases es with
 | nil=>rfl
 | cons a es=>simp only [grown,if_neg (List.cons_ne_nil a es),AV.inb,h]; rfl
theorem inb_i64s (n : Nat) (l : List Nat) : inbL n (i64s l) = true:=by
 induction l with
 | nil=>rfl
 | cons a l ih=>simp only [i64s,List.map_cons,inbL] at ih ⊢; rw [ih]; rfl
theorem inb_wayV (n : Nat) (ws : List (Nat × List Nat)) : inbL n (ws.map wayV) = true:=by
 induction ws with
 | nil=>rfl
 | cons w ws ih =>
  simp only [List.map_cons,inbL,ih,wayV,AV.inb,inb_grown n 1 _ (inb_i64s n w.2)]; rfl
theorem inb_nodeV (n : Nat) (l : List (Sp × List (Nat × List Nat))) : inbL n (l.map nodeV) = true:=by
 induction l with
 | nil=>rfl
 | cons x l ih =>
  simp only [List.map_cons,inbL,ih,nodeV,AV.inb,inb_grown n 2 _ (inb_wayV n x.2)]; rfl
theorem inb_forest (n : Nat) (l : List (Sp × List (Nat × List Nat))) : (forestV l).inb n = true:=by
 simp only [forestV,AV.inb,inbL,inb_grown n 4 _ (inb_nodeV n l)]; rfl
theorem Low.cl {h H : AHeap} (hl : Low h.length h H) : Cl h H h.length:=by
 intro i o hi ho
 have : h[i]? = some h[i]:=by simp [hi]
 have h2:=hl i h[i] hi this
 rw [ho] at h2
 left
 rw [← h2] at this
 exact this
theorem Low.take {h H : AHeap} (hl : Low h.length h H) : H.take h.length = h:=by
 refine List.ext_getElem? fun i=>?_
 by_cases hi : i < h.length
 ·rw [List.getElem?_take,if_pos hi,hl i h[i] hi (by simp [hi])]; simp [hi]
 ·rw [List.getElem?_take,if_neg hi,List.getElem?_eq_none (by omega)]
end Go.Apx
end
section
namespace Go.Apx
open Go.Proofs
set_option linter.unusedVariables false
set_option linter.unusedSimpArgs false
set_option linter.unnecessarySimpa false
set_option maxRecDepth 4000
def EParseR (g : Gr) (s : ByteArray) (tx : List ByteArray) (h : AHeap) (r : AEnd) (h' : AHeap) : Prop :=
 h' = h ∧ ((askedF g s tx ≠ 0 ∧ r = .ret (.tup [.agg [.sl 0 [] .nil],i64 (askedF g s tx)])) ∨
  (askedF g s tx = 0 ∧ ∃ S L D,NF g tx s S L D ∧ (S.length = tx.length ∨ scanF g tx S.length L = []) ∧
   (((⟨s,0,tx.length⟩ : Sp) ∉ D ∧ r = .ret (.tup [.agg [.sl 0 [] .nil],i64 160])) ∨
   ((⟨s,0,tx.length⟩ : Sp) ∈ D ∧ ((∃ n,packP g tx D ⟨s,0,tx.length⟩ n = none ∧ r = .ret (.tup [.agg [.sl 0 [] .nil],i64 15])) ∨
    (∃ n L F ns,packP g tx D ⟨s,0,tx.length⟩ n = some (L,F) ∧ F.length = L.length ∧ ns.map (·.1) = L ∧ ns.map (·.2) = F ∧ r = .ret (.tup [forestV ns,i64 0])))))))
set_option maxHeartbeats 4000000 in
theorem eparse_c (g : Gr) (s : ByteArray) (tx : List ByteArray) (tc : Cap) {h : AHeap} (hs : g.sorts.length ≤ 2 ^ 31) (hc : ∀ h : AHeap,AEx PP Gl 47 [encG g] h (.ret (i64 (checkF g))) h) (hb : askedF g s tx = 0 → BdG g tx) (hua : ∀ R : Rl,g.us R = true) (hst : g.st = s) :
  ACalls PP Gl 9 [encG g,.sc (.string s),.sl 1 (tx.map sv) tc] h (EParseR g s tx h):=by
 refine enter_earley_Parse (by simp) ?_
 simp -implicitDefEqProofs [code_earley_Parse,res_earley_Parse,ann_earley_Parse,encG]
 have hA:=asked_c g s tx tc (h:=h ++ [.cells 0 [.sl 0 [] .nil]]) hs (hc _)
 refine callk hA (by simp [encG]) rfl ?_
 have cut : ∀ (v : Int) (env : Env),env.get 6 = some (.ptr h.length 0 0) → env.get 7 = some (i64 v) → deferred env = some [] → ∀ H',H'[h.length]? = some (.cells 0 [.sl 0 [] .nil]) → Low h.length h H' → EParseR g s tx h (.ret (.tup [.agg [.sl 0 [] .nil],i64 v])) h → retPost PP Gl h [.cell 6 (.agg 1),.t 7] (EParseR g s tx h) .ret env H':=by
  intro v env e6 e7 ed H' hH hl hR
  refine retCut (v:=.tup [.agg [.sl 0 [] .nil],i64 v]) h.length ed (by simp [evalRes,evalRes1,e6,e7,hH]) (Nat.le_refl _) (Nat.le_of_lt (lt_of hH)) (by rfl) hl.cl ?_
  rw [hl.take]; exact hR
 by_cases ha : askedF g s tx = 0
 case neg =>
  simp -implicitDefEqProofs [ha]
  exact cut _ _ (by simp) (by simp) (by simp [deferred,dslot]) _ (by simp) (Low.app _ _ _) ⟨rfl,.inl ⟨ha,rfl⟩⟩
 have hbd:=hb ha
 have hck : checkF g = 0:=by
  unfold askedF at ha
  by_cases e : checkF g = 0
  ·exact e
  ·rw [if_pos e] at ha; exact (e ha).elim
 have hn:=hbd.n
 simp -implicitDefEqProofs [ha]
 obtain ⟨HA,hHA⟩ : ∃ HA,HA = h ++ [AObj.cells 0 [.sl 0 [] .nil]]:=⟨_,rfl⟩
 have hAl : HA.length = h.length + 1:=by rw [hHA]; simp
 refine callr (newChart_c g tx tc s 30 [] [] (h:=HA) hbd (check_sorts hck) hst (fun R _ H=>by rw [hua R]; exact any_c R)) (by simp [encG]) (by rw [hHA]) ?_
 rintro r1 H1 ⟨c,rfl,c1,c2,c3,c4,c5⟩
 have hch:=c1.ch
 have hdn:=c1.dn
 simp only [chCells] at hch
 have hr0 : H1[h.length]? = some (.cells 0 [.sl 0 [] .nil]):=c3 _ _ (by omega) (by rw [hHA]; simp)
 have hlow1 : Low h.length h H1:=fun z x hz hx=>c3 z x (by omega) (by rw [hHA,List.getElem?_append_left hz]; exact hx)
 have hfind : amapFind (.agg [.sc (.string s),i64 0,i64 (tx.length : Int)]) (amapOf encSp boolV (tkeys c.D)) = some ((afind (tkeys c.D) ⟨s,0,tx.length⟩).map boolV):=amapFind_of keySp boolV (tkeys c.D) ⟨s,0,tx.length⟩
 have hSn:=c4.li.n
 simp -implicitDefEqProofs
 by_cases hw : (⟨s,0,tx.length⟩ : Sp) ∈ c.D
 case neg =>
  by_cases hSl : c.S.length + 1 ≤ tx.length
  ·have hSe : (c.S.length : Int) + 1 ≤ tx.length:=by omega
   simp -implicitDefEqProofs [hch,hSe,hr0]
   rw [set_self' hr0]
   exact cut _ _ (by simp) (by simp) (by simp [deferred,dslot]) _ hr0 hlow1 ⟨rfl,.inr ⟨ha,c.S,c.L,c.D,c4,c5,.inl ⟨hw,rfl⟩⟩⟩
  ·have hSe : ¬ (c.S.length : Int) + 1 ≤ tx.length:=by omega
   simp -implicitDefEqProofs [hch,hSe,hdn,hfind,tkeys_find,hw,boolV,hr0]
   rw [set_self' hr0]
   exact cut _ _ (by simp) (by simp) (by simp [deferred,dslot]) _ hr0 hlow1 ⟨rfl,.inr ⟨ha,c.S,c.L,c.D,c4,c5,.inl ⟨hw,rfl⟩⟩⟩
 have hSl : ¬ (c.S.length : Int) + 1 ≤ tx.length:=by
  have:=(c4.dr _ hw).2.1
  simp only at this; omega
 simp -implicitDefEqProofs [hch,hSl,hdn,hfind,tkeys_find,hw,boolV,hr0]
 obtain ⟨HP,hHP⟩ : ∃ HP,HP = H1 ++ [.amap [],.amap [],.cells 0 [.ptr c.o 0 0,.mp H1.length,.sl 0 [] .nil,.mp (H1.length + 1)]]:=⟨_,rfl⟩
 have kp : ∀ (z : Nat) (w : AObj),H1[z]? = some w → HP[z]? = some w:=fun z w hz=>by rw [hHP,List.getElem?_append_left (lt_of hz)]; exact hz
 have p0 : HP[H1.length]? = some (.amap []):=by rw [hHP]; simp
 have p1 : HP[H1.length + 1]? = some (.amap []):=by rw [hHP,List.getElem?_append_right (by omega)]; simp
 have p2 : HP[H1.length + 2]? = some (.cells 0 [.ptr c.o 0 0,.mp H1.length,.sl 0 [] .nil,.mp (H1.length + 1)]):=by rw [hHP,List.getElem?_append_right (by omega)]; simp
 have l1:=lt_of c1.ch
 have l2:=lt_of c1.rl
 have l3:=lt_of c1.dn
 have l4:=lt_of hr0
 have hPK : PK (h.length + 1) g tx tc ⟨H1.length + 2,c.o,c.orl,c.od,H1.length,H1.length + 1,c.M,c.D⟩ [] 0 [] HP:=by
  refine ⟨p2,⟨_,_,kp _ _ c1.ch⟩,kp _ _ c1.rl,kp _ _ c1.dn,p0,p1,by simp,fun x v hv=>by simp [afind] at hv,?_,?_,?_,?_,?_,?_,?_,?_,?_⟩
  all_goals simp only
  all_goals omega
 have hok : PkOk g tx ⟨H1.length + 2,c.o,c.orl,c.od,H1.length,H1.length + 1,c.M,c.D⟩:=by
  refine ⟨hbd,c2,fun s' i j hd=>?_,fun R hR=>once_args (check_rule hck R hR).2.2⟩
  have:=c4.dr _ hd
  have h1:=this.1.le.1
  have h2:=this.2.1
  simp only at h1 h2
  omega
 refine callr (pack_c (h.length + 1) g tx tc _ 0 [] ⟨s,0,tx.length⟩ (h:=HP) hPK hok ⟨Nat.zero_le _,Nat.le_refl _⟩) (by simp [encSp]) (by rw [hHP]) ?_
 rintro r2 H2 ⟨q1,⟨n,q2,rfl⟩ | ⟨n,L,F,ns,T,q2,q3,q4,q5,rfl⟩⟩
 ·have hr2:=q1 _ _ (Nat.lt_succ_self _) (kp _ _ hr0)
  have hlow2 : Low h.length h H2:=fun z x hz hx=>q1 z x (by omega) (kp _ _ (hlow1 z x hz hx))
  simp -implicitDefEqProofs [hr2]
  rw [set_self' hr2]
  exact cut _ _ (by simp) (by simp) (by simp [deferred,dslot]) _ hr2 hlow2 ⟨rfl,.inr ⟨ha,c.S,c.L,c.D,c4,c5,.inr ⟨hw,.inl ⟨n,q2,rfl⟩⟩⟩⟩
 ·have hr2:=q1 _ _ (Nat.lt_succ_self _) (kp _ _ hr0)
  have hlow2 : Low h.length h H2:=fun z x hz hx=>q1 z x (by omega) (kp _ _ (hlow1 z x hz hx))
  have hl2:=lt_of hr2
  simp -implicitDefEqProofs [hr2]
  have hlow3 : ∀ y,Low h.length h (H2.set h.length y):=fun y z x hz hx=>by
   rw [List.getElem?_set_ne (by omega)]; exact hlow2 z x hz hx
  have hst:=strip_for ns T
  refine retCut (v:=.tup [.agg [forV ns T],i64 0]) h.length (by simp [deferred,dslot]) (by simp [evalRes,evalRes1,hl2]) (Nat.le_refl _) (by simp; omega) ?_ (hlow3 _).cl ?_
  ·simp only [AV.strip,stripL] at hst ⊢
   rw [hst]
   simp only [AV.inb,inbL,inb_forest]
   rfl
  ·rw [(hlow3 _).take]
   refine ⟨rfl,.inr ⟨ha,c.S,c.L,c.D,c4,c5,.inr ⟨hw,.inr ⟨n,L,F,ns.map fun x=>(x.sp,pwl x.ws),q2,q3,?_,?_,?_⟩⟩⟩⟩
   ·rw [← q4,List.map_map]; rfl
   ·rw [← q5,List.map_map]; rfl
   ·simp only [AV.strip,stripL] at hst ⊢
    rw [hst]
end Go.Apx
end
section
namespace Go.Apx
open Go.Proofs
set_option linter.unusedVariables false
set_option linter.unusedSimpArgs false
set_option linter.unnecessarySimpa false
set_option maxRecDepth 4000
def refF (S : List ByteArray) (pm : Pt → Bool) (p : Pt) : Bool:=if p.sort = emp then !pm p else !decide (p.sort ∈ S)
def ClosedS (g : Gr) (pm : Pt → Bool) (S : List ByteArray) : Prop:=∀ R ∈ g.rules,R.parts.any (refF S pm) = false → R.sort ∈ S
structure GrowS (g : Gr) (pm : Pt → Bool) (S : List ByteArray) : Prop where
 closed : ClosedS g pm S
 least : ∀ C : List ByteArray,ClosedS g pm C → ∀ s ∈ S,s ∈ C
theorem refF_mono {S C : List ByteArray} {pm : Pt → Bool} (h : ∀ s ∈ S,s ∈ C) {ps : List Pt} (hr : ps.any (refF S pm) = false) : ps.any (refF C pm) = false:=by
 rw [List.any_eq_false] at hr ⊢
 intro p hp hc
 have:=hr p hp
 unfold refF at this hc
 by_cases e : p.sort = emp
 ·rw [if_pos e] at this hc; exact this hc
 ·rw [if_neg e] at this hc
  simp at this hc
  exact hc (h _ this)
def leftS (g : Gr) (S : List ByteArray) : Nat:=(g.rules.filter fun R=>!decide (R.sort ∈ S)).length
theorem leftS_lt {g : Gr} {S : List ByteArray} {R : Rl} (hR : R ∈ g.rules) (hS : R.sort ∉ S) : leftS g (S ++ [R.sort]) < leftS g S:=by
 unfold leftS
 have key : ∀ l : List Rl,R ∈ l → (l.filter fun x=>!decide (x.sort ∈ S ++ [R.sort])).length < (l.filter fun x=>!decide (x.sort ∈ S)).length:=by
  intro l
  have hle : ∀ l : List Rl,(l.filter fun x=>!decide (x.sort ∈ S ++ [R.sort])).length ≤ (l.filter fun x=>!decide (x.sort ∈ S)).length:=by
   intro l
   induction l with
   | nil=>simp
   | cons x l ih =>
    by_cases h1 : x.sort ∈ S
    ·simp [List.filter_cons,h1]; simpa using ih
    ·by_cases h2 : x.sort = R.sort
     ·simp only [List.filter_cons,h1,h2,List.mem_append,List.mem_singleton,or_true,decide_true,Bool.not_true]
      rw [h2] at h1
      simp only [h1,decide_false,Bool.not_false,if_true,List.length_cons]
      simp at ih ⊢
      omega
     ·simp [List.filter_cons,h1,h2]; simpa using ih
  induction l with
  | nil=>simp
  | cons x l ih =>
   intro hm
   by_cases h2 : x = R
   ·subst h2
    have:=hle l
    simp only [List.filter_cons,hS,List.mem_append,List.mem_singleton,or_true,decide_true,Bool.not_true,decide_false,Bool.not_false,if_true,List.length_cons]
    simp at this ⊢
    omega
   ·have ih':=ih (by simpa [Ne.symm h2] using hm)
    by_cases h1 : x.sort ∈ S
    ·simp [List.filter_cons,h1]; simpa using ih'
    ·by_cases h3 : x.sort = R.sort
     ·simp only [List.filter_cons,h1,h3,List.mem_append,List.mem_singleton,or_true,decide_true,Bool.not_true]
      rw [h3] at h1
      simp only [h1,decide_false,Bool.not_false,if_true,List.length_cons]
      simp at ih' ⊢
      omega
     ·simp [List.filter_cons,h1,h3]; simpa using ih'
 exact key _ hR
theorem refused_c (p : Pt) (S : List ByteArray) (o : Nat) (fid : FuncId) (pm : Pt → Bool) {H : AHeap} (ho : H[o]? = some (.amap (smap bv (metOf S)))) (hf : AEx PP Gl fid [encP p] H (.ret (bl (pm p))) H) :
  AEx PP Gl 114 [encP p,(AV.mp o).ip,(AV.fn (.func fid) [] []).ip] H (.ret (.sc (.bool (refF S pm p)))) H:=by
 refine enter_grammar_grow_1 (by simp) ?_
 by_cases e : p.sort = emp
 ·simp -implicitDefEqProofs [code_grammar_grow_1,res_grammar_grow_1,ann_grammar_grow_1,encP,e,emp]
  refine callk hf (by simp [encP,e,emp]) rfl ?_
  simp -implicitDefEqProofs
  exact retE (by simp [deferred,dslot]) rfl (by simp [refF,e]) rfl
 ·have e' : ¬ p.sort = (⟨#[]⟩ : ByteArray):=e
  by_cases hS : p.sort ∈ S
  ·simp -implicitDefEqProofs [code_grammar_grow_1,res_grammar_grow_1,ann_grammar_grow_1,encP,e',ho,hS]
   exact retE (by simp [deferred,dslot]) rfl (by simp [refF,e,hS]) rfl
  ·simp -implicitDefEqProofs [code_grammar_grow_1,res_grammar_grow_1,ann_grammar_grow_1,encP,e',ho,hS]
   exact retE (by simp [deferred,dslot]) rfl (by simp [refF,e,hS]) rfl
def GrowR (g : Gr) (pm : Pt → Bool) (h : AHeap) (r : AEnd) (h' : AHeap) : Prop:=∃ S,GrowS g pm S ∧ r = .ret (.mp h.length) ∧ h' = h ++ [.amap (smap bv (metOf S))]
def DoneV (g : Gr) (pm : Pt → Bool) (S : List ByteArray) (i : Nat) : Prop:=∀ R ∈ g.rules.take i,R.sort ∈ S ∨ R.parts.any (refF S pm) = true
theorem DoneV.step {g : Gr} {pm : Pt → Bool} {S : List ByteArray} {i : Nat} {R : Rl} (h : DoneV g pm S i) (hR : g.rules[i]? = some R) (h2 : R.sort ∈ S ∨ R.parts.any (refF S pm) = true) : DoneV g pm S (i + 1):=fun x hx=>by
 rw [List.take_add_one,hR] at hx
 rcases List.mem_append.1 hx with hx | hx
 ·exact h x hx
 ·simp at hx; subst hx; exact h2
theorem DoneV.zero {g : Gr} {pm : Pt → Bool} {S : List ByteArray} : DoneV g pm S 0:=fun x hx=>by simp at hx
theorem DoneV.all {g : Gr} {pm : Pt → Bool} {S : List ByteArray} (h : DoneV g pm S g.rules.length) : ClosedS g pm S:=fun R hR h2=>by
 rcases h R (by rw [List.take_length]; exact hR) with h3 | h3
 ·exact h3
 ·rw [h2] at h3; cases h3
theorem least_add {g : Gr} {pm : Pt → Bool} {S : List ByteArray} {R : Rl} (h : ∀ C,ClosedS g pm C → ∀ s ∈ S,s ∈ C) (hR : R ∈ g.rules) (ha : R.parts.any (refF S pm) = false) : ∀ C,ClosedS g pm C → ∀ s ∈ S ++ [R.sort],s ∈ C:=fun C hC s hs=>by
 rcases List.mem_append.1 hs with hs | hs
 ·exact h C hC s hs
 ·simp at hs; subst hs
  exact hC R hR (refF_mono (h C hC) ha)
set_option maxHeartbeats 4000000 in
theorem grow_c (g : Gr) (fid : FuncId) (pm : Pt → Bool) {h : AHeap} (hr : g.rules.length ≤ 2 ^ 31) (hp : ∀ R ∈ g.rules,R.parts.length ≤ 2 ^ 31) (hf : ∀ (p : Pt) (H : AHeap),AEx PP Gl fid [encP p] H (.ret (bl (pm p))) H) :
  ACalls PP Gl 96 [encG g,.fn (.func fid) [] []] h (GrowR g pm h):=by
 refine enter_grammar_grow (by simp) ?_
 simp -implicitDefEqProofs [code_grammar_grow,res_grammar_grow,ann_grammar_grow,encG]
 refine AWp.scopeJ 0 rfl (fun j env H=>∃ S,j = leftS g S ∧ (∀ C,ClosedS g pm C → ∀ s ∈ S,s ∈ C) ∧ EnvLe [(2,(encG g).ip),(5,(AV.mp h.length).ip),(6,.fn (.func 114) [] [(AV.mp h.length).ip,(AV.fn (.func fid) [] []).ip])] env ∧ H = h ++ [.amap (smap bv (metOf S))]) ?_ ?_
 ·refine codeWp_sound mixed ?_
  simp -implicitDefEqProofs
  obtain ⟨S,hSd⟩ : ∃ S : List ByteArray,S = []:=⟨_,rfl⟩
  have hleast : ∀ C,ClosedS g pm C → ∀ s ∈ S,s ∈ C:=fun C _ s hs=>by rw [hSd] at hs; cases hs
  rw [show ([] : List (AV × AV)) = smap bv (metOf S) by rw [hSd]; rfl]
  refine AWp.cnt g.rules.length [2,5,6,12,13] (fun i=>[(14,i64 (i : Int))]) (fun _=>h ++ [.amap (smap bv (metOf S))]) (fun i=>DoneV g pm S i) mixed DoneV.zero (le_of (by simp [dslot])) rfl (fun i hi hz=>?_) fun hz=>?_
  ·obtain ⟨R,hR⟩ : ∃ R,g.rules[i]? = some R:=⟨g.rules[i],by simp [hi]⟩
   have hlt : (i : Int) < g.rules.length:=by omega
   have hne : g.rules ≠ []:=by intro e; rw [e] at hi; simp at hi
   have wi : IntKind.i64.wrap ((i : Int) + 1) = (i : Int) + 1:=IntWalk.i64_in _ (by omega)
   have hRm:=List.mem_of_getElem? hR
   by_cases hS : R.sort ∈ S
   ·simp -implicitDefEqProofs [lp0_grammar_grow,hlt,hne,hR,encR,hS,wi]
    exact ⟨hz.step hR (.inl hS),le_of (by simp [dslot])⟩
   ·simp -implicitDefEqProofs [lp0_grammar_grow,hlt,hne,hR,encR,hS]
    refine callk (anyP_c R.parts R.cap 114 [] [(AV.mp h.length).ip,(AV.fn (.func fid) [] []).ip] (refF S pm) (hp R hRm) (fun p _=>refused_c p S h.length fid pm (by simp) (hf p _))) rfl rfl ?_
    cases ha : R.parts.any (refF S pm) with
    | true =>
     simp -implicitDefEqProofs [wi]
     exact ⟨hz.step hR (.inr ha),le_of (by simp [dslot])⟩
    | false =>
     simp -implicitDefEqProofs [metOf_set S R.sort hS]
     exact ⟨_,S ++ [R.sort],rfl,least_add hleast hRm ha,le_of (by simp [dslot,encG]),rfl⟩
  ·simp -implicitDefEqProofs [lp0_grammar_grow]
   refine ret1 (v:=.mp h.length) (by simp [deferred,dslot]) (by simp [evalRes,evalRes1]) ⟨S,⟨hz.all,hleast⟩,rfl,rfl⟩
 ·rintro j env H ⟨S,rfl,hleast,hE,rfl⟩
  refine AWp.weaken (codeWp_sound mixed ?_) hE
  simp -implicitDefEqProofs [encG]
  refine AWp.cnt g.rules.length [2,5,6,12,13] (fun i=>[(14,i64 (i : Int))]) (fun _=>h ++ [.amap (smap bv (metOf S))]) (fun i=>DoneV g pm S i) mixed DoneV.zero (le_of (by simp [dslot])) rfl (fun i hi hz=>?_) fun hz=>?_
  ·obtain ⟨R,hR⟩ : ∃ R,g.rules[i]? = some R:=⟨g.rules[i],by simp [hi]⟩
   have hlt : (i : Int) < g.rules.length:=by omega
   have hne : g.rules ≠ []:=by intro e; rw [e] at hi; simp at hi
   have wi : IntKind.i64.wrap ((i : Int) + 1) = (i : Int) + 1:=IntWalk.i64_in _ (by omega)
   have hRm:=List.mem_of_getElem? hR
   by_cases hS : R.sort ∈ S
   ·simp -implicitDefEqProofs [lp0_grammar_grow,hlt,hne,hR,encR,hS,wi]
    exact ⟨hz.step hR (.inl hS),le_of (by simp [dslot])⟩
   ·simp -implicitDefEqProofs [lp0_grammar_grow,hlt,hne,hR,encR,hS]
    refine callk (anyP_c R.parts R.cap 114 [] [(AV.mp h.length).ip,(AV.fn (.func fid) [] []).ip] (refF S pm) (hp R hRm) (fun p _=>refused_c p S h.length fid pm (by simp) (hf p _))) rfl rfl ?_
    cases ha : R.parts.any (refF S pm) with
    | true =>
     simp -implicitDefEqProofs [wi]
     exact ⟨hz.step hR (.inr ha),le_of (by simp [dslot])⟩
    | false =>
     simp -implicitDefEqProofs [metOf_set S R.sort hS]
     exact ⟨_,leftS_lt hRm hS,S ++ [R.sort],rfl,least_add hleast hRm ha,le_of (by simp [dslot,encG]),rfl⟩
  ·simp -implicitDefEqProofs [lp0_grammar_grow]
   refine ret1 (v:=.mp h.length) (by simp [deferred,dslot]) (by simp [evalRes,evalRes1]) ⟨S,⟨hz.all,hleast⟩,rfl,rfl⟩
end Go.Apx
end
section
namespace Go.Apx
open Go.Proofs
set_option linter.unusedVariables false
set_option linter.unusedSimpArgs false
set_option linter.unnecessarySimpa false
set_option maxRecDepth 4000
abbrev yesP : Pt → Bool:=fun _=>true
theorem prod1_c (p : Pt) (H : AHeap) : AEx PP Gl 97 [encP p] H (.ret (bl (yesP p))) H:=by
 refine enter_grammar_productive_1 (by simp) ?_
 simp -implicitDefEqProofs [code_grammar_productive_1,res_grammar_productive_1,ann_grammar_productive_1,encP]
 exact retE (by simp [deferred,dslot]) rfl rfl rfl
theorem productive_c (g : Gr) {h : AHeap} (hr : g.rules.length ≤ 2 ^ 31) (hp : ∀ R ∈ g.rules,R.parts.length ≤ 2 ^ 31) : ACalls PP Gl 72 [encG g] h (GrowR g yesP h):=by
 refine enter_grammar_productive (by simp) ?_
 simp -implicitDefEqProofs [code_grammar_productive,res_grammar_productive,ann_grammar_productive,encG]
 refine callr (grow_c g 97 yesP hr hp prod1_c) (by simp [encG]) rfl ?_
 rintro r h' ⟨S,hS,rfl,rfl⟩
 simp -implicitDefEqProofs
 exact ret1 (v:=.mp h.length) (by simp [deferred,dslot]) (by simp [evalRes,evalRes1]) ⟨S,hS,rfl,rfl⟩
theorem strip_strs (l : List ByteArray) : stripL (l.map sv) = l.map sv:=by
 induction l with
 | nil=>rfl
 | cons s l ih=>simp only [List.map_cons,stripL,ih]; rfl
theorem inbL_strs (n : Nat) (l : List ByteArray) : inbL n (l.map sv) = true:=by
 induction l with
 | nil=>rfl
 | cons s l ih=>simp only [List.map_cons,inbL,ih]; rfl
theorem inb_strs (n : Nat) (l : List ByteArray) : (grown 1 (l.map sv)).inb n = true:=by
 unfold grown
 split
 ·rename_i e; rw [e]; rfl
 ·simp only [AV.inb,inbL_strs]; rfl
def pickS (g : Gr) (S : List ByteArray) : List ByteArray:=g.sorts.filter fun s=>decide (s ∈ S)
structure VP where
 i : Nat
 l : List ByteArray
 T : Nat
 H : AHeap
structure VPI (g : Gr) (S : List ByteArray) (o : Nat) (h : AHeap) (st : VP) : Prop where
 i : st.i ≤ g.sorts.length
 l : st.l = (g.sorts.take st.i).filter fun s=>decide (s ∈ S)
 tk : st.l ≠ [] → st.H[st.T]? = some (.tok st.l.length) ∧ h.length ≤ st.T
 low : Low h.length h st.H
 le : h.length ≤ st.H.length
set_option maxHeartbeats 4000000 in
theorem picked_c (g : Gr) (S : List ByteArray) (o : Nat) {h : AHeap} (ho : h[o]? = some (.amap (smap bv (metOf S)))) (hs : g.sorts.length ≤ 2 ^ 31) :
  AEx PP Gl 73 [.mp o,encG g] h (.ret (grown 1 ((pickS g S).map sv))) h:=by
 refine enter_grammar_set_picked (by simp) ?_
 simp -implicitDefEqProofs [code_grammar_set_picked,res_grammar_set_picked,ann_grammar_set_picked,encG]
 refine AWp.till (S:=VP) ⟨0,[],0,h⟩ (fun st=>g.sorts.length - st.i) [0,9,10] (fun st=>[(5,apd 1 (st.l.map sv) st.T),(11,i64 (st.i : Int))]) (fun st=>st.H) (VPI g S o h) mixed
  ⟨by simp,by simp,by simp,Low.refl _ _,Nat.le_refl _⟩ (le_of (by simp [dslot])) rfl ?_
 rintro ⟨i,l,T,H⟩ ⟨z1,z0,z2,z3,z4⟩
 simp only at z1 z0 z2 z3 z4
 have hol:=lt_of ho
 have hoH : H[o]? = some (.amap (smap bv (metOf S))):=z3 _ _ hol ho
 by_cases hi : i < g.sorts.length
 case neg =>
  have hno : ¬ (i : Int) < g.sorts.length:=by omega
  simp -implicitDefEqProofs [lp0_grammar_set_picked,hno]
  have hfin : l = pickS g S:=by rw [z0,List.take_of_length_le (by omega)]; rfl
  have hst : (apd 1 (l.map sv) T).strip = grown 1 (l.map sv):=strip_apd 1 _ _ _ (strip_strs l)
  refine retCut (v:=apd 1 (l.map sv) T) h.length (by simp [deferred,dslot]) (by simp [evalRes,evalRes1]) (Nat.le_refl _) z4 (by rw [hst]; exact inb_strs _ _) z3.cl ?_
  rw [z3.take,hst,hfin]
  exact ⟨rfl,rfl⟩
 obtain ⟨s,hs2⟩ : ∃ s,g.sorts[i]? = some s:=⟨g.sorts[i],by simp [hi]⟩
 have hlt : (i : Int) < g.sorts.length:=by omega
 have hne : g.sorts ≠ []:=by intro e; rw [e] at hi; simp at hi
 have wi : IntKind.i64.wrap ((i : Int) + 1) = (i : Int) + 1:=IntWalk.i64_in _ (by omega)
 have htk : (g.sorts.take (i + 1)).filter (fun s=>decide (s ∈ S)) = l ++ (if s ∈ S then [s] else []):=by
  rw [List.take_add_one,hs2,List.filter_append,← z0]
  by_cases e : s ∈ S <;> simp [e]
 by_cases hS : s ∈ S
 ·simp -implicitDefEqProofs [lp0_grammar_set_picked,hlt,hne,hs2,hoH,hS,sv]
  have hll : l.length ≤ g.sorts.length:=by rw [z0]; exact Nat.le_trans (List.length_filter_le _ _) (by simp; omega)
  refine appG (l.map sv) (sv s) T (by simp) (by simp [sv]) (fun hne=>by simpa using (z2 (by simpa using hne)).1) (by simp; unfold maxLenA; omega) ?_
  simp -implicitDefEqProofs [wi]
  rw [show l.map sv ++ [.sc (.string s)] = (l ++ [s]).map sv by simp [sv]]
  have hT : l.length ≠ 0 → ∃ q,H[T]? = some (.tok q):=fun hn0=>⟨_,(z2 (by rintro rfl; exact hn0 rfl)).1⟩
  refine ⟨⟨i + 1,l ++ [s],apT H l.length T,apG H l.length T⟩,by simp; omega,⟨by simp; omega,by simp only; rw [htk,if_pos hS],fun _=>⟨by simp only; rw [apG_tok hT]; simp,?_⟩,z3.trans (Low.apG fun hn0=>(z2 (by rintro rfl; exact hn0 rfl)).2),?_⟩,le_of (by simp [dslot]),by simp⟩
  ·simp only; unfold apT
   split
   ·exact z4
   ·rename_i hn0; exact (z2 (by rintro rfl; exact hn0 rfl)).2
  ·simp only; unfold apG
   split <;> simp <;> omega
 ·simp -implicitDefEqProofs [lp0_grammar_set_picked,hlt,hne,hs2,hoH,hS,sv,wi]
  exact ⟨⟨i + 1,l,T,H⟩,by simp; omega,⟨by simp; omega,by simp only; rw [htk,if_neg hS]; simp,z2,z3,z4⟩,le_of (by simp [dslot]),rfl⟩
def ProdR (g : Gr) (h : AHeap) (r : AEnd) (h' : AHeap) : Prop:=h' = h ∧ ((checkF g ≠ 0 ∧ r = .ret (.tup [.sl 0 [] .nil,i64 (checkF g)])) ∨
 (checkF g = 0 ∧ ∃ S,GrowS g yesP S ∧ r = .ret (.tup [grown 1 ((pickS g S).map sv),i64 0])))
theorem Productive_c (g : Gr) {h : AHeap} (hs : g.sorts.length ≤ 2 ^ 31) (hr : g.rules.length ≤ 2 ^ 31) (hp : ∀ R ∈ g.rules,R.parts.length ≤ 2 ^ 31) (hc : AEx PP Gl 47 [encG g] h (.ret (i64 (checkF g))) h) :
  ACalls PP Gl 39 [encG g] h (ProdR g h):=by
 refine enter_grammar_Productive (by simp) ?_
 simp -implicitDefEqProofs [code_grammar_Productive,res_grammar_Productive,ann_grammar_Productive,encG]
 refine callk hc (by simp [encG]) rfl ?_
 by_cases h1 : checkF g = 0
 case neg =>
  simp -implicitDefEqProofs [h1]
  exact ret1 (v:=.tup [.sl 0 [] .nil,i64 (checkF g)]) (by simp [deferred,dslot]) (by simp [evalRes,evalRes1]) ⟨rfl,.inl ⟨h1,rfl⟩⟩
 simp -implicitDefEqProofs [h1]
 refine callr (productive_c g hr hp) (by simp [encG]) rfl ?_
 rintro r h' ⟨S,hS,rfl,rfl⟩
 simp -implicitDefEqProofs
 refine callk (picked_c g S h.length (by simp) hs) (by simp [encG]) rfl ?_
 simp -implicitDefEqProofs
 have hst : (grown 1 ((pickS g S).map sv)).strip = grown 1 ((pickS g S).map sv):=by
  unfold grown
  split
  ·rename_i e; rw [e]; rfl
  ·simp only [AV.strip,strip_strs]; rfl
 refine retCut (v:=.tup [grown 1 ((pickS g S).map sv),i64 0]) h.length (by simp [deferred,dslot]) (by simp [evalRes,evalRes1]) (Nat.le_refl _) (by simp) ?_ (Cl.app h _) ?_
 ·simp only [AV.strip,stripL,hst,AV.inb,inbL,inb_strs]; rfl
 ·simp only [AV.strip,stripL,hst,List.take_left]
  exact ⟨rfl,.inr ⟨h1,S,hS,rfl⟩⟩
end Go.Apx
end
section
namespace Go.Apx
open Go.Proofs
set_option linter.unusedVariables false
set_option linter.unusedSimpArgs false
set_option linter.unnecessarySimpa false
set_option maxRecDepth 4000
def needF (P : List ByteArray) (p : Pt) : Bool:=!decide (p.sort = emp) && !hasF P p.sort
def usF (P : List ByteArray) (R : Rl) : Bool:=!(R.parts.any (needF P))
theorem grown_le (l : List ByteArray) : AVLe (grown 1 (l.map sv)) (.sl 1 (l.map sv) (if l = [] then .nil else .any)):=by
 cases l with
 | nil=>exact .nil 0 1
 | cons a l=>exact .refl _
theorem contains2_c (l : List ByteArray) (s : ByteArray) (hl : l.length ≤ 2 ^ 31) {h : AHeap} : AEx PP Gl 40 [grown 1 (l.map sv),.sc (.string s)] h (.ret (.sc (.bool (hasF l s)))) h :=
 ACalls.args (contains_c l _ s hl) (.cons (grown_le l) (.refl _))
theorem usable1_c (P : List ByteArray) (p : Pt) (hl : P.length ≤ 2 ^ 31) {H : AHeap} : AEx PP Gl 43 [encP p,(grown 1 (P.map sv)).ip] H (.ret (.sc (.bool (needF P p)))) H:=by
 refine enter_earley_Viable_1_1 (by simp) ?_
 by_cases e : p.sort = emp
 ·have e' : p.sort = (⟨#[]⟩ : ByteArray):=e
  simp -implicitDefEqProofs [code_earley_Viable_1_1,res_earley_Viable_1_1,ann_earley_Viable_1_1,encP,e']
  exact retE (by simp [deferred,dslot]) rfl (by simp [needF,e]) rfl
 ·have e' : ¬ p.sort = (⟨#[]⟩ : ByteArray):=e
  simp -implicitDefEqProofs [code_earley_Viable_1_1,res_earley_Viable_1_1,ann_earley_Viable_1_1,encP,e']
  refine callk (contains2_c P p.sort hl) rfl rfl ?_
  simp -implicitDefEqProofs
  exact retE (by simp [deferred,dslot]) rfl (by simp [needF,e]) rfl
theorem usable_c (P : List ByteArray) (R : Rl) (hl : P.length ≤ 2 ^ 31) (hp : R.parts.length ≤ 2 ^ 31) {H : AHeap} : AEx PP Gl 41 [encR R,(grown 1 (P.map sv)).ip] H (.ret (bl (usF P R))) H:=by
 refine enter_earley_Viable_1 (by simp) ?_
 simp -implicitDefEqProofs [code_earley_Viable_1,res_earley_Viable_1,ann_earley_Viable_1,encR]
 refine callk (anyP_c R.parts R.cap 43 [] [(grown 1 (P.map sv)).ip] (needF P) hp (fun p _=>usable1_c P p hl)) rfl rfl ?_
 simp -implicitDefEqProofs
 exact retE (by simp [deferred,dslot]) rfl rfl rfl
theorem der_prod {g : Gr} {tx : List ByteArray} {S : List ByteArray} (hS : GrowS g yesP S) {ps : List Pt} {i j : Nat} (h : DerP g tx ps i j) : ∀ p ∈ ps,p.sort ≠ emp → p.sort ∈ S:=by
 induction h with
 | nil=>intro p hp; cases hp
 | @sym p ps i j hs ht h ih =>
  intro q hq hne
  rcases List.mem_cons.1 hq with rfl | hq
  ·exact (hne hs).elim
  ·exact ih q hq hne
 | @arg p ps i k j r R hs hr he h1 h2 ih1 ih2 =>
  intro q hq hne
  rcases List.mem_cons.1 hq with rfl | hq
  ·rw [← he]
   refine hS.closed R (List.mem_of_getElem? hr) ?_
   rw [List.any_eq_false]
   intro p' hp'
   unfold refF
   by_cases e : p'.sort = emp
   ·simp [e]
   ·simp [e,ih1 p' hp' e]
  ·exact ih2 q hq hne
theorem der_sort {g : Gr} {tx : List ByteArray} {S : List ByteArray} (hS : GrowS g yesP S) {s : ByteArray} {i j : Nat} (h : Der g tx s i j) : s ∈ S:=by
 obtain ⟨r,R,hr,rfl,h⟩:=h
 refine hS.closed R (List.mem_of_getElem? hr) ?_
 rw [List.any_eq_false]
 intro p' hp'
 unfold refF
 by_cases e : p'.sort = emp
 ·simp [e]
 ·simp [e,der_prod hS h p' hp' e]
theorem hasF_iff {l : List ByteArray} {s : ByteArray} : hasF l s = true ↔ s ∈ l:=⟨has_mem,mem_has⟩
theorem pickS_mem {g : Gr} {S : List ByteArray} {s : ByteArray} : s ∈ pickS g S ↔ s ∈ g.sorts ∧ s ∈ S:=by simp [pickS]
end Go.Apx
end
