/- What a checked grammar is; forests as values. -/
import Derived.Test.YtccmgegmflnhgaaPD
import Derived.Test.YtccmgegmflnhgaaEB
import Derived.Test.YtccmgegmflnhgaaAw
section
namespace Go.Apx
open Go.Proofs
set_option linter.unusedVariables false
set_option linter.unusedSimpArgs false
set_option linter.unnecessarySimpa false
set_option maxRecDepth 4000
theorem check_names {g : Gr} (h : checkF g = 0) : ∀ s ∈ g.sorts,okName s = true:=by
 unfold checkF at h
 split at h
 ·omega
 ·split at h
  ·omega
  ·split at h
   ·rename_i c3
    intro s hs
    obtain ⟨i,hi⟩:=List.getElem?_of_mem hs
    have:=allIdx_iff.1 c3 i s hi
    simp only [nameOkF,Bool.and_eq_true] at this
    exact this.1
   ·omega
theorem has_mem {l : List ByteArray} {s : ByteArray} (h : hasF l s = true) : s ∈ l:=by
 unfold hasF indexF placeF at h
 cases hf : l.findIdx? (fun x=>decide (x = s)) with
 | none=>rw [hf] at h; simp at h
 | some i =>
  obtain ⟨h1,h2,_⟩:=List.findIdx?_eq_some_iff_getElem.1 hf
  have h3 : l[i] = s:=by simpa using h2
  rw [← h3]; exact List.getElem_mem h1
theorem mem_has {l : List ByteArray} {s : ByteArray} (h : s ∈ l) : hasF l s = true:=by
 obtain ⟨x,hx,_⟩:=index_of h
 unfold hasF
 rw [hx]; simp
theorem check_rule {g : Gr} (h : checkF g = 0) : ∀ R ∈ g.rules,R.sort ∈ g.sorts ∧ (∀ p ∈ R.parts,partF g p = true) ∧ onceF R.parts = true:=by
 intro R hR
 obtain ⟨i,hi⟩:=List.getElem?_of_mem hR
 have:=(check_ok h).2.2 i R hi
 simp only [ruleOkF,rruleF,Bool.and_eq_true,List.all_eq_true] at this
 refine ⟨?_,this.1.1.1.2,this.1.1.2⟩
 exact has_mem this.1.1.1.1.2
theorem check_named {g : Gr} (h : checkF g = 0) : Named g:=fun R hR=>by
 obtain ⟨h1,h2,h3⟩:=check_rule h R hR
 refine ⟨h1,fun p hp hs=>?_⟩
 have:=h2 p hp
 unfold partF at this
 rw [if_neg hs] at this
 simp only [Bool.and_eq_true] at this
 exact has_mem this.2
theorem check_sorts {g : Gr} (h : checkF g = 0) : ∀ R ∈ g.rules,R.sort ≠ emp:=fun R hR e=>by
 have:=check_names h R.sort (check_rule h R hR).1
 rw [e] at this
 simp [okName,emp] at this
theorem timesF_mono {l : List Pt} {i j : Nat} (h : i ≤ j) (k : Int) : timesF (l.take i) k ≤ timesF (l.take j) k:=by
 have hs : (l.take i).Sublist (l.take j):=by
  have : l.take i = (l.take j).take i:=by rw [List.take_take,Nat.min_eq_left h]
  rw [this]; exact List.take_sublist _ _
 exact (hs.filter _).length_le
theorem once_args {l : List Pt} (h : onceF l = true) : ArgsOk l (argsF l):=by
 have ht : ∀ a : Nat,a < argsF l → timesF l a = 1:=fun a ha=>by
  unfold onceF at h
  rw [List.all_eq_true] at h
  simpa using h a (by simpa using ha)
 have hr : ∀ (q : Nat) (p : Pt),l[q]? = some p → p.sort ≠ emp → ∃ a : Nat,p.arg = a ∧ a < argsF l:=fun q p hq hp=>by
  have:=once_arg h p (List.mem_of_getElem? hq) hp
  exact ⟨p.arg.toNat,by omega,by omega⟩
 have key : ∀ (q q' : Nat) (p p' : Pt),q < q' → l[q]? = some p → l[q']? = some p' → p.sort ≠ emp → p'.sort ≠ emp → p.arg = p'.arg → False:=fun q q' p p' hlt hq hq' hp hp' he=>by
  obtain ⟨a,ha,han⟩:=hr q p hq hp
  have h1:=ht a han
  have t1:=timesF_take (k:=(a : Int)) hq
  have t2:=timesF_take (k:=(a : Int)) hq'
  rw [if_neg hp,if_pos ha] at t1
  rw [if_neg hp',if_pos (by rw [← he,ha])] at t2
  have m1:=timesF_mono (l:=l) (show q + 1 ≤ q' from hlt) (a : Int)
  have m2 : timesF (l.take (q' + 1)) a ≤ timesF l a:=by
   have:=timesF_mono (l:=l) (show q' + 1 ≤ l.length from (List.getElem?_eq_some_iff.1 hq').1) (a : Int)
   rwa [List.take_length] at this
  omega
 refine ⟨hr,fun q q' p p' hq hq' hp hp' he=>?_,fun a ha=>?_⟩
 ·rcases Nat.lt_trichotomy q q' with h' | h' | h'
  ·exact (key q q' p p' h' hq hq' hp hp' he).elim
  ·exact h'
  ·exact (key q' q p' p h' hq' hq hp' hp he.symm).elim
 ·have h1:=ht a ha
  unfold timesF at h1
  obtain ⟨p,hp⟩ : ∃ p,p ∈ l.filter (fun p : Pt=>!decide (p.sort = ⟨#[]⟩) && decide (p.arg = (a : Int))):=by
   cases hl : l.filter (fun p : Pt=>!decide (p.sort = ⟨#[]⟩) && decide (p.arg = (a : Int))) with
   | nil=>rw [hl] at h1; simp at h1
   | cons x r=>exact ⟨x,by simp⟩
  obtain ⟨hm,hq⟩:=List.mem_filter.1 hp
  obtain ⟨q,hq2⟩:=List.getElem?_of_mem hm
  simp at hq
  exact ⟨q,p,hq2,by simpa [emp] using hq.1,hq.2⟩
def wayV (w : Nat × List Nat) : AV:=.agg [i64 (w.1 : Int),grown 1 (i64s w.2)]
def nodeV (x : Sp × List (Nat × List Nat)) : AV:=.agg [.sc (.string x.1.s),i64 (x.1.i : Int),i64 (x.1.j : Int),grown 2 (x.2.map wayV)]
def forestV (l : List (Sp × List (Nat × List Nat))) : AV:=.agg [grown 4 (l.map nodeV)]
theorem strip_apd (k : Nat) (es es' : List AV) (T : Nat) (h : stripL es = es') : (apd k es T).strip = grown k es':=by
 subst h
 cases es with
 | nil=>rfl
 | cons a es=>simp only [apd_cons,AV.strip]; rfl
theorem strip_i64s (l : List Nat) : stripL (i64s l) = i64s l:=by
 induction l with
 | nil=>rfl
 | cons a l ih=>simp only [i64s,List.map_cons,stripL] at ih ⊢; rw [ih]; rfl
theorem strip_ways (ws : List WP) : stripL (ws.map encWP) = (pwl ws).map wayV:=by
 induction ws with
 | nil=>rfl
 | cons w ws ih =>
  simp only [List.map_cons,stripL,pwl] at ih ⊢
  rw [ih]
  congr 1
  simp only [encWP,AV.strip,stripL,strip_apd 1 _ _ _ (strip_i64s w.kids),wayV]
theorem strip_nodes (ns : List NP) : stripL (ns.map encNP) = (ns.map fun x=>(x.sp,pwl x.ws)).map nodeV:=by
 induction ns with
 | nil=>rfl
 | cons x ns ih =>
  simp only [List.map_cons,stripL] at ih ⊢
  rw [ih]
  congr 1
  simp only [encNP,nodeC,AV.strip,stripL,strip_apd 2 _ _ _ (strip_ways x.ws),nodeV]
theorem strip_for (ns : List NP) (T : Nat) : (AV.agg [forV ns T]).strip = forestV (ns.map fun x=>(x.sp,pwl x.ws)):=by
 simp only [AV.strip,stripL,forV,strip_apd 4 _ _ _ (strip_nodes ns),forestV]
theorem inb_grown (n k : Nat) (es : List AV) (h : inbL n es = true) : (grown k es).inb n = true:=by
 cases es with
 | nil=>rfl
 | cons a es=>simp only [grown,if_neg (List.cons_ne_nil a es),AV.inb,h]; rfl
theorem inb_i64s (n : Nat) (l : List Nat) : inbL n (i64s l) = true:=by
 induction l with
 | nil=>rfl
 | cons a l ih=>simp only [i64s,List.map_cons,inbL] at ih ⊢; rw [ih]; rfl
theorem inb_wayV (n : Nat) (ws : List (Nat × List Nat)) : inbL n (ws.map wayV) = true:=by
 induction ws with
 | nil=>rfl
 | cons w ws ih =>
  simp only [List.map_cons,inbL,ih,wayV,AV.inb,inb_grown n 1 _ (inb_i64s n w.2)]; rfl
theorem inb_nodeV (n : Nat) (l : List (Sp × List (Nat × List Nat))) : inbL n (l.map nodeV) = true:=by
 induction l with
 | nil=>rfl
 | cons x l ih =>
  simp only [List.map_cons,inbL,ih,nodeV,AV.inb,inb_grown n 2 _ (inb_wayV n x.2)]; rfl
theorem inb_forest (n : Nat) (l : List (Sp × List (Nat × List Nat))) : (forestV l).inb n = true:=by
 simp only [forestV,AV.inb,inbL,inb_grown n 4 _ (inb_nodeV n l)]; rfl
theorem Low.cl {h H : AHeap} (hl : Low h.length h H) : Cl h H h.length:=by
 intro i o hi ho
 have : h[i]? = some h[i]:=by simp [hi]
 have h2:=hl i h[i] hi this
 rw [ho] at h2
 left
 rw [← h2] at this
 exact this
theorem Low.take {h H : AHeap} (hl : Low h.length h H) : H.take h.length = h:=by
 refine List.ext_getElem? fun i=>?_
 by_cases hi : i < h.length
 ·rw [List.getElem?_take,if_pos hi,hl i h[i] hi (by simp [hi])]; simp [hi]
 ·rw [List.getElem?_take,if_neg hi,List.getElem?_eq_none (by omega)]
end Go.Apx
end
section
namespace Go.Apx
open Go.Proofs
set_option linter.unusedVariables false
set_option linter.unusedSimpArgs false
set_option linter.unnecessarySimpa false
set_option maxRecDepth 4000
def EParseR (g : Gr) (s : ByteArray) (tx : List ByteArray) (h : AHeap) (r : AEnd) (h' : AHeap) : Prop :=
 h' = h ∧ ((askedF g s tx ≠ 0 ∧ r = .ret (.tup [.agg [.sl 0 [] .nil],i64 (askedF g s tx)])) ∨
  (askedF g s tx = 0 ∧ ∃ S L D,NF g tx s S L D ∧ (S.length = tx.length ∨ scanF g tx S.length L = []) ∧
   (((⟨s,0,tx.length⟩ : Sp) ∉ D ∧ r = .ret (.tup [.agg [.sl 0 [] .nil],i64 160])) ∨
   ((⟨s,0,tx.length⟩ : Sp) ∈ D ∧ ((∃ n,packP g tx D ⟨s,0,tx.length⟩ n = none ∧ r = .ret (.tup [.agg [.sl 0 [] .nil],i64 15])) ∨
    (∃ n L F ns,packP g tx D ⟨s,0,tx.length⟩ n = some (L,F) ∧ F.length = L.length ∧ ns.map (·.1) = L ∧ ns.map (·.2) = F ∧ r = .ret (.tup [forestV ns,i64 0])))))))
set_option maxHeartbeats 4000000 in
theorem eparse_c (g : Gr) (s : ByteArray) (tx : List ByteArray) (tc : Cap) {h : AHeap} (hs : g.sorts.length ≤ 2 ^ 31) (hc : ∀ h : AHeap,AEx PP Gl 47 [encG g] h (.ret (i64 (checkF g))) h) (hb : askedF g s tx = 0 → BdG g tx) :
  ACalls PP Gl 9 [encG g,.sc (.string s),.sl 1 (tx.map sv) tc] h (EParseR g s tx h):=by
 refine enter_earley_Parse (by simp) ?_
 simp -implicitDefEqProofs [code_earley_Parse,res_earley_Parse,ann_earley_Parse,encG]
 have hA:=asked_c g s tx tc (h:=h ++ [.cells 0 [.sl 0 [] .nil]]) hs (hc _)
 refine callk hA (by simp [encG]) rfl ?_
 have cut : ∀ (v : Int) (env : Env),env.get 6 = some (.ptr h.length 0 0) → env.get 7 = some (i64 v) → deferred env = some [] → ∀ H',H'[h.length]? = some (.cells 0 [.sl 0 [] .nil]) → Low h.length h H' → EParseR g s tx h (.ret (.tup [.agg [.sl 0 [] .nil],i64 v])) h → retPost PP Gl h [.cell 6 (.agg 1),.t 7] (EParseR g s tx h) .ret env H':=by
  intro v env e6 e7 ed H' hH hl hR
  refine retCut (v:=.tup [.agg [.sl 0 [] .nil],i64 v]) h.length ed (by simp [evalRes,evalRes1,e6,e7,hH]) (Nat.le_refl _) (Nat.le_of_lt (lt_of hH)) (by rfl) hl.cl ?_
  rw [hl.take]; exact hR
 by_cases ha : askedF g s tx = 0
 case neg =>
  simp -implicitDefEqProofs [ha]
  exact cut _ _ (by simp) (by simp) (by simp [deferred,dslot]) _ (by simp) (Low.app _ _ _) ⟨rfl,.inl ⟨ha,rfl⟩⟩
 have hbd:=hb ha
 have hck : checkF g = 0:=by
  unfold askedF at ha
  by_cases e : checkF g = 0
  ·exact e
  ·rw [if_pos e] at ha; exact (e ha).elim
 have hn:=hbd.n
 simp -implicitDefEqProofs [ha]
 obtain ⟨HA,hHA⟩ : ∃ HA,HA = h ++ [AObj.cells 0 [.sl 0 [] .nil]]:=⟨_,rfl⟩
 have hAl : HA.length = h.length + 1:=by rw [hHA]; simp
 refine callr (newChart_c g tx tc s (h:=HA) hbd (check_sorts hck)) (by simp [encG]) (by rw [hHA]) ?_
 rintro r1 H1 ⟨c,rfl,c1,c2,c3,c4,c5⟩
 have hch:=c1.ch
 have hdn:=c1.dn
 simp only [chCells] at hch
 have hr0 : H1[h.length]? = some (.cells 0 [.sl 0 [] .nil]):=c3 _ _ (by omega) (by rw [hHA]; simp)
 have hlow1 : Low h.length h H1:=fun z x hz hx=>c3 z x (by omega) (by rw [hHA,List.getElem?_append_left hz]; exact hx)
 have hfind : amapFind (.agg [.sc (.string s),i64 0,i64 (tx.length : Int)]) (amapOf encSp boolV (tkeys c.D)) = some ((afind (tkeys c.D) ⟨s,0,tx.length⟩).map boolV):=amapFind_of keySp boolV (tkeys c.D) ⟨s,0,tx.length⟩
 have hSn:=c4.li.n
 simp -implicitDefEqProofs
 by_cases hw : (⟨s,0,tx.length⟩ : Sp) ∈ c.D
 case neg =>
  by_cases hSl : c.S.length + 1 ≤ tx.length
  ·have hSe : (c.S.length : Int) + 1 ≤ tx.length:=by omega
   simp -implicitDefEqProofs [hch,hSe,hr0]
   rw [set_self' hr0]
   exact cut _ _ (by simp) (by simp) (by simp [deferred,dslot]) _ hr0 hlow1 ⟨rfl,.inr ⟨ha,c.S,c.L,c.D,c4,c5,.inl ⟨hw,rfl⟩⟩⟩
  ·have hSe : ¬ (c.S.length : Int) + 1 ≤ tx.length:=by omega
   simp -implicitDefEqProofs [hch,hSe,hdn,hfind,tkeys_find,hw,boolV,hr0]
   rw [set_self' hr0]
   exact cut _ _ (by simp) (by simp) (by simp [deferred,dslot]) _ hr0 hlow1 ⟨rfl,.inr ⟨ha,c.S,c.L,c.D,c4,c5,.inl ⟨hw,rfl⟩⟩⟩
 have hSl : ¬ (c.S.length : Int) + 1 ≤ tx.length:=by
  have:=(c4.dr _ hw).2.1
  simp only at this; omega
 simp -implicitDefEqProofs [hch,hSl,hdn,hfind,tkeys_find,hw,boolV,hr0]
 obtain ⟨HP,hHP⟩ : ∃ HP,HP = H1 ++ [.amap [],.amap [],.cells 0 [.ptr c.o 0 0,.mp H1.length,.sl 0 [] .nil,.mp (H1.length + 1)]]:=⟨_,rfl⟩
 have kp : ∀ (z : Nat) (w : AObj),H1[z]? = some w → HP[z]? = some w:=fun z w hz=>by rw [hHP,List.getElem?_append_left (lt_of hz)]; exact hz
 have p0 : HP[H1.length]? = some (.amap []):=by rw [hHP]; simp
 have p1 : HP[H1.length + 1]? = some (.amap []):=by rw [hHP,List.getElem?_append_right (by omega)]; simp
 have p2 : HP[H1.length + 2]? = some (.cells 0 [.ptr c.o 0 0,.mp H1.length,.sl 0 [] .nil,.mp (H1.length + 1)]):=by rw [hHP,List.getElem?_append_right (by omega)]; simp
 have l1:=lt_of c1.ch
 have l2:=lt_of c1.rl
 have l3:=lt_of c1.dn
 have l4:=lt_of hr0
 have hPK : PK (h.length + 1) g tx tc ⟨H1.length + 2,c.o,c.orl,c.od,H1.length,H1.length + 1,c.M,c.D⟩ [] 0 [] HP:=by
  refine ⟨p2,⟨_,_,kp _ _ c1.ch⟩,kp _ _ c1.rl,kp _ _ c1.dn,p0,p1,by simp,fun x v hv=>by simp [afind] at hv,?_,?_,?_,?_,?_,?_,?_,?_,?_⟩
  all_goals simp only
  all_goals omega
 have hok : PkOk g tx ⟨H1.length + 2,c.o,c.orl,c.od,H1.length,H1.length + 1,c.M,c.D⟩:=by
  refine ⟨hbd,c2,fun s' i j hd=>?_,fun R hR=>once_args (check_rule hck R hR).2.2⟩
  have:=c4.dr _ hd
  have h1:=this.1.le.1
  have h2:=this.2.1
  simp only at h1 h2
  omega
 refine callr (pack_c (h.length + 1) g tx tc _ 0 [] ⟨s,0,tx.length⟩ (h:=HP) hPK hok ⟨Nat.zero_le _,Nat.le_refl _⟩) (by simp [encSp]) (by rw [hHP]) ?_
 rintro r2 H2 ⟨q1,⟨n,q2,rfl⟩ | ⟨n,L,F,ns,T,q2,q3,q4,q5,rfl⟩⟩
 ·have hr2:=q1 _ _ (Nat.lt_succ_self _) (kp _ _ hr0)
  have hlow2 : Low h.length h H2:=fun z x hz hx=>q1 z x (by omega) (kp _ _ (hlow1 z x hz hx))
  simp -implicitDefEqProofs [hr2]
  rw [set_self' hr2]
  exact cut _ _ (by simp) (by simp) (by simp [deferred,dslot]) _ hr2 hlow2 ⟨rfl,.inr ⟨ha,c.S,c.L,c.D,c4,c5,.inr ⟨hw,.inl ⟨n,q2,rfl⟩⟩⟩⟩
 ·have hr2:=q1 _ _ (Nat.lt_succ_self _) (kp _ _ hr0)
  have hlow2 : Low h.length h H2:=fun z x hz hx=>q1 z x (by omega) (kp _ _ (hlow1 z x hz hx))
  have hl2:=lt_of hr2
  simp -implicitDefEqProofs [hr2]
  have hlow3 : ∀ y,Low h.length h (H2.set h.length y):=fun y z x hz hx=>by
   rw [List.getElem?_set_ne (by omega)]; exact hlow2 z x hz hx
  have hst:=strip_for ns T
  refine retCut (v:=.tup [.agg [forV ns T],i64 0]) h.length (by simp [deferred,dslot]) (by simp [evalRes,evalRes1,hl2]) (Nat.le_refl _) (by simp; omega) ?_ (hlow3 _).cl ?_
  ·simp only [AV.strip,stripL] at hst ⊢
   rw [hst]
   simp only [AV.inb,inbL,inb_forest]
   rfl
  ·rw [(hlow3 _).take]
   refine ⟨rfl,.inr ⟨ha,c.S,c.L,c.D,c4,c5,.inr ⟨hw,.inr ⟨n,L,F,ns.map fun x=>(x.sp,pwl x.ws),q2,q3,?_,?_,?_⟩⟩⟩⟩
   ·rw [← q4,List.map_map]; rfl
   ·rw [← q5,List.map_map]; rfl
   ·simp only [AV.strip,stripL] at hst ⊢
    rw [hst]
end Go.Apx
end
section
namespace Go.Apx
open Go.Proofs
set_option linter.unusedVariables false
set_option linter.unusedSimpArgs false
set_option linter.unnecessarySimpa false
set_option maxRecDepth 4000
theorem splits_px {g : Gr} {tx : List ByteArray} {X : List Bool} : ∀ (ps : List Pt) (i j : Nat),j ≤ tx.length → splitsF g tx X ps i j ≠ [] → PX (Mk g tx.length X) tx ps i j
 | [],i,j,_,h=>by
  simp only [splitsF] at h
  split at h
  ·assumption
  ·exact (h rfl).elim
 | p :: ps,i,j,hj,h=>by
  simp only [splitsF] at h
  obtain ⟨w,hw⟩:=List.exists_mem_of_ne_nil _ h
  obtain ⟨e,he,hw⟩:=List.mem_flatMap.1 hw
  obtain ⟨m,hm,rfl⟩:=List.mem_range'.1 he
  split at hw
  ·rename_i hc
   obtain ⟨v,hv,rfl⟩:=List.mem_map.1 hw
   have ih:=splits_px ps (i + 1 * m) j hj (List.ne_nil_of_mem hv)
   rcases (lieF_true (by omega)).1 hc.1 with ⟨h1,h2,h3⟩ | ⟨h1,h2⟩
   ·exact .inl ⟨h1,h2,by rw [← h3]; exact ih⟩
   ·exact .inr ⟨h1,_,h2,ih⟩
  ·cases hw
theorem spAt_eq {g : Gr} {tx : List ByteArray} {X : List Bool} {p : Pt} {ps : List Pt} {i j e : Nat} (he : e ≤ tx.length) (hj : j ≤ tx.length) : spAt g tx X p ps i j e = if lieF g tx X p i e = true then (splitsF g tx X ps e j).map (e :: ·) else []:=by
 unfold spAt
 by_cases h1 : lieF g tx X p i e = true
 ·by_cases h2 : (endsF g tx X (startF tx.length e) ps).getD j false = true
  ·rw [if_pos ⟨h1,h2⟩,if_pos h1]
  ·rw [if_neg (fun h=>h2 h.2),if_pos h1]
   have : splitsF g tx X ps e j = []:=by
    by_cases hs : splitsF g tx X ps e j = []
    ·exact hs
    ·exact (h2 ((endsF_true he ps.length ps rfl j hj).2 (splits_px ps e j hj hs))).elim
   rw [this]; rfl
 ·rw [if_neg (fun h=>h1 h.1),if_neg h1]
section
variable {g : Gr} {tx : List ByteArray} {X : List Bool} {S : Nat → Itm → Prop} {D : List Sp}
structure Both (g : Gr) (tx : List ByteArray) (X : List Bool) (S : Nat → Itm → Prop) (D : List Sp) : Prop where
 cl : Closed g tx S (fun s i j=>(⟨s,i,j⟩ : Sp) ∈ D)
 so : Sound g tx X
 fu : Full g tx X
 nm : Named g
theorem paths_splits (h : Both g tx X S D) : ∀ (ps : List Pt) (i j : Nat) (x : Itm) (R : Rl),S i x → g.rules[x.r]? = some R → R.parts.drop x.d = ps → j ≤ tx.length → pathsF (lieD tx D) ps i j = splitsF g tx X ps i j
 | [],i,j,x,R,_,_,_,_=>rfl
 | p :: ps,i,j,x,R,hS,hR,hd,hj=>by
  obtain ⟨hp,hd1⟩:=drop_get hd
  have hn : nextF g x = some p:=by simp [nextF,hR,hp]
  have hin : i ≤ tx.length:=by
   obtain ⟨R',_,_,_,h3,_⟩:=h.cl.sound i x hS
   exact h3
  have hpm:=(h.nm R (List.mem_of_getElem? hR)).2 p (List.mem_of_getElem? hp)
  rw [splitsF_cons]
  simp only [pathsF]
  have key : ∀ e ∈ List.range' i (j + 1 - i),(if lieD tx D p i e = true then (pathsF (lieD tx D) ps e j).map (e :: ·) else []) = spAt g tx X p ps i j e:=by
   intro e he
   obtain ⟨m,hm,rfl⟩:=List.mem_range'.1 he
   have hen : i + 1 * m ≤ tx.length:=by omega
   rw [spAt_eq hen hj]
   have hlie : lieD tx D p i (i + 1 * m) = lieF g tx X p i (i + 1 * m):=by
    rw [Bool.eq_iff_iff,lieF_true hen]
    by_cases hs : p.sort = emp
    ·simp [lieD,hs]; exact ⟨fun ⟨a,b⟩=>⟨b,a⟩,fun ⟨a,b⟩=>⟨b,a⟩⟩
    ·have hb : Begun g S p.sort i:=fun r R' hr he=>h.cl.pred _ _ _ hS hn hs r R' hr he
     have h1:=h.cl.iff hb (i + 1 * m)
     have h2:=marks_right h.so h.fu (hpm hs) hin (i + 1 * m)
     simp only [lieD,if_neg hs,decide_eq_true_eq]
     constructor
     ·intro hd; exact .inr ⟨hs,h2.2 (h1.1 hd)⟩
     ·rintro (⟨h3,_⟩ | ⟨_,h3⟩)
      ·exact (hs h3).elim
      ·exact h1.2 (h2.1 h3)
   by_cases hl : lieD tx D p i (i + 1 * m) = true
   ·rw [if_pos hl,if_pos (by rw [← hlie]; exact hl)]
    have hadv : S (i + 1 * m) x.adv:=by
     by_cases hs : p.sort = emp
     ·simp [lieD,hs] at hl
      have:=h.cl.scan _ _ _ hS hn hs hl.2
      rw [show i + 1 * m = i + 1 by omega]; exact this
     ·simp only [lieD,if_neg hs,decide_eq_true_eq] at hl
      exact h.cl.move _ _ _ _ _ hl hS hn rfl hs
    rw [paths_splits h ps (i + 1 * m) j x.adv R hadv hR hd1 hj]
   ·rw [if_neg hl,if_neg (by rw [← hlie]; exact hl)]
  rw [List.flatMap_def,List.flatMap_def,List.map_congr_left key]
theorem paths_begun (h : Both g tx X S D) : ∀ (ps : List Pt) (i j : Nat) (x : Itm) (R : Rl),S i x → g.rules[x.r]? = some R → R.parts.drop x.d = ps → j ≤ tx.length → ∀ w ∈ pathsF (lieD tx D) ps i j,∀ (q : Nat) (p : Pt),ps[q]? = some p → p.sort ≠ emp → Begun g S p.sort (startP i w q)
 | [],i,j,x,R,_,_,_,_,w,_,q,p,hq,_=>by simp at hq
 | p0 :: ps,i,j,x,R,hS,hR,hd,hj,w,hw,q,p,hq,hps=>by
  obtain ⟨hp,hd1⟩:=drop_get hd
  have hn : nextF g x = some p0:=by simp [nextF,hR,hp]
  simp only [pathsF] at hw
  obtain ⟨e,he,hw⟩:=List.mem_flatMap.1 hw
  split at hw
  ·rename_i hl
   obtain ⟨v,hv,rfl⟩:=List.mem_map.1 hw
   cases q with
   | zero =>
    simp at hq; subst hq
    simp only [startP,if_pos]
    exact fun r R' hr he=>h.cl.pred _ _ _ hS hn hps r R' hr he
   | succ q =>
    have hadv : S e x.adv:=by
     by_cases hs : p0.sort = emp
     ·simp [lieD,hs] at hl
      have:=h.cl.scan _ _ _ hS hn hs hl.2
      rw [hl.1]; exact this
     ·simp only [lieD,if_neg hs,decide_eq_true_eq] at hl
      exact h.cl.move _ _ _ _ _ hl hS hn rfl hs
    have:=paths_begun h ps e j x.adv R hadv hR hd1 hj v hv q p (by simpa using hq) hps
    have hst : startP i (e :: v) (q + 1) = startP e v q:=by
     unfold startP
     simp only [Nat.add_one_ne_zero,if_false,Nat.add_sub_cancel]
     cases q with
     | zero=>simp
     | succ q=>simp
    rw [hst]; exact this
  ·cases hw
end
theorem kid4_eq {ps : List Pt} {n i0 a q : Nat} {sp : List Nat} {p : Pt} (hA : ArgsOk ps n) (hq : ps[q]? = some p) (hp : p.sort ≠ emp) (ha : p.arg = (a : Int)) (st : List Sp × List Nat) : ∀ m,kid4 ps i0 sp a st m = if q < m then ((numSp st.1 ⟨p.sort,startP i0 sp q,sp.getD q 0⟩).1,st.2.set a (numSp st.1 ⟨p.sort,startP i0 sp q,sp.getD q 0⟩).2) else st
 | 0=>by simp [kid4]
 | m + 1=>by
  rw [kid4_succ,kid4_eq hA hq hp ha st m]
  unfold stepP
  cases hm : ps[m]? with
  | none =>
   have h1:=List.getElem?_eq_none_iff.1 hm
   have h2:=(List.getElem?_eq_some_iff.1 hq).1
   rw [if_pos (by omega),if_pos (by omega)]
  | some p' =>
   simp only
   by_cases hc : p'.sort = emp ∨ p'.arg ≠ (a : Int)
   ·rw [if_pos hc]
    have hne : q ≠ m:=by
     rintro rfl
     rw [hq] at hm; cases hm
     rcases hc with hc | hc
     ·exact hp hc
     ·exact hc ha
    by_cases hqm : q < m
    ·rw [if_pos hqm,if_pos (by omega)]
    ·rw [if_neg hqm,if_neg (by omega)]
   ·rw [if_neg hc]
    simp only [not_or,ne_eq,Decidable.not_not] at hc
    have hqm:=hA.inj q m p p' hq hm hp hc.1 (by rw [ha,hc.2])
    subst hqm
    rw [hq] at hm; cases hm
    rw [if_neg (Nat.lt_irrefl q),if_pos (Nat.lt_succ_self q)]
theorem kid3_eq {ps : List Pt} {n i0 : Nat} {sp : List Nat} (hA : ArgsOk ps n) (hl : sp.length = ps.length) (L : List Sp) : ∀ a,a ≤ n → kid3 ps i0 sp (L,List.replicate n 0) a = ((numAll L ((spansOf ps i0 n sp).take a)).1,(numAll L ((spansOf ps i0 n sp).take a)).2 ++ List.replicate (n - a) 0)
 | 0,_=>by simp [kid3,numAll]
 | a + 1,ha=>by
  obtain ⟨q,p,hq,hp,hpa⟩:=hA.sur a (by omega)
  have hqs:=(List.getElem?_eq_some_iff.1 hq).1
  rw [kid3_succ,kid3_eq hA hl L a (by omega),kid4_eq hA hq hp hpa,if_pos (by omega)]
  have hsa : (spansOf ps i0 n sp)[a]? = some ⟨p.sort,startP i0 sp q,sp.getD q 0⟩:=by
   simp [spansOf,show a < n by omega,hA.pos hq hp hpa,hq]
  rw [numAll_take hsa]
  simp only
  congr 1
  have hnl : (numAll L ((spansOf ps i0 n sp).take a)).2.length = a:=by
   have:=(numAll_le ((spansOf ps i0 n sp).take a) L []).2.2
   unfold numAll
   rw [this]
   simp [spansOf]; omega
  rw [List.set_append_right _ _ (by omega),hnl,Nat.sub_self,List.append_assoc]
  congr 1
  rw [show n - a = (n - (a + 1)) + 1 by omega,List.replicate_succ]
  rfl
theorem way_eq {g : Gr} {r : Nat} {R : Rl} {i0 : Nat} {sp : List Nat} (hR : g.rules[r]? = some R) (hA : ArgsOk R.parts (argsF R.parts)) (hl : sp.length = R.parts.length) (L : List Sp) : wayR g i0 L (r,sp) = wayP L (r,spansOf R.parts i0 (argsF R.parts) sp):=by
 have h1:=kid3_eq (i0:=i0) hA hl L (argsF R.parts) (Nat.le_refl _)
 have h2 : (spansOf R.parts i0 (argsF R.parts) sp).take (argsF R.parts) = spansOf R.parts i0 (argsF R.parts) sp:=List.take_of_length_le (by simp [spansOf])
 rw [h2,Nat.sub_self] at h1
 simp only [wayR,hR,h1,wayP]
 simp
end Go.Apx
end
section
namespace Go.Apx
open Go.Proofs
set_option linter.unusedVariables false
set_option linter.unusedSimpArgs false
set_option linter.unnecessarySimpa false
set_option maxRecDepth 4000
def convC (g : Gr) (s : Sp) (c : Nat × List Nat) : Nat × List Sp:=match g.rules[c.1]? with
 | none=>(c.1,[])
 | some R=>(c.1,spansOf R.parts s.i (argsF R.parts) c.2)
theorem flatMap_filter' {α β : Type} (p : α → Bool) (f : α → List β) : ∀ l : List α,(l.filter p).flatMap f = l.flatMap fun a=>if p a = true then f a else []
 | []=>rfl
 | a :: l=>by
  rw [List.filter_cons,List.flatMap_cons,← flatMap_filter' p f l]
  split <;> simp
theorem runW_map {C C' W : Type} (way : List Sp → C → List Sp × W) (way' : List Sp → C' → List Sp × W) (f : C → C') : ∀ (l : List C) (st : List Sp × List W),(∀ c ∈ l,∀ L,way L c = way' L (f c)) → runW way st l = runW way' st (l.map f)
 | [],st,_=>rfl
 | c :: l,st,h=>by
  show runW way ((way st.1 c).1,st.2 ++ [(way st.1 c).2]) l = runW way' ((way' st.1 (f c)).1,st.2 ++ [(way' st.1 (f c)).2]) (l.map f)
  rw [h c (by simp) st.1]
  exact runW_map way way' f l _ (fun c hc L=>h c (by simp [hc]) L)
section
variable {g : Gr} {tx : List ByteArray} {X : List Bool} {S : Nat → Itm → Prop} {D : List Sp}
def Met (g : Gr) (tx : List ByteArray) (S : Nat → Itm → Prop) (x : Sp) : Prop:=Begun g S x.s x.i ∧ x.i ≤ tx.length ∧ x.j ≤ tx.length
theorem cands_eq (h : Both g tx X S D) {s : Sp} (hm : Met g tx S s) : candsP g tx D s = (candsR g tx X s).map (convC g s):=by
 unfold candsP candsR rulesTo
 rw [flatMap_filter',List.map_flatMap,List.flatMap_def,List.flatMap_def]
 congr 1
 refine List.map_congr_left fun r _=>?_
 unfold candP candR
 cases hR : g.rules[r]? with
 | none=>rfl
 | some R =>
  simp only
  by_cases hs : R.sort = s.s
  ·rw [if_pos (by simpa using hs),if_pos hs,List.map_map]
   have hp:=paths_splits h R.parts s.i s.j ⟨r,0,s.i⟩ R (hm.1 r R hR hs) hR rfl hm.2.2
   rw [hp]
   refine List.map_congr_left fun w _=>?_
   simp [convC,hR]
  ·rw [if_neg (by simpa using hs),if_neg hs]; rfl
theorem run_eq (h : Both g tx X S D) (ha : ∀ R ∈ g.rules,ArgsOk R.parts (argsF R.parts)) {s : Sp} (hm : Met g tx S s) (st : List Sp × List (Nat × List Nat)) : runW (wayR g s.i) st (candsR g tx X s) = runW wayP st (candsP g tx D s):=by
 rw [cands_eq h hm]
 refine runW_map _ _ _ _ _ fun c hc L=>?_
 obtain ⟨r,_,hc⟩:=List.mem_flatMap.1 hc
 unfold candR at hc
 cases hR : g.rules[r]? with
 | none=>rw [hR] at hc; cases hc
 | some R =>
  rw [hR] at hc
  simp only at hc
  split at hc
  ·obtain ⟨w,hw,rfl⟩:=List.mem_map.1 hc
   have:=way_eq (i0:=s.i) hR (ha R (List.mem_of_getElem? hR)) (splits_each g tx X R.parts s.i s.j w hw) L
   rw [this]
   simp [convC,hR]
  ·cases hc
theorem Met.num {L : List Sp} {x : Sp} (h : ∀ y ∈ L,Met g tx S y) (hx : Met g tx S x) : ∀ y ∈ (numSp L x).1,Met g tx S y:=by
 unfold numSp
 split
 ·exact h
 ·intro y hy
  rcases List.mem_append.1 hy with h' | h'
  ·exact h y h'
  ·simp at h'; subst h'; exact hx
theorem Met.all : ∀ {w L : List Sp} {ns : List Nat},(∀ y ∈ L,Met g tx S y) → (∀ y ∈ w,Met g tx S y) → ∀ y ∈ (w.foldl (fun st x=>((numSp st.1 x).1,st.2 ++ [(numSp st.1 x).2])) (L,ns)).1,Met g tx S y
 | [],L,ns,h,_=>h
 | x :: w,L,ns,h,hw=>Met.all (w:=w) (Met.num h (hw x (by simp))) (fun y hy=>hw y (by simp [hy]))
theorem Met.run : ∀ {c : List (Nat × List Sp)} {st : List Sp × List (Nat × List Nat)},(∀ y ∈ st.1,Met g tx S y) → (∀ x ∈ c,∀ y ∈ x.2,Met g tx S y) → ∀ y ∈ (runW wayP st c).1,Met g tx S y
 | [],st,h,_=>h
 | a :: c,st,h,hc=>Met.run (c:=c) (st:=((wayP st.1 a).1,st.2 ++ [(wayP st.1 a).2])) (Met.all h (hc a (by simp))) (fun x hx=>hc x (by simp [hx]))
theorem Met.cands (h : Both g tx X S D) (ha : ∀ R ∈ g.rules,ArgsOk R.parts (argsF R.parts)) {s : Sp} (hm : Met g tx S s) : ∀ x ∈ candsP g tx D s,∀ y ∈ x.2,Met g tx S y:=by
 intro x hx y hy
 obtain ⟨r,hr,hx⟩:=List.mem_flatMap.1 hx
 obtain ⟨R,hR,hs⟩:=rulesTo_mem.1 hr
 have hA:=ha R (List.mem_of_getElem? hR)
 unfold candP at hx
 rw [hR] at hx
 simp only at hx
 obtain ⟨w,hw,rfl⟩:=List.mem_map.1 hx
 have hin:=spansOf_in (tx:=tx) (ps:=R.parts) (n:=argsF R.parts) hm.2.1 (fun e he=>Nat.le_trans (paths_le _ _ _ _ w hw e he) hm.2.2) y hy
 refine ⟨?_,hin⟩
 obtain ⟨a,han,rfl⟩:=List.mem_map.1 hy
 obtain ⟨q,p,hq,hp,hpa⟩:=hA.sur a (by simpa using han)
 have:=paths_begun h R.parts s.i s.j ⟨r,0,s.i⟩ R (hm.1 r R hR hs) hR rfl hm.2.2 w hw q p hq hp
 simpa [hA.pos hq hp hpa,hq] using this
theorem pack_eq (h : Both g tx X S D) (ha : ∀ R ∈ g.rules,ArgsOk R.parts (argsF R.parts)) {s : ByteArray} (hm : Met g tx S ⟨s,0,tx.length⟩) : ∀ n,packR g tx X s n = packP g tx D ⟨s,0,tx.length⟩ n ∧ ∀ L F,packP g tx D ⟨s,0,tx.length⟩ n = some (L,F) → ∀ y ∈ L,Met g tx S y
 | 0=>⟨rfl,fun L F he=>by
   simp only [packP,packSt,Option.some.injEq,Prod.mk.injEq] at he
   obtain ⟨rfl,rfl⟩:=he
   intro y hy; simp at hy; subst hy; exact hm⟩
 | n + 1=>by
  obtain ⟨ih1,ih2⟩:=pack_eq h ha hm n
  have e1 : packR g tx X s (n + 1) = (packR g tx X s n).bind (packStep (candsR g tx X) fun s=>wayR g s.i):=rfl
  have e2 : packP g tx D ⟨s,0,tx.length⟩ (n + 1) = (packP g tx D ⟨s,0,tx.length⟩ n).bind (packStep (candsP g tx D) fun _=>wayP):=rfl
  rw [e1,e2,ih1]
  cases hp : packP g tx D ⟨s,0,tx.length⟩ n with
  | none=>exact ⟨rfl,fun L F he=>by cases he⟩
  | some st =>
   obtain ⟨L,F⟩:=st
   have hL:=ih2 L F hp
   simp only [Option.bind_some]
   unfold packStep
   simp only
   cases hs : L[F.length]? with
   | none=>exact ⟨rfl,fun L' F' he=>by simp only [Option.some.injEq,Prod.mk.injEq] at he; obtain ⟨rfl,rfl⟩:=he; exact hL⟩
   | some x =>
    have hmx:=hL x (List.mem_of_getElem? hs)
    simp only
    rw [run_eq h ha hmx]
    refine ⟨rfl,fun L' F' he=>?_⟩
    split at he
    ·cases he
    ·simp only [Option.some.injEq,Prod.mk.injEq] at he
     obtain ⟨rfl,rfl⟩:=he
     exact Met.run hL (Met.cands h ha hmx)
end
theorem pack_none {C W : Type} {cand : Sp → List C} {way : Sp → List Sp → C → List Sp × W} {L0 : List Sp} {n : Nat} (h : packSt cand way L0 n = none) : ∀ m,n ≤ m → packSt cand way L0 m = none
 | 0,hm=>by
        have : n = 0:=by omega
        rw [this] at h; exact h
 | m + 1,hm=>by
  rcases Nat.lt_or_eq_of_le hm with h1 | h1
  ·show (packSt cand way L0 m).bind _ = none
   rw [pack_none h m (by omega)]; rfl
  ·rw [← h1]; exact h
theorem pack_done {C W : Type} {cand : Sp → List C} {way : Sp → List Sp → C → List Sp × W} {L0 : List Sp} {n : Nat} {L : List Sp} {F : List (List W)} (h : packSt cand way L0 n = some (L,F)) (hl : F.length = L.length) : ∀ m,n ≤ m → packSt cand way L0 m = some (L,F)
 | 0,hm=>by
        have : n = 0:=by omega
        rw [this] at h; exact h
 | m + 1,hm=>by
  rcases Nat.lt_or_eq_of_le hm with h1 | h1
  ·show (packSt cand way L0 m).bind _ = _
   rw [pack_done h hl m (by omega)]
   show packStep cand way (L,F) = _
   unfold packStep
   have : L[F.length]? = none:=List.getElem?_eq_none (by omega)
   simp only [this]
  ·rw [← h1]; exact h
theorem results_eq {g : Gr} {s : ByteArray} {tx : List ByteArray} {h h1 h2 : AHeap} {r1 r2 : AEnd} (hc : checkF g = 0 → True) (p1 : EParseR g s tx h r1 h1) (p2 : ParseR g s tx h r2 h2) :
  h1 = h ∧ (∀ (z : Nat) (x : AObj),h[z]? = some x → h2[z]? = some x) ∧
  ((∃ e : Int,r1 = .ret (.tup [.agg [.sl 0 [] .nil],i64 e]) ∧ r2 = .ret (.tup [.agg [.sl 0 [] .nil],i64 e])) ∨
   (∃ ns v D n,packP g tx D ⟨s,0,tx.length⟩ n = some (ns.map (·.1),ns.map (·.2)) ∧ r1 = .ret (.tup [forestV ns,i64 0]) ∧ r2 = .ret (.tup [v,i64 0]) ∧ RFor h2 v (ns.map (·.1)) (ns.map (·.2)))):=by
 obtain ⟨q1,q2⟩:=p1
 obtain ⟨q3,q4⟩:=p2
 refine ⟨q1,q3,?_⟩
 have hae : askedF g s tx = rerrF g s tx:=by
  unfold askedF rerrF
  by_cases e1 : checkF g = 0
  ·by_cases e2 : s ∈ g.sorts
   ·simp [e1,e2,mem_has e2]
   ·have : hasF g.sorts s = false:=by
     cases hh : hasF g.sorts s with
     | false=>rfl
     | true=>exact (e2 (has_mem hh)).elim
    simp [e1,e2,this]
  ·simp [e1]
 rcases q2 with ⟨a1,rfl⟩ | ⟨a1,S,L,D,hNF,hend,a2⟩
 ·rcases q4 with ⟨b1,rfl⟩ | ⟨b1,_⟩
  ·exact .inl ⟨_,rfl,by rw [hae]⟩
  ·rw [hae] at a1; exact (a1 b1).elim
 ·rcases q4 with ⟨b1,_⟩ | ⟨b1,X,hso,hfu,b2⟩
  ·rw [hae] at a1; exact (b1 a1).elim
  ·have hck : checkF g = 0:=by
    unfold rerrF at b1
    by_cases e : checkF g = 0
    ·exact e
    ·rw [if_pos e] at b1; exact (e b1).elim
   have hsm : s ∈ g.sorts:=by
    unfold rerrF at b1
    rw [if_neg (by simpa using hck)] at b1
    by_cases e : s ∈ g.sorts
    ·exact e
    ·rw [if_pos e] at b1; omega
   obtain ⟨hcl,hbg⟩:=hNF.all hend
   have hboth : Both g tx X (fun k x=>x ∈ plc S L k) D:=⟨hcl,hso,hfu,check_named hck⟩
   have hiff : (⟨s,0,tx.length⟩ : Sp) ∈ D ↔ Mk g tx.length X s 0 tx.length:=by
    rw [hcl.iff hbg tx.length]
    exact (marks_right hso hfu hsm (Nat.zero_le _) tx.length).symm
   have hA : ∀ R ∈ g.rules,ArgsOk R.parts (argsF R.parts):=fun R hR=>once_args (check_rule hck R hR).2.2
   have hpe:=fun n=>(pack_eq hboth hA (s:=s) ⟨hbg,Nat.zero_le _,Nat.le_refl _⟩ n).1
   rcases a2 with ⟨a3,rfl⟩ | ⟨a3,a4⟩
   ·rcases b2 with ⟨b3,rfl⟩ | ⟨b3,_⟩
    ·exact .inl ⟨_,rfl,rfl⟩
    ·exact (a3 (hiff.2 b3)).elim
   ·rcases b2 with ⟨b3,_⟩ | ⟨b3,b4⟩
    ·exact (b3 (hiff.1 a3)).elim
    ·rcases a4 with ⟨n,a5,rfl⟩ | ⟨n,L1,F1,ns,a5,a6,a7,a8,rfl⟩
     ·rcases b4 with ⟨m,b5,rfl⟩ | ⟨m,L2,F2,v,b5,b6,b7,rfl⟩
      ·exact .inl ⟨_,rfl,rfl⟩
      ·rw [hpe m] at b5
       have e1:=pack_none a5 (max n m) (Nat.le_max_left _ _)
       have e2:=pack_done b5 b6 (max n m) (Nat.le_max_right _ _)
       rw [e1] at e2; cases e2
     ·rcases b4 with ⟨m,b5,rfl⟩ | ⟨m,L2,F2,v,b5,b6,b7,rfl⟩
      ·rw [hpe m] at b5
       have e1:=pack_none b5 (max n m) (Nat.le_max_right _ _)
       have e2:=pack_done a5 a6 (max n m) (Nat.le_max_left _ _)
       rw [e1] at e2; cases e2
      ·rw [hpe m] at b5
       have e1:=pack_done a5 a6 (max n m) (Nat.le_max_left _ _)
       have e2:=pack_done b5 b6 (max n m) (Nat.le_max_right _ _)
       rw [e1] at e2
       simp only [Option.some.injEq,Prod.mk.injEq] at e2
       obtain ⟨rfl,rfl⟩:=e2
       exact .inr ⟨ns,v,D,n,by rw [a7,a8]; exact a5,rfl,rfl,by rw [a7,a8]; exact b7⟩
end Go.Apx
end
section
namespace Go.Apx
open Go.Proofs
set_option linter.unusedVariables false
set_option linter.unusedSimpArgs false
set_option linter.unnecessarySimpa false
set_option maxRecDepth 4000
theorem conv_get (g : Gr) (r : Nat) : (convG g).rules[r]? = (g.rules[r]?).map convR:=by
 show (g.rules.map convR)[r]? = _
 rw [List.getElem?_map]
theorem conv_derP {g : Gr} {tx : List ByteArray} {ps : List Pt} {i j : Nat} (h : DerP (convG g) tx ps i j) : DerP g tx ps i j:=by
 induction h with
 | nil=>exact .nil _
 | sym hs ht h ih=>exact .sym hs ht ih
 | @arg p ps i k j r R hs hr he h1 h2 ih1 ih2 =>
  rw [conv_get] at hr
  cases hR : g.rules[r]? with
  | none=>rw [hR] at hr; cases hr
  | some R0 =>
   rw [hR] at hr
   cases hr
   exact .arg hs hR he ih1 ih2
theorem conv_der {g : Gr} {tx : List ByteArray} {s : ByteArray} {i j : Nat} (h : Der (convG g) tx s i j) : Der g tx s i j:=by
 obtain ⟨r,R,hr,he,h⟩:=h
 rw [conv_get] at hr
 cases hR : g.rules[r]? with
 | none=>rw [hR] at hr; cases hr
 | some R0 =>
  rw [hR] at hr
  cases hr
  exact ⟨r,R0,hR,he,conv_derP h⟩
theorem conv_sound {g : Gr} {tx : List ByteArray} {X : List Bool} (h : Sound (convG g) tx X) : Sound g tx X:=fun s i k hm hs=>conv_der (h s i k hm hs)
theorem conv_full {g : Gr} {tx : List ByteArray} {X : List Bool} (h : Full (convG g) tx X) : Full g tx X:=fun r R i j hr hi hp=>by
 have:=h r (convR R) i j (by rw [conv_get,hr]; rfl) hi hp
 exact this
theorem conv_splits (g : Gr) (tx : List ByteArray) (X : List Bool) : ∀ (ps : List Pt) (i j : Nat),splitsF (convG g) tx X ps i j = splitsF g tx X ps i j
 | [],i,j=>rfl
 | p :: ps,i,j=>by
  simp only [splitsF,conv_splits g tx X ps]
  rfl
theorem conv_cand (g : Gr) (tx : List ByteArray) (X : List Bool) (s : Sp) (r : Nat) : candR (convG g) tx X s r = candR g tx X s r:=by
 unfold candR
 rw [conv_get]
 cases g.rules[r]? with
 | none=>rfl
 | some R =>
  simp only [Option.map_some,conv_splits]
  rfl
theorem conv_way (g : Gr) (i0 : Nat) (L : List Sp) (c : Nat × List Nat) : wayR (convG g) i0 L c = wayR g i0 L c:=by
 unfold wayR
 rw [conv_get]
 cases g.rules[c.1]? <;> rfl
theorem conv_pack (g : Gr) (tx : List ByteArray) (X : List Bool) (s : ByteArray) (n : Nat) : packR (convG g) tx X s n = packR g tx X s n:=by
 have h1 : candsR (convG g) tx X = candsR g tx X:=by
  funext s
  unfold candsR
  have : (convG g).rules.length = g.rules.length:=by simp [convG]
  rw [this]
  congr 1
  funext r
  exact conv_cand g tx X s r
 have h2 : (fun s : Sp=>wayR (convG g) s.i) = fun s=>wayR g s.i:=by
  funext s L c
  exact conv_way g s.i L c
 unfold packR
 rw [h1,h2]
theorem conv_parse {g : Gr} {s : ByteArray} {tx : List ByteArray} {h h' : AHeap} {r : AEnd} (p : ParseR (convG g) s tx h r h') : ParseR g s tx h r h':=by
 have he : rerrF (convG g) s tx = rerrF g s tx:=by
  unfold rerrF
  rw [conv_check]
  rfl
 obtain ⟨p1,p2⟩:=p
 refine ⟨p1,?_⟩
 rw [he] at p2
 rcases p2 with p2 | ⟨p3,X,p4,p5,p6⟩
 ·exact .inl p2
 ·refine .inr ⟨p3,X,conv_sound p4,conv_full p5,?_⟩
  rcases p6 with p6 | ⟨p7,⟨n,p8,p9⟩ | ⟨n,L,F,v,p8,p9⟩⟩
  ·exact .inl p6
  ·exact .inr ⟨p7,.inl ⟨n,by rw [← conv_pack]; exact p8,p9⟩⟩
  ·exact .inr ⟨p7,.inr ⟨n,L,F,v,by rw [← conv_pack]; exact p8,p9⟩⟩
end Go.Apx
end
section
namespace Go.Apx
open Go.Proofs
set_option linter.unusedVariables false
set_option linter.unusedSimpArgs false
set_option linter.unnecessarySimpa false
set_option maxRecDepth 4000
@[simp] theorem isPend_wayV (w : Nat × List Nat) : (wayV w).isPend = false:=rfl
@[simp] theorem one_wayV (w : Nat × List Nat) : (wayV w).one = false:=rfl
@[simp] theorem isPend_nodeV (x : Sp × List (Nat × List Nat)) : (nodeV x).isPend = false:=rfl
@[simp] theorem one_nodeV (x : Sp × List (Nat × List Nat)) : (nodeV x).one = false:=rfl
@[simp] theorem isPend_forestV (l : List (Sp × List (Nat × List Nat))) : (forestV l).isPend = false:=rfl
structure CN where
 x : Sp × List (Nat × List Nat)
 T : Nat
def encCN (c : CN) : AV:=.agg [.sc (.string c.x.1.s),i64 (c.x.1.i : Int),i64 (c.x.1.j : Int),apd 2 (c.x.2.map wayV) c.T]
@[simp] theorem isPend_encCN (c : CN) : (encCN c).isPend = false:=rfl
@[simp] theorem one_encCN (c : CN) : (encCN c).one = false:=rfl
theorem strip_wayV (ws : List (Nat × List Nat)) : stripL (ws.map wayV) = ws.map wayV:=by
 induction ws with
 | nil=>rfl
 | cons w ws ih =>
  simp only [List.map_cons,stripL,ih]
  congr 1
  simp only [wayV,AV.strip,stripL]
  congr 2
  cases w.2 with
  | nil=>rfl
  | cons a l=>simp only [grown,i64s,List.map_cons,AV.strip]; rw [if_neg (by simp),if_neg (by simp)]; have:=strip_i64s (a :: l); simp only [i64s,List.map_cons] at this; rw [this]; rfl
theorem strip_CN (l : List CN) : stripL (l.map encCN) = (l.map (·.x)).map nodeV:=by
 induction l with
 | nil=>rfl
 | cons c l ih =>
  simp only [List.map_cons,stripL,ih]
  congr 1
  simp only [encCN,AV.strip,stripL,strip_apd 2 _ _ _ (strip_wayV c.x.2),nodeV]
structure FS1 where
 i : Nat
 l : List CN
 T : Nat
 H : AHeap
structure FI1 (ns : List (Sp × List (Nat × List Nat))) (h : AHeap) (st : FS1) : Prop where
 i : st.i ≤ ns.length
 l : st.l.map (·.x) = ns.take st.i
 ob : st.H[h.length]? = some (.cells 0 [apd 4 (st.l.map encCN) st.T])
 tk : st.l ≠ [] → st.H[st.T]? = some (.tok st.l.length) ∧ h.length ≤ st.T
 low : Low h.length h st.H
structure FS2 where
 k : Nat
 T : Nat
 H : AHeap
structure FI2 (h : AHeap) (l : List CN) (Tf o5 : Nat) (x : Sp × List (Nat × List Nat)) (st : FS2) : Prop where
 k : st.k ≤ x.2.length
 ob : st.H[h.length]? = some (.cells 0 [apd 4 (l.map encCN) Tf])
 tk : l ≠ [] → st.H[Tf]? = some (.tok l.length) ∧ h.length ≤ Tf
 o : st.H[o5]? = some (.cells 0 [.sc (.string x.1.s),i64 (x.1.i : Int),i64 (x.1.j : Int),apd 2 ((x.2.take st.k).map wayV) st.T])
 tn : st.k ≠ 0 → st.H[st.T]? = some (.tok st.k) ∧ h.length ≤ st.T ∧ (l ≠ [] → st.T ≠ Tf)
 low : Low h.length h st.H
 n5 : h.length < o5
set_option maxHeartbeats 4000000 in
theorem forest_c (ns : List (Sp × List (Nat × List Nat))) (hn : ns.length ≤ 1000000) (hw : ∀ x ∈ ns,x.2.length ≤ 1000000) {h : AHeap} : AEx PP Gl 13 [forestV ns] h (.ret (forestV ns)) h:=by
 refine enter_law14_Forest (by simp) ?_
 simp -implicitDefEqProofs [code_law14_Forest,res_law14_Forest,ann_law14_Forest,forestV]
 refine AWp.till (S:=FS1) ⟨0,[],0,h ++ [.cells 0 [.sl 0 [] .nil]]⟩ (fun st=>ns.length - st.i) [1,2,3] (fun st=>[(4,i64 (st.i : Int))]) (fun st=>st.H) (FI1 ns h) mixed
  ⟨by simp,by simp,by simp,by simp,Low.app _ _ _⟩ (le_of (by simp [dslot])) rfl ?_
 rintro ⟨i,l,Tf,H⟩ ⟨z1,z2,z3,z4,z5⟩
 simp only at z1 z2 z3 z4 z5
 have hll : l.length = i:=by have:=congrArg List.length z2; simpa [Nat.min_eq_left z1] using this
 by_cases hi : i < ns.length
 case neg =>
  have hno : ¬ (i : Int) < ns.length:=by omega
  have hii : i = ns.length:=by omega
  simp -implicitDefEqProofs [lp0_law14_Forest,grown,hno,z3]
  have hst:=strip_CN l
  have hfin : (AV.agg [apd 4 (l.map encCN) Tf]).strip = forestV ns:=by
   simp only [AV.strip,stripL,strip_apd 4 _ _ _ hst,forestV]
   rw [z2,List.take_of_length_le (by omega)]
  refine retCut (v:=.agg [apd 4 (l.map encCN) Tf]) h.length (by simp [deferred,dslot]) (by simp [evalRes,evalRes1]) (Nat.le_refl _) (Nat.le_of_lt (lt_of z3)) (by rw [hfin]; exact inb_forest _ _) z5.cl ?_
  rw [z5.take,hfin]
  exact ⟨by simp [forestV,grown],rfl⟩
 obtain ⟨x,hx⟩ : ∃ x,ns[i]? = some x:=⟨ns[i],by simp [hi]⟩
 have hlt : (i : Int) < ns.length:=by omega
 have hne : ns ≠ []:=by rintro rfl; simp at hi
 simp -implicitDefEqProofs [lp0_law14_Forest,grown,hlt,hne,hx,nodeV]
 have hxw:=hw x (List.mem_of_getElem? hx)
 have kp : ∀ (y : AObj) (z : Nat) (w : AObj),H[z]? = some w → (H ++ [y])[z]? = some w:=fun y z w hz=>by rw [List.getElem?_append_left (lt_of hz)]; exact hz
 have hhl:=lt_of z3
 refine AWp.till (S:=FS2) ⟨0,0,H ++ [.cells 0 [.sc (.string x.1.s),i64 (x.1.i : Int),i64 (x.1.j : Int),.sl 0 [] .nil]]⟩ (fun st=>x.2.length - st.k) [1,2,3,4,5] (fun st=>[(6,i64 (st.k : Int))]) (fun st=>st.H) (FI2 h l Tf H.length x) mixed
  ⟨by simp,kp _ _ _ z3,fun hne=>⟨kp _ _ _ (z4 hne).1,(z4 hne).2⟩,by simp,by simp,z5.trans (Low.app _ _ _),by omega⟩ (le_of (by simp [dslot])) rfl ?_
 rintro ⟨k,T,H2⟩ ⟨y1,y2,y3,y4,y5,y6,y7⟩
 simp only at y1 y2 y3 y4 y5 y6 y7
 have wi : IntKind.i64.wrap ((i : Int) + 1) = (i : Int) + 1:=IntWalk.i64_in _ (by omega)
 have hol2:=lt_of y4
 have hl2:=lt_of y2
 by_cases hk : k < x.2.length
 case neg =>
  have hno : ¬ (k : Int) < x.2.length:=by omega
  have hkk : k = x.2.length:=by omega
  have htk0 : x.2.take k = x.2:=List.take_of_length_le (by omega)
  rw [htk0] at y4
  simp -implicitDefEqProofs [lp1_law14_Forest,hx,nodeV,grown,hno,y2,y4]
  have hTf2 : l.length ≠ 0 → ∃ q,H2[Tf]? = some (.tok q):=fun hn0=>⟨_,(y3 (by rintro rfl; exact hn0 rfl)).1⟩
  refine appG (l.map encCN) (encCN ⟨x,T⟩) Tf (by simp) (by simp [encCN]) (fun hne=>by simpa using (y3 (by simpa using hne)).1) (by simp; unfold maxLenA; omega) ?_
  simp -implicitDefEqProofs only [List.length_map]
  obtain ⟨H3,hH3⟩ : ∃ H3,H3 = apG H2 l.length Tf:=⟨_,rfl⟩
  obtain ⟨Tf2,hTfe⟩ : ∃ Tf2,Tf2 = apT H2 l.length Tf:=⟨_,rfl⟩
  rw [← hH3,← hTfe]
  have o3 : H3[h.length]? = some (.cells 0 [apd 4 (l.map encCN) Tf]):=by rw [hH3]; exact apG_keep hTf2 y2 (by simp)
  simp -implicitDefEqProofs [o3,wi]
  have hne3 : Tf2 ≠ h.length:=by
   rw [hTfe]; unfold apT
   split
   ·omega
   ·rename_i hn0; rintro rfl; obtain ⟨q,hq⟩:=hTf2 hn0; rw [y2] at hq; cases hq
  have htke : ns.take (i + 1) = ns.take i ++ [x]:=by rw [List.take_add_one,hx]; rfl
  refine ⟨⟨i + 1,l ++ [⟨x,T⟩],Tf2,H3.set h.length (.cells 0 [apd 4 ((l ++ [(⟨x,T⟩ : CN)]).map encCN) Tf2])⟩,by simp; omega,⟨by simp; omega,by simp only; rw [htke,← z2]; simp,?_,fun _=>⟨?_,?_⟩,?_⟩,le_of (by simp [dslot]),by simp⟩
  ·simp only; rw [List.getElem?_set_self (lt_of o3)]
  ·simp only
   rw [List.getElem?_set_ne hne3.symm,hH3,hTfe,apG_tok hTf2]; simp
  ·simp only
   rw [hTfe]; unfold apT
   split
   ·omega
   ·rename_i hn0; exact (y3 (by rintro rfl; exact hn0 rfl)).2
  ·refine y6.trans ((show Low h.length H2 H3 by rw [hH3]; exact Low.apG fun hn0=>(y3 (by rintro rfl; exact hn0 rfl)).2).trans (Low.set (Nat.le_refl _)))
 obtain ⟨w,hw2⟩ : ∃ w,x.2[k]? = some w:=⟨x.2[k],by simp [hk]⟩
 have hltk : (k : Int) < x.2.length:=by omega
 have hne2 : x.2 ≠ []:=by intro e; rw [e] at hk; simp at hk
 have wk : IntKind.i64.wrap ((k : Int) + 1) = (k : Int) + 1:=IntWalk.i64_in _ (by omega)
 have hlk : (x.2.take k).length = k:=by simp; omega
 simp -implicitDefEqProofs [lp1_law14_Forest,hx,nodeV,hltk,hne2,hw2,y4,wayV,grown]
 have hT2 : k ≠ 0 → ∃ q,H2[T]? = some (.tok q):=fun hn0=>⟨_,(y5 hn0).1⟩
 refine appG ((x.2.take k).map wayV) (wayV w) T (by simp) (by simp [wayV,grown]) (fun hne=>by
  rw [List.length_map,hlk]
  exact (y5 (fun e=>hne (by rw [e]; simp))).1) (by rw [List.length_map,hlk]; unfold maxLenA; omega) ?_
 rw [List.length_map,hlk]
 obtain ⟨H3,hH3⟩ : ∃ H3,H3 = apG H2 k T:=⟨_,rfl⟩
 obtain ⟨T2,hTe⟩ : ∃ T2,T2 = apT H2 k T:=⟨_,rfl⟩
 rw [← hH3,← hTe]
 have o3 : H3[H.length]? = some (.cells 0 [.sc (.string x.1.s),i64 (x.1.i : Int),i64 (x.1.j : Int),apd 2 ((x.2.take k).map wayV) T]):=by rw [hH3]; exact apG_keep hT2 y4 (by simp)
 have htke : (x.2.take k).map wayV ++ [wayV w] = (x.2.take (k + 1)).map wayV:=by rw [List.take_add_one,hw2]; simp
 rw [htke]
 simp -implicitDefEqProofs [o3,wk]
 have hT2H : T2 ≠ H.length:=by
  rw [hTe]; unfold apT
  split
  ·omega
  ·rename_i hn0; rintro rfl; obtain ⟨q,hq⟩:=hT2 hn0; rw [y4] at hq; cases hq
 have keep : ∀ (y : AObj) (z : Nat) (v : AObj),H2[z]? = some v → (k ≠ 0 → z ≠ T) → z ≠ H.length → (H3.set H.length y)[z]? = some v:=fun y z v hz h1 h2=>by
  rw [List.getElem?_set_ne (fun e=>h2 e.symm),hH3]; exact apG_keep' hz h1
 refine ⟨⟨k + 1,T2,H3.set H.length (.cells 0 [.sc (.string x.1.s),i64 (x.1.i : Int),i64 (x.1.j : Int),apd 2 ((x.2.take (k + 1)).map wayV) T2])⟩,by simp; omega,⟨hk,keep _ _ _ y2 (fun hn0=>?_) (by omega),fun hne=>⟨keep _ _ _ (y3 hne).1 (fun hn0=>((y5 hn0).2.2 hne).symm) ?_,(y3 hne).2⟩,?_,fun _=>⟨?_,?_,fun hne=>?_⟩,?_,y7⟩,le_of (by simp [dslot]),by simp⟩
 ·rintro rfl
  rw [(y5 hn0).1] at y2; cases y2
 ·rintro rfl
  have:=(y3 hne).1
  rw [y4] at this; cases this
 ·simp only; rw [List.getElem?_set_self (lt_of o3)]
 ·simp only
  rw [List.getElem?_set_ne (fun e=>hT2H e.symm),hH3,hTe,apG_tok hT2]
 ·simp only
  rw [hTe]; unfold apT
  split
  ·omega
  ·rename_i hn0; exact (y5 hn0).2.1
 ·simp only
  rw [hTe]; unfold apT
  split
  ·have:=lt_of (y3 hne).1; omega
  ·rename_i hn0; exact (y5 hn0).2.2 hne
 ·exact y6.trans ((show Low h.length H2 H3 by rw [hH3]; exact Low.apG fun hn0=>(y5 hn0).2.1).trans (Low.set (by omega)))
theorem same0_c {h : AHeap} : AEx PP Gl 12 [.agg [.sl 0 [] .nil],.agg [.sl 0 [] .nil]] h (.ret (bl true)) h:=by
 refine enter_law14_sameForest (by simp) ?_
 simp -implicitDefEqProofs [code_law14_sameForest,res_law14_sameForest,ann_law14_sameForest]
 refine AWp.cnt 0 [2,3] (fun i=>[(5,i64 (i : Int))]) (fun _=>h) (fun _=>True) mixed trivial (le_of (by simp [dslot])) rfl (fun i hi=>by omega) fun _=>?_
 simp -implicitDefEqProofs [lp0_law14_sameForest]
 exact retE (v:=bl true) (by simp [deferred,dslot]) (by simp [evalRes,evalRes1]) rfl rfl
set_option maxHeartbeats 4000000 in
theorem same_forest_c (ns : List (Sp × List (Nat × List Nat))) (v : AV) {h : AHeap} (hv : RFor h v (ns.map (·.1)) (ns.map (·.2))) (hn : ns.length ≤ 1000000) (hw : ∀ x ∈ ns,x.2.length ≤ 1000000 ∧ ∀ w ∈ x.2,w.2.length ≤ 1000000) (hne : ns ≠ []) :
  AEx PP Gl 12 [forestV ns,v] h (.ret (bl true)) h:=by
 obtain ⟨oN,gN,rc,N,rfl,h1,h2,h3,h4⟩:=hv
 have hNl : N.length = ns.length:=by have:=congrArg List.length h2; simpa using this
 have hflen : (List.flatMap cellsN (N.map encN)).length = N.length * 4:=by rw [cellsN_length]; simp
 refine enter_law14_sameForest (by simp) ?_
 simp -implicitDefEqProofs [code_law14_sameForest,res_law14_sameForest,ann_law14_sameForest,forestV,grown,hne,hNl]
 refine AWp.cnt ns.length [2,3] (fun i=>[(5,i64 (i : Int))]) (fun _=>h) (fun _=>True) mixed trivial (le_of (by simp [dslot])) rfl (fun i hi _=>?_) fun _=>?_
 ·obtain ⟨x,hx⟩ : ∃ x,ns[i]? = some x:=⟨ns[i],by simp [hi]⟩
  obtain ⟨y,hy⟩ : ∃ y,N[i]? = some y:=⟨N[i]'(by omega),by simp⟩
  have hx2 : ns[i] = x:=(List.getElem?_eq_some_iff.1 hx).2
  have hlt : (i : Int) < ns.length:=by omega
  have hsp : y.sp = x.1:=by
   have:=congrArg (·[i]?) h2
   simpa [hx,hy] using this
  have hws : (y.ws.map fun w=>(w.r,w.kids)) = x.2:=by
   have:=congrArg (·[i]?) h3
   simpa [hx,hy] using this
  have hrow : ((List.flatMap cellsN (N.map encN)).drop (i * 4)).take 4 = cellsN (encN y):=cellsN_row _ _ _ (by simp [hy])
  have hi4 : i * 4 + 4 ≤ N.length * 4:=by omega
  have hi4' : i * 4 + 4 ≤ ns.length * 4:=by omega
  have hyl : y.ws.length = x.2.length:=by have:=congrArg List.length hws; simpa using this
  obtain ⟨kk,cc,hkc,hkk⟩ : ∃ kk cc,apd 2 (y.ws.map encW) y.T = .sl kk (y.ws.map encW) cc ∧ (y.ws ≠ [] → kk = 2):=⟨_,_,rfl,fun hne=>by simp [hne]⟩
  obtain ⟨kx,cx,hxc,hxk⟩ : ∃ kk cc,grown 2 (x.2.map wayV) = .sl kk (x.2.map wayV) cc ∧ (x.2 ≠ [] → kk = 2):=⟨_,_,rfl,fun hne=>by simp [hne]⟩
  have wi : IntKind.i64.wrap ((i : Int) + 1) = (i : Int) + 1:=IntWalk.i64_in _ (by omega)
  obtain ⟨hxw,hxk2⟩:=hw x (List.mem_of_getElem? hx)
  simp -implicitDefEqProofs [lp0_law14_sameForest,hlt,hx,hx2,nodeV,hxc,h1,hrow,hflen,hi4',hi,hNl,cellsN,hsp,hkc,hyl]
  refine AWp.cnt x.2.length [2,3,5,6,7] (fun i=>[(8,i64 (i : Int))]) (fun _=>h) (fun _=>True) mixed trivial (le_of (by simp [dslot])) rfl (fun k hk _=>?_) fun _=>?_
  ·obtain ⟨w,hw2⟩ : ∃ w,x.2[k]? = some w:=⟨x.2[k],by simp [hk]⟩
   obtain ⟨u,hu⟩ : ∃ u,y.ws[k]? = some u:=⟨y.ws[k]'(by omega),by simp⟩
   have hw22 : x.2[k] = w:=(List.getElem?_eq_some_iff.1 hw2).2
   have hu2 : y.ws[k]'(by omega) = u:=(List.getElem?_eq_some_iff.1 hu).2
   have hltk : (k : Int) < x.2.length:=by omega
   have hne2 : x.2 ≠ []:=by intro e; rw [e] at hk; simp at hk
   have hne3 : y.ws ≠ []:=by intro e; rw [e] at hu; simp at hu
   have wk : IntKind.i64.wrap ((k : Int) + 1) = (k : Int) + 1:=IntWalk.i64_in _ (by omega)
   have e1:=hkk hne3
   have e2:=hxk hne2
   subst e1 e2
   have huw : (u.r,u.kids) = w:=by
    have:=congrArg (·[k]?) hws
    simpa [hu,hw2] using this
   have hur : u.r = w.1:=by rw [← huw]
   have huk : u.kids = w.2:=by rw [← huw]
   have ho:=h4 y (List.mem_of_getElem? hy) u (List.mem_of_getElem? hu)
   rw [huk] at ho
   obtain ⟨k3,c3,hwc,hwk⟩ : ∃ kk cc,grown 1 (i64s w.2) = .sl kk (i64s w.2) cc ∧ (w.2 ≠ [] → kk = 1):=⟨_,_,rfl,fun hne=>by
    have : i64s w.2 ≠ []:=by simpa [i64s] using hne
    simp [this]⟩
   have hil : (i64s w.2).length = w.2.length:=by simp [i64s]
   have hwl:=hxk2 w (List.mem_of_getElem? hw2)
   simp -implicitDefEqProofs [lp1_law14_sameForest,hltk,hw2,hw22,hu,hu2,wayV,encW,hwc,hur,huk,hil]
   refine AWp.cnt w.2.length [2,3,5,6,7,8] (fun i=>[(9,i64 (i : Int))]) (fun _=>h) (fun _=>True) mixed trivial (le_of (by simp [dslot])) rfl (fun j hj _=>?_) fun _=>?_
   ·obtain ⟨z,hz⟩ : ∃ z,w.2[j]? = some z:=⟨w.2[j],by simp [hj]⟩
    have hz2 : (i64s w.2)[j]? = some (i64 (z : Int)):=by simp [i64s,hz]
    have hz22 : (i64s w.2)[j]'(by rw [hil]; exact hj) = i64 (z : Int):=(List.getElem?_eq_some_iff.1 hz2).2
    have hltj : (j : Int) < w.2.length:=by omega
    have hne4 : w.2 ≠ []:=by intro e; rw [e] at hj; simp at hj
    have e3:=hwk hne4
    subst e3
    have wj : IntKind.i64.wrap ((j : Int) + 1) = (j : Int) + 1:=IntWalk.i64_in _ (by omega)
    simp -implicitDefEqProofs [lp2_law14_sameForest,hltj,hw2,hw22,hu,hu2,wayV,encW,hwc,hil,hz2,hz22,ho,huk,hj,wj]
    exact le_of (by simp [dslot])
   ·have hno : ¬ (w.2.length : Int) < w.2.length:=by omega
    simp -implicitDefEqProofs [lp2_law14_sameForest,hw2,hw22,wayV,hwc,hil,wk]
    exact le_of (by simp [dslot])
  ·simp -implicitDefEqProofs [lp1_law14_sameForest,wi]
   exact le_of (by simp [dslot])
 ·simp -implicitDefEqProofs [lp0_law14_sameForest]
  exact retE (v:=bl true) (by simp [deferred,dslot]) (by simp [evalRes,evalRes1]) rfl rfl
end Go.Apx
end
section
namespace Go.Apx
open Go.Proofs
set_option linter.unusedVariables false
set_option linter.unusedSimpArgs false
set_option linter.unnecessarySimpa false
set_option maxRecDepth 4000
theorem awake_c {h : AHeap} : AEx PP Gl 8 [] h (.ret (.sc (.bool true))) h:=KOk.at aw_root rfl rfl
theorem run_kids {c : List (Nat × List Sp)} (hc : ∀ x ∈ c,x.2.length ≤ 10) : ∀ (st : List Sp × List (Nat × List Nat)),(∀ w ∈ st.2,w.2.length ≤ 10) → ∀ w ∈ (runW wayP st c).2,w.2.length ≤ 10:=by
 induction c with
 | nil=>intro st hs; simpa [runW] using hs
 | cons a c ih =>
  intro st hs
  have h3 : runW wayP st (a :: c) = runW wayP ((wayP st.1 a).1,st.2 ++ [(wayP st.1 a).2]) c:=rfl
  rw [h3]
  refine ih (fun x hx=>hc x (by simp [hx])) _ fun w hw=>?_
  simp only at hw
  rcases List.mem_append.1 hw with hw | hw
  ·exact hs w hw
  ·simp at hw; subst hw
   have:=(numAll_le a.2 st.1 []).2.2
   have h4:=hc a (by simp)
   simp only [wayP,numAll]
   rw [this]; simpa using h4
theorem cands_len {g : Gr} {tx : List ByteArray} {D : List Sp} {s : Sp} (hp : ∀ R ∈ g.rules,R.parts.length ≤ 10) : ∀ x ∈ candsP g tx D s,x.2.length ≤ 10:=by
 intro x hx
 obtain ⟨r,_,hx⟩:=List.mem_flatMap.1 hx
 unfold candP at hx
 cases hr : g.rules[r]? with
 | none=>rw [hr] at hx; simp at hx
 | some R =>
  rw [hr] at hx
  obtain ⟨p,_,rfl⟩:=List.mem_map.1 hx
  have h1:=hp R (List.mem_of_getElem? hr)
  have h2:=argsF_le R.parts
  simp [spansOf]; omega
theorem pack_bounds {g : Gr} {tx : List ByteArray} {D : List Sp} {s : Sp} (hp : ∀ R ∈ g.rules,R.parts.length ≤ 10) : ∀ (n : Nat) (L : List Sp) (F : List (List (Nat × List Nat))),packP g tx D s n = some (L,F) →
  L ≠ [] ∧ L.length ≤ 4000 ∧ (F.map List.length).sum ≤ 40000 ∧ ∀ ws ∈ F,∀ w ∈ ws,w.2.length ≤ 10
 | 0,L,F,h=>by
  simp only [packP,packSt,Option.some.injEq,Prod.mk.injEq] at h
  obtain ⟨rfl,rfl⟩:=h
  simp
 | n + 1,L,F,h=>by
  have e : packP g tx D s (n + 1) = (packP g tx D s n).bind (packStep (candsP g tx D) fun _=>wayP):=rfl
  rw [e] at h
  cases hq : packP g tx D s n with
  | none=>rw [hq] at h; cases h
  | some p =>
   obtain ⟨L1,F1⟩:=p
   have ih:=pack_bounds hp n L1 F1 hq
   rw [hq] at h
   simp only [Option.bind_some,packStep] at h
   cases hl : L1[F1.length]? with
   | none =>
    rw [hl] at h
    simp only [Option.some.injEq,Prod.mk.injEq] at h
    obtain ⟨rfl,rfl⟩:=h
    exact ih
   | some s1 =>
    rw [hl] at h
    simp only at h
    split at h
    ·cases h
    ·rename_i hb
     simp only [Option.some.injEq,Prod.mk.injEq] at h
     obtain ⟨rfl,rfl⟩:=h
     have hm:=runP_mono (candsP g tx D s1) (L1,[])
     refine ⟨fun e=>?_,by omega,by simp at hb ⊢; omega,fun ws hws w hw=>?_⟩
     ·rw [e] at hm
      have h1:=hm.1
      simp at h1
      exact ih.1 h1
     ·rcases List.mem_append.1 hws with hws | hws
      ·exact ih.2.2.2 ws hws w hw
      ·simp only [List.mem_singleton] at hws
       subst hws
       exact run_kids (cands_len hp) (L1,[]) (by simp) w hw
theorem len_sum {α : Type} {l : List (List α)} {x : List α} (h : x ∈ l) : x.length ≤ (l.map List.length).sum:=by
 induction l with
 | nil=>cases h
 | cons y l ih =>
  simp only [List.map_cons,List.sum_cons]
  rcases List.mem_cons.1 h with rfl | h
  ·omega
  ·have:=ih h; omega
theorem for_bounds {g : Gr} {tx : List ByteArray} {D : List Sp} {s : Sp} {n : Nat} {ns : List (Sp × List (Nat × List Nat))} (hp : ∀ R ∈ g.rules,R.parts.length ≤ 10) (h : packP g tx D s n = some (ns.map (·.1),ns.map (·.2))) :
  ns ≠ [] ∧ ns.length ≤ 1000000 ∧ ∀ x ∈ ns,x.2.length ≤ 1000000 ∧ ∀ w ∈ x.2,w.2.length ≤ 1000000:=by
 obtain ⟨h1,h2,h3,h4⟩:=pack_bounds hp n _ _ h
 refine ⟨by rintro rfl; exact h1 rfl,by simp at h2; omega,fun x hx=>?_⟩
 have hm : x.2 ∈ ns.map (·.2):=List.mem_map.2 ⟨x,hx,rfl⟩
 exact ⟨by have:=len_sum hm; omega,fun w hw=>by have:=h4 _ hm w hw; omega⟩
structure LawP (g : Gr) (tx : List ByteArray) : Prop where
 sorts : g.sorts.length ≤ 2 ^ 31
 rules : g.rules.length ≤ 2 ^ 31
 rparts : ∀ r ∈ g.rules,r.parts.length ≤ 2 ^ 31
 sc : g.sc.strip = g.sc
 text : tx.length ≤ 2 ^ 31
def shortF (g : Gr) (tx : List ByteArray) (most : Int) : Bool:=smallF g 10 5 && (decide ((tx.length : Int) ≤ most) || (decide (200 < (tx.length : Int)) && decide ((tx.length : Int) < 300)))
theorem short_c (g : Gr) (tx : List ByteArray) (tc : Cap) (most : Int) {h : AHeap} (hi : LawP g tx) : AEx PP Gl 7 [encG g,.sl 1 (tx.map sv) tc,i64 most] h (.ret (bl (shortF g tx most))) h:=by
 refine enter_law14_short (by simp) ?_
 simp -implicitDefEqProofs [code_law14_short,res_law14_short,ann_law14_short,encG]
 refine callk (small_c g 10 5 hi.sorts hi.rules) (by simp [encG]) rfl ?_
 cases h1 : smallF g 10 5 with
 | false =>
  simp -implicitDefEqProofs
  exact retE (by simp [deferred,dslot]) rfl (by simp [shortF,h1]) rfl
 | true =>
  by_cases h2 : (tx.length : Int) ≤ most
  ·simp -implicitDefEqProofs [h2]
   exact retE (by simp [deferred,dslot]) rfl (by simp [shortF,h1,h2]) rfl
  ·by_cases h3 : 200 < (tx.length : Int)
   ·simp -implicitDefEqProofs [h2,h3]
    exact retE (by simp [deferred,dslot]) rfl (by simp [shortF,h1,h2,h3]) rfl
   ·simp -implicitDefEqProofs [h2,h3]
    exact retE (by simp [deferred,dslot]) rfl (by simp [shortF,h1,h2,h3]) rfl
theorem short_small {g : Gr} (hs : smallF g 10 5 = true) (hck : checkF g = 0) : g.rules.length ≤ 10 ∧ g.sorts.length ≤ 8 ∧ ∀ R ∈ g.rules,R.parts.length ≤ 5:=by
 obtain ⟨c1,c2,_⟩:=check_ok hck
 have c3 : g.sorts.length ≤ 32:=by
  unfold checkF at hck
  split at hck
  ·omega
  ·omega
 unfold smallF at hs
 rw [if_neg (by omega),if_neg (by omega)] at hs
 simp only [Bool.and_eq_true,List.all_eq_true,decide_eq_true_eq] at hs
 refine ⟨by omega,by omega,fun R hR=>?_⟩
 have h1:=hs.1.1 R hR
 have h2:=c2 R hR
 simp [badR] at h1
 omega
theorem small_parts {g : Gr} (hs : smallF g 10 5 = true) : g.sorts.length ≤ 32 → g.rules.length ≤ 600 → ∀ r ∈ g.rules,longF r = false → r.parts.length ≤ 12:=fun h1 h2 r hr hlong=>by
 unfold smallF at hs
 rw [if_neg (by omega),if_neg (by omega)] at hs
 simp only [Bool.and_eq_true,List.all_eq_true] at hs
 have:=hs.1.1 r hr
 simp [badR,longF] at this hlong
 omega
theorem asked_check {g : Gr} {s : ByteArray} {tx : List ByteArray} (h : askedF g s tx = 0) : checkF g = 0 ∧ tx.length ≤ 200:=by
 unfold askedF at h
 by_cases e : checkF g = 0
 ·refine ⟨e,?_⟩
  rw [if_neg (by simpa using e)] at h
  split at h
  ·omega
  ·split at h <;> omega
 ·rw [if_pos e] at h; exact (e h).elim
theorem short_bd {g : Gr} {s : ByteArray} {tx : List ByteArray} {most : Int} (hs : smallF g 10 5 = true) (h : askedF g s tx = 0) : BdG g tx:=by
 obtain ⟨h1,h2⟩:=asked_check h
 obtain ⟨c1,c2,c3⟩:=short_small hs h1
 exact ⟨by omega,fun R hR=>by have:=c3 R hR; omega,by omega⟩
theorem pow_le {n k : Nat} (hn : n ≤ 6) (hk : k ≤ 5) : (n + 1) ^ k ≤ 20000 :=
 Nat.le_trans (Nat.pow_le_pow_left (show n + 1 ≤ 7 by omega) k) (Nat.le_trans (Nat.pow_le_pow_right (show 0 < 7 by omega) hk) (by decide))
theorem short_par {g : Gr} {tx : List ByteArray} (hs : smallF g 10 5 = true) (hck : checkF g = 0) (ht : tx.length ≤ 6) : ParOk (convG g) tx:=by
 obtain ⟨c1,c2,c3⟩:=short_small hs hck
 have hcp : ∀ R ∈ (convG g).rules,R.parts.length ≤ 5:=fun R hR=>by
  obtain ⟨r,hr,rfl⟩:=List.mem_map.1 hR
  exact c3 r hr
 have hl : (convG g).rules.length = g.rules.length:=by simp [convG]
 have hsl : (convG g).sorts = g.sorts:=rfl
 refine ⟨⟨by omega,by rw [hsl]; omega,by omega,fun R hR=>by have:=hcp R hR; omega,check_named (by rw [conv_check]; exact hck)⟩,by omega,fun R hR=>by have:=hcp R hR; omega,fun R hR=>pow_le ht (hcp R hR)⟩
theorem forest0_c {h : AHeap} : AEx PP Gl 13 [.agg [.sl 0 [] .nil]] h (.ret (.agg [.sl 0 [] .nil])) h:=by
 have:=forest_c [] (by simp) (by simp) (h:=h)
 simpa [forestV,grown] using this
theorem EarleyParses_c (g : Gr) (s : ByteArray) (tx : List ByteArray) (tc : Cap) (hi : LawP g tx) (hss : s.size ≤ 2 ^ 31) : AEx PP Gl 3 [encG g,.sc (.string s),.sl 1 (tx.map sv) tc] [] (.ret (bl true)) []:=by
 refine enter_law14_EarleyParses (by simp) ?_
 simp -implicitDefEqProofs [code_law14_EarleyParses,res_law14_EarleyParses,ann_law14_EarleyParses,encG]
 refine callk (short_c g tx tc 6 hi) (by simp [encG]) rfl ?_
 have hrest : shortF g tx 6 = true → True:=fun _=>trivial
 cases hsf : shortF g tx 6 with
 | false =>
  simp -implicitDefEqProofs
  refine callk awake_c rfl rfl ?_
  simp -implicitDefEqProofs
  exact retE (by simp [deferred,dslot]) rfl rfl rfl
 | true =>
  by_cases c1 : (300 : Int) < s.size
  ·simp -implicitDefEqProofs [c1]
   refine callk awake_c rfl rfl ?_
   simp -implicitDefEqProofs
   exact retE (by simp [deferred,dslot]) rfl rfl rfl
  ·simp -implicitDefEqProofs [c1]
   have hsm : smallF g 10 5 = true:=by
    unfold shortF at hsf
    simp only [Bool.and_eq_true] at hsf
    exact hsf.1
   have htx : tx.length ≤ 200 → tx.length ≤ 6:=fun h=>by
    unfold shortF at hsf
    simp only [Bool.and_eq_true,Bool.or_eq_true,decide_eq_true_eq] at hsf
    rcases hsf.2 with h | h <;> omega
   refine callr (eparse_c g s tx tc hi.sorts (fun h=>check_c g (small_parts hsm) hi.sorts hi.rules) (fun h=>short_bd (most:=0) hsm h)) (by simp [encG]) rfl ?_
   intro r1 H1 p1
   have hH1 : H1 = []:=p1.1
   subst hH1
   have sh : ∃ B e,r1 = .ret (.tup [.agg [B],i64 e]) ∧ B.isPend = false ∧ B.one = true:=by
    rcases p1.2 with ⟨_,rfl⟩ | ⟨_,S,L,D,_,_,⟨_,rfl⟩ | ⟨_,⟨n,_,rfl⟩ | ⟨n,L1,F1,ns,_,_,_,_,rfl⟩⟩⟩
    ·exact ⟨_,_,rfl,rfl,rfl⟩
    ·exact ⟨_,_,rfl,rfl,rfl⟩
    ·exact ⟨_,_,rfl,rfl,rfl⟩
    ·exact ⟨_,_,rfl,rfl,rfl⟩
   obtain ⟨B,e,rfl,hB1,hB2⟩:=sh
   simp -implicitDefEqProofs [hB1,hB2]
   refine callk (conv_c g hi.rules hi.rparts hi.sc) (by simp [encG]) rfl ?_
   simp -implicitDefEqProofs [convS]
   have hpar : checkF (convG g) = 0 → s ∈ (convG g).sorts → tx.length ≤ 200 → ParOk (convG g) tx:=fun h1 _ h3=>short_par hsm (by rw [← conv_check]; exact h1) (htx h3)
   refine callr (ACalls.args (rparse_c (convG g) s tx tc hi.sorts (by simpa [convG] using hi.rules) hpar) (.cons (conv_le g) (.refl _))) rfl rfl ?_
   intro r2 H2 p2
   obtain ⟨_,_,hr⟩:=results_eq (fun _=>trivial) p1 (conv_parse p2)
   rcases hr with ⟨e1,hr1,rfl⟩ | ⟨ns,v,D,n,hpk,hr1,rfl,hrf⟩
   ·simp only [AEnd.ret.injEq,AV.tup.injEq,List.cons.injEq,AV.agg.injEq,and_true] at hr1
    obtain ⟨rfl,he⟩:=hr1
    have hee : e = e1:=by simpa [i64] using he
    subst hee
    simp -implicitDefEqProofs
    refine callk (forest0_c) rfl rfl ?_
    simp -implicitDefEqProofs
    refine callk same0_c rfl rfl ?_
    simp -implicitDefEqProofs
    refine callk awake_c rfl rfl ?_
    simp -implicitDefEqProofs
    exact retD (h0:=[]) (x:=H2) (by simp [deferred,dslot]) rfl rfl rfl rfl
   ·simp only [forestV,AEnd.ret.injEq,AV.tup.injEq,List.cons.injEq,AV.agg.injEq,and_true] at hr1
    obtain ⟨rfl,he⟩:=hr1
    have hee : e = 0:=by simpa [i64] using he
    subst hee
    have hrf':=hrf
    obtain ⟨oN,gN,rc,N,rfl,_⟩:=hrf
    simp -implicitDefEqProofs
    have hask : askedF g s tx = 0:=by
     rcases p1.2 with ⟨ha,he⟩ | ⟨ha,_⟩
     ·exfalso
      simp only [forestV,AEnd.ret.injEq,AV.tup.injEq,List.cons.injEq,AV.agg.injEq,and_true] at he
      have:=he.2
      simp [i64] at this
      exact ha this.symm
     ·exact ha
    have hbd:=short_bd (most:=0) hsm hask
    obtain ⟨b1,b2,b3⟩:=for_bounds hbd.p hpk
    refine callk (forest_c ns b2 (fun x hx=>(b3 x hx).1)) (by simp [forestV]) rfl ?_
    simp -implicitDefEqProofs [forestV]
    refine callk (same_forest_c ns _ hrf' b2 b3 b1) (by simp [forestV]) rfl ?_
    simp -implicitDefEqProofs
    refine callk awake_c rfl rfl ?_
    simp -implicitDefEqProofs
    exact retD (h0:=[]) (x:=H2) (by simp [deferred,dslot]) rfl rfl rfl rfl
end Go.Apx
end
