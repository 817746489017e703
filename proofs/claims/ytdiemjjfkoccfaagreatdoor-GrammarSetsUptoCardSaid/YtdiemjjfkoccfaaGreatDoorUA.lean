/- Walks: slices.Clone and slices.Delete at parts. -/
import Derived.Test.YtdiemjjfkoccfaaGreatDoorEB
import Derived.Test.YtdiemjjfkoccfaaGreatDoorJA
set_option linter.unusedVariables false
set_option linter.unusedSimpArgs false
set_option linter.unnecessarySimpa false
section
namespace Go.Apx
open Go.Proofs
set_option maxRecDepth 4000
def ptC (p:Pt):List AV:=[.sc (.string p.sym),.sc (.string p.sort),.sc (.int .i64 p.arg)]
def zP:List AV:=[.sc (.string ⟨#[]⟩),.sc (.string ⟨#[]⟩),.sc (.int .i64 0)]
theorem flat_ptC:∀ l:List Pt,(l.map encP).flatMap AV.cells=l.flatMap ptC
 | []=>rfl
 | p :: l=>by rw [List.map_cons,List.flatMap_cons,List.flatMap_cons,flat_ptC l]; rfl
theorem ptC_len:∀ l:List Pt,(l.flatMap ptC).length=3 * l.length
 | []=>rfl
 | p :: l=>by rw [List.flatMap_cons,List.length_append,ptC_len l]; simp [ptC]; omega
theorem ptC_take:∀ (l:List Pt) (i:Nat),(l.flatMap ptC).take (3 * i)=(l.take i).flatMap ptC
 | [],i=>by simp
 | p :: l,0=>by simp
 | p :: l,i+1=>by
  rw [List.take_succ_cons,List.flatMap_cons,List.flatMap_cons,<- ptC_take l i,show 3 * (i+1)=3+3 * i by omega]
  have:(ptC p).length=3:=rfl
  rw [show 3+3 * i=(ptC p).length+3 * i by rw [this],List.take_length_add_append]
theorem ptC_drop:∀ (l:List Pt) (i:Nat),(l.flatMap ptC).drop (3 * i)=(l.drop i).flatMap ptC
 | [],i=>by simp
 | p :: l,0=>by simp
 | p :: l,i+1=>by
  rw [List.drop_succ_cons,List.flatMap_cons,<- ptC_drop l i,show 3 * (i+1)=(ptC p).length+3 * i by simp [ptC]; omega,List.drop_length_add_append]
theorem rows_ptC:∀ (l:List Pt) (rest:List AV),rows 3 l.length (l.flatMap ptC++rest)=l.map encP
 | [],_=>rfl
 | p :: l,rest=>by
  rw [List.length_cons,List.flatMap_cons,List.map_cons,List.append_assoc]
  have h3:(ptC p++(l.flatMap ptC++rest)).drop 3=l.flatMap ptC++rest:=rfl
  have h4:(ptC p++(l.flatMap ptC++rest)).take 3=ptC p:=rfl
  unfold rows
  rw [if_neg (by omega),h3,h4,rows_ptC l rest]
  rfl
set_option maxHeartbeats 1000000 in
theorem clonePt_c (l:List Pt) (c:Cap) (hne:l ≠ []) (hc:c ≠ .nil) (hl:l.length <= 2 ^ 31) {h:AHeap} :
  AEx PP Gl 71 [.sl 3 (l.map encP) c] h (.ret (.rf h.length 0 0 l.length (.own 3))) (h++[.cells 0 (l.flatMap ptC)]):=by
 refine enter_71 (by simp) ?_
 have hm:l.length <= 4294967296:=by omega
 simp -implicitDefEqProofs [code_71,res_71,ann_71,hne,hc,hm,maxLenA,flat_ptC]
 exact aZ (by simp [deferred,dslot]) rfl rfl rfl
theorem eraseIdx_cat (l:List Pt) (i:Nat):l.eraseIdx i=l.take i++l.drop (i+1):=List.eraseIdx_eq_take_drop_succ ..
set_option maxHeartbeats 1000000 in
theorem deletePt_c (l:List Pt) (i m o:Nat) (hi:i <= m) (hm:l.length=m+1) (hl:m <= 2 ^ 31) {h:AHeap} (ho:h[o]?=some (.cells 0 (l.flatMap ptC))) :
  AEx PP Gl 70 [.rf o 0 0 (m+1) (.own 3),i64 (i:Int),i64 ((i:Int)+1)] h (.ret (.rf o 0 0 m (.own 3))) (h.set o (.cells 0 ((l.eraseIdx i).flatMap ptC++zP))):=by
 have k0:(0:Int) <= (i:Int)+1:=by omega
 have k2:¬ (i:Int)=(i:Int)+1:=by omega
 have k3:i <= m+1:=by omega
 have k4:((i:Int)+1).toNat=i+1:=by omega
 have k6:i+(m - i)=m:=by omega
 have k7:m+1 - m=1:=by omega
 obtain ⟨cs,hcs⟩:∃ cs,cs=l.flatMap ptC:=⟨_,rfl⟩
 have hcl:cs.length=3 * (m+1):=by rw [hcs,ptC_len,hm]
 rw [<- hcs] at ho
 have hdl:(l.drop (i+1)).length=m - i:=by rw [List.length_drop,hm]; omega
 obtain ⟨xs,hxs⟩:∃ xs,xs=(l.drop (i+1)).map encP:=⟨_,rfl⟩
 have hxl:xs.length=m - i:=by rw [hxs,List.length_map,hdl]
 have hel:elems h 3 (.rf o 0 ((i+1) * 3) (m - i) .any)=some xs:=by
  unfold elems
  simp only
  by_cases e:m - i=0
  .rw [if_pos e]
   have:xs=[]:=List.length_eq_zero_iff.1 (by omega)
   rw [this]
  .rw [if_neg e,ho]
   simp only
   rw [if_pos ⟨trivial,by omega,by omega⟩,hcs,Nat.mul_comm,ptC_drop,hxs]
   have:=rows_ptC (l.drop (i+1)) []
   rw [List.append_nil,hdl] at this
   rw [this]
 obtain ⟨y,hy⟩:∃ y,l[m]?=some y:=⟨l[m]'(by omega),by simp [hm]⟩
 obtain ⟨cs2,hcs2⟩:∃ cs2,cs2=(l.eraseIdx i).flatMap ptC++ptC y:=⟨_,rfl⟩
 have hE:(l.eraseIdx i).length=m:=by rw [List.length_eraseIdx,if_pos (by omega)]; omega
 have hc2l:cs2.length=3 * (m+1):=by rw [hcs2,List.length_append,ptC_len,hE]; simp [ptC]; omega
 have hA:cs.take (i * 3)++(xs.flatMap AV.cells++cs.drop (m * 3))=cs2:=by
  have e1:l.drop m=[y]:=by
   rw [List.drop_eq_getElem_cons (by omega),List.drop_of_length_le (by omega),(List.getElem?_eq_some_iff.1 hy).2]
  rw [hxs,flat_ptC,hcs,Nat.mul_comm,ptC_take,Nat.mul_comm m,ptC_drop,e1,hcs2,eraseIdx_cat,List.flatMap_append,List.append_assoc]
  simp
 have k8:m * 3 <= cs.length:=by omega
 have k9:(m+1) * 3 <= cs2.length:=by omega
 have k10:m * 3+3 <= cs2.length:=by omega
 have hB:cs2.take (m * 3)++(zP++cs2.drop (m * 3+3))=(l.eraseIdx i).flatMap ptC++zP:=by
  have e1:cs2.drop (m * 3+3)=[]:=List.drop_of_length_le (by omega)
  have e2:cs2.take (m * 3)=(l.eraseIdx i).flatMap ptC:=by
   rw [hcs2,List.take_left' (by rw [ptC_len,hE]; omega)]
  rw [e1,e2,List.append_nil]
 have k11:(0:Int) <= (m:Int)+1:=by omega
 have k12:min (i * 3) cs.length+((xs.map fun a=>a.cells.length).sum+(cs.length - m * 3))=3 * (m+1):=by
  have:=congrArg List.length hA
  rw [hc2l] at this
  simpa using this
 have k13:(m+1) * 3 <= 3 * (m+1):=by omega
 have k14:m * 3+3 <= 3 * (m+1):=by omega
 have hog:o < h.length:=(List.getElem?_eq_some_iff.1 ho).1
 refine enter_70 (by simp) ?_
 simp -implicitDefEqProofs [-elems,code_70,res_70,ann_70,k0,hi,k2,k3,k4,k6,k7,ho,hel,hxl,k8,hA,k9,k10,k11,k12,k13,k14]
 have hget:(h.set o (.cells 0 cs2))[o]?=some (.cells 0 cs2):=by simp [hog]
 simp only [zP,List.cons_append,List.nil_append] at hB
 simp -implicitDefEqProofs [hget,k9,k10,hB]
 exact aZ (by simp [deferred,dslot]) rfl rfl rfl
end Go.Apx
end
section
namespace Go.Apx
open Go.Proofs
set_option maxRecDepth 4000
theorem ptC_at {l:List Pt} {rest:List AV} {i:Nat} {p:Pt} (h:l[i]?=some p):((l.flatMap ptC++rest).drop (i * 3)).take 3=ptC p:=by
 have hi:=(List.getElem?_eq_some_iff.1 h).1
 rw [Nat.mul_comm,List.drop_append_of_le_length (by rw [ptC_len]; omega),ptC_drop,List.drop_eq_getElem_cons hi,(List.getElem?_eq_some_iff.1 h).2]
 rfl
set_option maxHeartbeats 1000000 in
theorem indexQ_c (l:List Pt) (o:Nat) (rc:RCap) (rest:List AV) (fid:FuncId) (a b:List AV) (p:Pt -> Bool) (hl:l.length <= 2 ^ 31) {h:AHeap} (ho:h[o]?=some (.cells 0 (l.flatMap ptC++rest))) (hf:∀ e ∈ l,AEx PP Gl fid (a++[encP e]++b) h (.ret (.sc (.bool (p e)))) h) :
  AEx PP Gl 77 [.rf o 0 0 l.length rc,.fn (.func fid) a b] h (.ret (i64 (placeF p l))) h:=by
 refine enter_77 (by simp) ?_
 simp -implicitDefEqProofs [code_77,res_77,ann_77]
 refine AWp.cnt l.length [0,1,7] (fun i=>[(8,i64 i)]) (fun _=>h) (fun i=>∀ y ∈ l.take i,p y=false) mixed (by simp) (aI (by simp [dslot])) rfl ?_ ?_
 .intro i hi hz
  obtain ⟨k,hki⟩:∃ k,l[i]?=some k:=⟨l[i],by simp [hi]⟩
  have hlt:(i:Int) < l.length:=by omega
  have hat:=ptC_at (rest:=rest) hki
  obtain ⟨cs,hcs⟩:∃ cs,cs=l.flatMap ptC++rest:=⟨_,rfl⟩
  rw [<- hcs] at ho hat
  have hcl:i * 3+3 <= cs.length:=by rw [hcs,List.length_append,ptC_len]; omega
  have wi:IntKind.i64.wrap ((i:Int)+1)=(i:Int)+1:=IntWalk.i64_in _ (by omega)
  have hfk:AEx PP Gl fid (a++(.agg (ptC k) :: b)) h (.ret (.sc (.bool (p k)))) h:=by simpa [encP,ptC] using hf k (List.mem_of_getElem? hki)
  simp -implicitDefEqProofs [lp0_77,hlt,hi,ho,hat,hcl]
  refine aP hfk rfl rfl ?_
  generalize hb:p k=bk
  cases bk with
  | true =>
   simp
   exact aZ (by simp [deferred,dslot]) rfl (by simp [placeF_some hki hb hz]) rfl
  | false =>
   simp
   rw [wi]
   exact ⟨by simpa using take_ext hki (q:=fun y=>p y=false) hz hb,aI (by simp [dslot])⟩
 .intro hz
  simp -implicitDefEqProofs [lp0_77]
  exact aZ (by simp [deferred,dslot]) rfl (by simp [placeF_none (take_all hz)]) rfl
theorem anyQ_c (l:List Pt) (o:Nat) (rc:RCap) (rest:List AV) (fid:FuncId) (a b:List AV) (p:Pt -> Bool) (hl:l.length <= 2 ^ 31) {h:AHeap} (ho:h[o]?=some (.cells 0 (l.flatMap ptC++rest))) (hf:∀ e ∈ l,AEx PP Gl fid (a++[encP e]++b) h (.ret (.sc (.bool (p e)))) h) :
  AEx PP Gl 41 [.rf o 0 0 l.length rc,.fn (.func fid) a b] h (.ret (.sc (.bool (l.any p)))) h:=by
 refine enter_41 (by simp) ?_
 simp -implicitDefEqProofs [code_41,res_41,ann_41]
 refine aP (indexQ_c l o rc rest fid a b p hl ho hf) rfl rfl ?_
 simp
 exact aZ (by simp [deferred,dslot]) rfl (by rw [<- placeF_any]) rfl
def restF (N:List ByteArray) (q:Pt):Bool:=decide (q.sort=emp) || !decide (q.sort ∈ N)
def aloneF (N F:List ByteArray) (ps:List Pt) (p:Pt) (k:Nat):Bool:=!decide (p.sort=emp) && decide (p.sort ∈ F) && !((ps.eraseIdx k).any (restF N))
def ldT (N F:List ByteArray) (ps:List Pt) (j:Nat):Evs:=((ps.zipIdx.take j).filter fun q=>aloneF N F ps q.1 q.2).map fun q=>(true,q.1.sort)
def ldA (N F:List ByteArray) (ps:List Pt):Evs:=ldT N F ps ps.length
def ldL (N F:List ByteArray) (x:ByteArray) (l:List Rl):Evs:=(l.filter fun R=>decide (R.sort=x)).flatMap fun R=>ldA N F R.parts
def ldE (g:Gr) (N F:List ByteArray) (x:ByteArray):Evs:=ldL N F x g.rules
theorem ldT_step {N F:List ByteArray} {ps:List Pt} {j:Nat} {p:Pt} (h:ps[j]?=some p):ldT N F ps (j+1)=ldT N F ps j++(if aloneF N F ps p j=true then [(true,p.sort)] else []):=by
 unfold ldT
 have:ps.zipIdx[j]?=some (p,j):=by rw [List.getElem?_zipIdx,h]; simp
 rw [List.take_add_one,this,List.filter_append,List.map_append]
 by_cases e:aloneF N F ps p j=true <;> simp [e]
theorem ldL_take {N F:List ByteArray} {x:ByteArray} {l:List Rl} {i:Nat} {R:Rl} (h:l[i]?=some R):ldL N F x (l.take (i+1))=ldL N F x (l.take i)++(if R.sort=x then ldA N F R.parts else []):=by
 unfold ldL
 rw [List.take_add_one,h,List.filter_append,List.flatMap_append]
 by_cases e:R.sort=x <;> simp [e]
theorem ldL_pre {N F:List ByteArray} {x:ByteArray} {l:List Rl} {i:Nat} {R:Rl} (h:l[i]?=some R) (e:R.sort=x) {j:Nat} {p:Pt} (hj:R.parts[j]?=some p) (hp:aloneF N F R.parts p j=true) :
  (ldL N F x l)[(ldL N F x (l.take i)).length+(ldT N F R.parts j).length]?=some (true,p.sort):=by
 have h1:ldL N F x l=ldL N F x (l.take (i+1))++ldL N F x (l.drop (i+1)):=by
  unfold ldL
  rw [<- List.flatMap_append,<- List.filter_append,List.take_append_drop]
 have hjl:=(List.getElem?_eq_some_iff.1 hj).1
 have h2:ldA N F R.parts=ldT N F R.parts (j+1)++((R.parts.zipIdx.drop (j+1)).filter fun q=>aloneF N F R.parts q.1 q.2).map fun q=>(true,q.1.sort):=by
  unfold ldA ldT
  rw [<- List.map_append,<- List.filter_append,List.take_append_drop,List.take_of_length_le (by simp)]
 rw [h1,ldL_take h,if_pos e,h2,ldT_step hj,if_pos hp]
 simp
theorem ldE_mem {g:Gr} {N F:List ByteArray} {z y:ByteArray}:(true,y) ∈ ldE g N F z ↔ ∃ R ∈ g.rules,R.sort=z /\ ∃ k p,R.parts[k]?=some p /\ p.sort=y /\ aloneF N F R.parts p k=true:=by
 simp only [ldE,ldL,ldA,ldT,List.mem_flatMap,List.mem_filter,decide_eq_true_eq,List.mem_map,Prod.mk.injEq,true_and]
 constructor
 .rintro ⟨R,⟨h1,h2⟩,⟨p,k⟩,⟨h3,h4⟩,h5⟩
  rw [List.take_of_length_le (by simp)] at h3
  exact ⟨R,h1,h2,k,p,List.mem_zipIdx_iff_getElem?.1 h3,h5,h4⟩
 .rintro ⟨R,h1,h2,k,p,h3,h4,h5⟩
  refine ⟨R,⟨h1,h2⟩,(p,k),⟨?_,h5⟩,h4⟩
  rw [List.take_of_length_le (by simp)]
  exact List.mem_zipIdx_iff_getElem?.2 h3
theorem restF_c (p:Pt) (N:List ByteArray) (o:Nat) {H:AHeap} (ho:H[o]?=some (.amap (aS bv (aT N)))):AEx PP Gl 72 [encP p,.ip (.mp o)] H (.ret (bl (restF N p))) H:=by
 refine enter_72 (by simp) ?_
 by_cases e:p.sort=emp
 .simp -implicitDefEqProofs [code_72,res_72,ann_72,encP,e,emp]
  exact aZ (by simp [deferred,dslot]) rfl (by simp [restF,e]) rfl
 .have e':¬ p.sort=(⟨#[]⟩:ByteArray):=e
  by_cases hS:p.sort ∈ N
  .simp -implicitDefEqProofs [code_72,res_72,ann_72,encP,e',ho,hS]
   exact aZ (by simp [deferred,dslot]) rfl (by simp [restF,hS,e]) rfl
  .simp -implicitDefEqProofs [code_72,res_72,ann_72,encP,e',ho,hS]
   exact aZ (by simp [deferred,dslot]) rfl (by simp [restF,hS]) rfl
end Go.Apx
end
section
namespace Go.Apx
open Go.Proofs
set_option maxRecDepth 4000
def LdH (nl fl:Nat) (N F:List ByteArray) (B:CSt -> AHeap):Prop:=∀ st,(B st)[nl]?=some (.amap (aS bv (aT N))) /\ (B st)[fl]?=some (.amap (aS bv (aT F)))
theorem LdH.app {nl fl:Nat} {N F:List ByteArray} (B:CSt -> AHeap) (J:AHeap) (h:LdH nl fl N F B):LdH nl fl N F (fun st=>B st++J):=fun st=>by
 obtain ⟨c,d⟩:=h st
 exact ⟨by rw [List.getElem?_append_left (ar c)]; exact c,by rw [List.getElem?_append_left (ar d)]; exact d⟩
structure LS1 where
 i:Nat
 st:CSt
 J:AHeap
theorem leads_c (g:Gr) (x:ByteArray) (fl nl:Nat) {h:AHeap}:AEx PP Gl 68 [sv x,.ip (aM g),.ip (.mp fl),.ip (.mp nl)] h (.ret (.fn (.func 69) [] [.ip (aM g),.ip (sv x),.ip (.mp fl),.ip (.mp nl)])) h:=by
 refine enter_68 (by simp) ?_
 simp -implicitDefEqProofs [code_68,res_68,ann_68,aM,sv]
 exact aZ (by simp [deferred,dslot]) rfl (by simp [aM,sv]) rfl
set_option maxHeartbeats 4000000 in
theorem leads1_c (g:Gr) (N F:List ByteArray) (nl fl:Nat) (x:ByteArray) (hr:g.rules.length <= 2 ^ 31) (hps:∀ R ∈ g.rules,R.parts.length <= 2 ^ 31) (hcap:∀ R ∈ g.rules,R.parts ≠ [] -> R.cap ≠ .nil) :
  IterC (LdH nl fl N F) (ldE g N F) x 69 [] [.ip (aM g),.ip (sv x),.ip (.mp fl),.ip (.mp nl)]:=by
 intro B n o P a hB hcl hNT hloop hy hn h0
 refine enter_69 (by simp) ?_
 simp -implicitDefEqProofs [code_69,res_69,ann_69,aM]
 refine AWp.till (S:=LS1) ⟨0,a,[]⟩ (fun s=>g.rules.length - s.i) [0,2,3,4,13,14] (fun s=>[(15,i64 (s.i:Int))]) (fun s=>B s.st++s.J)
  (fun s=>s.i <= g.rules.length /\ P (ldL N F x (g.rules.take s.i)).length s.st) mixed ⟨by simp,by simpa [ldL] using h0⟩ (aI (by simp [dslot])) (by simp) ?_
 rintro ⟨i,st,J⟩ ⟨z0,z1⟩
 simp only at z0 z1
 by_cases hi:i < g.rules.length
 case neg =>
  have hlt:¬ (i:Int) < g.rules.length:=by omega
  simp -implicitDefEqProofs [lp0_69,hlt]
  have:i=g.rules.length:=by omega
  subst this
  rw [List.take_length] at z1
  refine retCut (v:=.tup []) n (by simp [deferred,dslot]) rfl (by rw [hB]; exact Nat.le_refl _) (by simp [hB]) rfl ?_ ?_
  .intro i o hi ho
   rw [List.getElem?_append_left (by rw [hB]; exact hi)] at ho
   exact (hcl a st i o ho).imp id (fun h=>h _)
  .rw [List.take_left' (hB st)]
   exact ⟨rfl,st,z1,rfl⟩
 obtain ⟨R,hR⟩:∃ R,g.rules[i]?=some R:=⟨g.rules[i],by simp [hi]⟩
 have hRm:=List.mem_of_getElem? hR
 have hlt:(i:Int) < g.rules.length:=by omega
 have hne:g.rules ≠ []:=by intro e; rw [e] at hi; simp at hi
 have wi:IntKind.i64.wrap ((i:Int)+1)=(i:Int)+1:=IntWalk.i64_in _ (by omega)
 have hnext:=ldL_take (N:=N) (F:=F) (x:=x) hR
 by_cases hx:R.sort=x
 case neg =>
  rw [if_neg hx,List.append_nil] at hnext
  simp -implicitDefEqProofs [lp0_69,hlt,hne,hR,ab,sv,hx,wi]
  exact ⟨⟨i+1,st,J⟩,by simp; omega,⟨by simp; omega,by simp only; rw [hnext]; exact z1⟩,aI (by simp [dslot]),rfl⟩
 rw [if_pos hx] at hnext
 simp -implicitDefEqProofs [lp0_69,hlt,hne,hR,ab,sv,hx]
 obtain ⟨bs,hbs⟩:∃ bs,bs=(ldL N F x (g.rules.take i)).length:=⟨_,rfl⟩
 rw [<- hbs] at z1
 refine AWp.till (S:=LS1) ⟨0,st,J⟩ (fun s=>R.parts.length - s.i) [0,2,3,4,7,13,14,15,24,25] (fun s=>[(26,i64 (s.i:Int))]) (fun s=>B s.st++s.J)
  (fun s=>s.i <= R.parts.length /\ P (bs+(ldT N F R.parts s.i).length) s.st) mixed ⟨by simp,by simpa [ldT] using z1⟩ (aI (by simp [dslot])) rfl ?_
 rintro ⟨j,st1,J1⟩ ⟨y0,y1⟩
 simp only at y0 y1
 by_cases hj:j < R.parts.length
 case neg =>
  have hltj:¬ (j:Int) < R.parts.length:=by omega
  have hjj:j=R.parts.length:=by omega
  subst hjj
  simp -implicitDefEqProofs [lp1_69,hltj,wi]
  refine ⟨⟨i+1,st1,J1⟩,by simp; omega,⟨by simp; omega,?_⟩,aI (by simp [dslot]),rfl⟩
  simp only
  rw [hnext,List.length_append,<- hbs]
  exact y1
 obtain ⟨p,hpj⟩:∃ p,R.parts[j]?=some p:=⟨R.parts[j],by simp [hj]⟩
 have hltj:(j:Int) < R.parts.length:=by omega
 have hnej:R.parts ≠ []:=by intro e; rw [e] at hj; simp at hj
 have hpl:=hps R hRm
 have wj:IntKind.i64.wrap ((j:Int)+1)=(j:Int)+1:=IntWalk.i64_in _ (by omega)
 obtain ⟨m,hm⟩:∃ m,R.parts.length=m+1:=⟨R.parts.length - 1,by omega⟩
 obtain ⟨K,hK⟩:∃ K,K=B st1++J1:=⟨_,rfl⟩
 obtain ⟨n1,n2⟩:=LdH.app B J1 hNT st1
 simp only at n1 n2
 rw [<- hK] at n1 n2
 have hE:(R.parts.eraseIdx j).length=m:=by rw [List.length_eraseIdx,if_pos hj]; omega
 obtain ⟨HB,hHB⟩:∃ HB,HB=K++[.cells 0 ((R.parts.eraseIdx j).flatMap ptC++zP)]:=⟨_,rfl⟩
 have hcl1:=clonePt_c R.parts R.cap hnej (hcap R hRm hnej) hpl (h:=K)
 rw [hm] at hcl1
 have hde1:AEx PP Gl 70 [.rf K.length 0 0 (m+1) (.own 3),i64 (j:Int),i64 ((j:Int)+1)] (K++[.cells 0 (R.parts.flatMap ptC)]) (.ret (.rf K.length 0 0 m (.own 3))) HB:=by
  have:=deletePt_c R.parts j m K.length (by omega) hm (by omega) (h:=K++[.cells 0 (R.parts.flatMap ptC)]) (by simp)
  rw [List.set_append_right _ _ (Nat.le_refl _)] at this
  simpa [hHB] using this
 have b1:HB[nl]?=some (.amap (aS bv (aT N))):=by rw [hHB,List.getElem?_append_left (ar n1)]; exact n1
 have b2:HB[fl]?=some (.amap (aS bv (aT F))):=by rw [hHB,List.getElem?_append_left (ar n2)]; exact n2
 have hany:=anyQ_c (R.parts.eraseIdx j) K.length (.own 3) zP 72 [] [.ip (.mp nl)] (restF N) (by omega) (h:=HB) (by rw [hHB]; simp) (fun e _=>by simpa using restF_c e N nl b1)
 rw [hE] at hany
 have hHB2:HB=B st1++(J1++[.cells 0 ((R.parts.eraseIdx j).flatMap ptC++zP)]):=by rw [hHB,hK,List.append_assoc]
 have hstep:=ldT_step (N:=N) (F:=F) hpj
 rw [<- hK]
 simp -implicitDefEqProofs [lp1_69,hltj,hnej,hpj,encP,ab]
 refine aP hcl1 rfl rfl ?_
 simp -implicitDefEqProofs [wj]
 refine aP hde1 rfl rfl ?_
 by_cases hs:p.sort=emp
 .have hal:aloneF N F R.parts p j=false:=by simp [aloneF,hs]
  rw [hal,if_neg (by simp),List.append_nil] at hstep
  simp -implicitDefEqProofs [hs,emp,wj]
  refine ⟨⟨j+1,st1,_⟩,by simp only; omega,⟨by simp only; omega,by simp only; rw [hstep]; exact y1⟩,aI (by simp [dslot]),hHB2⟩
 have hs':¬ p.sort=(⟨#[]⟩:ByteArray):=hs
 by_cases hf:p.sort ∈ F
 case neg =>
  have hal:aloneF N F R.parts p j=false:=by simp [aloneF,hf]
  rw [hal,if_neg (by simp),List.append_nil] at hstep
  simp -implicitDefEqProofs [hs',b2,hf,wj]
  refine ⟨⟨j+1,st1,_⟩,by simp only; omega,⟨by simp only; omega,by simp only; rw [hstep]; exact y1⟩,aI (by simp [dslot]),hHB2⟩
 simp -implicitDefEqProofs [hs',b2,hf]
 refine aP hany rfl rfl ?_
 cases hr2:(R.parts.eraseIdx j).any (restF N) with
 | true =>
  have hal:aloneF N F R.parts p j=false:=by simp [aloneF,hr2]
  rw [hal,if_neg (by simp),List.append_nil] at hstep
  simp -implicitDefEqProofs [wj]
  refine ⟨⟨j+1,st1,_⟩,by simp only; omega,⟨by simp only; omega,by simp only; rw [hstep]; exact y1⟩,aI (by simp [dslot]),hHB2⟩
 | false =>
  have hal:aloneF N F R.parts p j=true:=by simp [aloneF,hr2,hs,hf]
  have hev:=ldL_pre (N:=N) (F:=F) hR hx hpj hal
  rw [<- hbs] at hev
  rw [hal,if_pos rfl] at hstep
  rw [hHB2]
  have hlp:=hloop st1 (J1++[.cells 0 ((R.parts.eraseIdx j).flatMap ptC++zP)])
  simp -implicitDefEqProofs [hlp]
  refine yieldk (hy _ _ st1 _ hev y1) ?_
  rintro e h' ⟨rfl,st',hz,rfl⟩
  simp -implicitDefEqProofs [wj]
  refine ⟨⟨j+1,st',_⟩,by simp only; omega,⟨by simp only; omega,by simp only; rw [hstep,List.length_append,<- Nat.add_assoc]; exact hz⟩,aI (by simp [dslot]),rfl⟩
end Go.Apx
end
