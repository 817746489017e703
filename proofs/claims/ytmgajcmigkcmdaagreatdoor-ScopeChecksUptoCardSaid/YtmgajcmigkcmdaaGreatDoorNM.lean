/- Walks: At of right statements. -/
import Derived.Test.YtmgajcmigkcmdaaGreatDoorNL
set_option linter.unusedVariables false
set_option linter.unusedSimpArgs false
set_option linter.unnecessarySimpa false
section
namespace Go.Apx
open Go.Proofs Go.Shelf
set_option maxRecDepth 4000
section
variable {P:Program} {G:Globs} {f:FuncId} {args:List AV} {h:AHeap} {R R':AEnd -> AHeap -> Prop}
theorem ACalls.leR (hc:ACalls P G f args h R) (hf:∀ r H,R r H -> ∃ v v',r=.ret v /\ AVLe v v' /\ R' (.ret v') H):ACalls P G f args h R':=by
 refine ⟨hc.1,fun I m w vs hi ha=>(hc.2 I m w vs hi ha).mono ?_⟩
 rintro e w' ⟨r,h',I',m',hR,hE,hv',ht⟩
 obtain ⟨v,v',rfl,hle,hR'⟩:=hf r h' hR
 refine ⟨_,_,I',m',hR',?_,hv',ht⟩
 cases e with
 | returned x=>exact hle I' m' x hE
 | _=>exact hE.elim
theorem ACalls.freezeE (hc:ACalls P G f args h R) (hf:∀ r H,R r H -> R' r H \/ ∃ v i g k cs,r=.ret v /\ H[i]?=some (.cells g cs) /\ R' (.ret (v.frz i g k cs)) (H.set i .dead)):ACalls P G f args h R':=by
 refine ⟨hc.1,fun I m w vs hi ha=>(hc.2 I m w vs hi ha).mono ?_⟩
 rintro e w' ⟨r,h',I',m',hR,hE,hv',ht⟩
 rcases hf r h' hR with hR' | ⟨v,i,g,k,cs,rfl,ho,hR'⟩
 .exact ⟨_,_,I',m',hR',hE,hv',ht⟩
 obtain ⟨I2,q1,q2,q3,q4,q5⟩:=hv'.freeze ho k
 refine ⟨_,_,I2,m'.set i .dead,hR',?_,q1,ht.trans (q2 _)⟩
 cases e with
 | returned x=>exact q5 v x hE
 | _=>exact hE.elim
end
theorem elems_ow {ρ:Nat -> Nat} {H:AHeap} {b i:Nat} {l:List Pr} {a g:Nat} {z:List AV} (ho:H[a]?=some (.cells g (cellsP l []++z))) (hne:l ≠ []) (hl:l.length <= 2 ^ 30):elems H 2 (.rf a g 0 l.length (.own 2))=some (l.map encP):=by
 have h5:l.length ≠ 0:=fun e=>hne (List.eq_nil_of_length_eq_zero e)
 have hc:cellsP l []++z=cellsP l z:=by simp [cellsP]
 rw [hc] at ho
 have h6:l.length * 2 <= (cellsP l z).length:=by unfold cellsP; rw [List.length_append,rowLen (k:=2) (fun _=>rfl)]; omega
 rw [<- rows_P l z]
 simp only [elems,if_neg h5,ho,Nat.zero_add,List.drop_zero]
 rw [if_pos ⟨trivial,h6,by omega⟩]
theorem Ow.base {ρ:Nat -> Nat} {H:AHeap} {b b' i k n:Nat} {cs:List AV} {V:AV} (h:Ow ρ H b i k n cs V) (hb:b' <= b):Ow ρ H b' i k n cs V:=by
 refine ⟨h.1,?_⟩
 rcases h.2 with h2 | ⟨a,g,z,h1,h2,h3,h4⟩
 .exact .inl h2
 .exact .inr ⟨a,g,z,h1,h2,by omega,h4⟩
def At1 (h:AHeap) (x:Sx) (r:AEnd) (H:AHeap):Prop :=
 ∃ ρ VV VH SA T,r=.ret (.tup [.agg [apd 1 (x.cs.map sv) T,VV,VH,SA,i64 x.d],i64 0]) /\ Low h.length h H /\ Ow ρ H h.length 1 1 x.vs.length (x.vs.map sv) VV /\ Ow ρ H h.length 2 3 x.hs.length (x.hs.flatMap Hy.cells) VH /\
  ((∃ q c,SA=.sl q [] c /\ (c=.full \/ c=.nil) /\ x.ap=[]) \/ Ow ρ H h.length 5 2 (srtP x.ap).length (cellsP (srtP x.ap) []) SA)
set_option maxHeartbeats 8000000 in
theorem at_walk (l:List St) (c:Cap) (i:Nat) (hl:l.length <= 100) (hi:i <= l.length) (sm:∀ s ∈ l,Sm s) (so:∀ s ∈ l,s.tc=.nil -> s.text=[]) {x:Sx} (hF:runF 0 x0 (l.take i)=.inr x) {h:AHeap} :
  ACalls PP Gl 17 [.sl 4 (l.map encSt) c,i64 (i:Int)] h (At1 h x):=by
 refine enter_17 (by simp) ?_
 have h0:¬ (i:Int) < 0:=by omega
 have h1:¬ (l.length:Int) < i:=by omega
 have h1':¬ l.length < i:=by omega
 have h2:¬ (2000:Int) < i:=by omega
 have h2':¬ 2000 < i:=by omega
 simp -implicitDefEqProofs [code_17,res_17,ann_17,h0,h1,h1',h2,h2',hi]
 obtain ⟨h3,hh3⟩:∃ h3,h3=h++[AObj.cells 0 [.sl 0 [] .nil,.sl 0 [] .nil,.sl 0 [] .nil,.sl 0 [] .nil,i64 0]]:=⟨_,rfl⟩
 have hrun:=fun c'=>run_c (l.take i) c' (by rw [List.length_take]; omega) (fun s hs=>sm s (List.mem_of_mem_take hs)) (fun s hs=>so s (List.mem_of_mem_take hs)) (h:=h3)
 rw [hF,List.map_take] at hrun
 rw [<- hh3]
 have hl3:h3.length=h.length+1:=by rw [hh3]; simp
 have low0:Low h.length h h3:=by rw [hh3]; exact Low.app _ _ _
 refine callr (hrun _) rfl rfl ?_
 rintro r H1 ⟨rfl,low1,xi,ρ,VC,VV,VH,VA,VL,T,hR⟩
 have o3:H1[h.length]?=some (AObj.cells 0 [.sl 0 [] .nil,.sl 0 [] .nil,.sl 0 [] .nil,.sl 0 [] .nil,i64 0]):=low1 h.length _ (by omega) (by rw [hh3]; simp)
 have g1:=hR.st
 have hB:h3.length+6 < H1.length:=lt_of g1
 obtain ⟨B,hBe⟩:∃ B,B=h3.length:=⟨_,rfl⟩
 rw [<- hBe] at hR g1 hB
 rw [<- hBe]
 have hxap:=xi.ap
 have hn:(l.take i).length <= 100:=by rw [List.length_take]; omega
 have pv:=hR.vv.pend
 have ph:=hR.vh.pend
 have pa:=hR.va.pend
 have ov:=hR.vv.one
 have oh:=hR.vh.one
 have oa:=hR.va.one
 have cv:=hR.vv.cells
 have ch:=hR.vh.cells
 have ca:=hR.va.cells
 have hvc:=hR.vc
 have pc:VC.isPend=false:=by rw [hvc]; rfl
 have oc:VC.one=true:=by rw [hvc]; rfl
 have cc:VC.cells=[VC]:=by rw [hvc]; rfl
 simp -implicitDefEqProofs [g1,o3,pv,ph,pa,ov,oh,oa,cv,ch,ca,pc,oc,cc]
 have lowH:Low h.length h (H1++[AObj.cells 0 [VC,VV,VH,VA,i64 ↑x.d]]):=(low0.trans (low1.mono (by omega))).trans (Low.app _ _ _)
 obtain ⟨H2,hH2⟩:∃ H2,H2=H1++[AObj.cells 0 [VC,VV,VH,VA,i64 ↑x.d]]:=⟨_,rfl⟩
 have hl2:H2.length=H1.length+1:=by rw [hH2]; simp
 have o2:H2[h.length]?=some (AObj.cells 0 [.sl 0 [] .nil,.sl 0 [] .nil,.sl 0 [] .nil,.sl 0 [] .nil,i64 0]):=by rw [hH2,List.getElem?_append_left (by omega)]; exact o3
 have oo:H2[H1.length]?=some (AObj.cells 0 [VC,VV,VH,VA,i64 ↑x.d]):=by rw [hH2]; simp
 have same:∀ z,z < H1.length -> H2[z]?=H1[z]?:=fun z hz=>by rw [hH2,List.getElem?_append_left hz]
 rw [<- hH2] at lowH ⊢
 have key:∀ (SA:AV) (H3:AHeap) (ρ':Nat -> Nat),SA.isPend=false -> SA.one=true -> SA.cells=[SA] -> (∀ z,z < H2.length -> H3[z]?=H2[z]?) -> (∀ z,z < H1.length -> ρ' z=ρ z) ->
   ((∃ q c,SA=.sl q [] c /\ (c=.full \/ c=.nil) /\ x.ap=[]) \/ Ow ρ' H3 H2.length 5 2 (srtP x.ap).length (cellsP (srtP x.ap) []) SA) ->
   H3[H1.length]?=some (AObj.cells 0 [VC,VV,VH,VA,i64 ↑x.d]) /\ H3[h.length]?=some (AObj.cells 0 [.sl 0 [] .nil,.sl 0 [] .nil,.sl 0 [] .nil,.sl 0 [] .nil,i64 0]) /\
   (∀ X,(H3.set H1.length X)[H1.length]?=some X) /\ (∀ X,(H3.set H1.length X)[h.length]?=some (AObj.cells 0 [.sl 0 [] .nil,.sl 0 [] .nil,.sl 0 [] .nil,.sl 0 [] .nil,i64 0])) /\ (∀ X Y,((H3.set H1.length X).set h.length Y)[h.length]?=some Y) /\
   ∀ X Y,At1 h x (.ret (.tup [.agg [VC,VV,VH,SA,i64 x.d],i64 0])) ((H3.set H1.length X).set h.length Y):=by
  intro SA H3 ρ' p1 p2 p3 p4 p5 p6
  have k1:H3[H1.length]?=some (AObj.cells 0 [VC,VV,VH,VA,i64 ↑x.d]):=by rw [p4 _ (by omega)]; exact oo
  have k2:H3[h.length]?=some (AObj.cells 0 [.sl 0 [] .nil,.sl 0 [] .nil,.sl 0 [] .nil,.sl 0 [] .nil,i64 0]):=by rw [p4 _ (by omega)]; exact o2
  have hlt:H1.length < H3.length:=lt_of k1
  have hne:H1.length ≠ h.length:=by omega
  refine ⟨k1,k2,fun X=>by simp [hlt],fun X=>by rw [List.getElem?_set_ne hne]; exact k2,fun X Y=>by rw [List.getElem?_set_self (by simp; omega)],fun X Y=>?_⟩
  have fr:∀ z,h.length < z -> z < H1.length -> ((H3.set H1.length X).set h.length Y)[z]?=H1[z]?:=fun z hz hz2=>by rw [List.getElem?_set_ne (by omega),List.getElem?_set_ne (by omega),p4 z (by omega),same z hz2]
  refine ⟨ρ',VV,VH,SA,T,by rw [hvc],((lowH.trans (fun z y hz hy=>by rw [p4 z (by omega)]; exact hy)).trans (Low.set (by omega))).trans (Low.set (Nat.le_refl _)),?_,?_,?_⟩
  .exact (hR.vv.frame (fun z h1 h2 h3=>⟨fr z (by omega) h2,by rw [p5 z h2]; exact h3⟩)).base (by omega)
  .exact (hR.vh.frame (fun z h1 h2 h3=>⟨fr z (by omega) h2,by rw [p5 z h2]; exact h3⟩)).base (by omega)
  .refine p6.imp id fun p6=>(p6.frame fun z h1 h2 h3=>⟨by rw [List.getElem?_set_ne (by omega),List.getElem?_set_ne (by omega)],h3⟩).base (by omega)
 rcases hR.va.2 with ⟨n0,q,hq⟩ | ⟨a,g,z,hq,ha,hba,hra⟩
 .have hap:x.ap=[]:=List.eq_nil_of_length_eq_zero n0
  obtain ⟨k1,k2,k3,k4,k5,k6⟩:=key (.sl 0 [] .nil) H2 ρ rfl rfl rfl (fun _ _=>rfl) (fun _ _=>rfl) (.inl ⟨0,.nil,rfl,.inr rfl,hap⟩)
  refine callk (sorted_nilq q) (by rw [hq]) rfl ?_
  simp -implicitDefEqProofs [k1,k2,k3,k4,k5,pv,ph,ov,oh,cv,ch,pc,oc,cc]
  exact ret1 (v:=.tup [.agg [VC,VV,VH,.sl 0 [] .nil,i64 x.d],i64 0]) (by simp [deferred,dslot]) (by simp [evalRes,evalRes1,k5]) (k6 _ _)
 .by_cases hap:x.ap=[]
  .obtain ⟨k1,k2,k3,k4,k5,k6⟩:=key (.sl 2 [] .full) H2 ρ rfl rfl rfl (fun _ _=>rfl) (fun _ _=>rfl) (.inl ⟨2,.full,rfl,.inl rfl,hap⟩)
   refine callk (sorted_rf0 a g 0 (.own 2)) (by rw [hq,hap]; rfl) rfl ?_
   simp -implicitDefEqProofs [k1,k2,k3,k4,k5,pv,ph,ov,oh,cv,ch,pc,oc,cc]
   exact ret1 (v:=.tup [.agg [VC,VV,VH,.sl 2 [] .full,i64 x.d],i64 0]) (by simp [deferred,dslot]) (by simp [evalRes,evalRes1,k5]) (k6 _ _)
  .have ha2:H2[a]?=some (.cells g (cellsP x.ap []++z)):=by rw [same a (lt_of ha)]; exact ha
   obtain ⟨y,hsrt⟩:=sorted_c x.ap (.rf a g 0 x.ap.length (.own 2)) (h:=H2) rfl rfl (elems_ow (ρ:=ρ) (b:=B) (i:=3) ha2 hap (by omega)) hap (by omega)
   obtain ⟨N,hN⟩:∃ N,N=(srtP x.ap).length:=⟨_,rfl⟩
   obtain ⟨H3,hH3⟩:∃ H3,H3=H2++[AObj.cells 0 (cellsP (srtP x.ap) y)]:=⟨_,rfl⟩
   rw [<- hH3,<- hN] at hsrt
   obtain ⟨k1,k2,k3,k4,k5,k6⟩:=key (.rf H2.length 0 0 N (.own 2)) H3 (fun z=>if z < H1.length then ρ z else 5) rfl rfl rfl (fun z hz=>by rw [hH3,List.getElem?_append_left hz]) (fun z hz=>if_pos hz)
    (.inr ⟨by unfold cellsP; rw [List.append_nil,rowLen (k:=2) (fun _=>rfl)],.inr ⟨H2.length,0,y,by rw [hN],by rw [hH3]; simp [cellsP],Nat.le_refl _,if_neg (by omega)⟩⟩)
   refine callk hsrt (by rw [hq]) rfl ?_
   simp -implicitDefEqProofs [k1,k2,k3,k4,k5,pv,ph,ov,oh,cv,ch,pc,oc,cc]
   exact ret1 (v:=.tup [.agg [VC,VV,VH,.rf H2.length 0 0 N (.own 2),i64 x.d],i64 0]) (by simp [deferred,dslot]) (by simp [evalRes,evalRes1,k5]) (k6 _ _)
def Fl (k:Nat) (es:List AV) (V:AV):Prop:=∃ q c,V=.sl q es c /\ (q=k \/ es=[]) /\ (c=.any \/ c=.full \/ c=.nil /\ es=[])
abbrev encHy (x:Hy):AV:=.agg x.cells
theorem pur_encHy (x:Hy):(encHy x).pur=true:=by
 have:purL (x.text.map sv)=true:=purL_map (fun a=>(rfl:(sv a).pur=true)) _
 simp [encHy,AV.pur,purL,this]
end Go.Apx
end
section
namespace Go.Apx
open Go.Proofs Go.Shelf
set_option maxRecDepth 4000
mutual
theorem frz_pur {i g k:Nat} {cs:List AV}:∀ {v:AV},v.pur=true -> v.frz i g k cs=v
 | .sc _,_=>rfl
 | .agg xs,h=>by simp only [AV.pur] at h; simp only [AV.frz,frzL_pur h]
 | .tup xs,h=>by simp only [AV.pur] at h; simp only [AV.frz,frzL_pur h]
 | .sl q es c,h=>by
  simp only [AV.pur,Bool.and_eq_true] at h
  simp only [AV.frz,frzL_pur h.1]
 | .ip v,h=>by simp only [AV.pur] at h; simp only [AV.frz,frz_pur h]
 | .ptr ..,h=>by simp [AV.pur] at h
 | .rf ..,h=>by simp [AV.pur] at h
 | .mp _,h=>by simp [AV.pur] at h
 | .it _,h=>by simp [AV.pur] at h
 | .yld _,h=>by simp [AV.pur] at h
 | .fn f a b,h=>by
  simp only [AV.pur,Bool.and_eq_true] at h
  simp only [AV.frz,frzL_pur h.1,frzL_pur h.2]
 | .ifc t v,h=>by simp only [AV.pur] at h; simp only [AV.frz,frz_pur h]
 | .pend _,_=>rfl
theorem frzL_pur {i g k:Nat} {cs:List AV}:∀ {l:List AV},purL l=true -> frzL i g k cs l=l
 | [],_=>rfl
 | v :: r,h=>by
  simp only [purL,Bool.and_eq_true] at h
  simp only [frzL,frz_pur h.1,frzL_pur h.2]
end
theorem Fl.pur {k:Nat} {es:List AV} {V:AV} (h:Fl k es V) (he:purL es=true):V.pur=true:=by
 obtain ⟨q,c,rfl,_,h2⟩:=h
 rcases h2 with rfl | rfl | ⟨rfl,_⟩ <;> simp [AV.pur,he]
theorem Ow.frz_other {ρ:Nat -> Nat} {H:AHeap} {b j k' n':Nat} {cs':List AV} {V:AV} (h:Ow ρ H b j k' n' cs' V) {a:Nat} (ha:ρ a ≠ j) (g k:Nat) (cs:List AV):V.frz a g k cs=V:=by
 rcases h.2 with ⟨_,q,rfl⟩ | ⟨a',g',z,rfl,_,_,h3⟩
 .rfl
 .have:a' ≠ a:=by rintro rfl; exact ha h3
  simp [AV.frz,frz1,this]
theorem Ow.frz_slot {ρ:Nat -> Nat} {H:AHeap} {b i k n:Nat} {cs es:List AV} {V:AV} (h:Ow ρ H b i k n cs V) (hn:es.length=n) (hrow:∀ z,rows k n (cs++z)=es) (hk:0 < k) :
  Fl k es V \/ ∃ a g z,H[a]?=some (.cells g (cs++z)) /\ b <= a /\ ρ a=i /\ Fl k es (V.frz a g k (cs++z)):=by
 rcases h.2 with ⟨n0,q,rfl⟩ | ⟨a,g,z,rfl,h1,h2,h3⟩
 .have:es=[]:=List.eq_nil_of_length_eq_zero (by rw [hn,n0])
  subst this
  exact .inl ⟨q,.nil,rfl,.inr rfl,.inr (.inr ⟨rfl,rfl⟩)⟩
 .refine .inr ⟨a,g,z,h1,h2,h3,k,.any,?_,.inl rfl,.inl rfl⟩
  have:n * k <= (cs++z).length:=by rw [List.length_append,h.1]; omega
  have hr:=hrow z
  simp only [AV.frz,frz1,Nat.zero_add,List.drop_zero]
  rw [if_pos ⟨trivial,trivial,this,hk⟩,hr]
theorem rowsS (l:List ByteArray) (z:List AV):rows 1 l.length (l.map sv++z)=l.map sv:=by
 induction l with
 | nil=>rfl
 | cons a l ih=>simp [rows,ih]
theorem rowsH (l:List Hy) (z:List AV):rows 3 l.length (l.flatMap Hy.cells++z)=l.map encHy:=by
 induction l with
 | nil=>rfl
 | cons a l ih =>
  have:((a :: l).flatMap Hy.cells++z)=a.cells++(l.flatMap Hy.cells++z):=by simp
  rw [this,List.length_cons,List.map_cons,<- ih]
  rfl
theorem rowsP2 (l:List Pr) (z:List AV):rows 2 l.length (cellsP l []++z)=l.map encP:=by
 rw [show cellsP l []++z=cellsP l z by simp [cellsP]]; exact rows_P l z
def AtF (h:AHeap) (x:Sx) (r:AEnd) (H:AHeap):Prop :=
 ∃ VC VV VH VA,r=.ret (.tup [.agg [VC,VV,VH,VA,i64 x.d],i64 0]) /\ H=h /\ Fl 1 (x.cs.map sv) VC /\ Fl 1 (x.vs.map sv) VV /\ Fl 3 (x.hs.map encHy) VH /\ Fl 2 ((srtP x.ap).map encP) VA
def AtM (h:AHeap) (x:Sx) (p q s:Bool) (r:AEnd) (H:AHeap):Prop :=
 ∃ ρ VC VV VH SA,r=.ret (.tup [.agg [VC,VV,VH,SA,i64 x.d],i64 0]) /\ Low h.length h H /\ Fl 1 (x.cs.map sv) VC /\ (Fl 1 (x.vs.map sv) VV \/ p=true /\ Ow ρ H h.length 1 1 x.vs.length (x.vs.map sv) VV) /\
  (Fl 3 (x.hs.map encHy) VH \/ q=true /\ Ow ρ H h.length 2 3 x.hs.length (x.hs.flatMap Hy.cells) VH) /\ (Fl 2 ((srtP x.ap).map encP) SA \/ s=true /\ Ow ρ H h.length 5 2 (srtP x.ap).length (cellsP (srtP x.ap) []) SA)
theorem purS (l:List ByteArray):purL (l.map sv)=true:=purL_map (fun a=>(rfl:(sv a).pur=true)) _
theorem purH (l:List Hy):purL (l.map encHy)=true:=purL_map pur_encHy _
theorem purP (l:List Pr):purL (l.map encP)=true:=purL_map pur_encP _
theorem fl_grown (k:Nat) (es:List AV):Fl k es (grown k es):=by
 unfold grown
 by_cases e:es=[]
 .subst e; exact ⟨0,.nil,rfl,.inr rfl,.inr (.inr ⟨rfl,rfl⟩)⟩
 .rw [if_neg e,if_neg e]; exact ⟨k,.any,rfl,.inl rfl,.inl rfl⟩
theorem dead_frame {ρ:Nat -> Nat} {H:AHeap} {b i k n a:Nat} {cs:List AV} {V:AV} (h:Ow ρ H b i k n cs V) (ha:ρ a ≠ i):Ow ρ (H.set a .dead) b i k n cs V :=
 h.frame fun z _ _ h3=>⟨by rw [List.getElem?_set_ne]; rintro rfl; exact ha h3,h3⟩
theorem at_m1 {l:List St} {c:Cap} {i:Int} {x:Sx} {h:AHeap} (hc:ACalls PP Gl 17 [.sl 4 (l.map encSt) c,i64 i] h (At1 h x)):ACalls PP Gl 17 [.sl 4 (l.map encSt) c,i64 i] h (AtM h x true true true):=by
 refine hc.leR ?_
 rintro r H ⟨ρ,VV,VH,SA,T,rfl,low,hv,hh,ha⟩
 have sV:VV.strip=VV:=by rcases hv.2 with ⟨_,q,rfl⟩ | ⟨a,g,z,rfl,_⟩ <;> rfl
 have sH:VH.strip=VH:=by rcases hh.2 with ⟨_,q,rfl⟩ | ⟨a,g,z,rfl,_⟩ <;> rfl
 have sA:SA.strip=SA:=by
  rcases ha with ⟨q,c,rfl,hc,_⟩ | ha
  .rcases hc with rfl | rfl <;> rfl
  .rcases ha.2 with ⟨_,q,rfl⟩ | ⟨a,g,z,rfl,_⟩ <;> rfl
 refine ⟨_,_,rfl,AVLe.strip _,ρ,grown 1 (x.cs.map sv),VV,VH,SA,?_,low,fl_grown _ _,.inr ⟨rfl,hv⟩,.inr ⟨rfl,hh⟩,?_⟩
 .simp only [AV.strip,stripL,sV,sH,sA,strip_apd 1 (x.cs.map sv) (x.cs.map sv) T (purL_strip (purS _))]
 .rcases ha with ⟨q,c,rfl,hc,hap⟩ | ha
  .left
   rw [show srtP x.ap=[] by rw [hap]; exact List.eq_nil_of_length_eq_zero (Nat.le_zero.1 (srtP_len []))]
   rcases hc with rfl | rfl
   .exact ⟨q,.full,rfl,.inr rfl,.inr (.inl rfl)⟩
   .exact ⟨q,.nil,rfl,.inr rfl,.inr (.inr ⟨rfl,rfl⟩)⟩
  .exact .inr ⟨rfl,ha⟩
theorem at_fl {l:List St} {c:Cap} {i:Int} {x:Sx} {h:AHeap} (hc:ACalls PP Gl 17 [.sl 4 (l.map encSt) c,i64 i] h (At1 h x)):ACalls PP Gl 17 [.sl 4 (l.map encSt) c,i64 i] h (AtF h x):=by
 have h1:=at_m1 hc
 have h2:ACalls PP Gl 17 [.sl 4 (l.map encSt) c,i64 i] h (AtM h x false true true):=by
  refine h1.freezeE ?_
  rintro r H ⟨ρ,VC,VV,VH,SA,rfl,low,fc,fv,fh,fa⟩
  have nv:∀ V,Fl 1 (x.vs.map sv) V -> AtM h x false true true (.ret (.tup [.agg [VC,V,VH,SA,i64 x.d],i64 0])) H:=fun V hV=>⟨ρ,VC,V,VH,SA,rfl,low,fc,.inl hV,fh,fa⟩
  rcases fv with fv | ⟨_,ov⟩
  .exact .inl (nv _ fv)
  rcases ov.frz_slot (es:=x.vs.map sv) (by simp) (fun z=>rowsS x.vs z) (by decide) with hV | ⟨a,g,z,ho,hb,hr,hV⟩
  .exact .inl (nv _ hV)
  refine .inr ⟨_,a,g,1,_,rfl,ho,ρ,VC,_,VH,SA,?_,low.trans (Low.set hb),fc,.inl hV,fh.imp id fun o=>⟨rfl,dead_frame o.2 (by omega)⟩,fa.imp id fun o=>⟨rfl,dead_frame o.2 (by omega)⟩⟩
  have e1:VC.frz a g 1 (x.vs.map sv++z)=VC:=frz_pur (fc.pur (purS _))
  have e2:VH.frz a g 1 (x.vs.map sv++z)=VH:=fh.elim (fun f=>frz_pur (f.pur (purH _))) fun o=>o.2.frz_other (by omega) _ _ _
  have e3:SA.frz a g 1 (x.vs.map sv++z)=SA:=fa.elim (fun f=>frz_pur (f.pur (purP _))) fun o=>o.2.frz_other (by omega) _ _ _
  simp only [AV.frz,frzL,e1,e2,e3]
 have h3:ACalls PP Gl 17 [.sl 4 (l.map encSt) c,i64 i] h (AtM h x false false true):=by
  refine h2.freezeE ?_
  rintro r H ⟨ρ,VC,VV,VH,SA,rfl,low,fc,fv,fh,fa⟩
  have fv:Fl 1 (x.vs.map sv) VV:=fv.elim id fun h=>by cases h.1
  have nv:∀ V,Fl 3 (x.hs.map encHy) V -> AtM h x false false true (.ret (.tup [.agg [VC,VV,V,SA,i64 x.d],i64 0])) H:=fun V hV=>⟨ρ,VC,VV,V,SA,rfl,low,fc,.inl fv,.inl hV,fa⟩
  rcases fh with fh | ⟨_,oh⟩
  .exact .inl (nv _ fh)
  rcases oh.frz_slot (es:=x.hs.map encHy) (by simp) (fun z=>rowsH x.hs z) (by decide) with hV | ⟨a,g,z,ho,hb,hr,hV⟩
  .exact .inl (nv _ hV)
  refine .inr ⟨_,a,g,3,_,rfl,ho,ρ,VC,VV,_,SA,?_,low.trans (Low.set hb),fc,.inl fv,.inl hV,fa.imp id fun o=>⟨rfl,dead_frame o.2 (by omega)⟩⟩
  have e1:VC.frz a g 3 (x.hs.flatMap Hy.cells++z)=VC:=frz_pur (fc.pur (purS _))
  have e2:VV.frz a g 3 (x.hs.flatMap Hy.cells++z)=VV:=frz_pur (fv.pur (purS _))
  have e3:SA.frz a g 3 (x.hs.flatMap Hy.cells++z)=SA:=fa.elim (fun f=>frz_pur (f.pur (purP _))) fun o=>o.2.frz_other (by omega) _ _ _
  simp only [AV.frz,frzL,e1,e2,e3]
 have h4:ACalls PP Gl 17 [.sl 4 (l.map encSt) c,i64 i] h (AtM h x false false false):=by
  refine h3.freezeE ?_
  rintro r H ⟨ρ,VC,VV,VH,SA,rfl,low,fc,fv,fh,fa⟩
  have fv:Fl 1 (x.vs.map sv) VV:=fv.elim id fun h=>by cases h.1
  have fh:Fl 3 (x.hs.map encHy) VH:=fh.elim id fun h=>by cases h.1
  have nv:∀ V,Fl 2 ((srtP x.ap).map encP) V -> AtM h x false false false (.ret (.tup [.agg [VC,VV,VH,V,i64 x.d],i64 0])) H:=fun V hV=>⟨ρ,VC,VV,VH,V,rfl,low,fc,.inl fv,.inl fh,.inl hV⟩
  rcases fa with fa | ⟨_,oa⟩
  .exact .inl (nv _ fa)
  rcases oa.frz_slot (es:=(srtP x.ap).map encP) (by simp) (fun z=>rowsP2 (srtP x.ap) z) (by decide) with hV | ⟨a,g,z,ho,hb,hr,hV⟩
  .exact .inl (nv _ hV)
  refine .inr ⟨_,a,g,2,_,rfl,ho,ρ,VC,VV,VH,_,?_,low.trans (Low.set hb),fc,.inl fv,.inl fh,.inl hV⟩
  have e1:VC.frz a g 2 (cellsP (srtP x.ap) []++z)=VC:=frz_pur (fc.pur (purS _))
  have e2:VV.frz a g 2 (cellsP (srtP x.ap) []++z)=VV:=frz_pur (fv.pur (purS _))
  have e3:VH.frz a g 2 (cellsP (srtP x.ap) []++z)=VH:=frz_pur (fh.pur (purH _))
  simp only [AV.frz,frzL,e1,e2,e3]
 refine h4.dropR ?_
 rintro r H ⟨ρ,VC,VV,VH,SA,rfl,low,fc,fv,fh,fa⟩
 have fv:Fl 1 (x.vs.map sv) VV:=fv.elim id fun h=>by cases h.1
 have fh:Fl 3 (x.hs.map encHy) VH:=fh.elim id fun h=>by cases h.1
 have fa:Fl 2 ((srtP x.ap).map encP) SA:=fa.elim id fun h=>by cases h.1
 refine ⟨_,rfl,pur_inb _ ?_,low,VC,VV,VH,SA,rfl,rfl,fc,fv,fh,fa⟩
 simp only [AV.pur,purL,fc.pur (purS _),fv.pur (purS _),fh.pur (purH _),fa.pur (purP _)]
 rfl
theorem at_ok (l:List St) (c:Cap) (i:Nat) (hl:l.length <= 100) (hi:i <= l.length) (sm:∀ s ∈ l,Sm s) (so:∀ s ∈ l,s.tc=.nil -> s.text=[]) {x:Sx} (hF:runF 0 x0 (l.take i)=.inr x) {h:AHeap} :
  ACalls PP Gl 17 [.sl 4 (l.map encSt) c,i64 (i:Int)] h (AtF h x):=at_fl (at_walk l c i hl hi sm so hF)
end Go.Apx
end
section
namespace Go.Apx
open Go.Proofs Go.Shelf
set_option maxRecDepth 4000
set_option maxHeartbeats 4000000 in
theorem hypT_c (x:Hy) (hl:x.text.length <= 2 ^ 31) {h:AHeap}:AEx PP Gl 38 [encHy x,encHy x] h (.ret (.sc (.bool true))) h:=by
 refine enter_38 (by simp) ?_
 simp -implicitDefEqProofs [code_38,res_38,ann_38]
 refine callk (eqS_c x.text x.text 1 1 .any .any (.inl rfl) (.inl rfl) hl) rfl rfl ?_
 simp -implicitDefEqProofs
 exact retE (v:=.sc (.bool true)) (by simp [deferred,dslot]) rfl rfl rfl
set_option maxHeartbeats 4000000 in
theorem eqFuncT_c (l:List Hy) (q1 q2:Nat) (c1 c2:Cap) (h1:q1=3 \/ l=[]) (h2:q2=3 \/ l=[]) (hl:l.length <= 2 ^ 31) (ht:∀ x ∈ l,x.text.length <= 2 ^ 31) {h:AHeap} :
  AEx PP Gl 37 [.sl q1 (l.map encHy) c1,.sl q2 (l.map encHy) c2,.fn (.func 38) [] []] h (.ret (.sc (.bool true))) h:=by
 refine enter_37 (by simp) ?_
 simp -implicitDefEqProofs [code_37,res_37,ann_37]
 refine AWp.cnt l.length [1,2,15,16] (fun i=>[(17,i64 (i:Int))]) (fun _=>h) (fun i=>True) mixed trivial (le_of (by simp [dslot])) rfl ?_ ?_
 .intro i hi hz
  obtain ⟨x,hx⟩:∃ x,l[i]?=some x:=⟨l[i],by simp [hi]⟩
  obtain rfl:=h1.resolve_right (by rintro rfl; simp at hx)
  obtain rfl:=h2.resolve_right (by rintro rfl; simp at hx)
  have hx2:l[i]=x:=by simpa [hi] using hx
  have hlt:(i:Int) < l.length:=by omega
  have wi:IntKind.i64.wrap ((i:Int)+1)=(i:Int)+1:=IntWalk.i64_in _ (by omega)
  simp -implicitDefEqProofs [lp0_37,hlt,hi,hx2,wi]
  refine callk (hypT_c x (ht x (List.mem_of_getElem? hx))) rfl rfl ?_
  simp -implicitDefEqProofs [wi]
  exact le_of (by simp [dslot])
 .intro hz
  simp -implicitDefEqProofs [lp0_37]
  exact retE (by simp [deferred,dslot]) rfl rfl rfl
set_option maxHeartbeats 4000000 in
theorem equalT_c {cs vs:List ByteArray} {hs:List Hy} {ap:List Pr} {d:Int} {A0 A1 A2 A3 B0 B1 B2 B3:AV} (a0:Fl 1 (cs.map sv) A0) (a1:Fl 1 (vs.map sv) A1) (a2:Fl 3 (hs.map encHy) A2) (a3:Fl 2 (ap.map encP) A3)
  (b0:Fl 1 (cs.map sv) B0) (b1:Fl 1 (vs.map sv) B1) (b2:Fl 3 (hs.map encHy) B2) (b3:Fl 2 (ap.map encP) B3) (l0:cs.length <= 2 ^ 31) (l1:vs.length <= 2 ^ 31) (l2:hs.length <= 2 ^ 31) (l3:ap.length <= 2 ^ 31) (ht:∀ x ∈ hs,x.text.length <= 2 ^ 31) {h:AHeap} :
  AEx PP Gl 24 [.agg [A0,A1,A2,A3,i64 d],.agg [B0,B1,B2,B3,i64 d]] h (.ret (.sc (.bool true))) h:=by
 obtain ⟨q0,c0,rfl,e0,_⟩:=a0
 obtain ⟨q1,c1,rfl,e1,_⟩:=a1
 obtain ⟨q2,c2,rfl,e2,_⟩:=a2
 obtain ⟨q3,c3,rfl,e3,_⟩:=a3
 obtain ⟨r0,s0,rfl,f0,_⟩:=b0
 obtain ⟨r1,s1,rfl,f1,_⟩:=b1
 obtain ⟨r2,s2,rfl,f2,_⟩:=b2
 obtain ⟨r3,s3,rfl,f3,_⟩:=b3
 simp only [List.map_eq_nil_iff] at e0 e1 e2 e3 f0 f1 f2 f3
 refine enter_24 (by simp) ?_
 simp -implicitDefEqProofs [code_24,res_24,ann_24]
 refine callk (eqS_c cs cs q0 r0 c0 s0 e0 f0 l0) rfl rfl ?_
 simp -implicitDefEqProofs
 refine callk (eqS_c vs vs q1 r1 c1 s1 e1 f1 l1) rfl rfl ?_
 simp -implicitDefEqProofs
 refine callk (eqFuncT_c hs q2 r2 c2 s2 e2 f2 l2 ht) rfl rfl ?_
 simp -implicitDefEqProofs
 refine callk (eqP_c ap ap q3 r3 c3 s3 e3 f3 l3) rfl rfl ?_
 simp -implicitDefEqProofs
 exact retE (v:=.sc (.bool true)) (by simp [deferred,dslot]) rfl rfl rfl
end Go.Apx
end
section
namespace Go.Apx
open Go.Proofs Go.Shelf
set_option maxRecDepth 4000
def wsum (l:List ByteArray):Nat:=(l.map ByteArray.size).sum
def nF (l:List St):Nat:=(l.map fun s=>s.text.length+s.proof.length).sum
def zF (l:List St):Nat:=(l.map fun s=>s.label.size+wsum (s.text++s.proof)).sum
def fewF (l:List St):Bool:=decide (l.length <= 60) && (decide (nF l <= 300) && decide (zF l <= 3000))
theorem wsum_step (l:List ByteArray) (i:Nat) (w:ByteArray) (h:l[i]?=some w):wsum (l.take (i+1))=wsum (l.take i)+w.size:=by
 rw [List.take_add_one,h]; simp [wsum]
theorem nF_step (l:List St) (i:Nat) (s:St) (h:l[i]?=some s):nF (l.take (i+1))=nF (l.take i)+(s.text.length+s.proof.length):=by
 rw [List.take_add_one,h]; simp [nF]
theorem zF_step (l:List St) (i:Nat) (s:St) (h:l[i]?=some s):zF (l.take (i+1))=zF (l.take i)+(s.label.size+wsum (s.text++s.proof)):=by
 rw [List.take_add_one,h]; simp [zF]
theorem wsum_le (l:List ByteArray) (i:Nat):wsum (l.take i) <= wsum l:=by
 have h:=congrArg wsum (List.take_append_drop i l)
 unfold wsum at h ⊢
 rw [List.map_append,List.sum_append] at h
 omega
theorem nF_le (l:List St) (i:Nat):nF (l.take i) <= nF l:=by
 have h:=congrArg nF (List.take_append_drop i l)
 unfold nF at h ⊢
 rw [List.map_append,List.sum_append] at h
 omega
theorem zF_le (l:List St) (i:Nat):zF (l.take i) <= zF l:=by
 have h:=congrArg zF (List.take_append_drop i l)
 unfold zF at h ⊢
 rw [List.map_append,List.sum_append] at h
 omega
theorem clone_app (X Y:List ByteArray) (tc pc:Cap) (hX:tc=.nil -> X=[]) (hl:X.length <= 2 ^ 30) (hl2:Y.length <= 2 ^ 30) (H:AHeap) :
  ∃ V1 H1 V2 H2,AEx PP Gl 30 [.sl 1 (X.map sv) tc] H (.ret V1) H1 /\ V1.isPend=false /\ V1.one=true /\ V1.cells=[V1] /\ (evalOp Gl [] H1 (.mappend 1 16 (.c V1) (.c (.sl 1 (Y.map sv) pc)))=some (V2,H2)) /\
   (∀ b,b <= H.length -> Low b H H2) /\ V2.isPend=false /\ V2.one=true /\ V2.cells=[V2] /\ ((X++Y=[] /\ ∃ q c,V2=.sl q [] c) \/ ∃ a g z,V2=.rf a g 0 (X++Y).length (.own 1) /\ H2[a]?=some (.cells g ((X++Y).map sv++z))):=by
 have hfl:∀ l:List ByteArray,(l.map sv).flatMap AV.cells=l.map sv:=fun l=>by have:=cellsS_map l []; simpa [cellsS,List.flatMap_map] using this
 have hm0:Y.length <= maxLenA:=by unfold maxLenA; omega
 have hm1:X.length+Y.length <= maxLenA:=by unfold maxLenA; omega
 by_cases hx:X=[]
 .subst hx
  have hcl:∃ q c',AEx PP Gl 30 [.sl 1 (([]:List ByteArray).map sv) tc] H (.ret (.sl q [] c')) H /\ (c'=.nil \/ c'=.full):=by
   by_cases hn:tc=.nil
   .subst hn; exact ⟨0,.nil,cloneS_nil 1 _,.inl rfl⟩
   .have h1:=cloneS_c [] (.sl 1 [] tc) (h:=H) (by simpa [isNilK] using hn) (by simp [elems]) (by simp)
    simp only [cpV,cpH,List.map_nil,if_true] at h1
    exact ⟨1,.full,h1,.inr rfl⟩
  obtain ⟨q,c',h1,hc⟩:=hcl
  by_cases hy:Y=[]
  .subst hy
   refine ⟨_,_,.sl q [] c',H,h1,rfl,rfl,rfl,?_,fun b _=>.refl _ _,rfl,rfl,rfl,.inl ⟨rfl,q,c',rfl⟩⟩
   rcases hc with rfl | rfl <;> simp [evalOp,evalOpd,elems]
  .have hy':Y.map sv ≠ []:=by simpa using hy
   refine ⟨_,_,.rf H.length 0 0 Y.length (.own 1),H++[.cells 0 (Y.map sv)],h1,rfl,rfl,rfl,?_,fun b _=>Low.app _ _ _,rfl,rfl,rfl,.inr ⟨H.length,0,[],rfl,by simp⟩⟩
   rcases hc with rfl | rfl <;> simp [evalOp,evalOpd,elems,hy,hm0,hfl]
 .have hx':X.map sv ≠ []:=by simpa using hx
  have h1:=cloneS_c X (.sl 1 (X.map sv) tc) (h:=H) (by simpa [isNilK] using fun e=>hx (hX e)) (by simp [elems]) (by omega)
  simp only [cpV,cpH,if_neg hx',List.length_map,hfl] at h1
  by_cases hy:Y=[]
  .subst hy
   refine ⟨_,_,.rf H.length 0 0 X.length (.own 1),H++[.cells 0 (X.map sv)],h1,rfl,rfl,rfl,?_,fun b _=>Low.app _ _ _,rfl,rfl,rfl,.inr ⟨H.length,0,[],by simp,by simp⟩⟩
   simp [evalOp,evalOpd,elems]
  .have hy':Y.map sv ≠ []:=by simpa using hy
   refine ⟨_,_,.rf H.length 1 0 (X.length+Y.length) (.own 1),(H++[AObj.cells 0 (X.map sv)]).set H.length (AObj.cells 1 (X.map sv++Y.map sv)),h1,rfl,rfl,rfl,?_,fun b hb=>(Low.app _ _ _).trans (Low.set hb),rfl,rfl,rfl,.inr ⟨H.length,1,[],by simp,by simp⟩⟩
   have ht:List.take X.length (X.map sv)=X.map sv:=List.take_of_length_le (by simp)
   simp [evalOp,evalOpd,elems,hy,hm1,hfl,ht]
structure FwS where
 i:Nat
 H:AHeap
set_option maxHeartbeats 8000000 in
theorem few_c (l:List St) (c:Cap) (so:∀ s ∈ l,s.tc=.nil -> s.text=[]) (hl:l.length <= 2 ^ 21) (hn:nF l <= 2 ^ 21) (hz:zF l <= 2 ^ 21) {h:AHeap}:AEx PP Gl 15 [.sl 4 (l.map encSt) c] h (.ret (.sc (.bool (fewF l)))) h:=by
 refine enter_15 (by simp) ?_
 simp -implicitDefEqProofs [code_15,res_15,ann_15]
 refine AWp.till (S:=FwS) ⟨0,h⟩ (fun s=>l.length - s.i) [0,9,10] (fun s=>[(3,i64 (nF (l.take s.i):Int)),(4,i64 (zF (l.take s.i):Int)),(11,i64 (s.i:Int))]) (fun s=>s.H)
  (fun s=>s.i <= l.length /\ Low h.length h s.H) mixed ⟨by simp,.refl _ _⟩ (le_of (by simp [dslot,nF,zF])) rfl ?_
 rintro ⟨i,H⟩ ⟨z1,z2⟩
 simp only at z1 z2
 by_cases hi:i < l.length
 case neg =>
  have hno:¬ (i:Int) < l.length:=by omega
  obtain rfl:i=l.length:=by omega
  rw [List.take_length]
  have e3:∀ b:Bool,b=fewF l -> AEnd.ret (.sc (.bool b))=AEnd.ret (.sc (.bool (fewF l))):=fun b e=>by rw [e]
  by_cases l1:l.length <= 60
  .have l1':(l.length:Int) <= 60:=by omega
   by_cases l2:nF l <= 300
   .have l2':(nF l:Int) <= 300:=by omega
    by_cases l3:zF l <= 3000
    .have l3':(zF l:Int) <= 3000:=by omega
     simp -implicitDefEqProofs [lp0_15,hno,l1,l1',l2,l2',l3,l3']
     exact retP (v:=.sc (.bool true)) (v':=.sc (.bool true)) (by simp [deferred,dslot]) rfl rfl rfl z2 (e3 _ (by simp [fewF,l1,l2,l3])) rfl
    .have l3':¬ (zF l:Int) <= 3000:=by omega
     have l3'':(3000:Int) < zF l:=by omega
     simp -implicitDefEqProofs [lp0_15,hno,l1,l1',l2,l2',l3,l3',l3'']
     exact retP (v:=.sc (.bool false)) (v':=.sc (.bool false)) (by simp [deferred,dslot]) rfl rfl rfl z2 (e3 _ (by simp [fewF,l1,l2,l3])) rfl
   .have l2':¬ (nF l:Int) <= 300:=by omega
    have l2'':(300:Int) < nF l:=by omega
    simp -implicitDefEqProofs [lp0_15,hno,l1,l1',l2,l2',l2'']
    exact retP (v:=.sc (.bool false)) (v':=.sc (.bool false)) (by simp [deferred,dslot]) rfl rfl rfl z2 (e3 _ (by simp [fewF,l1,l2])) rfl
  .have l1':¬ (l.length:Int) <= 60:=by omega
   have l1'':(60:Int) < l.length:=by omega
   simp -implicitDefEqProofs [lp0_15,hno,l1,l1',l1'']
   exact retP (v:=.sc (.bool false)) (v':=.sc (.bool false)) (by simp [deferred,dslot]) rfl rfl rfl z2 (e3 _ (by simp [fewF,l1])) rfl
 have hlt:(i:Int) < l.length:=by omega
 have wi:IntKind.i64.wrap ((i:Int)+1)=(i:Int)+1:=IntWalk.i64_in _ (by omega)
 obtain ⟨s,hs⟩:∃ s,s=l[i]:=⟨_,rfl⟩
 have hs2:l[i]?=some s:=by rw [hs]; simp [hi]
 have hmem:=List.mem_of_getElem? hs2
 have a1:=nF_step l i s hs2
 have a2:=zF_step l i s hs2
 have b1:=nF_le l (i+1)
 have b2:=zF_le l (i+1)
 obtain ⟨N,hN⟩:∃ N,N=nF (l.take i):=⟨_,rfl⟩
 obtain ⟨Z,hZ⟩:∃ Z,Z=zF (l.take i):=⟨_,rfl⟩
 rw [<- hN] at a1
 rw [<- hZ] at a2
 rw [<- hN,<- hZ]
 have w1:IntKind.i64.wrap ((s.text.length:Int)+s.proof.length)=(s.text.length:Int)+s.proof.length:=IntWalk.i64_in _ (by omega)
 have w2:IntKind.i64.wrap ((N:Int)+((s.text.length:Int)+s.proof.length))=(N:Int)+((s.text.length:Int)+s.proof.length):=IntWalk.i64_in _ (by omega)
 have w3:IntKind.i64.wrap ((Z:Int)+(s.label.size:Int))=(Z:Int)+(s.label.size:Int):=IntWalk.i64_in _ (by omega)
 obtain ⟨V1,H1,V2,H2,c1,p1,p2,p3,e1,low,q1,q2,q3,hV2⟩:=clone_app s.text s.proof s.tc s.pc (so s hmem) (by omega) (by omega) H
 have lowH:Low h.length h H2:=z2.trans (low _ z2.len)
 obtain ⟨E,hE⟩:∃ E,E=s.text++s.proof:=⟨_,rfl⟩
 rw [<- hE] at hV2 a2
 simp at e1
 simp -implicitDefEqProofs [lp0_15,hlt,hi,<- hs,encSt,w1,w2,w3]
 refine callk c1 rfl rfl ?_
 simp -implicitDefEqProofs [p1,p2,p3,e1,q1,q2,q3]
 have hEl:E.length=s.text.length+s.proof.length:=by rw [hE,List.length_append]
 have f1:(nF (l.take (i+1)):Int)=(N:Int)+((s.text.length:Int)+s.proof.length):=by omega
 have f2:(zF (l.take (i+1)):Int)=(Z:Int)+(s.label.size:Int)+(wsum E:Int):=by omega
 have ws:∀ k,wsum (E.take k) <= wsum E:=wsum_le E
 rcases hV2 with ⟨e0,q,c2,rfl⟩ | ⟨a,g,z,rfl,ha⟩
 .simp -implicitDefEqProofs
  refine AWp.cnt E.length [0,3,9,10,11,34,35] (fun k=>[(4,i64 ((Z+s.label.size+wsum (E.take k):Nat):Int)),(36,i64 (k:Int))]) (fun _=>H2) (fun _=>True) mixed trivial (le_of (by simp [dslot,wsum])) rfl ?_ ?_
  .intro k hk _
   rw [e0] at hk; simp at hk
  .intro _
   simp -implicitDefEqProofs [lp1_15,e0,wi]
   exact ⟨⟨i+1,H2⟩,by simp; omega,⟨by simp; omega,lowH⟩,le_of (by simp [dslot,f1,f2,e0,wsum]),rfl⟩
 .simp -implicitDefEqProofs
  refine AWp.cnt E.length [0,3,9,10,11,34,35] (fun k=>[(4,i64 ((Z+s.label.size+wsum (E.take k):Nat):Int)),(36,i64 (k:Int))]) (fun _=>H2) (fun _=>True) mixed trivial (le_of (by simp [dslot,wsum])) rfl ?_ ?_
  .intro k hk _
   obtain ⟨w,hw⟩:∃ w,E[k]?=some w:=⟨E[k],by simp [hk]⟩
   have hlt2:(k:Int) < E.length:=by omega
   have wk:IntKind.i64.wrap ((k:Int)+1)=(k:Int)+1:=IntWalk.i64_in _ (by omega)
   have u1:=wsum_step E k w hw
   have u2:=ws (k+1)
   have w4:IntKind.i64.wrap (((Z:Int)+(s.label.size:Int)+(wsum (E.take k):Int))+(w.size:Int))=(Z:Int)+(s.label.size:Int)+(wsum (E.take k):Int)+(w.size:Int):=IntWalk.i64_in _ (by omega)
   have hc:(E.map sv++z)[k]?=some (sv w):=by rw [List.getElem?_append_left (by simp; exact hk),List.getElem?_map,hw]; rfl
   simp -implicitDefEqProofs [lp1_15,hlt2,hk,wk,ha,hc,w4]
   have u3:(wsum (E.take (k+1)):Int)=(wsum (E.take k):Int)+w.size:=by omega
   exact le_of (by simp [dslot,u3,Int.add_assoc])
  .intro _
   rw [List.take_length]
   simp -implicitDefEqProofs [lp1_15,wi]
   exact ⟨⟨i+1,H2⟩,by simp; omega,⟨by simp; omega,lowH⟩,le_of (by simp [dslot,f1,f2]),rfl⟩
end Go.Apx
end
