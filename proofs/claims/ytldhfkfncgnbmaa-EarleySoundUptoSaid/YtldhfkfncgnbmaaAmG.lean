/- ABSTRACT MACHINE, part 34: a drawn region by all its orders. -/
import Derived.Test.YtldhfkfncgnbmaaAmD
set_option linter.unusedVariables false
set_option linter.unusedSimpArgs false
set_option linter.unnecessarySimpa false
namespace Go.Apx
def DA (C:Cx) (Q:APost):Nat -> List (Bool × AItem) -> Env -> AHeap -> Prop
 | 0,_,env,h=>upEq Q .normal env h
 | n+1,pl,env,h=>∀ (l:List (Bool × AItem)) (b:Bool) (y:AItem) (r:List (Bool × AItem)),pl=l++(b,y) :: r -> (∀ p ∈ l,p.1=true /\ p.2.apart y=true) -> itemWp C y env h (fun e h=>DA C Q n (l++r) e h) (upEq Q)
def DAI (C:Cx) (Q:APost) (x:AItem) (J:AHeap -> Prop):Nat -> List (Bool × AItem) -> Env -> AHeap -> Prop
 | 0,_,env,h=>upEq Q .normal env h
 | n+1,pl,env,h=>∀ (l:List (Bool × AItem)) (b:Bool) (y:AItem) (r:List (Bool × AItem)),pl=l++(b,y) :: r -> (∀ p ∈ l,p.1=true /\ p.2.apart y=true) ->
   itemWp C y env h (fun e h=>if x.apart y=true then J h /\ DAI C Q x J n (l++r) e h else DA C Q n (l++r) e h) (upEq Q)
section
variable {C:Cx} {Q:APost} {x:AItem} {J:AHeap -> Prop}
theorem DA.eq:∀ {n:Nat} {pl:List (Bool × AItem)} {env env':Env} {h:AHeap},EnvEq env env' -> DA C Q n pl env h -> DA C Q n pl env' h
 | 0,_,_,_,_,he,⟨env0,h1,h2⟩=>⟨env0,h1.trans he,h2⟩
 | n+1,pl,env,env',h,he,hw=>fun l b y r e hl=>by
  refine itemWp_mono ?_ (fun v e h he=>he) (itemWp_agree (env:=env') (env':=env) (fun t _=>(he t).symm) (fun v h hv=>hv) (hw l b y r e hl))
  rintro e h1 ⟨d,v,rfl,_,hK⟩
  exact DA.eq (he.put d v) hK
theorem DAI.eq:∀ {n:Nat} {pl:List (Bool × AItem)} {env env':Env} {h:AHeap},EnvEq env env' -> DAI C Q x J n pl env h -> DAI C Q x J n pl env' h
 | 0,_,_,_,_,he,⟨env0,h1,h2⟩=>⟨env0,h1.trans he,h2⟩
 | n+1,pl,env,env',h,he,hw=>fun l b y r e hl=>by
  refine itemWp_mono ?_ (fun v e h he=>he) (itemWp_agree (env:=env') (env':=env) (fun t _=>(he t).symm) (fun v h hv=>hv) (hw l b y r e hl))
  rintro e h1 ⟨d,v,rfl,_,hK⟩
  by_cases ha:x.apart y=true
  .rw [if_pos ha] at hK ⊢
   exact ⟨hK.1,DAI.eq (he.put d v) hK.2⟩
  .rw [if_neg ha] at hK ⊢
   exact DA.eq (he.put d v) hK
theorem DAI.da:∀ {n:Nat} {pl:List (Bool × AItem)} {env:Env} {h:AHeap},DAI C Q x J n pl env h -> DA C Q n pl env h
 | 0,_,_,_,hw=>hw
 | n+1,pl,env,h,hw=>fun l b y r e hl=>by
  refine itemWp_mono (fun e h1 hK=>?_) (fun v e h he=>he) (hw l b y r e hl)
  by_cases ha:x.apart y=true
  .rw [if_pos ha] at hK; exact hK.2.da
  .rw [if_neg ha] at hK; exact hK
theorem agree_put {x y:AItem} {env:Env} {d:Option Nat} {v:AV} (ha:x.apart y=true) (hd:∀ t,d=some t -> t ∈ x.writes):Agree y.reads env (putD env d v):=fun t ht=>by
 rw [putD_get,if_neg]
 intro e
 exact ((AItem.apart_spec ha).1 t (hd t e)).1 ht
theorem agree_put' {x y:AItem} {env:Env} {d:Option Nat} {v:AV} (ha:x.apart y=true) (hd:∀ t,d=some t -> t ∈ y.writes):Agree x.reads env (putD env d v):=fun t ht=>by
 rw [putD_get,if_neg]
 intro e
 exact (AItem.apart_spec ha).2 t (hd t e) ht
theorem apart_put {x y:AItem} {env:Env} {d d':Option Nat} {v v':AV} (ha:x.apart y=true) (hd:∀ t,d=some t -> t ∈ x.writes) (hd':∀ t,d'=some t -> t ∈ y.writes):EnvEq (putD (putD env d v) d' v') (putD (putD env d' v') d v) :=
 EnvEq.comm fun t e e'=>((AItem.apart_spec ha).1 t (hd t e)).2 (hd' t e')
theorem DA.quiet {z:AItem} {b:Bool} {d:Option Nat} {v:AV}:∀ {n:Nat} {r:List (Bool × AItem)} {env:Env} {h:AHeap},r.length=n -> quietItem C z env=some (d,v) -> DA C Q n r (putD env d v) h -> DA C Q (n+1) ((b,z) :: r) env h:=by
 intro n
 induction n with
 | zero =>
  intro r env h hr hq hD l b' y r' he hl
  obtain rfl:=List.eq_nil_of_length_eq_zero hr
  cases l with
  | nil=>simp only [List.nil_append,List.cons.injEq,Prod.mk.injEq] at he; obtain ⟨⟨rfl,rfl⟩,rfl⟩:=he; exact quietItem_wp hq hD
  | cons p l=>simp at he
 | succ m ih =>
  intro r env h hr hq hD l b' y r' he hl
  cases l with
  | nil=>simp only [List.nil_append,List.cons.injEq,Prod.mk.injEq] at he; obtain ⟨⟨rfl,rfl⟩,rfl⟩:=he; exact quietItem_wp hq hD
  | cons p l =>
   simp only [List.cons_append,List.cons.injEq] at he
   obtain ⟨rfl,rfl⟩:=he
   have hap:=(hl _ List.mem_cons_self).2
   have hw:=quietItem_writes hq
   refine itemWp_mono ?_ (fun v e h he=>he) (itemWp_agree (agree_put hap hw) (fun v h hv=>hv) (hD l b' y r' rfl fun p hp=>hl p (List.mem_cons_of_mem _ hp)))
   rintro e h1 ⟨d',v',rfl,hd',hK⟩
   exact ih (by simp at hr ⊢; omega) (by rw [<- hq]; exact (quietItem_congr (agree_put' hap hd')).symm) (DA.eq (apart_put hap hw hd') hK)
theorem DAI.quiet {z:AItem} {b:Bool} {d:Option Nat} {v:AV}:∀ {n:Nat} {r:List (Bool × AItem)} {env:Env} {h:AHeap},r.length=n -> quietItem C z env=some (d,v) -> J h -> DAI C Q x J n r (putD env d v) h -> DAI C Q x J (n+1) ((b,z) :: r) env h:=by
 intro n
 induction n with
 | zero =>
  intro r env h hr hq hJ hD l b' y r' he hl
  obtain rfl:=List.eq_nil_of_length_eq_zero hr
  cases l with
  | nil =>
   simp only [List.nil_append,List.cons.injEq,Prod.mk.injEq] at he; obtain ⟨⟨rfl,rfl⟩,rfl⟩:=he
   refine quietItem_wp hq ?_
   by_cases ha:x.apart z=true
   .rw [if_pos ha]; exact ⟨hJ,hD⟩
   .rw [if_neg ha]; exact hD.da
  | cons p l=>simp at he
 | succ m ih =>
  intro r env h hr hq hJ hD l b' y r' he hl
  cases l with
  | nil =>
   simp only [List.nil_append,List.cons.injEq,Prod.mk.injEq] at he; obtain ⟨⟨rfl,rfl⟩,rfl⟩:=he
   refine quietItem_wp hq ?_
   by_cases ha:x.apart z=true
   .rw [if_pos ha]; exact ⟨hJ,hD⟩
   .rw [if_neg ha]; exact hD.da
  | cons p l =>
   simp only [List.cons_append,List.cons.injEq] at he
   obtain ⟨rfl,rfl⟩:=he
   have hap:=(hl _ List.mem_cons_self).2
   have hw:=quietItem_writes hq
   refine itemWp_mono ?_ (fun v e h he=>he) (itemWp_agree (agree_put hap hw) (fun v h hv=>hv) (hD l b' y r' rfl fun p hp=>hl p (List.mem_cons_of_mem _ hp)))
   rintro e h1 ⟨d',v',rfl,hd',hK⟩
   have hq':quietItem C z (putD env d' v')=some (d,v):=by rw [<- hq]; exact (quietItem_congr (agree_put' hap hd')).symm
   by_cases ha:x.apart y=true
   .rw [if_pos ha] at hK ⊢
    exact ⟨hK.1,ih (by simp at hr ⊢; omega) hq' hK.1 (DAI.eq (apart_put hap hw hd') hK.2)⟩
   .rw [if_neg ha] at hK ⊢
    exact DA.quiet (by simp at hr ⊢; omega) hq' (DA.eq (apart_put hap hw hd') hK)
theorem DAI.loud {y:AItem} {n:Nat} {r:List (Bool × AItem)} {env:Env} {h:AHeap} (hw:itemWp C y env h (fun e h=>if x.apart y=true then J h /\ DAI C Q x J n r e h else DA C Q n r e h) (upEq Q)):DAI C Q x J (n+1) ((false,y) :: r) env h:=fun l b' y' r' he hl=>by
 cases l with
 | nil=>simp only [List.nil_append,List.cons.injEq,Prod.mk.injEq] at he; obtain ⟨⟨rfl,rfl⟩,rfl⟩:=he; exact hw
 | cons p l =>
  simp only [List.cons_append,List.cons.injEq] at he
  obtain ⟨rfl,rfl⟩:=he
  have:=(hl _ List.mem_cons_self).1; cases this
theorem DAI.loudA {y:AItem} {n:Nat} {r:List (Bool × AItem)} {env:Env} {h:AHeap} (ha:x.apart y=true) (hw:itemWp C y env h (fun e h=>J h /\ DAI C Q x J n r e h) (upEq Q)):DAI C Q x J (n+1) ((false,y) :: r) env h :=
 DAI.loud (itemWp_mono (fun e h hk=>by rw [if_pos ha]; exact hk) (fun v e h he=>he) hw)
theorem DAI.loudN {y:AItem} {n:Nat} {r:List (Bool × AItem)} {env:Env} {h:AHeap} (ha:x.apart y=false) (hw:itemWp C y env h (fun e h=>DA C Q n r e h) (upEq Q)):DAI C Q x J (n+1) ((false,y) :: r) env h :=
 DAI.loud (itemWp_mono (fun e h hk=>by rw [if_neg (by rw [ha]; simp)]; exact hk) (fun v e h he=>he) hw)
theorem DA.still {env0:Env} {b:Bool} {v:AV} (hs:x.op.still=true) (hg:guardOf env0 x.guard=some true):∀ {n:Nat} {r:List (Bool × AItem)} {env:Env} {h:AHeap},r.length=n -> Agree x.reads env0 env -> evalOp C.G env0 h x.op=some (v,h) ->
  DAI C Q x (fun h'=>evalOp C.G env0 h' x.op=some (v,h')) n r (putD env x.dst v) h -> DA C Q (n+1) ((b,x) :: r) env h:=by
 have hxw:∀ t,x.dst=some t -> t ∈ x.writes:=fun t h=>by simp [AItem.writes,h]
 intro n
 induction n with
 | zero =>
  intro r env h hr hag he0 hD l b' y r' he hl
  obtain rfl:=List.eq_nil_of_length_eq_zero hr
  cases l with
  | nil =>
   simp only [List.nil_append,List.cons.injEq,Prod.mk.injEq] at he; obtain ⟨⟨rfl,rfl⟩,rfl⟩:=he
   exact stillItem_wp hs (by rw [<- hag.guard]; exact hg) (by rw [<- evalOp_congr hag.opds]; exact he0) hD.da
  | cons p l=>simp at he
 | succ m ih =>
  intro r env h hr hag he0 hD l b' y r' he hl
  cases l with
  | nil =>
   simp only [List.nil_append,List.cons.injEq,Prod.mk.injEq] at he; obtain ⟨⟨rfl,rfl⟩,rfl⟩:=he
   exact stillItem_wp hs (by rw [<- hag.guard]; exact hg) (by rw [<- evalOp_congr hag.opds]; exact he0) hD.da
  | cons p l =>
   simp only [List.cons_append,List.cons.injEq] at he
   obtain ⟨rfl,rfl⟩:=he
   have hap:=(hl _ List.mem_cons_self).2
   refine itemWp_mono ?_ (fun v e h he=>he) (itemWp_agree (agree_put hap hxw) (fun v h hv=>hv) (hD l b' y r' rfl fun p hp=>hl p (List.mem_cons_of_mem _ hp)))
   rintro e h1 ⟨d',v',rfl,hd',hK⟩
   rw [if_pos hap] at hK
   exact ih (by simp at hr ⊢; omega) (fun t ht=>(hag t ht).trans (agree_put' hap hd' t ht)) hK.1 (DAI.eq (apart_put hap hxw hd') hK.2)
theorem DA.one {y:AItem} {b:Bool} {env:Env} {h:AHeap} (hw:itemWp C y env h (fun e h=>Q .normal e h) (upEq Q)):DA C Q 1 [(b,y)] env h:=fun l b' y' r' he hl=>by
 cases l with
 | nil =>
  simp only [List.nil_append,List.cons.injEq,Prod.mk.injEq] at he; obtain ⟨⟨rfl,rfl⟩,rfl⟩:=he
  exact itemWp_mono (fun e h hq=>⟨e,.refl e,hq⟩) (fun v e h he=>he) hw
 | cons p l=>simp at he
theorem DA.two {s y:AItem} {a b:Bool} {env:Env} {h:AHeap} (h1:itemWp C s env h (fun e h=>DA C Q 1 [(b,y)] e h) (upEq Q)) (h2:itemWp C y env h (fun e h=>DA C Q 1 [(a,s)] e h) (upEq Q)):DA C Q 2 [(a,s),(b,y)] env h:=fun l b' y' r' he hl=>by
 cases l with
 | nil=>simp only [List.nil_append,List.cons.injEq,Prod.mk.injEq] at he; obtain ⟨⟨rfl,rfl⟩,rfl⟩:=he; exact h1
 | cons p l =>
  simp only [List.cons_append,List.cons.injEq] at he
  obtain ⟨rfl,he⟩:=he
  cases l with
  | nil=>simp only [List.nil_append,List.cons.injEq,Prod.mk.injEq] at he; obtain ⟨⟨rfl,rfl⟩,rfl⟩:=he; exact h2
  | cons p l=>simp at he
end
section
variable {C:Cx} {rc:Option Nat} {I0:Imm} {m0:Locs} {w0:World} {ops:Array Oper} {l:List AItem} {an:List (List Nat)} {Q:APost}
theorem anyA_sound (hl:mapM' (compItem C.P C.ann C.N ops) ops.toList=some l) (han:ancOk l an=true):∀ (n:Nat) (R:List (Bool × Nat)) (pl:List (Bool × AItem)),R.length=n -> look l R=some pl -> Good l an R ->
  ∀ (listed:Array Bool),listed.size=ops.size -> (∀ i,i < ops.size -> (listed[i]?=some true ↔ i ∉ R.map (·.2))) -> (∀ i,i < ops.size -> i ∉ R.map (·.2) -> ∀ x ∈ anc an i,x ∉ R.map (·.2)) ->
  ∀ (env:Env) (h:AHeap) (I:Imm) (m:Locs) (a:Act) (w:World),DA C Q n pl env h -> Rel C.G C.N (C.ro,rc) w0.heap.size I m env h a w -> Trans C.k I0 m0 w0 I m w -> C.k <= m.length ->
  wpAnyIn (fen rc) 0 C.P .any ops (CPost C rc I0 m0 w0 (upEq Q)) n listed a w:=by
 obtain ⟨hlen,hcomp⟩:=mapM'_some hl
 have hlen':ops.size=l.length:=by simpa using hlen
 have hitem:∀ i it,l[i]?=some it -> ∃ o,ops[i]?=some o /\ compItem C.P C.ann C.N ops o=some it:=fun i it hi=>by
  obtain ⟨o,ho⟩:=get_of_lt hlen hi
  exact ⟨o,by rw [<- Array.getElem?_toList]; exact ho,hcomp i o it ho hi⟩
 have hready:∀ (R:List (Bool × Nat)) (listed:Array Bool),listed.size=ops.size -> (∀ i,i < ops.size -> (listed[i]?=some true ↔ i ∉ R.map (·.2))) ->
   ∀ i,i ∈ Region.ready .any ops listed ↔ i < ops.size /\ i ∈ R.map (·.2) /\ ∃ it,l[i]?=some it /\ ∀ x ∈ it.after,x < ops.size /\ x ∉ R.map (·.2):=ready_iff hl
 intro n
 induction n with
 | zero =>
  intro R pl hRl hpl hgood listed hsz hls hcl env h I m a w hw hr ht hk
  have:R=[]:=List.eq_nil_of_length_eq_zero hRl
  subst this
  simp [look,mapM'] at hpl; subst hpl
  refine ⟨?_,.normal,env,h,I,m,hw,trivial,hr,ht,hk⟩
  apply List.eq_nil_iff_forall_not_mem.2
  intro i hi
  have:=((hready [] listed hsz hls i).1 hi).2.1
  simp at this
 | succ n ih =>
  intro R pl hRl hpl hgood listed hsz hls hcl env h I m a w hw hr ht hk
  refine ⟨fun hemp=>?_,fun i hi=>?_⟩
  .exfalso
   cases R with
   | nil=>simp at hRl
   | cons q R =>
    obtain ⟨b,i⟩:=q
    obtain ⟨⟨it,h1,h2,h3⟩,h4⟩:=hgood
    have:i ∈ Region.ready .any ops listed:=(hready _ listed hsz hls i).2 ⟨by rw [hlen']; exact (List.getElem?_eq_some_iff.1 h1).1,by simp,it,h1,fun x hx=>by
     obtain ⟨g1,g2,g3⟩:=h2 x hx
     exact ⟨by omega,by simp only [List.map_cons,List.mem_cons,not_or]; exact ⟨g2,g3⟩⟩⟩
    rw [hemp] at this
    cases this
  .obtain ⟨hi1,hi2,it,hit,haft⟩:=(hready R listed hsz hls i).1 hi
   obtain ⟨o,ho,hc⟩:=hitem i it hit
   rw [List.mem_map] at hi2
   obtain ⟨⟨b,i'⟩,hmem,e⟩:=hi2
   simp only at e; subst e
   obtain ⟨L1,L2,rfl⟩:=List.append_of_mem hmem
   have hnot:=hgood.nodup
   have hanc:∀ x ∈ anc an i',x ∉ (L1++(b,i') :: L2).map (·.2):=by
    intro x hx
    obtain ⟨it',hit',j,hj,hjx⟩:=anc_spec han (by omega) hx
    rw [hit] at hit'; cases hit'
    obtain ⟨g1,g2⟩:=haft j hj
    rcases hjx with rfl | hjx
    .exact g2
    .exact hcl j g1 g2 x hjx
   obtain ⟨p1,p2,hp1,hp2,rfl⟩:=mapM'_app hpl
   simp only [mapM',hit,Option.map_some] at hp2
   split at hp2
   .rename_i y p3 hy hp3
    simp only [Option.some.injEq] at hy hp2
    subst hy hp2
    have hov:∀ p ∈ p1,p.1=true /\ p.2.apart it=true:=by
     intro p hp
     obtain ⟨q,hq,hq1,hq2⟩:=look_mem (l:=l) hp1 p hp
     rcases hgood.front q hq with hin | ⟨h1,xt,jt,h2,h3,h4⟩
     .exact (hanc _ hin (by simp only [List.map_append,List.mem_append]; exact .inl (List.mem_map_of_mem hq))).elim
     .rw [hq2] at h2; cases h2
      rw [hit] at h3; cases h3
      exact ⟨hq1 ▸ h1,h4⟩
    have hw':=hw p1 b it p3 rfl hov
    have hlook:look l (L1++L2)=some (p1++p3):=mapM'_app_of hp1 hp3
    have hrest:Goes C rc I0 m0 w0 (fun env h=>DA C Q n (p1++p3) env h) (wpAnyIn (fen rc) 0 C.P .any ops (CPost C rc I0 m0 w0 (upEq Q)) n (listed.setIfInBounds i' true)):=by
     intro env' h' I' m' a' w' hK hr' ht' hk'
     refine ih (L1++L2) (p1++p3) (by simp at hRl ⊢; omega) hlook hgood.drop _ (by simpa using hsz) ?_ ?_ env' h' I' m' a' w' hK hr' ht' hk'
     .intro j hj
      by_cases hji:i'=j
      .subst hji
       rw [Array.getElem?_setIfInBounds_self_of_lt (by omega)]
       simp only [true_iff]
       exact hnot
      .rw [Array.getElem?_setIfInBounds_ne hji,hls j hj]
       simp only [List.map_append,List.map_cons,List.mem_append,List.mem_cons,not_or]
       exact ⟨fun ⟨x1,_,x3⟩=>⟨x1,x3⟩,fun ⟨x1,x3⟩=>⟨x1,Ne.symm hji,x3⟩⟩
     .intro j hj hjn x hx hxm
      have hxm':x ∈ (L1++(b,i') :: L2).map (·.2):=by
       simp only [List.map_append,List.map_cons,List.mem_append,List.mem_cons] at hxm ⊢
       exact hxm.elim .inl (fun h=>.inr (.inr h))
      by_cases hji:j=i'
      .subst hji; exact hanc x hx hxm'
      .refine hcl j hj ?_ x hx hxm'
       simp only [List.map_append,List.map_cons,List.mem_append,List.mem_cons,not_or] at hjn ⊢
       exact ⟨hjn.1,hji,hjn.2⟩
    exact itemWp_sound ho hc hr ht hk hw' hrest
   .cases hp2
end
theorem AWp.dregA {C:Cx} {pl:List (Bool × AItem)} {Q:APost} {env:Env} {h:AHeap} (hm:C.P.follows .mixedOrders=true) (hw:DA C Q pl.length pl env h):AWp C (.dreg pl) Q env h:=by
 intro c hc rc I0 m0 w0 I m a w ht hk hr
 cases c with
 | region id ops draw =>
  obtain ⟨l,hl,he⟩:=region_comp hc
  cases draw with
  | false=>cases he
  | true =>
   obtain ⟨pl',hpl,e⟩:=he
   cases e
   unfold planOf at hpl
   simp only at hpl
   split at hpl
   .rename_i hc'
    obtain ⟨h1,h2,h3,h4⟩:=hc'
    have hall:∀ i,i < l.length -> i ∈ planIdx l:=by simpa using h4
    have hgood:=good_of_plan (planIdx l) [] h3 (fun x hx=>by cases hx)
    have hmarks:(planMarks l (ancs l []) (planIdx l)).map (·.2)=planIdx l:=by
     generalize planIdx l=r
     induction r with
     | nil=>rfl
     | cons x r ih=>simp [planMarks,ih]
    have hsize:ops.size=l.length:=by simpa using (mapM'_some hl).1
    have hlen:(planMarks l (ancs l []) (planIdx l)).length=ops.size:=by
     have:=congrArg List.length hmarks
     rw [List.length_map] at this
     omega
    refine wpIn_mono (wpIn_region_any hm ?_) fun e a w=>upEq_post
    have hi:Inv C.G I m h { w with drawn:=w.drawn+1 }:={ len:=hr.inv.len,obj:=hr.inv.obj,imm:=hr.inv.imm,disj:=hr.inv.disj,immd:=hr.inv.immd,lt:=hr.inv.lt,glob:=hr.inv.glob }
    have ht':Trans C.k I0 m0 w0 I m { w with drawn:=w.drawn+1 }:={ os:=ht.os,tape:=ht.tape,output:=ht.output,size:=ht.size,cell:=ht.cell,froz:=ht.froz,blk:=ht.blk,imm:=ht.imm,own:=ht.own,immNew:=ht.immNew,loc:=ht.loc }
    have hr':Rel C.G C.N (C.ro,rc) w0.heap.size I m env h a { w with drawn:=w.drawn+1 }:=⟨hi,⟨hr.env.get,hr.env.apart⟩,hr.size,hr.defers,hr.ro⟩
    have hpll:pl.length=ops.size:=by rw [<- hlen]; exact (mapM'_some hpl).1.symm
    rw [hpll] at hw
    refine anyA_sound (an:=ancs l []) hl h2 ops.size _ pl hlen hpl hgood _ (by simp) ?_ ?_ env h I m a _ hw hr' ht' hk
    .intro i hi
     rw [hmarks]
     simp [hi,hall i (by omega)]
    .intro i hi hn
     rw [hmarks] at hn
     exact (hn (hall i (by omega))).elim
   .cases hpl
 | _=>simp only [compCode] at hc <;> first | (simp at hc; done) | ((repeat' split at hc) <;> simp at hc; done)
end Go.Apx
