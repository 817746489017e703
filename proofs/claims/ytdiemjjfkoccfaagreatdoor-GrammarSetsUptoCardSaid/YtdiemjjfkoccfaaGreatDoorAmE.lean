/- ABSTRACT MACHINE, part 19: operations whose order is drawn. -/
import Derived.Test.YtdiemjjfkoccfaaGreatDoorAmB
import Derived.Test.YtdiemjjfkoccfaaGreatDoorAmH
import Derived.RangeFuncOwn
import Derived.RangeFuncNested
import Derived.RecoverIn
set_option linter.unusedVariables false
set_option linter.unusedSimpArgs false
set_option linter.unnecessarySimpa false
section
namespace Go.Apx
theorem mapM'_congr {α β:Type} {f g:α -> Option β}:∀ (l:List α),(∀ x ∈ l,f x=g x) -> mapM' f l=mapM' g l
 | [],_=>rfl
 | x :: r,h=>by simp only [mapM',h x (by simp),mapM'_congr r fun y hy=>h y (by simp [hy])]
theorem opd_congr {G:Globs} {env env':Env} {x:Opd} (h:∀ t ∈ x.slots,env.get t=env'.get t):aD G env x=aD G env' x:=by
 cases x with
 | t n=>simp only [aD,h n (by simp [Opd.slots])]
 | _=>rfl
theorem bm {G:Globs} {env env':Env} {hp:AHeap} {op:AOp} (h:∀ x ∈ op.opds,aD G env x=aD G env' x):aA G env hp op=aA G env' hp op:=by
 have one:∀ x,aD G env x=aD G env' x -> oneOpd G env x=oneOpd G env' x:=fun x hx=>by simp only [oneOpd,hx]
 cases op with
 | build z ps =>
  simp only [AOp.opds] at h
  simp only [aA]
  rw [mapM'_congr ps (g:=fun p=>(oneOpd G env' p.2.2).map fun v=>(p.1,p.2.1,v)) fun p hp=>by rw [one _ (h _ (List.mem_map_of_mem hp))]]
 | bslice k n z ps =>
  simp only [AOp.opds] at h
  simp only [aA]
  rw [mapM'_congr ps (g:=fun p=>(oneOpd G env' p.2).map fun v=>(p.1,v)) fun p hp=>by rw [one _ (h _ (List.mem_map_of_mem hp))]]
 | mslice k n z ps =>
  simp only [AOp.opds] at h
  simp only [aA]
  rw [mapM'_congr ps (g:=fun p=>(oneOpd G env' p.2).map fun v=>(p.1,v)) fun p hp=>by rw [one _ (h _ (List.mem_map_of_mem hp))]]
 | mkFunc f a b =>
  simp only [AOp.opds,List.mem_append] at h
  simp only [aA]
  rw [mapM'_congr a fun x hx=>h x (.inl hx),mapM'_congr b fun x hx=>h x (.inr hx)]
 | slice k x lo hi mx =>
  simp only [AOp.opds,List.mem_cons,List.mem_append] at h
  have h0:=h x (.inl rfl)
  have h1:lo.map (aD G env)=lo.map (aD G env'):=by cases lo with | none=>rfl | some y=>simp [h y (by simp)]
  have h2:hi.map (aD G env)=hi.map (aD G env'):=by cases hi with | none=>rfl | some y=>simp [h y (by simp)]
  have h3:mx.map (aD G env)=mx.map (aD G env'):=by cases mx with | none=>rfl | some y=>simp [h y (by simp)]
  simp only [aA,h0,h1,h2,h3]
 | pick c a b =>
  simp only [AOp.opds,List.mem_cons,List.not_mem_nil,or_false,forall_eq_or_imp,forall_eq] at h
  obtain ⟨h1,h2,h3⟩:=h
  simp only [aA,h1]
  split
  .rename_i t _
   cases t <;> simp [h2,h3]
  .rfl
 | _ =>
  simp only [AOp.opds,List.mem_cons,List.not_mem_nil,or_false,forall_eq_or_imp,forall_eq,false_implies,implies_true] at h
  first
   | (obtain ⟨h1,h2,h3⟩:=h; simp only [aA,h1,h2,h3]; done)
   | (obtain ⟨h1,h2⟩:=h; simp only [aA,h1,h2]; done)
   | (simp only [aA,h]; done)
   | (simp only [aA]; done)
theorem evalOp_quiet {G:Globs} {env:Env} {op:AOp} {v:AV} (hl:op.loud=false) (he:aA G env [] op=some (v,[])) (h:AHeap):aA G env h op=some (v,h):=by
 cases op
 case lookup ks z ok m k =>
  simp only [aA] at he ⊢
  split at he
  .rename_i m' k' h1 h2
   split at he
   .rename_i h3
    rw [if_pos h3]
    cases m' with
    | sc x =>
     cases x with
     | map r=>cases r with
      | none=>simpa [amapFind] using he
      | some r=>simp at he
     | _=>simp at he
    | mp o=>simp at he
    | _=>simp at he
   .cases he
  .cases he
 case mx b x y =>
  simp only [aA] at he ⊢
  split at he
  .rename_i h1 h2
   split at he
   .rename_i h3; rw [if_pos h3]; simpa using he
   .cases he
  .cases he
 case slice k x lo hi mx =>
  simp only [aA] at he ⊢
  generalize lo.map (aD G env)=lo' at he ⊢
  generalize hi.map (aD G env)=hi' at he ⊢
  generalize mx.map (aD G env)=mx' at he ⊢
  generalize aD G env x=x' at he ⊢
  have fin:∀ (a b:Option (AV × AHeap)),True:=fun _ _=>trivial
  split at he
  .split at he
   .rename_i h1 h2
    split at he
    .rename_i h3; simp only [h1,h2,if_pos h3]; simpa using he
    .cases he
   .cases he
  .split at he
   .rename_i h0
    rw [if_pos h0]
    split at he
    .rename_i h1 h2
     split at he
     .rename_i h3
      rw [if_pos h3]
      split at he
      .simpa using he
      .split at he
       .rename_i h4
        split at he
        .rename_i h5; rw [if_pos h5]; simpa using he
        .rename_i h5
         rw [if_neg h5]
         split at he
         .rename_i h6; rw [if_pos h6]; simpa using he
         .cases he
       .cases he
     .cases he
    .cases he
   .cases he
  .split at he
   .rename_i h1 h2
    split at he
    .rename_i h3; rw [if_pos h3]; simpa using he
    .cases he
   .split at he
    .split at he
     .rename_i h3; rw [if_pos h3]; simpa using he
     .cases he
    .cases he
   .cases he
  .split at he
   .rename_i h1 h2
    split at he
    .rename_i h3; rw [if_pos h3]; simpa using he
    .cases he
   .cases he
  .cases he
 all_goals simp only [AOp.loud,reduceCtorEq] at hl
 all_goals simp only [aA] at he ⊢
 all_goals first
  | (simp at he; done)
  | ((repeat' split at he) <;> simp_all; done)
  | skip
def EnvEq (env env':Env):Prop:=∀ t,env.get t=env'.get t
theorem EnvEq.refl (env:Env):EnvEq env env:=fun _=>rfl
theorem EnvEq.trans {a b c:Env} (h:EnvEq a b) (h':EnvEq b c):EnvEq a c:=fun t=>(h t).trans (h' t)
theorem putD_get {env:Env} {d:Option Nat} {v:AV} {t:Nat}:(aY env d v).get t=if d=some t then some v else env.get t:=by
 cases d with
 | none=>simp [aY]
 | some e =>
  simp only [aY,Env.get_put,Option.some.injEq]
  by_cases h:t=e
  .subst h; simp
  .rw [if_neg h,if_neg (fun e=>h e.symm)]
theorem EnvEq.put {env env':Env} (h:EnvEq env env') (d:Option Nat) (v:AV):EnvEq (aY env d v) (aY env' d v):=fun t=>by
 rw [putD_get,putD_get,h t]
theorem EnvEq.comm {env:Env} {d e:Option Nat} {v u:AV} (h:∀ t,d=some t -> e ≠ some t):EnvEq (aY (aY env d v) e u) (aY (aY env e u) d v):=fun t=>by
 simp only [putD_get]
 by_cases h1:d=some t
 .rw [if_pos h1,if_neg (h t h1)]
  rw [if_pos h1]
 .rw [if_neg h1]
  by_cases h2:e=some t
  .simp [h2,h1]
  .simp [h2,h1]
def Agree (l:List Nat) (env env':Env):Prop:=∀ t ∈ l,env.get t=env'.get t
theorem Agree.opds {it:AItem} {env env':Env} {G:Globs} (h:Agree it.reads env env'):∀ x ∈ it.op.opds,aD G env x=aD G env' x:=fun x hx =>
 opd_congr fun t ht=>h t (by simp only [AItem.reads,List.mem_append,List.mem_flatMap]; exact .inr ⟨x,hx,ht⟩)
theorem Agree.guard {it:AItem} {env env':Env} (h:Agree it.reads env env'):guardOf env it.guard=guardOf env' it.guard:=by
 unfold guardOf
 cases hg:it.guard with
 | none=>rfl
 | some p=>simp only [h p.1 (by simp [AItem.reads,hg])]
theorem Agree.dfr {it:AItem} {env env':Env} {f:Opd} {args:List Opd} (h:Agree it.reads env env') (hop:it.op=.defer f args):deferred env=deferred env':=by
 have:=h dslot (by simp [AItem.reads,hop,AOp.extra])
 unfold deferred; rw [this]
theorem Agree.pst {it:AItem} {env env':Env} {n d:Nat} {x:Opd} (h:Agree it.reads env env') (hop:it.op=.pstore n d x):env.get d=env'.get d:=h d (by simp [AItem.reads,hop,AOp.extra])
def quietOp (C:Cx) (it:AItem) (env:Env):Option (Option Nat × AV) :=
 match it.op with
 | .pnew n=>it.dst.map fun d=>(some d,.pend n)
 | .pstore n d x=>match env.get d,oneOpd C.G env x with
  | some (.pend n'),some v=>if n'=n /\ v.cells.length=n /\ it.dst=none then some (some d,.ip v) else none
  | _,_=>none
 | op=>if op.loud=false then match aA C.G env [] op with
  | some (v,[])=>some (it.dst,v)
  | _=>none
  else none
def bW (C:Cx) (it:AItem) (env:Env):Option (Option Nat × AV) :=
 match guardOf env it.guard with
 | some true=>quietOp C it env
 | some false=>some (it.dst,.tup [])
 | none=>none
section
variable {C:Cx} {it x y:AItem} {env env':Env} {h:AHeap} {K:Env -> AHeap -> Prop} {Q:APost} {d:Option Nat} {v:AV}
theorem aa (ha:Agree it.reads env env'):bW C it env=bW C it env':=by
 unfold bW
 rw [ha.guard]
 have h1:quietOp C it env=quietOp C it env':=by
  have ho:=ha.opds (G:=C.G)
  unfold quietOp
  cases hop:it.op with
  | pnew n=>rfl
  | pstore n d x =>
   have h2:=ha.pst hop
   rw [hop] at ho
   have h3:=ho x (by simp [AOp.opds])
   simp only [h2,oneOpd,h3]
  | _=>simp only [hop] at ho; simp only [bm ho]
 rw [h1]
theorem bf (hq:bW C it env=some (d,v)):∀ t,d=some t -> t ∈ it.writes:=by
 intro t ht
 subst ht
 unfold bW at hq
 have hdst:it.dst=some t -> t ∈ it.writes:=fun h=>by simp [AItem.writes,h]
 split at hq
 .unfold quietOp at hq
  split at hq
  .rename_i n hop
   simp only [Option.map_eq_some_iff,Prod.mk.injEq,Option.some.injEq] at hq
   obtain ⟨d',h1,rfl,_⟩:=hq
   exact hdst h1
  .rename_i n d' x hop
   split at hq
   .split at hq
    .simp only [Option.some.injEq,Prod.mk.injEq] at hq
     obtain ⟨rfl,_⟩:=hq
     simp [AItem.writes,hop,AOp.extra]
    .cases hq
   .cases hq
  .split at hq
   .split at hq
    .simp only [Option.some.injEq,Prod.mk.injEq] at hq
     exact hdst hq.1
    .cases hq
   .cases hq
 .simp only [Option.some.injEq,Prod.mk.injEq] at hq
  exact hdst hq.1
 .cases hq
theorem quietItem_wp (hq:bW C it env=some (d,v)) (hK:K (aY env d v) h):bG C it env h K Q:=by
 unfold bW at hq
 unfold bG
 split at hq
 .rename_i hg
  rw [hg]
  simp only
  unfold quietOp at hq
  unfold bJ
  split at hq
  .rename_i n hop
   simp only [Option.map_eq_some_iff,Prod.mk.injEq] at hq
   obtain ⟨d',h1,h2,h3⟩:=hq
   subst h2 h3
   simp only [hop,h1]
   exact hK
  .rename_i n d' x hop
   split at hq
   .rename_i n' v' h1 h2
    split at hq
    .rename_i h3
     simp only [Option.some.injEq,Prod.mk.injEq] at hq
     obtain ⟨h4,h5⟩:=hq
     subst h4 h5
     simp only [hop,h1,h2]
     exact ⟨h3.1,h3.2.1,h3.2.2,hK⟩
    .cases hq
   .cases hq
  .rename_i n1 n2
   split at hq
   .rename_i hl
    split at hq
    .rename_i v' he
     simp only [Option.some.injEq,Prod.mk.injEq] at hq
     obtain ⟨h4,h5⟩:=hq
     subst h4 h5
     have:=evalOp_quiet hl he h
     split
     .rename_i n hop; exact (n1 _ hop).elim
     .rename_i n d x hop; exact (n2 _ _ _ hop).elim
     .rename_i f args hop; rw [hop] at hl; cases hl
     .rename_i f args hop; rw [hop] at hl; cases hl
     .rename_i x hop; rw [hop] at hl; cases hl
     .rename_i x hop; rw [hop] at hl; cases hl
     .rename_i x hop; rw [hop] at hl; cases hl
     .rename_i kk b x y hop; rw [hop] at hl; cases hl
     .rename_i kk x lo hi mx hop; rw [hop] at hl; cases hl
     .simp only [this]; exact hK
    .cases hq
   .cases hq
 .rename_i hg
  simp only [Option.some.injEq,Prod.mk.injEq] at hq
  obtain ⟨h4,h5⟩:=hq
  subst h4 h5
  rw [hg]
  exact hK
 .cases hq
theorem stillItem_wp (hs:(match it.op with | .load _ _ | .lookup _ _ _ _ _ | .len _ _=>true | _=>false)=true) (hg:guardOf env it.guard=some true) (he:aA C.G env h it.op=some (v,h)) (hK:K (aY env it.dst v) h):bG C it env h K Q:=by
 unfold bG
 rw [hg]
 simp only
 unfold bJ
 split
 .rename_i n hop; rw [hop] at hs; cases hs
 .rename_i n d x hop; rw [hop] at hs; cases hs
 .rename_i f args hop; rw [hop] at hs; cases hs
 .rename_i f args hop; rw [hop] at hs; cases hs
 .rename_i x hop; rw [hop] at hs; cases hs
 .rename_i x hop; rw [hop] at hs; cases hs
 .rename_i x hop; rw [hop] at hs; cases hs
 .rename_i kk b x y hop; rw [hop] at hs; cases hs
 .rename_i kk x lo hi mx hop; rw [hop] at hs; cases hs
 .simp only [he]; exact hK
theorem itemWp_agree (ha:Agree it.reads env env') (hQ:∀ v h,Q (.pan v) env' h -> Q (.pan v) env h) (hw:bG C it env' h K Q) :
  bG C it env h (fun e h1=>∃ d v,e=aY env d v /\ (∀ t,d=some t -> t ∈ it.writes) /\ K (aY env' d v) h1) Q:=by
 have hdst:∀ t,it.dst=some t -> t ∈ it.writes:=fun t h=>by simp [AItem.writes,h]
 unfold bG at hw ⊢
 rw [ha.guard]
 split at hw
 .rename_i hg
  unfold bJ at hw ⊢
  have ho:=ha.opds (G:=C.G)
  split at hw
  .rename_i n hop
   split at hw
   .rename_i d hd
    simp only [hop,hd]
    exact ⟨some d,_,rfl,fun t ht=>hdst t (hd.trans ht),hw⟩
   .exact hw.elim
  .rename_i n d x hop
   have h2:=ha.pst hop
   rw [hop] at ho
   have h3:=ho x (by simp [AOp.opds])
   simp only [hop,h2,oneOpd,h3]
   simp only [oneOpd] at hw
   split at hw
   .rename_i n' v hv1 hv2
    obtain ⟨g1,g2,g3,g4⟩:=hw
    exact ⟨g1,g2,g3,some d,_,rfl,fun t ht=>by simp at ht; subst ht; simp [AItem.writes,hop,AOp.extra],g4⟩
   .exact hw.elim
  .rename_i f args hop
   rw [hop] at ho
   have h3:=ho f (by simp [AOp.opds])
   have h4:mapM' (aD C.G env) args=mapM' (aD C.G env') args:=mapM'_congr args fun x hx=>ho x (by simp [AOp.opds,hx])
   simp only [hop,h3,h4]
   split at hw
   .rename_i fid a b vs hf hvs
    obtain ⟨R,hR,hp⟩:=hw
    refine ⟨R,hR,fun r h' hr=>?_⟩
    have:=hp r h' hr
    cases r with
    | ret v=>exact ⟨it.dst,v,rfl,hdst,this⟩
    | pan v=>exact hQ v h' this
   .rename_i ob vs hf hvs
    obtain ⟨hlp,R,hR,hp⟩:=hw
    refine ⟨hlp,R,hR,fun r h' hr=>?_⟩
    have:=hp r h' hr
    cases r with
    | ret v=>exact ⟨it.dst,v,rfl,hdst,this⟩
    | pan v=>exact hQ v h' this
   .exact hw.elim
  .rename_i f args hop
   have hdf:=ha.dfr hop
   rw [hop] at ho
   have h3:=ho f (by simp [AOp.opds])
   have h4:mapM' (aD C.G env) args=mapM' (aD C.G env') args:=mapM'_congr args fun x hx=>ho x (by simp [AOp.opds,hx])
   simp only [hop,h3,h4,hdf]
   split at hw
   .rename_i fid a b vs l hf hvs hl
    obtain ⟨g1,g2,g3⟩:=hw
    exact ⟨g1,g2,some dslot,_,rfl,fun t ht=>by simp at ht; subst ht; simp [AItem.writes,hop,AOp.extra],g3⟩
   .exact hw.elim
  .rename_i x hop
   rw [hop] at ho
   have h3:=ho x (by simp [AOp.opds])
   simp only [hop,h3]
   split at hw
   .rename_i t v hx
    exact hQ _ _ hw
   .exact hw.elim
  .rename_i x hop
   rw [hop] at ho
   have h3:=ho x (by simp [AOp.opds])
   simp only [hop,h3]
   split at hw
   .exact ⟨it.dst,_,rfl,hdst,hw⟩
   .split at hw
    .intro bs clock q1 q2 q3
     exact ⟨it.dst,_,rfl,hdst,hw bs clock q1 q2 q3⟩
    .exact hw.elim
   .exact hw.elim
  .rename_i x hop
   rw [hop] at ho
   have h3:=ho x (by simp [AOp.opds])
   simp only [hop,h3]
   split at hw
   .split at hw
    .exact ⟨it.dst,_,rfl,hdst,hw⟩
    .split at hw
     .obtain ⟨g1,g2,g3,g4⟩:=hw
      exact ⟨g1,g2,fun q=>⟨it.dst,_,rfl,hdst,g3 q⟩,fun i p b q1 q2 q3=>⟨it.dst,_,rfl,hdst,g4 i p b q1 q2 q3⟩⟩
     .exact hw.elim
    .exact hw.elim
   .exact hw.elim
  .rename_i kk b x y hop
   rw [hop] at ho
   have h3:=ho x (by simp [AOp.opds])
   have h4:=ho y (by simp [AOp.opds])
   simp only [hop,h3,h4]
   split at hw
   .obtain ⟨g1,g2,g3⟩:=hw
    exact ⟨g1,g2,it.dst,_,rfl,hdst,g3⟩
   .split at hw
    .obtain ⟨g1,g2,hw⟩:=hw
     refine ⟨g1,g2,?_⟩
     split at hw
     .rename_i g3; rw [if_pos g3]; exact ⟨it.dst,_,rfl,hdst,hw⟩
     .rename_i g0
      rw [if_neg g0]
      obtain ⟨g3,g4,g5,g6,g7⟩:=hw
      exact ⟨g3,g4,g5,⟨it.dst,_,rfl,hdst,g6⟩,it.dst,_,rfl,hdst,g7⟩
    .exact hw.elim
   .exact hw.elim
  .rename_i kk x lo hi mx hop
   rw [hop] at ho
   have h3:=ho x (by simp [AOp.opds])
   have h4:lo.map (aD C.G env)=lo.map (aD C.G env'):=by cases lo with | none=>rfl | some y=>simp [ho y (by simp [AOp.opds])]
   have h5:hi.map (aD C.G env)=hi.map (aD C.G env'):=by cases hi with | none=>rfl | some y=>simp [ho y (by simp [AOp.opds])]
   simp only [hop,h3,h4,h5]
   split at hw
   .split at hw
    .split at hw
     .obtain ⟨g1,g2,g3,g4,g5⟩:=hw
      exact ⟨g1,g2,g3,g4,it.dst,_,rfl,hdst,g5⟩
     .rename_i y
      have h6:=ho y (by simp [AOp.opds])
      simp only [h6]
      split at hw
      .obtain ⟨g1,g2,g3,g4,g5⟩:=hw
       exact ⟨g1,g2,g3,g4,it.dst,_,rfl,hdst,g5⟩
      .exact hw.elim
    .exact hw.elim
   .exact hw.elim
  .rename_i n1 n2 n3 n4 n5 n6 n7 n8
   split at hw
   .rename_i v h' he
    rw [<- bm ho] at he
    simp only [he]
    exact ⟨it.dst,v,rfl,hdst,hw⟩
   .exact hw.elim
 .exact ⟨it.dst,_,rfl,hdst,hw⟩
 .exact hw.elim
theorem bq {K':Env -> AHeap -> Prop} {Q':APost} (hk:∀ e h,K e h -> K' e h) (hq:∀ v e h,Q (.pan v) e h -> Q' (.pan v) e h) (hw:bG C it env h K Q):bG C it env h K' Q':=by
 unfold bG at hw ⊢
 split at hw
 .rename_i hg
  unfold bJ at hw ⊢
  split at hw
  .split at hw
   .exact hk _ _ hw
   .exact hw.elim
  .split at hw
   .obtain ⟨g1,g2,g3,g4⟩:=hw
    exact ⟨g1,g2,g3,hk _ _ g4⟩
   .exact hw.elim
  .split at hw
   .obtain ⟨R,hR,hp⟩:=hw
    refine ⟨R,hR,fun r h' hr=>?_⟩
    have:=hp r h' hr
    cases r with
    | ret v=>exact hk _ _ this
    | pan v=>exact hq _ _ _ this
   .obtain ⟨hl,R,hR,hp⟩:=hw
    refine ⟨hl,R,hR,fun r h' hr=>?_⟩
    have:=hp r h' hr
    cases r with
    | ret v=>exact hk _ _ this
    | pan v=>exact hq _ _ _ this
   .exact hw.elim
  .split at hw
   .obtain ⟨g1,g2,g3⟩:=hw
    exact ⟨g1,g2,hk _ _ g3⟩
   .exact hw.elim
  .split at hw
   .exact hq _ _ _ hw
   .exact hw.elim
  .split at hw
   .exact hk _ _ hw
   .split at hw
    .intro bs clock q1 q2 q3
     exact hk _ _ (hw bs clock q1 q2 q3)
    .exact hw.elim
   .exact hw.elim
  .split at hw
   .split at hw
    .exact hk _ _ hw
    .split at hw
     .obtain ⟨g1,g2,g3,g4⟩:=hw
      exact ⟨g1,g2,fun q=>hk _ _ (g3 q),fun i p b q1 q2 q3=>hk _ _ (g4 i p b q1 q2 q3)⟩
     .exact hw.elim
    .exact hw.elim
   .exact hw.elim
  .split at hw
   .obtain ⟨g1,g2,g3⟩:=hw
    exact ⟨g1,g2,hk _ _ g3⟩
   .split at hw
    .obtain ⟨g1,g2,hw⟩:=hw
     refine ⟨g1,g2,?_⟩
     split at hw
     .rename_i g3; rw [if_pos g3]; exact hk _ _ hw
     .rename_i g0
      rw [if_neg g0]
      obtain ⟨g3,g4,g5,g6,g7⟩:=hw
      exact ⟨g3,g4,g5,hk _ _ g6,hk _ _ g7⟩
    .exact hw.elim
   .exact hw.elim
  .split at hw
   .split at hw
    .split at hw
     .obtain ⟨g1,g2,g3,g4,g5⟩:=hw
      exact ⟨g1,g2,g3,g4,hk _ _ g5⟩
     .split at hw
      .obtain ⟨g1,g2,g3,g4,g5⟩:=hw
       exact ⟨g1,g2,g3,g4,hk _ _ g5⟩
      .exact hw.elim
    .exact hw.elim
   .exact hw.elim
  .split at hw
   .exact hk _ _ hw
   .exact hw.elim
 .exact hk _ _ hw
 .exact hw.elim
end
def AOp.still:AOp -> Bool
 | .load _ _ | .lookup _ _ _ _ _ | .len _ _=>true
 | _=>false
structure Claim where
 it:AItem
 env:Env
 v:AV
 taint:List Nat
def Claim.touch (c:Claim) (y:AItem):Bool:=y.reads.any (fun t=>c.taint.contains t) || y.writes.any (fun t=>c.taint.contains t)
def Claim.step (y:AItem) (c:Claim):Claim:=if c.touch y=true then { c with taint:=y.writes++c.taint } else c
def keepsAll (C:Cx) (T:List Claim) (y:AItem) (h:AHeap):Prop:=∀ c ∈ T,c.touch y=false -> aA C.G c.env h c.it.op=some (c.v,h)
def aq (C:Cx):List Claim -> List (Bool × AItem) -> APost -> Env -> AHeap -> Prop
 | _,[],Q,env,h=>Q .normal env h
 | T,(true,it) :: r,Q,env,h=>match bW C it env with
  | some (d,v)=>aq C (T.map (Claim.step it)) r Q (aY env d v) h
  | none=>it.op.still=true /\ guardOf env it.guard=some true /\ ∃ v,aA C.G env h it.op=some (v,h) /\ aq C (⟨it,env,v,it.writes⟩ :: T.map (Claim.step it)) r Q (aY env it.dst v) h
 | T,(false,it) :: r,Q,env,h=>bG C it env h (fun env h=>keepsAll C T it h /\ aq C (T.filter fun c=>!c.touch it) r Q env h) (fun e _ h=>∀ env,Q e env h)
abbrev drawWp (C:Cx) (l:List (Bool × AItem)) (Q:APost) (env:Env) (h:AHeap):Prop:=aq C [] l Q env h
def upEq (Q:APost):APost
 | .pan v,_,h=>∀ env,Q (.pan v) env h
 | e,env,h=>∃ env0,EnvEq env0 env /\ Q e env0 h
theorem drawT_up {C:Cx} {Q:APost}:∀ {pl:List (Bool × AItem)} {T:List Claim} {env:Env} {h:AHeap},aq C T pl Q env h -> aq C T pl (upEq Q) env h
 | [],T,env,h,hw=>⟨env,.refl env,hw⟩
 | (true,it) :: r,T,env,h,hw=>by
  simp only [aq] at hw ⊢
  split at hw
  .exact drawT_up hw
  .obtain ⟨h1,h2,v,h3,h4⟩:=hw
   exact ⟨h1,h2,v,h3,drawT_up h4⟩
 | (false,it) :: r,T,env,h,hw=>by
  simp only [aq] at hw ⊢
  exact bq (fun e h he=>⟨he.1,drawT_up he.2⟩) (fun v e h he env=>he) hw
theorem drawWp_up {C:Cx} {Q:APost} {pl:List (Bool × AItem)} {env:Env} {h:AHeap} (hw:drawWp C pl Q env h):drawWp C pl (upEq Q) env h:=drawT_up hw
theorem AItem.apart_spec {x y:AItem} (h:x.apart y=true):(∀ t ∈ x.writes,t ∉ y.reads /\ t ∉ y.writes) /\ ∀ t ∈ y.writes,t ∉ x.reads:=by
 simp only [AItem.apart,Bool.and_eq_true,List.all_eq_true,Bool.not_eq_true',List.contains_eq_mem,decide_eq_false_iff_not] at h
 exact ⟨fun t ht=>h.1 t ht,fun t ht=>h.2 t ht⟩
theorem Claim.touch_iff {c:Claim} {y:AItem}:c.touch y=true ↔ ∃ t,t ∈ c.taint /\ (t ∈ y.reads \/ t ∈ y.writes):=by
 simp only [Claim.touch,Bool.or_eq_true,List.any_eq_true,List.contains_eq_mem,decide_eq_true_eq]
 constructor
 .rintro (⟨t,h1,h2⟩ | ⟨t,h1,h2⟩)
  .exact ⟨t,h2,.inl h1⟩
  .exact ⟨t,h2,.inr h1⟩
 .rintro ⟨t,h1,h2 | h2⟩
  .exact .inl ⟨t,h2,h1⟩
  .exact .inr ⟨t,h2,h1⟩
theorem Claim.step_mem {c:Claim} {y:AItem} {t:Nat}:t ∈ (c.step y).taint ↔ t ∈ c.taint \/ (c.touch y=true /\ t ∈ y.writes):=by
 unfold Claim.step
 by_cases h:c.touch y=true
 .rw [if_pos h]; simp only [List.mem_append,h,true_and]; exact or_comm
 .rw [if_neg h]; simp [h]
@[simp] theorem Claim.step_it {c:Claim} {y:AItem}:(c.step y).it=c.it:=by unfold Claim.step; split <;> rfl
@[simp] theorem Claim.step_env {c:Claim} {y:AItem}:(c.step y).env=c.env:=by unfold Claim.step; split <;> rfl
@[simp] theorem Claim.step_v {c:Claim} {y:AItem}:(c.step y).v=c.v:=by unfold Claim.step; split <;> rfl
structure ClaimLe (c c':Claim):Prop where
 it:c.it=c'.it
 v:c.v=c'.v
 ag:Agree c.it.reads c.env c'.env
 taint:∀ t,t ∈ c.taint -> t ∈ c'.taint
theorem ClaimLe.refl (c:Claim):ClaimLe c c:=⟨rfl,rfl,fun _ _=>rfl,fun _ h=>h⟩
theorem ClaimLe.of {it:AItem} {env env':Env} {v:AV} {l:List Nat} (h:Agree it.reads env env'):ClaimLe ⟨it,env,v,l⟩ ⟨it,env',v,l⟩:=⟨rfl,rfl,h,fun _ h=>h⟩
theorem ClaimLe.eval {C:Cx} {c c':Claim} (h:ClaimLe c c') {hp:AHeap} (he:aA C.G c.env hp c.it.op=some (c.v,hp)):aA C.G c'.env hp c'.it.op=some (c'.v,hp):=by
 obtain ⟨h1,h2,h3,_⟩:=h
 rw [<- h1,<- h2,<- he]
 exact (bm h3.opds).symm
theorem ClaimLe.touch {c c':Claim} (h:ClaimLe c c') {y:AItem} (ht:c'.touch y=false):c.touch y=false:=by
 cases hc:c.touch y with
 | false=>rfl
 | true =>
  obtain ⟨t,h1,h2⟩:=Claim.touch_iff.1 hc
  rw [Claim.touch_iff.2 ⟨t,h.taint t h1,h2⟩] at ht; cases ht
theorem ClaimLe.step {c c':Claim} (h:ClaimLe c c') (y:AItem):ClaimLe (c.step y) (c'.step y) where
 it:=by simp [h.it]
 v:=by simp [h.v]
 ag:=by simpa using h.ag
 taint t ht:=by
  rw [Claim.step_mem] at ht ⊢
  rcases ht with ht | ⟨h1,h2⟩
  .exact .inl (h.taint t ht)
  .refine .inr ⟨?_,h2⟩
   cases hc:c'.touch y with
   | true=>rfl
   | false=>rw [h.touch hc] at h1; cases h1
def TLe (T T':List Claim):Prop:=∀ c' ∈ T',∃ c ∈ T,ClaimLe c c'
theorem TLe.cons {T T':List Claim} {c c':Claim} (h:TLe T T') (hc:ClaimLe c c'):TLe (c :: T) (c' :: T'):=fun d hd=>by
 rcases List.mem_cons.1 hd with rfl | hd
 .exact ⟨c,by simp,hc⟩
 .obtain ⟨e,he,h1⟩:=h d hd; exact ⟨e,by simp [he],h1⟩
theorem TLe.step {T T':List Claim} (h:TLe T T') (y:AItem):TLe (T.map (Claim.step y)) (T'.map (Claim.step y)):=fun d hd=>by
 obtain ⟨c',hc',rfl⟩:=List.mem_map.1 hd
 obtain ⟨c,hc,hle⟩:=h c' hc'
 exact ⟨c.step y,List.mem_map_of_mem hc,hle.step y⟩
theorem TLe.drop {T T':List Claim} (h:TLe T T') (y:AItem):TLe (T.filter fun c=>!c.touch y) (T'.filter fun c=>!c.touch y):=fun d hd=>by
 rw [List.mem_filter] at hd
 obtain ⟨c,hc,hle⟩:=h d hd.1
 refine ⟨c,List.mem_filter.2 ⟨hc,?_⟩,hle⟩
 have h1:d.touch y=false:=by simpa using hd.2
 simp [hle.touch h1]
theorem TLe.keeps {C:Cx} {T T':List Claim} (h:TLe T T') {y:AItem} {hp:AHeap} (hk:keepsAll C T y hp):keepsAll C T' y hp:=fun c' hc' ha=>by
 obtain ⟨c,hc,hle⟩:=h c' hc'
 exact hle.eval (hk c hc (hle.touch ha))
theorem drawT_le {C:Cx} {Q:APost}:∀ {pl:List (Bool × AItem)} {T T':List Claim} {env env':Env} {h:AHeap},TLe T T' -> EnvEq env env' -> aq C T pl (upEq Q) env h -> aq C T' pl (upEq Q) env' h
 | [],T,T',env,env',h,ht,he,⟨env0,h1,h2⟩=>⟨env0,h1.trans he,h2⟩
 | (true,it) :: r,T,T',env,env',h,ht,he,hw=>by
  simp only [aq] at hw ⊢
  rw [<- aa (C:=C) (it:=it) (fun t _=>he t)]
  split at hw
  .rename_i d v hq
   exact drawT_le (ht.step it) (he.put d v) hw
  .obtain ⟨h1,h2,v,h3,h4⟩:=hw
   have ha:Agree it.reads env env':=fun t _=>he t
   refine ⟨h1,by rw [<- ha.guard]; exact h2,v,by rw [<- bm ha.opds]; exact h3,drawT_le ((ht.step it).cons (.of ha)) (he.put _ _) h4⟩
 | (false,it) :: r,T,T',env,env',h,ht,he,hw=>by
  simp only [aq] at hw ⊢
  refine bq ?_ (fun v e h he=>he) (itemWp_agree (env:=env') (env':=env) (fun t _=>(he t).symm) (fun v h hv=>hv) hw)
  rintro e h1 ⟨d,v,rfl,_,hk,hK⟩
  exact ⟨ht.keeps hk,drawT_le (ht.drop it) (he.put d v) hK⟩
section
variable {x y:AItem} (ha:x.apart y=true)
include ha
theorem apart_touch (c:Claim):(c.step x).touch y=c.touch y:=by
 obtain ⟨h1,h2⟩:=AItem.apart_spec ha
 rw [Bool.eq_iff_iff,Claim.touch_iff,Claim.touch_iff]
 constructor
 .rintro ⟨t,h3,h4⟩
  rw [Claim.step_mem] at h3
  rcases h3 with h3 | ⟨_,h3⟩
  .exact ⟨t,h3,h4⟩
  .exact (h4.elim (h1 t h3).1 (h1 t h3).2).elim
 .rintro ⟨t,h3,h4⟩
  exact ⟨t,Claim.step_mem.2 (.inl h3),h4⟩
theorem apart_touch' (c:Claim):(c.step y).touch x=c.touch x:=by
 obtain ⟨h1,h2⟩:=AItem.apart_spec ha
 rw [Bool.eq_iff_iff,Claim.touch_iff,Claim.touch_iff]
 constructor
 .rintro ⟨t,h3,h4⟩
  rw [Claim.step_mem] at h3
  rcases h3 with h3 | ⟨_,h3⟩
  .exact ⟨t,h3,h4⟩
  .exact (h4.elim (h2 t h3) fun h5=>(h1 t h5).2 h3).elim
 .rintro ⟨t,h3,h4⟩
  exact ⟨t,Claim.step_mem.2 (.inl h3),h4⟩
theorem apart_comm (c:Claim):ClaimLe ((c.step x).step y) ((c.step y).step x) where
 it:=by simp
 v:=by simp
 ag:=fun t _=>by simp
 taint t ht:=by
  rw [Claim.step_mem,Claim.step_mem,apart_touch ha] at ht
  rw [Claim.step_mem,Claim.step_mem,apart_touch' ha]
  rcases ht with (ht | ht) | ht
  .exact .inl (.inl ht)
  .exact .inr ht
  .exact .inl (.inr ht)
theorem apart_TLe (T:List Claim):TLe ((T.map (Claim.step x)).map (Claim.step y)) ((T.map (Claim.step y)).map (Claim.step x)):=fun d hd=>by
 rw [List.map_map] at hd
 obtain ⟨c,hc,rfl⟩:=List.mem_map.1 hd
 exact ⟨(c.step x).step y,by rw [List.map_map]; exact List.mem_map_of_mem (f:=Claim.step y ∘ Claim.step x) hc,apart_comm ha c⟩
theorem apart_drop (T:List Claim):TLe ((T.map (Claim.step x)).filter fun c=>!c.touch y) ((T.filter fun c=>!c.touch y).map (Claim.step x)):=fun d hd=>by
 obtain ⟨c,hc,rfl⟩:=List.mem_map.1 hd
 rw [List.mem_filter] at hc
 refine ⟨c.step x,List.mem_filter.2 ⟨List.mem_map_of_mem hc.1,?_⟩,.refl _⟩
 rw [apart_touch ha]; exact hc.2
theorem apart_keeps {C:Cx} {T:List Claim} {hp:AHeap} (hk:keepsAll C (T.map (Claim.step x)) y hp):keepsAll C T y hp:=fun c hc ht=>by
 have:=hk (c.step x) (List.mem_map_of_mem hc) (by rw [apart_touch ha]; exact ht)
 simpa using this
theorem apart_own (env:Env) (v:AV):(⟨x,env,v,x.writes⟩:Claim).touch y=false:=by
 obtain ⟨h1,h2⟩:=AItem.apart_spec ha
 cases hc:(⟨x,env,v,x.writes⟩:Claim).touch y with
 | false=>rfl
 | true =>
  obtain ⟨t,h3,h4⟩:=Claim.touch_iff.1 hc
  exact (h4.elim (h1 t h3).1 (h1 t h3).2).elim
theorem apart_own' (env:Env) (v:AV):(⟨y,env,v,y.writes⟩:Claim).touch x=false:=by
 obtain ⟨h1,h2⟩:=AItem.apart_spec ha
 cases hc:(⟨y,env,v,y.writes⟩:Claim).touch x with
 | false=>rfl
 | true =>
  obtain ⟨t,h3,h4⟩:=Claim.touch_iff.1 hc
  exact (h4.elim (h2 t h3) fun h5=>(h1 t h5).2 h3).elim
end
theorem Claim.step_of {c:Claim} {y:AItem} (h:c.touch y=false):c.step y=c:=by unfold Claim.step; rw [if_neg (by simp [h])]
theorem drawT_swap {C:Cx} {Q:APost} {x y:AItem} {b:Bool} {r:List (Bool × AItem)} {T:List Claim} {env:Env} {h:AHeap} (ha:x.apart y=true) (hw:aq C T ((true,x) :: (b,y) :: r) (upEq Q) env h) :
  aq C T ((b,y) :: (true,x) :: r) (upEq Q) env h:=by
 obtain ⟨h1,h2⟩:=AItem.apart_spec ha
 have hT:=apart_TLe ha T
 have hxw:∀ t,x.dst=some t -> t ∈ x.writes:=fun t h=>by simp [AItem.writes,h]
 have hyw:∀ t,y.dst=some t -> t ∈ y.writes:=fun t h=>by simp [AItem.writes,h]
 have hagy:∀ dx vx,(∀ t,dx=some t -> t ∈ x.writes) -> Agree y.reads env (aY env dx vx):=fun dx vx hwx t ht=>by
  rw [putD_get,if_neg]
  intro e
  exact (h1 t (hwx t e)).1 ht
 have hagx:∀ (d:Option Nat) (v:AV),(∀ t,d=some t -> t ∈ y.writes) -> Agree x.reads env (aY env d v):=fun d v hd t ht=>by
  rw [putD_get,if_neg]
  intro e
  exact h2 t (hd t e) ht
 have hcomm:∀ (dx:Option Nat) (vx:AV) (d:Option Nat) (v:AV),(∀ t,dx=some t -> t ∈ x.writes) -> (∀ t,d=some t -> t ∈ y.writes) -> EnvEq (aY (aY env dx vx) d v) (aY (aY env d v) dx vx):=fun dx vx d v hwx hd =>
  EnvEq.comm fun t e e'=>(h1 t (hwx t e)).2 (hd t e')
 rw [aq] at hw
 split at hw
 .rename_i dx vx hq
  have hwx:=bf hq
  have hback:∀ (d:Option Nat) (v:AV),(∀ t,d=some t -> t ∈ y.writes) -> bW C x (aY env d v)=some (dx,vx):=fun d v hd=>by
   rw [<- hq]; exact (aa (hagx d v hd)).symm
  cases b with
  | true =>
   rw [aq] at hw ⊢
   rw [aa (hagy dx vx hwx)]
   split at hw
   .rename_i dy vy hy
    have hwy:=bf hy
    rw [aq,hback dy vy hwy]
    exact drawT_le hT (hcomm dx vx dy vy hwx hwy) hw
   .obtain ⟨g1,g2,v,g3,g4⟩:=hw
    have hag:=hagy dx vx hwx
    refine ⟨g1,by rw [hag.guard]; exact g2,v,by rw [bm hag.opds]; exact g3,?_⟩
    rw [aq,hback _ v hyw]
    rw [List.map_cons,Claim.step_of (apart_own' ha env v)]
    exact drawT_le (hT.cons (.of fun t ht=>(hag t ht).symm)) (hcomm dx vx _ v hwx hyw) g4
  | false =>
   rw [aq] at hw ⊢
   refine bq ?_ (fun v e h he=>he) (itemWp_agree (hagy dx vx hwx) (fun v h hv=>hv) hw)
   rintro e h1 ⟨d,v,rfl,hd,hk,hK⟩
   refine ⟨apart_keeps ha hk,?_⟩
   rw [aq,hback d v hd]
   exact drawT_le (apart_drop ha T) (hcomm dx vx d v hwx hd) hK
 .rename_i hq
  obtain ⟨f1,f2,vx,f3,f4⟩:=hw
  have hback:∀ (d:Option Nat) (v:AV),(∀ t,d=some t -> t ∈ y.writes) -> bW C x (aY env d v)=none:=fun d v hd=>by
   rw [<- hq]; exact (aa (hagx d v hd)).symm
  cases b with
  | true =>
   rw [aq] at f4 ⊢
   rw [aa (hagy x.dst vx hxw)]
   split at f4
   .rename_i dy vy hy
    have hwy:=bf hy
    have hag:=hagx dy vy hwy
    rw [aq,hback dy vy hwy]
    refine ⟨f1,by rw [<- hag.guard]; exact f2,vx,by rw [<- bm hag.opds]; exact f3,?_⟩
    rw [List.map_cons,Claim.step_of (apart_own ha env vx)] at f4
    exact drawT_le (hT.cons (.of hag)) (hcomm x.dst vx dy vy hxw hwy) f4
   .obtain ⟨g1,g2,v,g3,g4⟩:=f4
    have hag:=hagy x.dst vx hxw
    have hag2:=hagx y.dst v hyw
    refine ⟨g1,by rw [hag.guard]; exact g2,v,by rw [bm hag.opds]; exact g3,?_⟩
    rw [aq,hback y.dst v hyw]
    refine ⟨f1,by rw [<- hag2.guard]; exact f2,vx,by rw [<- bm hag2.opds]; exact f3,?_⟩
    rw [List.map_cons,Claim.step_of (apart_own ha env vx)] at g4
    rw [List.map_cons,Claim.step_of (apart_own' ha env v)]
    refine drawT_le (fun c hc=>?_) (hcomm x.dst vx y.dst v hxw hyw) g4
    rcases List.mem_cons.1 hc with rfl | hc
    .exact ⟨⟨x,env,vx,x.writes⟩,by simp,rfl,rfl,hag2,fun _ h=>h⟩
    rcases List.mem_cons.1 hc with rfl | hc
    .exact ⟨⟨y,aY env x.dst vx,v,y.writes⟩,by simp,rfl,rfl,fun t ht=>(hag t ht).symm,fun _ h=>h⟩
    .obtain ⟨c0,h3,h4⟩:=hT c hc
     exact ⟨c0,by simp only [List.mem_cons]; exact .inr (.inr h3),h4⟩
  | false =>
   rw [aq] at f4 ⊢
   refine bq ?_ (fun v e h he=>he) (itemWp_agree (hagy x.dst vx hxw) (fun v h hv=>hv) f4)
   rintro e h1 ⟨d,v,rfl,hd,hk,hK⟩
   have hag:=hagx d v hd
   refine ⟨apart_keeps ha fun c hc=>hk c (by simp only [List.mem_cons]; exact .inr hc),?_⟩
   rw [aq,hback d v hd]
   refine ⟨f1,by rw [<- hag.guard]; exact f2,vx,by rw [<- bm hag.opds]; exact hk ⟨x,env,vx,x.writes⟩ (by simp) (apart_own ha env vx),?_⟩
   rw [List.filter_cons_of_pos (by simp [apart_own ha env vx])] at hK
   exact drawT_le ((apart_drop ha T).cons (.of hag)) (hcomm x.dst vx d v hxw hd) hK
theorem drawT_bubble {C:Cx} {Q:APost} {y:AItem} {b:Bool} {r:List (Bool × AItem)}:∀ {l:List (Bool × AItem)} {T:List Claim} {env:Env} {h:AHeap},(∀ p ∈ l,p.1=true /\ p.2.apart y=true) -> aq C T (l++(b,y) :: r) (upEq Q) env h ->
  aq C T ((b,y) :: (l++r)) (upEq Q) env h
 | [],T,env,h,_,hw=>hw
 | (c,x) :: l,T,env,h,hl,hw=>by
  obtain ⟨rfl,ha⟩:c=true /\ x.apart y=true:=hl (c,x) (by simp)
  rw [List.cons_append]
  refine drawT_swap ha ?_
  rw [List.cons_append,aq] at hw
  rw [aq]
  split at hw
  .exact drawT_bubble (fun p hp=>hl p (by simp [hp])) hw
  .obtain ⟨g1,g2,v,g3,g4⟩:=hw
   exact ⟨g1,g2,v,g3,drawT_bubble (fun p hp=>hl p (by simp [hp])) g4⟩
section
variable {l:List AItem} {an:List (List Nat)}
def anc (an:List (List Nat)) (i:Nat):List Nat:=an[i]?.getD []
def Good (l:List AItem) (an:List (List Nat)):List (Bool × Nat) -> Prop
 | []=>True
 | (b,i) :: r=>(∃ it,l[i]?=some it /\ (∀ x ∈ it.after,x < l.length /\ x ≠ i /\ x ∉ r.map (·.2)) /\
   ∀ p ∈ r,p.2 ≠ i /\ (i ∈ anc an p.2 \/ (b=true /\ ∃ jt,l[p.2]?=some jt /\ it.apart jt=true))) /\ Good l an r
theorem good_of_plan:∀ (p done:List Nat),planOk l an done p=true -> (∀ x ∈ done,x < l.length /\ x ∉ p) -> Good l an (bX l an p)
 | [],_,_,_=>trivial
 | i :: r,done,h,hd=>by
  simp only [planOk,Bool.and_eq_true] at h
  obtain ⟨h1,h2⟩:=h
  have hnc:∀ x,x ∈ done -> x < l.length /\ x ≠ i /\ x ∉ r:=fun x hx=>by
   have:=hd x hx
   simp only [List.mem_cons,not_or] at this
   exact this
  have hm:∀ r,(bX l an r).map (·.2)=r:=by
   intro r; induction r with
   | nil=>rfl
   | cons x r ih=>simp [bX,ih]
  cases hi:l[i]? with
  | none=>rw [hi] at h1; cases h1
  | some it =>
   rw [hi] at h1
   simp only [Bool.and_eq_true,List.all_eq_true,bne_iff_ne,Bool.or_eq_true,List.contains_eq_mem,decide_eq_true_eq] at h1
   obtain ⟨g1,g2⟩:=h1
   refine ⟨⟨it,hi,fun x hx=>?_,fun q hq=>?_⟩,good_of_plan r (i :: done) h2 ?_⟩
   .rw [hm]
    exact hnc x (by simpa using g1 x hx)
   .have hq2:q.2 ∈ r:=by have:=List.mem_map_of_mem (f:=(·.2)) hq; rwa [hm] at this
    obtain ⟨k1,k2⟩:=g2 q.2 hq2
    refine ⟨k1,?_⟩
    by_cases hin:i ∈ anc an q.2
    .exact .inl hin
    .right
     refine ⟨?_,?_⟩
     .simp only [List.any_eq_true,Bool.not_eq_true',List.contains_eq_mem,decide_eq_false_iff_not]
      exact ⟨q.2,hq2,hin⟩
     .rcases k2 with k2 | k2
      .exact (hin k2).elim
      .split at k2
       .rename_i jt hj; exact ⟨jt,hj,k2⟩
       .cases k2
   .intro x hx
    simp only [List.mem_cons] at hx
    rcases hx with rfl | hx
    .refine ⟨(List.getElem?_eq_some_iff.1 hi).1,fun hr=>(g2 x hr).1 rfl⟩
    .exact ⟨(hnc x hx).1,(hnc x hx).2.2⟩
theorem Good.drop {b:Bool} {i:Nat} {r:List (Bool × Nat)}:∀ {a:List (Bool × Nat)},Good l an (a++(b,i) :: r) -> Good l an (a++r)
 | [],h=>h.2
 | (c,j) :: a,⟨⟨it,h1,h2,h3⟩,h4⟩=>by
  refine ⟨⟨it,h1,fun x hx=>?_,fun p hp=>?_⟩,Good.drop h4⟩
  .obtain ⟨g1,g2,g3⟩:=h2 x hx
   refine ⟨g1,g2,fun hm=>g3 ?_⟩
   have hm:x ∈ (a++r).map (·.2):=hm
   show x ∈ (a++(b,i) :: r).map (·.2)
   simp only [List.map_append,List.map_cons,List.mem_append,List.mem_cons] at hm ⊢
   exact hm.elim .inl (fun h=>.inr (.inr h))
  .refine h3 p ?_
   have hp:p ∈ a++r:=hp
   show p ∈ a++(b,i) :: r
   simp only [List.mem_append,List.mem_cons] at hp ⊢
   exact hp.elim .inl (fun h=>.inr (.inr h))
theorem Good.nodup {b:Bool} {i:Nat} {r:List (Bool × Nat)}:∀ {a:List (Bool × Nat)},Good l an (a++(b,i) :: r) -> i ∉ (a++r).map (·.2)
 | [],⟨⟨it,_,_,h3⟩,_⟩=>by
  intro h
  simp only [List.nil_append,List.mem_map] at h
  obtain ⟨p,hp,e⟩:=h
  exact (h3 p hp).1 e
 | (c,j) :: a,⟨⟨it,_,_,h3⟩,h4⟩=>by
  have:=Good.nodup h4
  simp only [List.cons_append,List.map_cons,List.mem_cons,not_or]
  exact ⟨(h3 (b,i) (by simp)).1,this⟩
theorem Good.front {b:Bool} {i:Nat} {r:List (Bool × Nat)}:∀ {a:List (Bool × Nat)},Good l an (a++(b,i) :: r) ->
  ∀ p ∈ a,p.2 ∈ anc an i \/ (p.1=true /\ ∃ it jt,l[p.2]?=some it /\ l[i]?=some jt /\ it.apart jt=true)
 | [],_,p,hp=>by cases hp
 | (c,j) :: a,⟨⟨it,h1,_,h3⟩,h4⟩,p,hp=>by
  simp only [List.mem_cons] at hp
  rcases hp with rfl | hp
  .rcases (h3 (b,i) (by simp)).2 with h | ⟨h,jt,h',h''⟩
   .exact .inl h
   .exact .inr ⟨h,it,jt,h1,h',h''⟩
  .exact Good.front h4 p hp
theorem anc_spec (h:ancOk l an=true) {i x:Nat} (hi:i < l.length) (hx:x ∈ anc an i):∃ it,l[i]?=some it /\ ∃ j ∈ it.after,j=x \/ x ∈ anc an j:=by
 simp only [ancOk,List.all_eq_true,List.mem_range] at h
 have:=h i hi x hx
 split at this
 .rename_i it hit
  simp only [List.any_eq_true,Bool.or_eq_true,beq_iff_eq,List.contains_eq_mem,decide_eq_true_eq] at this
  exact ⟨it,hit,this⟩
 .cases this
def look (l:List AItem) (R:List (Bool × Nat)):Option (List (Bool × AItem)):=mapM' (fun (q:Bool × Nat)=>(l[q.2]?).map fun it=>(q.1,it)) R
theorem mapM'_app {α β:Type} {f:α -> Option β}:∀ {a b:List α} {c:List β},mapM' f (a++b)=some c -> ∃ a' b',mapM' f a=some a' /\ mapM' f b=some b' /\ c=a'++b'
 | [],b,c,h=>⟨[],c,rfl,h,rfl⟩
 | x :: a,b,c,h=>by
  rw [List.cons_append] at h
  simp only [mapM'] at h
  split at h
  .rename_i y ys h1 h2
   simp at h; subst h
   obtain ⟨a',b',h3,h4,rfl⟩:=mapM'_app h2
   exact ⟨y :: a',b',by simp [mapM',h1,h3],h4,rfl⟩
  .cases h
theorem mapM'_app_of {α β:Type} {f:α -> Option β}:∀ {a b:List α} {a' b':List β},mapM' f a=some a' -> mapM' f b=some b' -> mapM' f (a++b)=some (a'++b')
 | [],b,a',b',h,h'=>by simp [mapM'] at h; subst h; exact h'
 | x :: a,b,a',b',h,h'=>by
  simp only [mapM'] at h
  split at h
  .rename_i y ys h1 h2
   simp at h; subst h
   simp [mapM',h1,mapM'_app_of h2 h']
  .cases h
theorem look_mem {R:List (Bool × Nat)} {pl:List (Bool × AItem)} (h:look l R=some pl):∀ p ∈ pl,∃ q ∈ R,q.1=p.1 /\ l[q.2]?=some p.2:=by
 induction R generalizing pl with
 | nil=>simp [look,mapM'] at h; subst h; intro p hp; cases hp
 | cons q R ih =>
  simp only [look,mapM'] at h
  split at h
  .rename_i y ys h1 h2
   simp at h; subst h
   intro p hp
   simp only [List.mem_cons] at hp
   rcases hp with rfl | hp
   .simp only [Option.map_eq_some_iff] at h1
    obtain ⟨it,h3,rfl⟩:=h1
    exact ⟨q,by simp,rfl,h3⟩
   .obtain ⟨q',h4,h5⟩:=ih h2 p hp
    exact ⟨q',by simp [h4],h5⟩
  .cases h
end
section
variable {C:Cx} {rc:Option Nat} {I0:Imm} {m0:aQ} {w0:World} {ops:Array Oper} {l:List AItem} {an:List (List Nat)} {Q:APost}
theorem any_sound (hl:mapM' (bd C.P C.ann C.N ops) ops.toList=some l) (han:ancOk l an=true):∀ (R:List (Bool × Nat)) (pl:List (Bool × AItem)) (n:Nat),R.length=n -> look l R=some pl -> Good l an R ->
  ∀ (listed:Array Bool),listed.size=ops.size -> (∀ i,i < ops.size -> (listed[i]?=some true ↔ i ∉ R.map (·.2))) -> (∀ i,i < ops.size -> i ∉ R.map (·.2) -> ∀ x ∈ anc an i,x ∉ R.map (·.2)) ->
  ∀ (T:List Claim) (env:Env) (h:AHeap) (I:Imm) (m:aQ) (a:Act) (w:World),aq C T pl (upEq Q) env h -> Rel C.G C.N (C.ro,rc) w0.heap.size I m env h a w -> Trans C.k I0 m0 w0 I m w -> C.k <= m.length ->
  wpAnyIn (fen rc) 0 C.P .any ops (CPost C rc I0 m0 w0 (upEq Q)) n listed a w:=by
 intro R
 obtain ⟨hlen,hcomp⟩:=mapM'_some hl
 have hlen':ops.size=l.length:=by simpa using hlen
 have hitem:∀ i it,l[i]?=some it -> ∃ o,ops[i]?=some o /\ bd C.P C.ann C.N ops o=some it:=fun i it hi=>by
  obtain ⟨o,ho⟩:=get_of_lt hlen hi
  exact ⟨o,by rw [<- Array.getElem?_toList]; exact ho,hcomp i o it ho hi⟩
 suffices ∀ (n:Nat) (R:List (Bool × Nat)) (pl:List (Bool × AItem)),R.length=n -> look l R=some pl -> Good l an R ->
  ∀ (listed:Array Bool),listed.size=ops.size -> (∀ i,i < ops.size -> (listed[i]?=some true ↔ i ∉ R.map (·.2))) -> (∀ i,i < ops.size -> i ∉ R.map (·.2) -> ∀ x ∈ anc an i,x ∉ R.map (·.2)) ->
  ∀ (T:List Claim) (env:Env) (h:AHeap) (I:Imm) (m:aQ) (a:Act) (w:World),aq C T pl (upEq Q) env h -> Rel C.G C.N (C.ro,rc) w0.heap.size I m env h a w -> Trans C.k I0 m0 w0 I m w -> C.k <= m.length ->
  wpAnyIn (fen rc) 0 C.P .any ops (CPost C rc I0 m0 w0 (upEq Q)) n listed a w by
  intro pl n h1 h2 h3; exact this n R pl h1 h2 h3
 clear R
 have hready:∀ (R:List (Bool × Nat)) (listed:Array Bool),listed.size=ops.size -> (∀ i,i < ops.size -> (listed[i]?=some true ↔ i ∉ R.map (·.2))) ->
   ∀ i,i ∈ Region.ready .any ops listed ↔ i < ops.size /\ i ∈ R.map (·.2) /\ ∃ it,l[i]?=some it /\ ∀ x ∈ it.after,x < ops.size /\ x ∉ R.map (·.2):=by
  intro R listed hsz hls i
  have hb:∀ x,listed.getD x false=true ↔ x < ops.size /\ x ∉ R.map (·.2):=by
   intro x
   rw [Array.getD_eq_getD_getElem?]
   by_cases hx:x < ops.size
   .rw [<- hls x hx,Array.getElem?_eq_getElem (by omega)]
    simp [hx]
   .rw [Array.getElem?_eq_none (by omega)]
    simp [hx]
  unfold Region.ready
  simp only [List.mem_filter,List.mem_range,Bool.and_eq_true,Bool.not_eq_true']
  constructor
  .rintro ⟨h1,h2,h3⟩
   have hi:i ∈ R.map (·.2):=by
    apply Classical.byContradiction
    intro hn
    have:=(hls i h1).2 hn
    rw [Array.getD_eq_getD_getElem?,this] at h2
    cases h2
   refine ⟨h1,hi,?_⟩
   obtain ⟨it,hit⟩:∃ it,l[i]?=some it:=⟨l[i]'(by omega),by simp [show i < l.length by omega]⟩
   obtain ⟨o,ho,hc⟩:=hitem i it hit
   obtain ⟨_,_,_,_,haft⟩:=bn hc
   refine ⟨it,hit,fun x hx=>?_⟩
   rw [haft,List.mem_map] at hx
   obtain ⟨e,he,rfl⟩:=hx
   rw [List.mem_filter] at he
   rw [ho] at h3
   simp only [Option.map_some,Option.getD_some,Array.all_eq_true_iff_forall_mem] at h3
   have:=h3 e (by simpa using he.1)
   rw [he.2] at this
   exact (hb e.on).1 (by simpa using this)
  .rintro ⟨h1,h2,it,hit,h3⟩
   obtain ⟨o,ho,hc⟩:=hitem i it hit
   obtain ⟨_,_,_,_,haft⟩:=bn hc
   refine ⟨h1,?_,?_⟩
   .rw [Array.getD_eq_getD_getElem?,Array.getElem?_eq_getElem (by omega)]
    have:=mt (hls i h1).1 (fun h=>h h2)
    rw [Array.getElem?_eq_getElem (by omega)] at this
    simpa using this
   .rw [ho]
    simp only [Option.map_some,Option.getD_some,Array.all_eq_true_iff_forall_mem]
    intro e he
    by_cases hbd:Region.binds .any e=true
    .have:=h3 e.on (by rw [haft]; exact List.mem_map_of_mem (List.mem_filter.2 ⟨by simpa using he,hbd⟩))
     simp [(hb e.on).2 this]
    .simp [hbd]
 intro n
 induction n with
 | zero =>
  intro R pl hRl hpl hgood listed hsz hls hcl T env h I m a w hw hr ht hk
  have:R=[]:=List.eq_nil_of_length_eq_zero hRl
  subst this
  simp [look,mapM'] at hpl; subst hpl
  refine ⟨?_,.normal,env,h,I,m,hw,trivial,hr,ht,hk⟩
  apply List.eq_nil_iff_forall_not_mem.2
  intro i hi
  have:=((hready [] listed hsz hls i).1 hi).2.1
  simp at this
 | succ n ih =>
  intro R pl hRl hpl hgood listed hsz hls hcl T env h I m a w hw hr ht hk
  refine ⟨fun hemp=>?_,fun i hi=>?_⟩
  .
   exfalso
   cases R with
   | nil=>simp at hRl
   | cons q R =>
    obtain ⟨b,i⟩:=q
    obtain ⟨⟨it,h1,h2,h3⟩,h4⟩:=hgood
    have:i ∈ Region.ready .any ops listed:=(hready _ listed hsz hls i).2 ⟨by rw [hlen']; exact (List.getElem?_eq_some_iff.1 h1).1,by simp,it,h1,fun x hx=>by
     obtain ⟨g1,g2,g3⟩:=h2 x hx
     exact ⟨by omega,by simp only [List.map_cons,List.mem_cons,not_or]; exact ⟨g2,g3⟩⟩⟩
    rw [hemp] at this
    cases this
  .obtain ⟨hi1,hi2,it,hit,haft⟩:=(hready R listed hsz hls i).1 hi
   obtain ⟨o,ho,hc⟩:=hitem i it hit
   rw [List.mem_map] at hi2
   obtain ⟨⟨b,i'⟩,hmem,e⟩:=hi2
   simp only at e; subst e
   obtain ⟨L1,L2,rfl⟩:=List.append_of_mem hmem
   have hnot:=hgood.nodup
   have hanc:∀ x ∈ anc an i',x ∉ (L1++(b,i') :: L2).map (·.2):=by
    intro x hx
    obtain ⟨it',hit',j,hj,hjx⟩:=anc_spec han (by omega) hx
    rw [hit] at hit'; cases hit'
    obtain ⟨g1,g2⟩:=haft j hj
    rcases hjx with rfl | hjx
    .exact g2
    .exact hcl j g1 g2 x hjx
   obtain ⟨p1,p2,hp1,hp2,rfl⟩:=mapM'_app hpl
   simp only [mapM',hit,Option.map_some] at hp2
   split at hp2
   .rename_i y p3 hy hp3
    simp only [Option.some.injEq] at hy hp2
    subst hy hp2
    have hov:∀ p ∈ p1,p.1=true /\ p.2.apart it=true:=by
     intro p hp
     obtain ⟨q,hq,hq1,hq2⟩:=look_mem (l:=l) hp1 p hp
     rcases hgood.front q hq with hin | ⟨h1,xt,jt,h2,h3,h4⟩
     .exact (hanc _ hin (by simp only [List.map_append,List.mem_append]; exact .inl (List.mem_map_of_mem hq))).elim
     .rw [hq2] at h2; cases h2
      rw [hit] at h3; cases h3
      exact ⟨hq1 ▸ h1,h4⟩
    have hw':=drawT_bubble hov hw
    have hlook:look l (L1++L2)=some (p1++p3):=mapM'_app_of hp1 hp3
    have hrest:Goes C rc I0 m0 w0 (fun env h=>∃ T,aq C T (p1++p3) (upEq Q) env h) (wpAnyIn (fen rc) 0 C.P .any ops (CPost C rc I0 m0 w0 (upEq Q)) n (listed.setIfInBounds i' true)):=by
     intro env' h' I' m' a' w' ⟨T',hK⟩ hr' ht' hk'
     refine ih (L1++L2) (p1++p3) (by simp at hRl ⊢; omega) hlook hgood.drop _ (by simpa using hsz) ?_ ?_ T' env' h' I' m' a' w' hK hr' ht' hk'
     .intro j hj
      by_cases hji:i'=j
      .subst hji
       rw [Array.getElem?_setIfInBounds_self_of_lt (by omega)]
       simp only [true_iff]
       exact hnot
      .rw [Array.getElem?_setIfInBounds_ne hji,hls j hj]
       simp only [List.map_append,List.map_cons,List.mem_append,List.mem_cons,not_or]
       exact ⟨fun ⟨x1,_,x3⟩=>⟨x1,x3⟩,fun ⟨x1,x3⟩=>⟨x1,Ne.symm hji,x3⟩⟩
     .intro j hj hjn x hx hxm
      have hxm':x ∈ (L1++(b,i') :: L2).map (·.2):=by
       simp only [List.map_append,List.map_cons,List.mem_append,List.mem_cons] at hxm ⊢
       exact hxm.elim .inl (fun h=>.inr (.inr h))
      by_cases hji:j=i'
      .subst hji; exact hanc x hx hxm'
      .refine hcl j hj ?_ x hx hxm'
       simp only [List.map_append,List.map_cons,List.mem_append,List.mem_cons,not_or] at hjn ⊢
       exact ⟨hjn.1,hji,hjn.2⟩
    have hitw:bG C it env h (fun env h=>∃ T,aq C T (p1++p3) (upEq Q) env h) (upEq Q):=by
     cases b with
     | true =>
      rw [aq] at hw'
      split at hw'
      .rename_i d v hq
       exact quietItem_wp hq ⟨_,hw'⟩
      .obtain ⟨g1,g2,v,g3,g4⟩:=hw'
       exact stillItem_wp g1 g2 g3 ⟨_,g4⟩
     | false =>
      rw [aq] at hw'
      refine bq (fun e h he=>⟨_,he.2⟩) (fun v e h he=>?_) hw'
      intro env1; exact he env1 env1
    exact itemWp_sound ho hc hr ht hk hitw hrest
   .cases hp2
end
theorem rel_eq {G:Globs} {N S:Nat} {D:Ro} {I:Imm} {m:aQ} {env env':Env} {h:AHeap} {a:Act} {w:World} (he:EnvEq env' env) (hr:Rel G N D S I m env h a w):Rel G N D S I m env' h a w :=
 hr.weaken ⟨fun t v hv=>by rw [<- he t]; exact hv,he dslot⟩
theorem upEq_post {C:Cx} {rc:Option Nat} {I0:Imm} {m0:aQ} {w0:World} {Q:APost} {e:Exit} {a:Act} {w:World} (h:CPost C rc I0 m0 w0 (upEq Q) e a w):CPost C rc I0 m0 w0 Q e a w:=by
 obtain ⟨x,env,h,I,m,h1,h2,h3,h4,h5⟩:=h
 cases x with
 | pan v=>exact ⟨.pan v,env,h,I,m,h1 env,h2,h3,h4,h5⟩
 | _=>obtain ⟨env0,he,hq⟩:=h1; exact ⟨_,env0,h,I,m,hq,h2,rel_eq he h3,h4,h5⟩
theorem AWp.dreg {C:Cx} {pl:List (Bool × AItem)} {Q:APost} {env:Env} {h:AHeap} (hm:C.P.follows .mixedOrders=true) (hw:drawWp C pl Q env h):AWp C (.dreg pl) Q env h:=by
 intro c hc rc I0 m0 w0 I m a w ht hk hr
 cases c with
 | region id ops draw =>
  obtain ⟨l,hl,he⟩:=region_comp hc
  cases draw with
  | false=>cases he
  | true =>
   obtain ⟨pl',hpl,e⟩:=he
   cases e
   unfold planOf at hpl
   simp only at hpl
   split at hpl
   .rename_i hc'
    obtain ⟨h1,h2,h3,h4⟩:=hc'
    have hall:∀ i,i < l.length -> i ∈ bT l:=by simpa using h4
    have hgood:=good_of_plan (bT l) [] h3 (fun x hx=>by cases hx)
    have hmarks:(bX l (ancs l []) (bT l)).map (·.2)=bT l:=by
     generalize bT l=r
     induction r with
     | nil=>rfl
     | cons x r ih=>simp [bX,ih]
    have hsize:ops.size=l.length:=by simpa using (mapM'_some hl).1
    have hlen:(bX l (ancs l []) (bT l)).length=ops.size:=by
     have:=congrArg List.length hmarks
     rw [List.length_map] at this
     omega
    refine wpIn_mono (wpIn_region_any hm ?_) fun e a w=>upEq_post
    have hi:Inv C.G I m h { w with drawn:=w.drawn+1 }:={ len:=hr.inv.len,obj:=hr.inv.obj,imm:=hr.inv.imm,disj:=hr.inv.disj,immd:=hr.inv.immd,lt:=hr.inv.lt,glob:=hr.inv.glob }
    have ht':Trans C.k I0 m0 w0 I m { w with drawn:=w.drawn+1 }:={ os:=ht.os,tape:=ht.tape,output:=ht.output,size:=ht.size,cell:=ht.cell,froz:=ht.froz,blk:=ht.blk,imm:=ht.imm,own:=ht.own,immNew:=ht.immNew,loc:=ht.loc }
    have hr':Rel C.G C.N (C.ro,rc) w0.heap.size I m env h a { w with drawn:=w.drawn+1 }:=⟨hi,⟨hr.env.get,hr.env.apart⟩,hr.size,hr.defers,hr.ro⟩
    refine any_sound (an:=ancs l []) hl h2 _ pl ops.size hlen hpl hgood _ (by simp) ?_ ?_ [] env h I m a _ (drawWp_up hw) hr' ht' hk
    .intro i hi
     rw [hmarks]
     simp [hi,hall i (by omega)]
    .intro i hi hn
     rw [hmarks] at hn
     exact (hn (hall i (by omega))).elim
   .cases hpl
 | _=>simp only [aE] at hc <;> first | (simp at hc; done) | ((repeat' split at hc) <;> simp at hc; done)
end Go.Apx
end
section
namespace Go.Apx
structure FloatOk (ops:Array Oper) (f:Nat):Prop where
 op:∃ (o:Oper) (x:Operand),ops[f]?=some o /\ o.op=.move x /\ o.guard=none /\ (∀ e ∈ o.after,Region.binds .any e=true -> False) /\
  ∀ (j:Nat) (oj:Oper),ops[j]?=some oj -> j ≠ f -> (∀ e ∈ oj.after,Region.binds .any e=true -> e.on ≠ f) -> o.apart ops oj=true
section
variable {F:Fence} {n:Nat} {P:Program} {Q:Exit -> Act -> World -> Prop} {Z:Act -> World -> Prop} {ops1 ops:Array Oper}
theorem floats_any (hro:F.round=none) {fl:List Nat} (hs:SplitOk ops1 ops fl) (t:Nat) (hZ:∀ (L:Array Bool) (a:Act) (w:World),L.size=ops.size -> (∀ i,i < ops1.size -> L[i]?=some true) -> (∀ i,ops1.size <= i -> i < ops.size -> L[i]?=some false) -> Z a w -> wpAnyIn F n P .any ops Q t L a w)
  (hQ:∀ d v c a w,Q (.panic c) (a.put d v) w -> Q (.panic c) a w) (hsel:∀ (j:Nat) (o:Oper) cs b,ops[j]?=some o -> o.op ≠ .select cs b) (hfl:∀ f ∈ fl,FloatOk ops f /\ f < ops1.size) (hnd:fl.Nodup) :
  ∀ (rest done:List Nat) (k:Nat) (L1 L:Array Bool) (a:Act) (w:World),fl=done++rest -> ListOk ops1 ops done L1 L -> (∀ f ∈ rest,L[f]?=some false) -> unl L1=k+rest.length ->
   wpAnyIn F n P .any ops1 (onNormal Z Q) (k+rest.length) L1 a w -> wpAnyIn F n P .any ops Q (k+rest.length+t) L a w
 | [],done,k,L1,L,a,w,hd,hl,_,hu,h=>by
  have:done=fl:=by rw [hd]; simp
  subst this
  exact split_any hs t hZ k L1 L a w (by simpa using hu) hl h
 | f :: rest,done,k,L1,L,a,w,hd,hl,hf,hu,h=>by
  have hfm:f ∈ fl:=by rw [hd]; simp
  obtain ⟨⟨o,x,ho,hop,hg,haft,hap⟩,hlt⟩:=hfl f hfm
  have hLf:=hf f (by simp)
  have hr:f ∈ Region.ready .any ops L:=readyL_iff.2 ⟨hLf,o,ho,fun e he hb=>(haft e he hb).elim⟩
  have ho1:ops1[f]?=some o:=by rw [<- hs.pre f hlt]; exact ho
  have hr1:f ∈ Region.ready .any ops1 L1:=readyL_iff.2 ⟨by rw [<- hl.ag f hlt]; exact hLf,o,ho1,fun e he hb=>(haft e he hb).elim⟩
  have hrun:∀ (a:Act) (w:World),(execOp a.eval o).run P w=.ok (.value (a.eval x)) w:=fun a w=>by simp [execOp,hop]
  have hab:∀ (a:Act) (w:World),o.about P w a.eval=none:=fun a w=>by simp [Oper.about,hop]
  have hput:wpAnyIn F n P .any ops1 (onNormal Z Q) (k+rest.length) (L1.setIfInBounds f true) (a.put o.dst (a.eval x)) w:=by
   rw [List.length_cons,<- Nat.add_assoc] at h
   have h2:=h.2 f hr1
   unfold wpOpIn at h2
   simp only [ho1] at h2
   rw [if_pos (wanted_plain hg)] at h2
   have h3:=h2.2
   rw [hro,Oper.semAt_none,hrun] at h3
   exact h3
  rw [List.length_cons,show k+(rest.length+1)+t=(k+rest.length+t)+1 by omega]
  refine wpAnyIn_first (v:=a.eval x) hro ho hsel (fun c a w=>hQ _ _ c a w) (k+rest.length+t) L a w (fun j oj hj hne _ hn=>hap j oj hj hne hn) hr ⟨.inl ⟨wanted_plain hg,fun w=>hrun a w⟩,fun w=>hab a w⟩ ?_
  have hset:=hl.set hlt ho (fun e he hb=>(haft e he hb).elim)
  have hLs:f < L.size:=(Array.getElem?_eq_some_iff.1 hLf).1
  refine floats_any hro hs t hZ hQ hsel hfl hnd rest (done++[f]) k _ _ _ w (by rw [hd]; simp) ⟨hset.s1,hset.s,hset.ag,hset.tl,hset.cl,fun g hg2 hgl=>?_⟩ (fun g hg2=>?_) ?_ hput
  .rcases List.mem_append.1 hg2 with hg2 | hg2
   .exact hset.fl g hg2 hgl
   .simp at hg2; subst hg2
    rw [Array.getElem?_setIfInBounds_self_of_lt hLs]
  .have hne:f ≠ g:=by
    rintro rfl
    rw [hd,List.nodup_append] at hnd
    exact (List.nodup_cons.1 hnd.2.1).1 hg2
   rw [Array.getElem?_setIfInBounds_ne hne]
   exact hf g (by simp [hg2])
  .have:=unl_set (L:=L1) (i:=f) (by rw [<- hl.ag f hlt]; exact hLf)
   rw [List.length_cons] at hu
   omega
structure RowL (ops:Array Oper) (i:Nat) (L:Array Bool):Prop where
 s:L.size=ops.size
 lt:∀ j,j < i -> L[j]?=some true
 ge:∀ j,i <= j -> j < ops.size -> L[j]?=some false
theorem row_step {n1 i t:Nat} {L:Array Bool} {a:Act} {w:World} (lo:∀ (i:Nat) (o:Oper),ops[i]?=some o -> ∀ e ∈ o.after,Region.binds .any e=true -> e.on < i) (ch:∀ (i:Nat) (o:Oper),n1 < i -> ops[i]?=some o -> ∃ e ∈ o.after,Region.binds .any e=true /\ e.on+1=i)
  (h:RowL ops i L) (hi:i < ops.size) (hn:n1 <= i) (hw:RowL ops (i+1) (L.setIfInBounds i true) -> wpOpIn F n P ops Q i (wpAnyIn F n P .any ops Q t (L.setIfInBounds i true)) a w):wpAnyIn F n P .any ops Q (t+1) L a w:=by
 have hLi:i < L.size:=by rw [h.s]; exact hi
 have hrow:RowL ops (i+1) (L.setIfInBounds i true):=by
  refine ⟨by simp [h.s],fun j hj=>?_,fun j hj hj2=>?_⟩
  .by_cases e:i=j
   .subst e; rw [Array.getElem?_setIfInBounds_self_of_lt hLi]
   .rw [Array.getElem?_setIfInBounds_ne e]; exact h.lt j (by omega)
  .rw [Array.getElem?_setIfInBounds_ne (by omega)]; exact h.ge j (by omega) hj2
 obtain ⟨o,ho⟩:∃ o,ops[i]?=some o:=⟨ops[i],by simp [hi]⟩
 have hr:i ∈ Region.ready .any ops L:=readyL_iff.2 ⟨h.ge i (Nat.le_refl _) hi,o,ho,fun e he hb=>h.lt _ (lo i o ho e he hb)⟩
 refine ⟨fun he=>by rw [he] at hr; (cases hr),fun j hj=>?_⟩
 obtain ⟨hjf,oj,hoj,hjr⟩:=readyL_iff.1 hj
 have hjl:=(Array.getElem?_eq_some_iff.1 hoj).1
 have hji:j=i:=by
  apply Classical.byContradiction
  intro hne
  rcases Nat.lt_or_gt_of_ne hne with h1 | h1
  .rw [h.lt j h1] at hjf; cases hjf
  .obtain ⟨e,he,hb,heq⟩:=ch j oj (by omega) hoj
   have h3:=hjr e he hb
   rw [h.ge e.on (by omega) (by omega)] at h3
   cases h3
 subst hji
 exact hw hrow
theorem row_end {L:Array Bool} {a:Act} {w:World} (h:RowL ops ops.size L) (hq:Q .normal a w):wpAnyIn F n P .any ops Q 0 L a w:=by
 refine ⟨?_,hq⟩
 apply List.eq_nil_iff_forall_not_mem.2
 intro i hi
 obtain ⟨hf,o,ho,_⟩:=readyL_iff.1 hi
 rw [h.lt i (Array.getElem?_eq_some_iff.1 ho).1] at hf
 cases hf
end
def setsWp (C:Cx):List ESet -> APost -> Env -> AHeap -> Prop
 | [],Q,env,h=>Q .normal env h
 | x :: r,Q,env,h=>env.get x.e=none /\ env.get x.s=none /\ (match aA C.G env h (.mapUpd x.ks x.m x.k x.v) with
  | some (_,h')=>setsWp C r Q env h'
  | none=>False)
structure SetAt (P:Program) (N:Nat) (ops:Array Oper) (i:Nat) (x:ESet):Prop where
 at':∃ (o1 o2 o3:Oper) (t kt el:TypeId) (mx kx vx:Operand) (zv:Value),ops[i]?=some o1 /\ ops[i+1]?=some o2 /\ ops[i+2]?=some o3 /\ o1.guard=none /\ o2.guard=none /\ o3.guard=none /\
  o1.op=.mapEntry t mx kx /\ o1.dst=some x.e /\ o2.op=.extract (.tmp x.e) 1 /\ o2.dst=some x.s /\ o3.op=.entryStore t mx (.tmp x.s) vx /\ o3.dst=none /\
  aF mx=some x.m /\ aF kx=some x.k /\ aF vx=some x.v /\ P.underlying t=some (.map kt el) /\ bc P kt=some x.ks /\ (∀ u:World,(zeroValue el).run P u=.ok zv u)
 le:x.e < N
 ls:x.s < N
 ne:x.e ≠ x.s
theorem EnvRel.putNone {S:Nat} {I:Imm} {m:aQ} {w:World} {env:Env} {tmps:Array Value} (h:EnvRel S I m w env tmps) {t:Nat} {x:Value} (ht:env.get t=none):EnvRel S I m w env (tmps.setIfInBounds t x):=by
 have hg:∀ u v,env.get u=some v -> (tmps.setIfInBounds t x)[u]?=tmps[u]?:=fun u v hu=>by
  rw [Array.getElem?_setIfInBounds_ne]
  rintro rfl
  rw [ht] at hu; cases hu
 exact ⟨fun u v hd hv=>by rw [hg u v hv]; exact h.get u v hd hv,fun u u' n n' B hu hu' hx hx'=>h.apart u u' n n' B hu hu' (by rw [<- hg u _ hu]; exact hx) (by rw [<- hg u' _ hu']; exact hx')⟩
theorem eval_apart {G:Globs} {env:Env} {x:Operand} {x':Opd} {v:AV} {a:Act} {d:Nat} {u:Value} (hc:aF x=some x') (he:aD G env x'=some v) (hd:env.get d=none):(a.put (some d) u).eval x=a.eval x:=by
 refine Act.eval_put fun d' hd' hx=>?_
 cases hd'
 subst hx
 simp only [aF] at hc
 split at hc
 .cases hc
  simp only [aD] at he
  rw [hd] at he; cases he
 .cases hc
section
variable {C:Cx} {rc:Option Nat} {I0:Imm} {m0:aQ} {w0:World} {ops:Array Oper} {Q:APost}
theorem sets_sound (n1:Nat) (lo:∀ (i:Nat) (o:Oper),ops[i]?=some o -> ∀ e ∈ o.after,Region.binds .any e=true -> e.on < i) (ch:∀ (i:Nat) (o:Oper),n1 < i -> ops[i]?=some o -> ∃ e ∈ o.after,Region.binds .any e=true /\ e.on+1=i) (hro:(fen rc).round=none) :
  ∀ (es:List ESet) (i:Nat),n1 <= i -> ops.size=i+3 * es.length -> (∀ (q:Nat) (x:ESet),es[q]?=some x -> SetAt C.P C.N ops (i+3 * q) x) -> ∀ (L:Array Bool) (env:Env) (h:AHeap) (I:Imm) (m:aQ) (a:Act) (w:World),RowL ops i L ->
   setsWp C es Q env h -> Rel C.G C.N (C.ro,rc) w0.heap.size I m env h a w -> Trans C.k I0 m0 w0 I m w -> C.k <= m.length -> wpAnyIn (fen rc) 0 C.P .any ops (CPost C rc I0 m0 w0 Q) (3 * es.length) L a w
 | [],i,_,hsz,_,L,env,h,I,m,a,w,hL,hw,hr,ht,hk=>by
  simp at hsz
  rw [<- hsz] at hL
  exact row_end hL ⟨.normal,env,h,I,m,hw,trivial,hr,ht,hk⟩
 | x :: es,i,hn,hsz,hat,L,env,h,I,m,a,w,hL,hw,hr,ht,hk=>by
  obtain ⟨⟨o1,o2,o3,t,kt,el,mx,kx,vx,zv,p1,p2,p3,g1,g2,g3,q1,d1,q2,d2,q3,d3,cm,ck,cv,ht1,hkt,hz⟩,le,ls,hne⟩:=hat 0 x rfl
  simp only [setsWp] at hw
  obtain ⟨e1,e2,hw⟩:=hw
  split at hw
  case h_2=>exact hw.elim
  rename_i vv h' hev
  obtain ⟨v0,st,w1,w3,r1,r3,_,hinv,htr⟩:=snd_entry ht1 hkt hz cm ck cv hr hev
  have hop:∃ mv kv vv',aD C.G env x.m=some mv /\ aD C.G env x.k=some kv /\ aD C.G env x.v=some vv':=by
   simp only [aA] at hev
   split at hev
   .rename_i ob kv vv2 hu hu' hu2; exact ⟨_,_,_,hu,hu',hu2⟩
   .cases hev
  obtain ⟨mv,kv,vv',hm1,hk1,hv1⟩:=hop
  rw [List.length_cons] at hsz
  have hsize:=hr.size
  simp only [Nat.mul_zero,Nat.add_zero] at p1 p2 p3
  rw [List.length_cons,show 3 * (es.length+1)=3 * es.length+2+1 by omega]
  refine row_step lo ch hL (by omega) hn fun hL1=>?_
  unfold wpOpIn
  simp only [p1]
  rw [if_pos (wanted_plain g1)]
  refine ⟨fun f hf=>by simp [Oper.about,q1] at hf,?_⟩
  have x1:(execOp a.eval o1).run C.P w=.ok (.value (.tuple #[v0,goInt st])) w1:=by simp [execOp,q1,r1,Result.andThen]
  rw [hro,Oper.semAt_none,x1]
  simp only [Oper.uponIn,d1]
  refine row_step lo ch hL1 (by omega) (by omega) fun hL2=>?_
  unfold wpOpIn
  simp only [p2]
  rw [if_pos (wanted_plain g2)]
  refine ⟨fun f hf=>by simp [Oper.about,q2] at hf,?_⟩
  have x2:(execOp (a.put (some x.e) (.tuple #[v0,goInt st])).eval o2).run C.P w1=.ok (.value (goInt st)) w1:=by
   have:(a.put (some x.e) (.tuple #[v0,goInt st])).eval (.tmp x.e)=.tuple #[v0,goInt st]:=by
    simp [Act.eval,Act.put,Array.getElem?_setIfInBounds_self_of_lt (show x.e < a.tmps.size by omega)]
   simp [execOp,q2,this,Instr.extract,Result.andThen]
  rw [hro,Oper.semAt_none,x2]
  simp only [Oper.uponIn,d2]
  refine row_step lo ch hL2 (by omega) (by omega) fun hL3=>?_
  unfold wpOpIn
  simp only [p3]
  rw [if_pos (wanted_plain g3)]
  refine ⟨fun f hf=>by simp [Oper.about,q3] at hf,?_⟩
  have hem:((a.put (some x.e) (.tuple #[v0,goInt st])).put (some x.s) (goInt st)).eval mx=a.eval mx:=by rw [eval_apart cm hm1 e2,eval_apart cm hm1 e1]
  have hevv:((a.put (some x.e) (.tuple #[v0,goInt st])).put (some x.s) (goInt st)).eval vx=a.eval vx:=by rw [eval_apart cv hv1 e2,eval_apart cv hv1 e1]
  have hes:((a.put (some x.e) (.tuple #[v0,goInt st])).put (some x.s) (goInt st)).eval (.tmp x.s)=goInt st:=by
   simp [Act.eval,Act.put,Array.getElem?_setIfInBounds_self_of_lt (show x.s < (a.tmps.setIfInBounds x.e (.tuple #[v0,goInt st])).size by simp; omega)]
  have x3:(execOp ((a.put (some x.e) (.tuple #[v0,goInt st])).put (some x.s) (goInt st)).eval o3).run C.P w1=.ok .skip w3:=by
   simp [execOp,q3,hem,hevv,hes,r3,Result.andThen]
  rw [hro,Oper.semAt_none,x3]
  simp only [Oper.uponIn,d3]
  have hr3:Rel C.G C.N (C.ro,rc) w0.heap.size I m env h' ((a.put (some x.e) (.tuple #[v0,goInt st])).put (some x.s) (goInt st)) w3:=by
   refine ⟨hinv,?_,by simp [Act.put,hsize],hr.defers,hr.ro⟩
   have he:=hr.env.trans (htr C.k) (.refl m)
   exact (he.putNone e1).putNone e2
  exact sets_sound n1 lo ch hro es (i+3) (by omega) (by omega) (fun q y hy=>by
   have:=hat (q+1) y (by simpa using hy)
   rw [show i+3 * (q+1)=i+3+3 * q by omega] at this
   exact this) _ env h' I m _ w3 hL3 hw hr3 (ht.trans (htr C.k)) hk
end
end Go.Apx
end
section
namespace Go.Apx
section
variable {F:Fence} {n:Nat} {P:Program} {Q Q':Exit -> Act -> World -> Prop} {ops:Array Oper}
theorem uponIn_mono2 {o:Oper} {a:Act} {K K':Act -> World -> Prop} {r:Result Next} (hK:∀ a w,K a w -> K' a w) (hQ:∀ e a w,Q e a w -> Q' e a w) (h:o.uponIn F n P a K Q r):o.uponIn F n P a K' Q' r:=by
 have hL:LetsOut Q -> LetsOut Q':=fun ⟨a,w,h⟩=>⟨a,w,hQ _ _ _ h⟩
 cases r with
 | ok x w' =>
  cases x <;> simp only [Oper.uponIn] at h ⊢ <;>
   first
    | exact hK _ _ h
    | exact ⟨h.1,CallsIn.mono h.2 (fun e w'' he=>by cases e <;> first | exact hK _ _ he | exact hQ _ _ _ he | exact hL he)⟩
    | exact ⟨h.1,RowsIn.mono h.2 (fun _ _ he=>hK _ _ he)⟩
    | exact ⟨h.1,RoundIn.mono h.2 (fun e w'' he=>by cases e <;> first | exact hK _ _ he | exact hQ _ _ _ he | exact hL he)⟩
 | halt x w'=>cases x <;> simp only [Oper.uponIn] at h ⊢ <;> first | exact hQ _ _ _ h | exact h
theorem wpAnyIn_post (hQ:∀ e a w,Q e a w -> Q' e a w):∀ (k:Nat) (L:Array Bool) (a:Act) (w:World),wpAnyIn F n P .any ops Q k L a w -> wpAnyIn F n P .any ops Q' k L a w
 | 0,L,a,w,h=>⟨h.1,hQ _ _ _ h.2⟩
 | k+1,L,a,w,h=>by
  refine ⟨fun he=>hQ _ _ _ (h.1 he),fun i hi=>?_⟩
  have h2:=h.2 i hi
  unfold wpOpIn at h2 ⊢
  split at h2
  .exact wpAnyIn_post hQ k _ a w h2
  .split at h2
   .rename_i o ho hw
    rw [if_pos hw]
    exact ⟨h2.1,uponIn_mono2 (fun a w h=>wpAnyIn_post hQ k _ a w h) hQ h2.2⟩
   .rename_i o ho hw
    rw [if_neg hw]
    exact ⟨h2.1,wpAnyIn_post hQ k _ _ w h2.2⟩
end
def rowP (C:Cx) (es:List ESet) (Q:APost):APost
 | .normal,env,h=>setsWp C es Q env h
 | e,env,h=>Q e env h
theorem setsWp_up {C:Cx} {Q:APost}:∀ {es:List ESet} {env:Env} {h:AHeap},setsWp C es Q env h -> setsWp C es (upEq Q) env h
 | [],env,h,hw=>⟨env,.refl env,hw⟩
 | x :: es,env,h,hw=>by
  simp only [setsWp] at hw ⊢
  obtain ⟨h1,h2,h3⟩:=hw
  refine ⟨h1,h2,?_⟩
  split at h3
  .exact setsWp_up h3
  .exact h3
theorem setsOf_spec {P:Program} {N:Nat}:∀ {l:List Oper} {es:List ESet},setsOf P N l=some es -> (∀ o ∈ l,o.guard=none) -> l.length=3 * es.length /\ ∀ (q:Nat) (x:ESet),es[q]?=some x ->
  (∃ (o1 o2 o3:Oper) (t kt el:TypeId) (mx kx vx:Operand) (zv:Value),l[3 * q]?=some o1 /\ l[3 * q+1]?=some o2 /\ l[3 * q+2]?=some o3 /\ o1.guard=none /\ o2.guard=none /\ o3.guard=none /\
  o1.op=.mapEntry t mx kx /\ o1.dst=some x.e /\ o2.op=.extract (.tmp x.e) 1 /\ o2.dst=some x.s /\ o3.op=.entryStore t mx (.tmp x.s) vx /\ o3.dst=none /\
  aF mx=some x.m /\ aF kx=some x.k /\ aF vx=some x.v /\ P.underlying t=some (.map kt el) /\ bc P kt=some x.ks /\ (∀ u:World,(zeroValue el).run P u=.ok zv u)) /\ x.e < N /\ x.s < N /\ x.e ≠ x.s
 | [],es,h,_=>by simp only [setsOf,Option.some.injEq] at h; subst h; simp
 | [_],es,h,_=>by simp [setsOf] at h
 | [_,_],es,h,_=>by simp [setsOf] at h
 | o1 :: o2 :: o3 :: r,es,h,hg=>by
  simp only [setsOf] at h
  split at h
  .rename_i t mt kx e e' s t' mt' s' vx q1 d1 q2 d2 q3 d3
   split at h
   .rename_i hc
    obtain ⟨rfl,rfl,rfl,rfl,c1,c2,c3⟩:=hc
    split at h
    .rename_i kt el m k v ht hm hk hv
     split at h
     .rename_i ks z hks hz
      simp only [Option.map_eq_some_iff] at h
      obtain ⟨es',hes,rfl⟩:=h
      obtain ⟨i1,i2⟩:=setsOf_spec hes (fun o ho=>hg o (by simp [ho]))
      have hzv:∃ zv,∀ u:World,(zeroValue el).run P u=.ok zv u:=by
       obtain ⟨inf,zv,hinf,hzv,_⟩:=bH (w:=default) hz
       exact ⟨zv,fun u=>by simp [zeroValue,bb hinf,hzv]⟩
      obtain ⟨zv,hzv⟩:=hzv
      refine ⟨by simp [i1]; omega,fun q x hx=>?_⟩
      cases q with
      | zero =>
       simp at hx; subst hx
       exact ⟨⟨o1,o2,o3,_,kt,el,_,kx,vx,zv,rfl,rfl,rfl,hg o1 (by simp),hg o2 (by simp),hg o3 (by simp),q1,d1,q2,d2,q3,d3,hm,hk,hv,ht,hks,hzv⟩,c1,c2,c3⟩
      | succ q =>
       have:=i2 q x (by simpa using hx)
       rw [show 3 * (q+1)=3 * q+3 by omega]
       simpa using this
     .cases h
    .cases h
   .cases h
  .cases h
theorem split_of {ops:Array Oper} {n1:Nat} (h:splitB ops n1=true):SplitOk (ops.extract 0 n1) ops (floatsOf ops n1) /\ (ops.extract 0 n1).size=n1 /\ n1 < ops.size /\ (∀ f ∈ floatsOf ops n1,FloatOk ops f /\ f < n1) /\ (∀ (j:Nat) (o:Oper) cs b,ops[j]?=some o -> o.op ≠ .select cs b):=by
 unfold splitB at h
 simp only [Bool.and_eq_true,decide_eq_true_eq,List.all_eq_true,List.mem_range] at h
 obtain ⟨⟨⟨h1,h2⟩,h3⟩,h4⟩:=h
 have hsz:(ops.extract 0 n1).size=n1:=by simp; omega
 have h2':∀ (i:Nat) (o:Oper),ops[i]?=some o -> o.guard=none /\ notSel o=true /\ (∀ e ∈ o.after,Region.binds .any e=true -> e.on < i) /\ (i <= n1 \/ ∃ e ∈ o.after,Region.binds .any e=true /\ e.on+1=i):=by
  intro i o ho
  have hi:=(Array.getElem?_eq_some_iff.1 ho).1
  have:=h2 i hi
  rw [ho] at this
  simp only [Bool.and_eq_true,Bool.or_eq_true,decide_eq_true_eq,Array.all_eq_true_iff_forall_mem,Array.any_eq_true',Option.isNone_iff_eq_none,Bool.not_eq_true',beq_iff_eq] at this
  obtain ⟨⟨⟨g1,g2⟩,g3⟩,g4⟩:=this
  refine ⟨g1,g2,fun e he hb=>?_,g4⟩
  rcases g3 e he with g | g
  .rw [hb] at g; cases g
  .exact g
 have hbt:∀ {o:Oper} {r:Nat},bindsTo o r=true -> ∃ e ∈ o.after,Region.binds .any e=true /\ e.on=r:=by
  intro o r hb
  unfold bindsTo at hb
  simpa only [Array.any_eq_true',Bool.and_eq_true,beq_iff_eq] using hb
 refine ⟨⟨by rw [hsz]; exact h1,fun i hi=>?_,fun i o ho=>(h2' i o ho).1,fun i o ho=>(h2' i o ho).2.2.1,fun i o hi ho=>?_,fun r hr hf=>?_⟩,hsz,h1,fun f hf=>?_,fun j o cs b ho hop=>?_⟩
 .rw [hsz] at hi
  rw [Array.getElem?_extract]
  simp [hi,h1]
  omega
 .rw [hsz] at hi
  rcases (h2' i o ho).2.2.2 with g | g
  .omega
  .exact g
 .rw [hsz] at hr ⊢
  have:=h3 r hr
  simp only [Bool.or_eq_true,List.contains_eq_mem,decide_eq_true_eq,List.any_eq_true,List.mem_range,Bool.and_eq_true,Bool.not_eq_true',decide_eq_false_iff_not] at this
  rcases this with (g | g) | ⟨r',g1,⟨g2,g3⟩,g4⟩
  .exact (hf g).elim
  .split at g
   .rename_i o ho; exact .inl ⟨o,ho,hbt g⟩
   .cases g
  .split at g4
   .rename_i o ho; exact .inr ⟨r',o,g2,g1,g3,ho,hbt g4⟩
   .cases g4
 .have hf0:=hf
  unfold floatsOf at hf
  simp only [List.mem_filter,List.mem_range] at hf
  obtain ⟨hlt,hfb⟩:=hf
  refine ⟨⟨?_⟩,hlt⟩
  split at hfb
  .rename_i o ho
   unfold floatB at hfb
   simp only [Bool.and_eq_true,Option.isNone_iff_eq_none,Array.all_eq_true_iff_forall_mem,Bool.not_eq_true'] at hfb
   obtain ⟨⟨f1,f2⟩,f3⟩:=hfb
   have hop:∃ x,o.op=.move x:=by
    split at f1
    .rename_i x hx; exact ⟨x,hx⟩
    .cases f1
   obtain ⟨x,hop⟩:=hop
   refine ⟨o,x,ho,hop,f2,fun e he hb=>?_,fun j oj hj hne hn=>?_⟩
   .have:=f3 e he
    rw [hb] at this; cases this
   .have:=h4 f hf0
    rw [ho] at this
    simp only [List.all_eq_true,List.mem_range] at this
    have:=this j (Array.getElem?_eq_some_iff.1 hj).1
    rw [hj] at this
    simp only [Bool.or_eq_true,beq_iff_eq] at this
    rcases this with (g | g) | g
    .exact (hne g).elim
    .obtain ⟨e,he,hb,heq⟩:=hbt g
     exact (hn e he hb heq).elim
    .exact g
  .cases hfb
 .have:=(h2' j o ho).2.1
  unfold notSel at this
  rw [hop] at this
  cases this
theorem AWp.ereg {C:Cx} {pl:List (Bool × AItem)} {es:List ESet} {Q:APost} {env:Env} {h:AHeap} (hm:C.P.follows .mixedOrders=true) (hro:C.ro=none) (hw:drawWp C pl (rowP C es Q) env h):AWp C (.ereg pl es) Q env h:=by
 intro c hc rc I0 m0 w0 I m a w ht hk hr
 have hrc:rc=none:=by
  have:=hr.ro
  rw [hro] at this
  cases rc with
  | none=>rfl
  | some x=>exact this.elim
 cases c with
 | region id ops draw =>
  simp only [aE] at hc
  split at hc
  .split at hc
   .simp only [Option.map_eq_some_iff] at hc; obtain ⟨_,_,e⟩:=hc; cases e
   .cases hc
  .split at hc
   case isFalse=>cases hc
   rename_i hdraw
   subst hdraw
   unfold eregOf at hc
   split at hc
   .cases hc
   .rename_i n1 hn1
    split at hc
    case isFalse=>cases hc
    rename_i hsp
    split at hc
    case h_2=>cases hc
    rename_i l es' hl hes
    simp only [Option.map_eq_some_iff,ACode.ereg.injEq] at hc
    obtain ⟨pl',hpl,rfl,rfl⟩:=hc
    obtain ⟨hso,hsz,hlt,hfl,hsel⟩:=split_of hsp
    obtain ⟨hsl,hsa⟩:=setsOf_spec hes (fun o ho=>by
     obtain ⟨j,hj⟩:=List.getElem?_of_mem ho
     rw [List.getElem?_drop,Array.getElem?_toList] at hj
     exact hso.gd _ o hj)
    rw [List.length_drop,Array.length_toList] at hsl
    unfold planOf at hpl
    simp only at hpl
    split at hpl
    case isFalse=>cases hpl
    rename_i hc'
    obtain ⟨h1,h2,h3,h4⟩:=hc'
    have hall:∀ i,i < l.length -> i ∈ bT l:=by simpa using h4
    have hgood:=good_of_plan (bT l) [] h3 (fun x hx=>by cases hx)
    have hmarks:(bX l (ancs l []) (bT l)).map (·.2)=bT l:=by
     generalize bT l=r
     induction r with
     | nil=>rfl
     | cons x r ih=>simp [bX,ih]
    have hsize:(ops.extract 0 n1).size=l.length:=by simpa using (mapM'_some hl).1
    have hlen:(bX l (ancs l []) (bT l)).length=n1:=by
     have:=congrArg List.length hmarks
     rw [List.length_map] at this
     omega
    refine wpIn_mono (wpIn_region_any hm ?_) fun e a w=>upEq_post
    have hi:Inv C.G I m h { w with drawn:=w.drawn+1 }:={ len:=hr.inv.len,obj:=hr.inv.obj,imm:=hr.inv.imm,disj:=hr.inv.disj,immd:=hr.inv.immd,lt:=hr.inv.lt,glob:=hr.inv.glob }
    have ht':Trans C.k I0 m0 w0 I m { w with drawn:=w.drawn+1 }:={ os:=ht.os,tape:=ht.tape,output:=ht.output,size:=ht.size,cell:=ht.cell,froz:=ht.froz,blk:=ht.blk,imm:=ht.imm,own:=ht.own,immNew:=ht.immNew,loc:=ht.loc }
    have hr':Rel C.G C.N (C.ro,rc) w0.heap.size I m env h a { w with drawn:=w.drawn+1 }:=⟨hi,⟨hr.env.get,hr.env.apart⟩,hr.size,hr.defers,hr.ro⟩
    have hA:=any_sound (ops:=ops.extract 0 n1) (an:=ancs l []) (rc:=rc) (I0:=I0) (m0:=m0) (w0:=w0) hl h2 _ pl' n1 hlen hpl hgood (Array.replicate n1 false) (by simp [hsz]) (fun i hi=>by
     rw [hmarks]
     rw [hsz] at hi
     have:i < l.length:=by omega
     simp [hi,hall i this]) (fun i hi hn=>by
     rw [hmarks] at hn
     exact (hn (hall i (by omega))).elim) [] env h I m a _ (drawWp_up hw) hr' ht' hk
    have hB:=wpAnyIn_post (Q':=onNormal (CPost C rc I0 m0 w0 (upEq (rowP C es' Q)) .normal) (CPost C rc I0 m0 w0 (upEq Q))) (fun e a w hq=>by
     cases e with
     | normal=>exact hq
     | _ =>
      obtain ⟨x,env1,h1',I1,m1,q1,q2,q3,q4,q5⟩:=hq
      refine ⟨x,env1,h1',I1,m1,?_,q2,q3,q4,q5⟩
      cases x <;> first | exact q1 | exact q2.elim) _ _ _ _ hA
    have hfle:(floatsOf ops n1).length <= n1:=by
     unfold floatsOf
     exact Nat.le_trans (List.length_filter_le _ _) (by simp)
    have hnd:(floatsOf ops n1).Nodup:=List.nodup_range.sublist List.filter_sublist
    have hF:=floats_any (F:=fen rc) (n:=0) (P:=C.P) (ops1:=ops.extract 0 n1) (ops:=ops) (Q:=CPost C rc I0 m0 w0 (upEq Q)) (Z:=CPost C rc I0 m0 w0 (upEq (rowP C es' Q)) .normal) (by rw [fen_round,hrc]) hso (3 * es'.length)
     (fun L a w s1 s2 s3 hz=>by
      obtain ⟨x,env1,h1',I1,m1,q1,q2,q3,q4,q5⟩:=hz
      cases x with
      | normal =>
       obtain ⟨env0,he0,q1⟩:=q1
       rw [hsz] at s2 s3
       exact sets_sound n1 hso.lo (fun i o hi ho=>hso.ch i o (by rw [hsz]; exact hi) ho) (by rw [fen_round,hrc]) es' n1 (Nat.le_refl _) (by omega) (fun q x hx=>by
        obtain ⟨⟨o1,o2,o3,t,kt,el,mx,kx,vx,zv,p1,p2,p3,rest⟩,r1,r2,r3⟩:=hsa q x hx
        rw [List.getElem?_drop,Array.getElem?_toList] at p1 p2 p3
        exact ⟨⟨o1,o2,o3,t,kt,el,mx,kx,vx,zv,p1,by rw [Nat.add_assoc]; exact p2,by rw [Nat.add_assoc]; exact p3,rest⟩,r1,r2,r3⟩) L env0 h1' I1 m1 a w ⟨s1,s2,s3⟩ (setsWp_up q1) (rel_eq he0 q3) q4 q5
      | _=>exact q2.elim)
     (fun d v c a w hq=>by
      obtain ⟨x,env1,h1',I1,m1,q1,q2,q3,q4,q5⟩:=hq
      cases x with
      | pan u =>
       have hput:(a.put d v).defers=a.defers:=by cases d <;> rfl
       have hps:(a.put d v).tmps.size=a.tmps.size:=by cases d <;> simp [Act.put]
       cases hd:env1.get dslot with
       | none =>
        refine ⟨.pan u,[],h1',I1,m1,q1,q2,⟨q3.inv,⟨fun t y _ hy=>by simp [Env.get] at hy,fun t t' n n' B hy _ _ _=>by simp [Env.get] at hy⟩,by rw [<- hps]; exact q3.size,?_,q3.ro⟩,q4,q5⟩
        have:=q3.defers
        rw [hd,hput] at this
        exact this
       | some y =>
        refine ⟨.pan u,Env.put [] dslot y,h1',I1,m1,q1,q2,⟨q3.inv,⟨fun t z ht hz=>?_,fun t t' n n' B hy hy' _ _=>?_⟩,by rw [<- hps]; exact q3.size,?_,q3.ro⟩,q4,q5⟩
        .rw [Env.get_put,if_neg (by exact ht)] at hz; cases hz
        .have e1:t=dslot:=by
          apply Classical.byContradiction
          intro hn; rw [Env.get_put,if_neg hn] at hy; cases hy
         have e2:t'=dslot:=by
          apply Classical.byContradiction
          intro hn; rw [Env.get_put,if_neg hn] at hy'; cases hy'
         rw [e1,e2]
        .have:=q3.defers
         rw [hd,hput] at this
         rw [Env.get_put,if_pos rfl]
         exact this
      | _=>exact q2.elim)
     hsel (fun f hf=>by rw [hsz]; exact hfl f hf) hnd (floatsOf ops n1) [] (n1 - (floatsOf ops n1).length) (Array.replicate n1 false) (Array.replicate ops.size false) a { w with drawn:=w.drawn+1 } (by simp)
     ⟨by simp [hsz],by simp,fun i hi=>by
      rw [hsz] at hi
      simp [hi,Nat.lt_trans hi hlt],fun i _ hi=>by simp [hi],fun j o hj=>by
      rw [Array.getElem?_replicate] at hj
      split at hj <;> simp at hj,fun f hf=>by cases hf⟩
     (fun f hf=>by
      have:=(hfl f hf).2
      simp [Nat.lt_trans this hlt])
     (by
      unfold unl
      rw [Array.toList_replicate,List.countP_replicate]
      simp
      omega)
     (by rw [show n1 - (floatsOf ops n1).length+(floatsOf ops n1).length=n1 by omega]; exact hB)
    rw [show n1 - (floatsOf ops n1).length+(floatsOf ops n1).length+3 * es'.length=ops.size by omega] at hF
    exact hF
 | _=>simp only [aE] at hc <;> first | (simp at hc; done) | ((repeat' split at hc) <;> simp at hc; done)
end Go.Apx
end
section
namespace Go.Apx
inductive ResA where
 | t (n:Nat)
 | cell (a:Nat) (ty:Ty)
def aL (P:Program):ResultVar -> Option ResA
 | .tmp t=>if t < dslot then some (.t t) else none
 | .cell a t=>if a < dslot then (bC P t).map (.cell a) else none
def aK (G:Globs) (env:Env) (h:AHeap):ResA -> Option AV
 | .t n=>aD G env (.t n)
 | .cell a ty=>(aA G env h (.load ty (.t a))).map (·.1)
def aN (G:Globs) (env:Env) (h:AHeap) (rs:List ResA):Option AV :=
 match mapM' (aK G env h) rs with
 | some [v]=>some v
 | some vs=>some (.tup vs)
 | none=>none
def numFrom:Nat -> List AV -> Env
 | _,[]=>[]
 | i,v :: r=>(i,v) :: numFrom (i+1) r
def initEnv (args:List AV):Env:=numFrom 0 args
theorem numFrom_get:∀ (args:List AV) (i t:Nat),(numFrom i args).get t=if i <= t then args[t - i]? else none
 | [],i,t=>by simp [numFrom,Env.get]
 | v :: r,i,t=>by
  simp only [numFrom,Env.get,numFrom_get r]
  by_cases h1:t=i
  .subst h1; simp
  .rw [if_neg h1]
   by_cases h2:i <= t
   .rw [if_pos h2,if_pos (by omega)]
    rw [show t - i=(t - (i+1))+1 by omega]
    simp
   .rw [if_neg h2,if_neg (by omega)]
inductive AMode where
 | ret
 | pan (v:AV)
 | recd (v:AV)
def AMode.settle:AMode -> AMode
 | .recd _=>.ret
 | u=>u
def ModeRel (I:Imm) (m:aQ):AMode -> FrameMode -> Prop
 | .ret,u=>u=.returning
 | .pan v,u=>∃ x,u=.panicking [{ v:=x,recovered:=false }] /\ AVRel I m v x
 | .recd v,u=>∃ x,u=.panicking [{ v:=x,recovered:=true }] /\ AVRel I m v x
theorem ModeRel.mono {I I':Imm} {m m':aQ} (hI:ImmLe I I') (hm:LocsLe m m') {md:AMode} {u:FrameMode} (h:ModeRel I m md u):ModeRel I' m' md u:=by
 cases md with
 | ret=>exact h
 | pan v=>obtain ⟨x,h1,h2⟩:=h; exact ⟨x,h1,h2.mono hI hm⟩
 | recd v=>obtain ⟨x,h1,h2⟩:=h; exact ⟨x,h1,h2.mono hI hm⟩
theorem ModeRel.settled {I:Imm} {m:aQ} {md:AMode} {u:FrameMode} (h:ModeRel I m md u):ModeRel I m md.settle (settle u):=by
 cases md with
 | ret=>subst h; rfl
 | pan v=>obtain ⟨x,rfl,h2⟩:=h; exact ⟨x,rfl,h2⟩
 | recd v=>obtain ⟨x,rfl,h2⟩:=h; rfl
theorem ModeRel.not_run {I:Imm} {m:aQ} {md:AMode} {u:FrameMode} (h:ModeRel I m md u):u ≠ .run:=by
 cases md with
 | ret=>subst h; simp
 | pan v=>obtain ⟨x,rfl,h2⟩:=h; simp
 | recd v=>obtain ⟨x,rfl,h2⟩:=h; simp
def ADefer (P:Program) (G:Globs) (f:FuncId) (args:List AV) (md:AMode) (h:AHeap) (R:AMode -> AHeap -> Prop):Prop :=
 aJ P f=true /\ ∀ (I:Imm) (m:aQ) (w:World) (vs:List Value) (u:FrameMode),Inv G I m h w -> AVRels I m args vs -> ModeRel I m md u ->
  CallsDIn Fence.wide 0 P f vs.toArray u w fun e u' w'=>(∃ x,e=.returned x) /\ ∃ md' h' I' m',R md' h' /\ ModeRel I' m' md' u' /\ Inv G I' m' h' w' /\ Trans h.length I m w I' m' w'
def Cl (h0 h:AHeap) (n:Nat):Prop:=∀ (i:Nat) (o:AObj),i < n -> h[i]?=some o -> h0[i]?=some o \/ o.inb n=true
theorem Cl.inb {G:Globs} {I:Imm} {m:aQ} {w:World} {h0 h:AHeap} {n:Nat} (hc:Cl h0 h n) (hi:Inv G I m h0 w) (hn:h0.length <= n):∀ (i:Nat) (o:AObj),i < n -> h[i]?=some o -> o.inb n=true:=by
 intro i o h1 h2
 rcases hc i o h1 h2 with h3 | h3
 .have hlt:=(List.getElem?_eq_some_iff.1 h3).1
  have hm:i < m.length:=by rw [hi.len]; exact hlt
  exact (hi.obj i o m[i] h3 (by simp [hm])).inb (by rw [hi.len]; exact hn)
 .exact h3
def endP (h0:AHeap) (R:AEnd -> AHeap -> Prop):AEnd -> AHeap -> Prop
 | .ret v,h=>R (.ret v) h \/ ∃ n,h0.length <= n /\ n <= h.length /\ v.strip.inb n=true /\ Cl h0 h n /\ R (.ret v.strip) (h.take n)
 | .pan v,h=>R (.pan v) h \/ ∃ n,h0.length <= n /\ n <= h.length /\ v.inb n=true /\ Cl h0 h n /\ R (.pan v) (h.take n)
def isQueue (h:AHeap) (o:Nat):Bool :=
 match h[o]? with
 | some .queue=>true
 | _=>false
def leaveP (P:Program) (G:Globs) (h0:AHeap) (rs:List ResA) (R:AEnd -> AHeap -> Prop) (env:Env):List AV -> AMode -> AHeap -> Prop
 | [],.ret,h=>∃ v,aN G env h rs=some v /\ endP h0 R (.ret v) h
 | [],.pan v,h=>endP h0 R (.pan v) h
 | [],.recd _,_=>False
 | .it o :: l,md,h=>isQueue h o=true /\ leaveP P G h0 rs R env l md (h.set o .dead)
 | .tup (.fn (.func f) a b :: args) :: l,md,h=>∃ R',ADefer P G f (a++args++b) md h R' /\ ∀ md' h',R' md' h' -> leaveP P G h0 rs R env l md'.settle h'
 | _ :: _,_,_=>False
def bw (P:Program) (G:Globs) (h0:AHeap) (rs:List ResA) (R:AEnd -> AHeap -> Prop):APost
 | .normal,env,h | .ret,env,h=>match deferred env with
  | some l=>leaveP P G h0 rs R env l .ret h
  | none=>False
 | .pan v,env,h=>match deferred env with
  | some l=>leaveP P G h0 rs R env l (.pan v) h
  | none=>False
 | .exit _,_,_ | .goto _,_,_=>False
theorem evalRes_run {P:Program} {G:Globs} {N S:Nat} {D:Ro} {I:Imm} {m:aQ} {env:Env} {h:AHeap} {a:Act} {w:World} {fn:Func} {rs:List ResA} {v:AV}
  (hres:mapM' (aL P) fn.results.toList=some rs) (hr:Rel G N D S I m env h a w) (hv:aN G env h rs=some v):∃ x,(results fn a.tmps).run P w=.ok x w /\ AVRel I m v x:=by
 let f:ResultVar -> Sem Value:=fun
  | .tmp t=>pure (a.tmps.getD t undef)
  | .cell ad t=>do loadVar t (<- asAddr (a.tmps.getD ad undef))
 have h1:∀ (r:ResultVar) (r':ResA) (u:AV),aL P r=some r' -> aK G env h r'=some u -> ∃ x,(f r).run P w=.ok x w /\ AVRel I m u x:=by
  intro r r' u hc hu
  cases r with
  | tmp t =>
   simp only [aL] at hc
   split at hc
   .rename_i ht
    simp at hc; subst hc
    exact ⟨_,rfl,aG (x:=.tmp t) (x':=.t t) (by simp [aF,ht]) hr hu⟩
   .cases hc
  | cell ad t =>
   simp only [aL] at hc
   split at hc
   case isFalse=>cases hc
   rename_i had
   simp only [Option.map_eq_some_iff] at hc
   obtain ⟨ty,hty,rfl⟩:=hc
   simp only [aK,Option.map_eq_some_iff] at hu
   obtain ⟨⟨u',h'⟩,he,rfl⟩:=hu
   obtain ⟨rfl,adr,y,hax,hrun,hv⟩:=load_run (x:=.tmp ad) hty (by simp [aF,had]) hr he
   have hax':a.tmps.getD ad undef=.pointer (some adr):=hax
   refine ⟨y,?_,hv⟩
   show (do loadVar t (<- asAddr (a.tmps.getD ad undef)):Sem Value).run P w=_
   rw [hax']
   simp [asAddr,hrun]
 have h2:∀ (l:List ResultVar) (rs:List ResA) (us:List AV),mapM' (aL P) l=some rs -> mapM' (aK G env h) rs=some us -> ∃ xs,(l.mapM f).run P w=.ok xs w /\ AVRels I m us xs:=by
  intro l
  induction l with
  | nil=>intro rs us h3 h4; simp [mapM'] at h3; subst h3; simp [mapM'] at h4; subst h4; exact ⟨[],by simp,.nil⟩
  | cons r l ih =>
   intro rs us h3 h4
   simp only [mapM'] at h3
   split at h3
   .rename_i r' rs' g1 g2
    simp at h3; subst h3
    simp only [mapM'] at h4
    split at h4
    .rename_i u us' g3 g4
     simp at h4; subst h4
     obtain ⟨x,hx,hxr⟩:=h1 r r' u g1 g3
     obtain ⟨xs,hxs,hxsr⟩:=ih rs' us' g2 g4
     exact ⟨x :: xs,by rw [List.mapM_cons]; simp [hx,hxs],.cons hxr hxsr⟩
    .cases h4
   .cases h3
 have h3:∃ us,mapM' (aK G env h) rs=some us:=by
  unfold aN at hv
  cases hq:mapM' (aK G env h) rs with
  | none=>simp [hq] at hv
  | some us=>exact ⟨us,rfl⟩
 obtain ⟨us,hus⟩:=h3
 obtain ⟨xs,hxs,hrel⟩:=h2 _ rs us hres hus
 have hrun:(fn.results.mapM f).run P w=.ok xs.toArray w:=by
  rw [Array.mapM_eq_mapM_toList]
  simp [hxs]
 have hres':(results fn a.tmps).run P w=.ok (if hh:xs.toArray.size=1 then xs.toArray[0] else .tuple xs.toArray) w:=by
  have:results fn a.tmps=(do
   let vs <- fn.results.mapM f
   pure (if h:vs.size=1 then vs[0] else .tuple vs)):=rfl
  rw [this]
  simp only [Sem.run_bind,hrun,Result.andThen_ok,Sem.run_pure]
 refine ⟨_,hres',?_⟩
 have hl:=hrel.1
 unfold aN at hv
 rw [hus] at hv
 rcases us with _ | ⟨u,_ | ⟨u2,us⟩⟩ <;> rcases xs with _ | ⟨x,_ | ⟨x2,xs⟩⟩ <;> simp at hl
 .simp only [Option.some.injEq] at hv; subst hv
  exact AVRel.tup [] [] hrel.1 hrel.2
 .simp only [Option.some.injEq] at hv; subst hv
  obtain ⟨y,ys,e,hy,_⟩:=AVRels.cons_iff.1 hrel
  simp at e; obtain ⟨rfl,rfl⟩:=e
  exact hy
 .simp only [Option.some.injEq] at hv; subst hv
  exact AVRel.tup (u :: u2 :: us) (x :: x2 :: xs) hrel.1 hrel.2
theorem initRel {I:Imm} {m:aQ} {w:World} {args:List AV} {vs:List Value} {N:Nat} (hr:AVRels I m args vs) (S:Nat) :
  EnvRel S I m w (initEnv args) (vs.toArray++Array.replicate (N - vs.toArray.size) undef):=by
 have hget:∀ t v,(initEnv args).get t=some v -> args[t]?=some v:=fun t v h=>by
  unfold initEnv at h; rw [numFrom_get] at h; simpa using h
 have hrel:∀ t v,(initEnv args).get t=some v -> ∃ x,(vs.toArray++Array.replicate (N - vs.toArray.size) undef)[t]?=some x /\ AVRel I m v x:=by
  intro t v h
  obtain ⟨x,hx,hv⟩:=hr.get (hget t v h)
  refine ⟨x,?_,hv⟩
  have hlt:=(List.getElem?_eq_some_iff.1 hx).1
  rw [Array.getElem?_append_left (by simpa using hlt)]
  simpa using hx
 refine ⟨fun t v _ h=>?_,fun t t' n n' B h _ _ _=>?_⟩
 .obtain ⟨x,hx,hv⟩:=hrel t v h; exact ⟨x,hx,.of_rel hv⟩
 .obtain ⟨x,hx,hv⟩:=hrel t _ h; exact hv.not_pend.elim
theorem Inv.setWhole {G:Globs} {I:Imm} {m:aQ} {h:AHeap} {w:World} {i b:Nat} {d0 d:Obj} {o':AObj} {l':Loc} (hv:Inv G I m h w) (hl:m[i]?=some (.whole b)) (hb:w.heap[b]?=some d0)
  (h0:d0.isCells=false) (hd:d.isCells=false) (hle:LocLe (.whole b) l') (hown:∀ b' p,l'.owns b' p -> b'=b)
  (hrel:ObjRel I (m.set i l') (w.putObj b d) o' l') :
  Inv G I (m.set i l') (h.set i o') (w.putObj b d) /\ (∀ k,Trans k I m w I (m.set i l') (w.putObj b d)) /\ LocsLe m (m.set i l'):=by
 have him:i < m.length:=(List.getElem?_eq_some_iff.1 hl).1
 have hlt:b < w.heap.size:=hv.lt i _ b 0 hl rfl
 have hheap:∀ b',b' ≠ b -> (w.putObj b d).heap[b']?=w.heap[b']?:=fun b' hne=>World.putObj_heap_other hne
 have hcell:∀ b' o,b' ≠ b -> (w.putObj b d).cell? ⟨b',o,none⟩=w.cell? ⟨b',o,none⟩:=fun b' o hne=>World.cell?_of_block (hheap b' hne)
 have hsame:(w.putObj b d).heap[b]?=some d:=World.putObj_heap_same hlt
 have nofz:∀ (o:Obj) (w:World) (a:Addr),o.isCells=false -> w.heap[a.block]?=some o -> w.frozen? a=false:=fun o w a hc ha=>by
  unfold World.frozen?
  rw [ha]
  cases o <;> first | rfl | (simp [Obj.isCells] at hc)
 have hfroz:∀ a:Addr,(w.putObj b d).frozen? a=w.frozen? a:=by
  intro a
  by_cases hne:a.block=b
  .rw [nofz d _ a hd (by rw [hne]; exact hsame),nofz d0 _ a h0 (by rw [hne]; exact hb)]
  .exact World.frozen?_of_block (hheap _ hne)
 have hno:∀ o,w.cell? ⟨b,o,none⟩=none:=fun o=>by
  unfold World.cell?
  simp only [hb]
  cases d0 <;> first | rfl | (simp [Obj.isCells] at h0)
 have himm:∀ b' o x,I b' o=some x -> b' ≠ b:=by
  rintro b' o x hx rfl
  have:=hv.imm b' o x hx
  rw [hno] at this; cases this
 have hget:∀ j,(m.set i l')[j]?=if i=j then some l' else m[j]?:=fun j=>by
  rw [List.getElem?_set]
  by_cases e:i=j
  .subst e; simp [him]
  .simp [e]
 have hlocs:LocsLe m (m.set i l'):=fun j l hj=>by
  rw [hget]
  by_cases e:i=j
  .subst e; rw [if_pos rfl]; rw [hl] at hj; cases hj; exact ⟨l',rfl,hle⟩
  .rw [if_neg e]; exact ⟨l,hj,.refl l⟩
 have hback:∀ (j:Nat) (l:Loc) (b' p:Nat),(m.set i l')[j]?=some l -> l.owns b' p -> ∃ l2:Loc,m[j]?=some l2 /\ l2.owns b' p:=fun j l b' p hj hp=>by
  rw [hget] at hj
  split at hj
  .rename_i e; subst e
   simp at hj; subst hj
   exact ⟨_,hl,by have:=hown b' p hp; exact this⟩
  .exact ⟨l,hj,hp⟩
 refine ⟨?_,fun k=>?_,hlocs⟩
 .exact
  {len:=by simp [hv.len]
   obj:=fun j o l hj hlj=>by
    rw [hget] at hlj
    rw [List.getElem?_set] at hj
    by_cases e:i=j
    .subst e
     rw [if_pos rfl] at hlj hj
     split at hj
     .simp at hj hlj; subst hj hlj; exact hrel
     .cases hj
    .rw [if_neg e] at hlj hj
     have hnb:∀ b' p,l.owns b' p -> b' ≠ b:=by
      rintro b' p hp rfl
      exact e (hv.disj j i l _ b' p hlj hl hp rfl).symm
     exact (hv.obj j o l hj hlj).mono (.refl I) hlocs (fun b' p hp=>⟨hcell b' p (hnb b' p hp),hfroz _⟩)
      (fun b' e=>hheap b' (hnb b' 0 (by subst e; exact rfl)))
   imm:=fun b' o x hx=>by rw [hcell b' o (himm b' o x hx)]; exact hv.imm b' o x hx
   disj:=fun j j' l l1 b' p h1 h2 h3 h4=>by
    obtain ⟨l2,g1,g2⟩:=hback j l b' p h1 h3
    obtain ⟨l3,g3,g4⟩:=hback j' l1 b' p h2 h4
    exact hv.disj j j' l2 l3 b' p g1 g3 g2 g4
   immd:=fun j l b' p h1 h2=>by
    obtain ⟨l2,g1,g2⟩:=hback j l b' p h1 h2
    exact hv.immd j l2 b' p g1 g2
   lt:=fun j l b' p h1 h2=>by
    obtain ⟨l2,g1,g2⟩:=hback j l b' p h1 h2
    rw [World.putObj_size]; exact hv.lt j l2 b' p g1 g2
   glob:=hv.glob }
 .exact
  {os:=rfl,tape:=rfl,output:=rfl,size:=by simp
   cell:=fun b' o hb' hn=>hcell b' o fun e=>hn i _ hl (by subst e; exact rfl)
   froz:=fun a ha=>hfroz a
   blk:=fun b' hb' hn=>hheap b' fun e=>hn i _ 0 hl (by subst e; exact rfl)
   imm:=.refl I
   own:=fun j l b' o h1 h2 _=>⟨j,hback j l b' o h1 h2⟩
   immNew:=fun b' o hb' hx=>.inl hx
   loc:=fun j l _ hj=>hlocs j l hj }
def EndPost (G:Globs) (k:Nat) (I0:Imm) (m0:aQ) (w0:World) (R:AEnd -> AHeap -> Prop) (e:Ending) (w:World):Prop :=
 ∃ r h I m,R r h /\ EndRel I m r e /\ Inv G I m h w /\ Trans k I0 m0 w0 I m w
theorem endP_post {G:Globs} {k:Nat} {I0 I:Imm} {m0 m:aQ} {w0 w:World} {R:AEnd -> AHeap -> Prop} {r:AEnd} {h h0:AHeap} {e:Ending} (h00:Inv G I0 m0 h0 w0) (hk0:k=h0.length) (hp:endP h0 R r h) (hE:EndRel I m r e) (hi:Inv G I m h w) (ht:Trans k I0 m0 w0 I m w) :
  EndPost G k I0 m0 w0 R e w:=by
 cases r with
 | ret v =>
  cases e with
  | returned x =>
   have hx:AVRel I m v x:=hE
   subst hk0
   rcases hp with hR | ⟨n,n1,n2,n3,n4,hR⟩
   .exact ⟨.ret v,h,I,m,hR,hx,hi,ht⟩
   .refine ⟨.ret v.strip,h.take n,I,m.take n,hR,?_,hi.take n (n4.inb h00 n1) n2,ht.take n1⟩
    exact hx.strip.cut (n:=n) (by simp; have:=hi.len; omega) (fun j hj=>by rw [List.getElem?_take,if_pos hj]) n3
  | panicked ch=>exact hE.elim
  | outgrown=>exact hE.elim
 | pan v =>
  cases e with
  | returned x=>exact hE.elim
  | panicked ch =>
   obtain ⟨x,rfl,hx⟩:=hE
   subst hk0
   rcases hp with hR | ⟨n,n1,n2,n3,n4,hR⟩
   .exact ⟨.pan v,h,I,m,hR,⟨x,rfl,hx⟩,hi,ht⟩
   .exact ⟨.pan v,h.take n,I,m.take n,hR,⟨x,rfl,hx.cut (n:=n) (by simp; have:=hi.len; omega) (fun j hj=>by rw [List.getElem?_take,if_pos hj]) n3⟩,hi.take n (n4.inb h00 n1) n2,ht.take n1⟩
  | outgrown=>exact hE.elim
theorem enter_run {P:Program} {w:World} {f:FuncId} {vs:Array Value} (hb:aJ P f=true):(callFunc f vs).run P w=.ok (.enter f vs) w:=by
 have hbody:∃ fn,P.funcs[f]?=some fn /\ fn.body.isNone=false /\ (fn.name == "runtime.NumGoroutine")=false:=by
  unfold aJ at hb
  split at hb
  .rename_i fn hfn
   simp at hb
   refine ⟨fn,hfn,?_,by simpa using hb.2⟩
   cases hbd:fn.body <;> simp_all
  .cases hb
 obtain ⟨fn,hfn,hb,hnm⟩:=hbody
 simp only [callFunc,Sem.run_bind,run_program,Result.andThen_ok,hfn,hnm,hb]
 simp
theorem leaves_sound {P:Program} {G:Globs} {N S k:Nat} {D:Ro} {fn:Func} {rs:List ResA} {R:AEnd -> AHeap -> Prop} {env:Env} {I0:Imm} {m0:aQ} {w0:World} {a:Act} {h0:AHeap} (h00:Inv G I0 m0 h0 w0) (hk0:k=h0.length)
  (hres:mapM' (aL P) fn.results.toList=some rs):∀ (l:List AV) (ds:List Deferred) (md:AMode) (u:FrameMode) (h:AHeap) (I:Imm) (m:aQ) (w:World),leaveP P G h0 rs R env l md h ->
  l.length=ds.length -> (∀ (i:Nat) (e:AV) (d:Deferred),l[i]?=some e -> ds[i]?=some d -> DRel I m e d) -> ModeRel I m md u -> Rel G N D S I m env h a w -> Trans k I0 m0 w0 I m w -> k <= m.length ->
  LeavesInM Fence.wide 0 P fn a.tmps (EndPost G k I0 m0 w0 R) ds u w
 | [],ds,md,u,h,I,m,w,hl,hlen,hd,hmd,hr,ht,hk=>by
  have:ds=[]:=List.eq_nil_of_length_eq_zero (by simpa using hlen.symm)
  subst this
  cases md with
  | ret =>
   subst hmd
   obtain ⟨v,hv,hp⟩:=hl
   obtain ⟨x,hx,hxr⟩:=evalRes_run hres hr hv
   exact ⟨x,hx,endP_post h00 hk0 hp hxr hr.inv ht⟩
  | pan v =>
   obtain ⟨x,rfl,hx⟩:=hmd
   exact endP_post (r:=.pan v) h00 hk0 hl ⟨x,rfl,hx⟩ hr.inv ht
  | recd v=>exact hl.elim
 | e :: l,ds,md,u,h,I,m,w,hl,hlen,hd,hmd,hr,ht,hk=>by
  cases ds with
  | nil=>simp at hlen
  | cons d ds =>
   have hlen':l.length=ds.length:=by simpa using hlen
   have hd0:DRel I m e d:=hd 0 e d rfl rfl
   have hd':∀ (i:Nat) (e:AV) (d:Deferred),l[i]?=some e -> ds[i]?=some d -> DRel I m e d:=fun i e d h1 h2=>hd (i+1) e d (by simpa using h1) (by simpa using h2)
   refine ⟨hmd.not_run,?_⟩
   cases e with
   | it o =>
    rw [leaveP] at hl
    obtain ⟨hq,hl⟩:=hl
    obtain ⟨r,rfl,ho,hro⟩:=hd0
    left
    unfold isQueue at hq
    split at hq
    .rename_i hob
     obtain ⟨b,e1,hb⟩:=hr.inv.obj o _ m[o] hob (by simp [ho])
     have hmo:m[o]?=some (.whole b):=by rw [<- e1]; simp [ho]
     have:=hro b hmo
     subst this
     obtain ⟨hi',ht',hm'⟩:=hr.inv.setWhole (o':=.dead) (l':=.dead) (d:=.deferred none) hmo hb rfl rfl (.dead _) (fun b' p hp=>hp.elim) rfl
     refine ⟨r,_,rfl,run_takeDeferred hb,?_⟩
     refine leaves_sound h00 hk0 hres l ds md u _ I _ _ hl hlen' (fun i e d h1 h2=>(hd' i e d h1 h2).mono (.refl I) hm') (hmd.mono (.refl I) hm') ⟨hi',hr.env.trans (ht' k) hm',hr.size,hr.defers.mono (.refl I) hm',hr.ro.mono hm'⟩ (ht.trans (ht' k)) (by simpa using hk)
    .cases hq
   | tup vs =>
    cases vs with
    | nil=>simp [leaveP] at hl
    | cons v args =>
     cases v with
     | fn f fa fb =>
      cases f with
      | func f =>
       rw [leaveP] at hl
       obtain ⟨R',⟨hb,hcall⟩,hl⟩:=hl
       obtain ⟨fs,cs,as,h1,h2,h3,rfl⟩:=hd0
       right
       refine ⟨fun h=>(by cases h),.func f,cs.toArray,f,(fs++as++cs).toArray,rfl,?_,fun _ _=>trivial,?_⟩
       .simp only [invoke]
        have:=enter_run (w:=w) (vs:=(fs++as++cs).toArray) hb
        simpa using this
       .have:=hcall I m w (fs++as++cs) u hr.inv ((h1.append h3).append h2) hmd
        refine CallsDIn.mono this fun e u' w' ⟨⟨x,hx⟩,md2,h2,I2,m2,hR,hmd2,hi2,ht2⟩=>?_
        subst hx
        have hm2:=ht2.locs hr.inv.len
        have ht2':Trans k I m w I2 m2 w':=ht2.mono (by rw [<- hr.inv.len]; exact hk)
        exact leaves_sound h00 hk0 hres l ds _ _ h2 I2 m2 w' (hl md2 h2 hR) hlen' (fun i e d h1 h2=>(hd' i e d h1 h2).mono ht2'.imm hm2) hmd2.settled ⟨hi2,hr.env.trans ht2' hm2,hr.size,hr.defers.mono ht2'.imm hm2,hr.ro.mono hm2⟩ (ht.trans ht2') (ht2'.len hk)
      | _=>simp [leaveP] at hl
     | _=>simp [leaveP] at hl
   | _=>simp [leaveP] at hl
theorem deferred_rel {env:Env} {l:List AV} {I:Imm} {m:aQ} {ds:List Deferred} (h:deferred env=some l) (hd:DefRel I m (env.get dslot) ds):l.length=ds.length /\ ∀ (i:Nat) (e:AV) (d:Deferred),l[i]?=some e -> ds[i]?=some d -> DRel I m e d:=by
 unfold deferred at h
 split at h
 .rename_i hg
  rw [hg] at hd
  have hd:ds=[]:=hd
  simp at h; subst h hd
  exact ⟨rfl,fun i e d h1=>by simp at h1⟩
 .rename_i l' hg
  rw [hg] at hd
  simp at h; subst h
  exact hd
 .cases h
theorem aC {P:Program} {G:Globs} {f:FuncId} {fn:Func} {ann:List Nat} {ac:ACode} {rs:List ResA} {args:List AV} {h:AHeap} {R:AEnd -> AHeap -> Prop}
  (hf:P.funcs[f]?=some fn) (hb:aJ P f=true) (hc:fn.body.bind (aE P ann fn.ntmps)=some ac) (hres:mapM' (aL P) fn.results.toList=some rs) (hargs:args.length <= fn.ntmps) (hds:args.length <= dslot)
  (hw:AWp ⟨P,G,fn.ntmps,ann,h.length,none⟩ ac (bw P G h rs R) (initEnv args) h):ACalls P G f args h R:=by
 refine ⟨hb,fun I m w vs hi ha=>?_⟩
 simp only [Option.bind_eq_some_iff] at hc
 obtain ⟨c,hbody,hc⟩:=hc
 have hlen:vs.length=args.length:=ha.1.symm
 have hnd:(initEnv args).get dslot=none:=by
  unfold initEnv
  rw [numFrom_get]
  simp [hds]
 have hr:Rel G fn.ntmps (none,none) w.heap.size I m (initEnv args) h { tmps:=vs.toArray++Array.replicate (fn.ntmps - vs.toArray.size) undef,defers:=[] } w :=
  ⟨hi,initRel ha w.heap.size,by simp; omega,by rw [hnd]; rfl,trivial⟩
 refine callsIn_wide.1 (callsIn_of_wp_marks (n:=0) hf hbody trivial (wpIn_mono (hw c hc none I m w I m _ w (.refl h.length I m w) (by rw [hi.len]; exact Nat.le_refl _) hr) fun e a' w' ⟨x,env,h',I',m',h1,h2,h3,h4,h5⟩=>?_))
 have fin:∀ md u,(match deferred env with | some l=>leaveP P G h rs R env l md h' | none=>False) -> ModeRel I' m' md u -> LeavesInM Fence.wide 0 P fn a'.tmps (EndPost G h.length I m w R) a'.defers u w':=by
  intro md u hp hmd
  split at hp
  .rename_i l hl
   obtain ⟨g1,g2⟩:=deferred_rel hl h3.defers
   exact leaves_sound hi rfl hres l a'.defers md u h' I' m' w' hp g1 g2 hmd h3 h4 h5
  .exact hp.elim
 cases x with
 | normal=>cases e <;> simp only [bB] at h2; exact fin .ret _ h1 rfl
 | ret=>cases e <;> simp only [bB] at h2; exact fin .ret _ h1 rfl
 | pan v =>
  cases e <;> simp only [bB] at h2
  obtain ⟨x,rfl,hx⟩:=h2
  exact fin (.pan v) _ h1 ⟨x,rfl,hx⟩
 | exit id=>exact h1.elim
 | goto l=>exact h1.elim
def bN:ACode -> Bool
 | .seq a b=>bN a || bN b
 | .label _=>true
 | _=>false
def bD (C:Cx):ACode -> APost -> Env -> AHeap -> Prop
 | .skip,Q,env,h=>Q .normal env h
 | .reg l,Q,env,h=>opsWp C l Q env h
 | .dreg l,Q,env,h=>drawWp C l Q env h
 | .ereg l es,Q,env,h=>C.ro=none /\ drawWp C l (rowP C es Q) env h
 | .seq a b,Q,env,h=>bD C a (thenP (fun env h=>bD C b Q env h) Q) env h
 | .cond c a b,Q,env,h=>∃ t,aD C.G env c=some (.sc (.bool t)) /\ (t=true -> bD C a Q env h) /\ (t=false -> bD C b Q env h)
 | .block id a,Q,env,h=>bD C a (blockP id Q) env h
 | .scope a,Q,env,h=>if bN a=true then AWp C (.scope a) Q env h else bD C a (noGotoP Q) env h
 | .loop a,Q,env,h=>AWp C (.loop a) Q env h
 | .rangeF g ps a b,Q,env,h=>AWp C (.rangeF g ps a b) Q env h
 | .exit id,Q,env,h=>Q (.exit id) env h
 | .ret,Q,env,h=>Q .ret env h
 | .label l,Q,env,h=>Q .normal env h
 | .goto l,Q,env,h=>Q (.goto l) env h
theorem aB {C:Cx} (hm:C.P.follows .mixedOrders=true):∀ {ac:ACode} {Q:APost} {env:Env} {h:AHeap},bD C ac Q env h -> AWp C ac Q env h
 | .skip,Q,env,h,hw=>.skip hw
 | .reg l,Q,env,h,hw=>.reg hw
 | .dreg l,Q,env,h,hw=>.dreg hm hw
 | .ereg l es,Q,env,h,hw=>.ereg hm hw.1 hw.2
 | .seq a b,Q,env,h,hw=>.seq ((aB hm (ac:=a) hw).mono fun e env h he=>by
   cases e with
   | normal=>exact aB hm (ac:=b) he
   | _=>exact he)
 | .cond c a b,Q,env,h,⟨t,h1,h2,h3⟩=>.cond h1 (fun ht=>aB hm (h2 ht)) (fun hf=>aB hm (h3 hf))
 | .block id a,Q,env,h,hw=>.block (aB hm (ac:=a) hw)
 | .scope a,Q,env,h,hw=>by
  simp only [bD] at hw
  split at hw
  .exact hw
  .exact .scope (aB hm (ac:=a) hw)
 | .loop a,Q,env,h,hw=>hw
 | .rangeF g ps a b,Q,env,h,hw=>hw
 | .exit id,Q,env,h,hw=>.exit hw
 | .ret,Q,env,h,hw=>.ret hw
 | .label l,Q,env,h,hw=>.label hw
 | .goto l,Q,env,h,hw=>.goto hw
end Go.Apx
end
section
namespace Go.Apx
def noPend (env:Env):Bool:=env.all fun p=>match p.2 with | .pend _=>false | _=>true
theorem noPend_get {env:Env} (h:noPend env=true) {t:Nat} {v:AV} (hv:env.get t=some v):∀ n,v ≠ .pend n:=by
 intro n e
 subst e
 unfold noPend at h
 rw [List.all_eq_true] at h
 have:=h _ (Env.get_mem hv)
 simp at this
def rangeEnd (Q:APost) (env:Env) (ol:Nat):AEnd -> AHeap -> Prop
 | .pan v,h=>Q (.pan v) env h
 | .ret _,h=>match h[ol]? with
  | some (.loop _ _ st pd)=>st ≠ .busy /\ (match pd with
   | none=>Q .normal env (h.set ol .dead)
   | some .ret=>Q .ret env (h.set ol .dead)
   | some (.exit id)=>Q (.exit id) env (h.set ol .dead)
   | _=>False)
  | _=>False
def XOk (C:Cx) (ps:List Nat) (a b:ACode) (X:LoopX):Prop :=
 X.params.toList=ps /\ aE C.P C.ann C.N X.assign=some a /\ aE C.P C.ann C.N X.body=some b /\ X.tmps.size=C.N /\ ps.all (fun t=>decide (t < C.N) && decide (t < dslot))=true
theorem get_del_dslot {env:Env} {t:Nat} {v:AV} (h:(env.del dslot).get t=some v):env.get t=some v /\ t ≠ dslot:=by
 rw [Env.get_del] at h
 split at h
 .cases h
 .rename_i e; exact ⟨h,e⟩
theorem loop_env {G:Globs} {N S:Nat} {D:Ro} {I:Imm} {m:aQ} {env:Env} {h:AHeap} {a:Act} {w:World} (hr:Rel G N D S I m env h a w) (hp:noPend env=true) :
  ∀ t v,t ≠ dslot -> (env.del dslot).get t=some v -> ∃ y,a.tmps[t]?=some y /\ AVRel I m v y:=by
 intro t v ht hv
 obtain ⟨hv,_⟩:=get_del_dslot hv
 obtain ⟨x,hx,hs⟩:=hr.env.get t v ht hv
 refine ⟨x,hx,?_⟩
 cases v with
 | pend n=>exact absurd rfl (noPend_get hp hv n)
 | _=>exact hs
theorem ObjRel.loopNew {I:Imm} {m:aQ} {w:World} {env:Env} {b:Nat} {r:Loop} (hb:w.heap[b]?=some (.loop r)) (henv:∀ t v,t ≠ dslot -> env.get t=some v -> ∃ y,r.tmps[t]?=some y /\ AVRel I m v y) :
  ObjRel I m w (.loop env ⟨r.fn,r.tmps,r.params,r.assign,r.body⟩ r.state r.pending) (.whole b):=⟨b,r.defers,rfl,hb,henv⟩
theorem rangeEnd_sound {C:Cx} {rc:Option Nat} {I0:Imm} {m0:aQ} {w0:World} {Q:APost} {env:Env} {ol l:Nat} {r:AEnd} {h:AHeap} {I:Imm} {m:aQ} {a:Act} {w:World} {e:Ending}
  (hp:rangeEnd Q env ol r h) (hE:EndRel I m r e) (hr:Rel C.G C.N (C.ro,rc) w0.heap.size I m env h a w) (ht:Trans C.k I0 m0 w0 I m w) (hk:C.k <= m.length) (hl:ol < m.length /\ ∀ b,m[ol]?=some (.whole b) -> l=b) :
  rangePost (fen rc) 0 C.P l (CPost C rc I0 m0 w0 Q) a e w:=by
 cases r with
 | pan v =>
  cases e with
  | panicked ch=>exact ⟨.pan v,env,h,I,m,hp,hE,hr,ht,hk⟩
  | returned x=>exact hE.elim
  | outgrown=>exact hE.elim
 | ret v =>
  cases e with
  | panicked ch=>exact hE.elim
  | outgrown=>exact hE.elim
  | returned x =>
   simp only [rangeEnd] at hp
   split at hp
   .rename_i en X st pd hob
    obtain ⟨hst,hp⟩:=hp
    obtain ⟨b,d,e1,hb,henv⟩:=hr.inv.obj ol _ m[ol] hob (by simp [hl.1])
    have hml:m[ol]?=some (.whole b):=by rw [<- e1]; simp [hl.1]
    have:=hl.2 b hml
    subst this
    obtain ⟨hi',ht',hm'⟩:=hr.inv.setWhole (o':=.dead) (l':=.dead) (d:=.loop { state:=.exhausted,pending:=pd,fn:=X.fn,tmps:=X.tmps,params:=X.params,assign:=X.assign,body:=X.body,defers:=d })
     hml hb rfl rfl (.dead _) (fun b' p hp=>hp.elim) rfl
    have hr':Rel C.G C.N (C.ro,rc) w0.heap.size I (m.set ol .dead) env (h.set ol .dead) a (w.putObj l (.loop { state:=.exhausted,pending:=pd,fn:=X.fn,tmps:=X.tmps,params:=X.params,assign:=X.assign,body:=X.body,defers:=d })) :=
     ⟨hi',hr.env.trans (ht' C.k) hm',hr.size,hr.defers.mono (.refl I) hm',hr.ro.mono hm'⟩
    refine ⟨pd,_,run_endLoop hb hst,?_⟩
    have hk':C.k <= (m.set ol .dead).length:=by simpa using hk
    cases pd with
    | none=>exact ⟨.normal,env,_,I,_,hp,trivial,hr',ht.trans (ht' C.k),hk'⟩
    | some c =>
     cases c with
     | ret=>exact wpIn_ret ⟨.ret,env,_,I,_,hp,trivial,hr',ht.trans (ht' C.k),hk'⟩
     | exit id=>exact wpIn_exit ⟨.exit id,env,_,I,_,hp,rfl,hr',ht.trans (ht' C.k),hk'⟩
     | _=>exact hp.elim
   .exact hp.elim
theorem rangeF_comp {P:Program} {ann:List Nat} {N:Nat} {g:Opd} {ps:List Nat} {a b:ACode} {c:Code} (hc:aE P ann N c=some (.rangeF g ps a b)) :
  ∃ g0 p0 a0 b0,c=.rangeFunc g0 p0 a0 b0 /\ aF g0=some g /\ p0.toList=ps /\ aE P ann N a0=some a /\ aE P ann N b0=some b /\ ps.all (fun t=>decide (t < N) && decide (t < dslot))=true:=by
 cases c with
 | rangeFunc g0 p0 a0 b0 =>
  simp only [aE] at hc
  split at hc
  .rename_i g1 a1 b1 h1 h2 h3
   split at hc
   .rename_i hall
    simp only [Option.some.injEq,ACode.rangeF.injEq] at hc
    obtain ⟨rfl,rfl,rfl,rfl⟩:=hc
    exact ⟨g0,p0,a0,b0,rfl,h1,rfl,h2,h3,hall⟩
   .cases hc
  .cases hc
 | region id ops draw=>exact (bu hc (by rintro _ e; cases e) (by rintro _ e; cases e)).elim
 | _=>simp only [aE] at hc <;> first | (simp at hc; done) | ((repeat' split at hc) <;> simp at hc; done)
theorem AWp.rangeF {C:Cx} {g:Opd} {ps:List Nat} {x y:ACode} {Q:APost} {env:Env} {h:AHeap} {gf:FuncId} {fa fb dl:List AV} (hro:C.ro=none)
  (hg:aD C.G env g=some (.fn (.func gf) fa fb)) (hp:noPend env=true) (hdl:deferred env=some dl)
  (hw:∀ X,XOk C ps x y X -> ∃ R,ACalls C.P C.G gf (fa++[.yld (h.length+1)]++fb) (h++[.queue]++[.loop (env.del dslot) X .ready none]) R /\
   ∀ r h',R r h' -> rangeEnd Q (env.put dslot (.tup (.it h.length :: dl))) (h.length+1) r h'):AWp C (.rangeF g ps x y) Q env h:=by
 intro c hc rc I0 m0 w0 I m a w ht hk hr
 have hrc:rc=none:=by
  have:=hr.ro
  rw [hro] at this
  cases rc with
  | none=>rfl
  | some l=>exact this.elim
 subst hrc
 obtain ⟨g0,p0,a0,b0,rfl,hg0,hps,ha0,hb0,hall⟩:=rangeF_comp hc
 refine wpIn_rangeFunc ?_
 intro fn _
 have hgr:=aG hg0 hr hg
 generalize hgv:a.eval g0=gv at hgr
 cases hgr with
 | fn _ _ _ fs cs hl hl' hfr hcr =>
  obtain ⟨R,⟨hbody,hcall⟩,hpost⟩:=hw ⟨fn,a.tmps,p0,a0,b0⟩ ⟨hps,ha0,hb0,hr.size,hall⟩
  obtain ⟨i1,t1,l1⟩:=hr.inv.allocNew (.deferred (some [])) [] (.whole w.heap.size) .queue (fun i x hx=>by simp at hx) (fun b o hp=>⟨hp,by simp⟩) ⟨w.heap.size,rfl,heap_alloc_new⟩
  have hsz:(w.alloc (.deferred (some []))).heap.size=w.heap.size+1:=by simp
  have hle1:ImmLe I (I.row w.heap.size []):=Imm.row_le hr.inv.imm_new
  have hle2:ImmLe (I.row w.heap.size []) ((I.row w.heap.size []).row (w.alloc (.deferred (some []))).heap.size []):=Imm.row_le i1.imm_new
  obtain ⟨i2,t2,l2⟩:=i1.allocNew (.loop { state:=.ready,pending:=none,fn,tmps:=a.tmps,params:=p0,assign:=a0,body:=b0,defers:=w.heap.size }) [] (.whole (w.alloc (.deferred (some []))).heap.size)
   (.loop (env.del dslot) ⟨fn,a.tmps,p0,a0,b0⟩ .ready none) (fun i x hx=>by simp at hx) (fun b o hp=>⟨hp,by simp⟩)
   (ObjRel.loopNew heap_alloc_new fun t v ht hv=>by
    obtain ⟨y,hy,hyr⟩:=loop_env hr hp t v ht hv
    exact ⟨y,hy,hyr.mono (hle1.trans hle2) (l1.trans (.append _ _))⟩)
  generalize hW2:((w.alloc (.deferred (some []))).alloc (.loop { state:=.ready,pending:=none,fn,tmps:=a.tmps,params:=p0,assign:=a0,body:=b0,defers:=w.heap.size }))=W2 at i2 t2
  have hml:m.length=h.length:=hr.inv.len
  have tall:Trans m.length I m w _ _ _:=t1.trans (t2.mono (by simp))
  have lall:=l1.trans l2
  have hrel2:Rel C.G C.N (C.ro,none) w0.heap.size _ _ env _ a _:=⟨i2,hr.env.trans tall lall,hr.size,hr.defers.mono tall.imm lall,hr.ro.mono lall⟩
  have hlen2:(m++[Loc.whole w.heap.size]++[Loc.whole (w.alloc (.deferred (some []))).heap.size]).length=m.length+2:=by simp
  have hq:(m++[Loc.whole w.heap.size]++[Loc.whole (w.alloc (.deferred (some []))).heap.size])[m.length]?=some (.whole w.heap.size):=by
   rw [List.getElem?_append_left (by simp)]; simp
  have hlp:(m++[Loc.whole w.heap.size]++[Loc.whole (w.alloc (.deferred (some []))).heap.size])[m.length+1]?=some (.whole (w.heap.size+1)):=by
   rw [List.getElem?_append_right (by simp)]; simp
  have hargs:AVRels ((I.row w.heap.size []).row (w.alloc (.deferred (some []))).heap.size []) (m++[Loc.whole w.heap.size]++[Loc.whole (w.alloc (.deferred (some []))).heap.size]) (fa++[.yld (h.length+1)]++fb)
    (fs++[Value.func (.yield (w.heap.size+1)) #[] #[]]++cs):=by
   refine ((AVRels.mono tall.imm lall ⟨hl,hfr⟩).append (.cons (.yld _ _ (by rw [hlen2]; omega) fun b hb=>?_) .nil)).append (AVRels.mono tall.imm lall ⟨hl',hcr⟩)
   rw [<- hml,hlp] at hb
   simpa using hb
  refine ⟨w.heap.size+1,[{ target:=.collected w.heap.size,args:=#[] }],W2,{ target:=.fn (.func gf) cs.toArray,args:=fs.toArray++#[.func (.yield (w.heap.size+1)) #[] #[]] },W2,gf,
   (fs++[Value.func (.yield (w.heap.size+1)) #[] #[]]++cs).toArray,W2,by rw [<- hW2]; exact run_enterLoop_outer _ _ _ _ _,?_,fun _ _=>trivial,?_,fun h=>(by cases h),?_⟩
  .simp only [resolve,hgv]
   simp [go_sem,Deferred.ofValue,Act.eval]
  .clear hW2
   have:=enter_run (w:=W2) (vs:=(fs++[Value.func (.yield (w.heap.size+1)) #[] #[]]++cs).toArray) hbody
   simpa [invoke] using this
  .refine callsIn_wide.2 ((hcall _ _ _ _ i2 hargs).mono fun e w3 ⟨r,h3,I3,m3,hR,hE,hi3,ht3⟩=>?_)
   have hlocs:=ht3.locs i2.len
   have ht3':Trans C.k _ _ _ I3 m3 w3:=ht3.mono (by simp; omega)
   have hk2:C.k <= (m++[Loc.whole w.heap.size]++[Loc.whole (w.alloc (.deferred (some []))).heap.size]).length:=by rw [hlen2]; omega
   refine rangeEnd_sound (ol:=h.length+1) (hpost r h3 hR) hE ?_ ((ht.trans (tall.mono hk)).trans ht3') (ht3'.len hk2) ?_
   .have hr3:=hr.env.trans (tall.trans (ht3.mono (by simp; omega))) (lall.trans hlocs)
    refine ⟨hi3,⟨fun t v hnd hv=>?_,fun t t' n1 n2 B' g1 g2 g3 g4=>?_⟩,hr.size,?_,by rw [hro]; trivial⟩
    .rw [Env.get_put,if_neg hnd] at hv
     exact hr3.get t v hnd hv
    .rw [Env.get_put] at g1 g2
     split at g1
     .simp at g1
     .split at g2
      .simp at g2
      .exact hr3.apart t t' n1 n2 B' g1 g2 g3 g4
    .rw [Env.get_put,if_pos rfl]
     obtain ⟨d1,d2⟩:=deferred_rel hdl (hr.defers.mono (tall.imm.trans ht3.imm) (lall.trans hlocs))
     refine ⟨by simp [d1],fun i e d he hd=>?_⟩
     cases i with
     | zero =>
      have e1:=Option.some.inj he
      have e2:=Option.some.inj hd
      subst e1 e2
      refine ⟨w.heap.size,rfl,?_,fun b hb=>?_⟩
      .rw [<- hml]; exact hlocs.lt (by rw [hlen2]; omega)
      .have:=hlocs.whole (o:=h.length) (by rw [hlen2]; omega) hb
       rw [<- hml,hq] at this
       simpa using this
     | succ i=>exact d2 i e d (by simpa using he) (by simpa using hd)
   .refine ⟨hlocs.lt (by rw [hlen2]; omega),fun b hb=>?_⟩
    have:=hlocs.whole (o:=h.length+1) (by rw [hlen2]; omega) hb
    rw [<- hml,hlp] at this
    simpa using this
theorem AWp.rangeFIn {C:Cx} {g:Opd} {ps:List Nat} {x y:ACode} {Q:APost} {env:Env} {h:AHeap} {gf:FuncId} {fa fb:List AV} {o0:Nat} (hro:C.ro=some o0) (hl0:isLoop h o0=true)
  (hg:aD C.G env g=some (.fn (.func gf) fa fb)) (hp:noPend env=true)
  (hw:∀ X,XOk C ps x y X -> ∃ R,ACalls C.P C.G gf (fa++[.yld h.length]++fb) (h++[.loop (env.del dslot) X .ready none]) R /\
   ∀ r h',R r h' -> rangeEnd Q env h.length r h'):AWp C (.rangeF g ps x y) Q env h:=by
 intro c hc rc I0 m0 w0 I m a w ht hk hr
 obtain ⟨l0,hrc,ho0,hl0'⟩:∃ l0,rc=some l0 /\ o0 < m.length /\ ∀ b,m[o0]?=some (.whole b) -> l0=b:=by
  have:=hr.ro
  rw [hro] at this
  cases rc with
  | none=>exact this.elim
  | some l=>exact ⟨l,rfl,this⟩
 subst hrc
 obtain ⟨r0,hr0⟩:∃ r0,w.heap[l0]?=some (.loop r0):=by
  unfold isLoop at hl0
  split at hl0
  .rename_i env1 x1 st1 pd1 hob1
   obtain ⟨b,d,e,hb,_⟩:=hr.inv.obj o0 _ m[o0] hob1 (by simp [ho0])
   have e2:m[o0]?=some (.whole b):=by rw [<- e]; simp [ho0]
   rw [hl0' b e2]
   exact ⟨_,hb⟩
  .cases hl0
 obtain ⟨g0,p0,a0,b0,rfl,hg0,hps,ha0,hb0,hall⟩:=rangeF_comp hc
 refine wpIn_rangeFunc ?_
 intro fn _
 have hgr:=aG hg0 hr hg
 generalize hgv:a.eval g0=gv at hgr
 cases hgr with
 | fn _ _ _ fs cs hl hl' hfr hcr =>
  obtain ⟨R,⟨hbody,hcall⟩,hpost⟩:=hw ⟨fn,a.tmps,p0,a0,b0⟩ ⟨hps,ha0,hb0,hr.size,hall⟩
  obtain ⟨i2,t2,l2⟩:=hr.inv.allocNew (.loop { state:=.ready,pending:=none,fn,tmps:=a.tmps,params:=p0,assign:=a0,body:=b0,defers:=r0.defers }) [] (.whole w.heap.size)
   (.loop (env.del dslot) ⟨fn,a.tmps,p0,a0,b0⟩ .ready none) (fun i x hx=>by simp at hx) (fun b o hp=>⟨hp,by simp⟩)
   (ObjRel.loopNew heap_alloc_new fun t v ht hv=>by
    obtain ⟨y,hy,hyr⟩:=loop_env hr hp t v ht hv
    exact ⟨y,hy,hyr.mono (Imm.row_le hr.inv.imm_new) (.append _ _)⟩)
  generalize hW2:(w.alloc (.loop { state:=.ready,pending:=none,fn,tmps:=a.tmps,params:=p0,assign:=a0,body:=b0,defers:=r0.defers }))=W2 at i2 t2
  have hml:m.length=h.length:=hr.inv.len
  have hlen2:(m++[Loc.whole w.heap.size]).length=m.length+1:=by simp
  have hlp:(m++[Loc.whole w.heap.size])[m.length]?=some (.whole w.heap.size):=by simp
  have hargs:AVRels (I.row w.heap.size []) (m++[Loc.whole w.heap.size]) (fa++[.yld h.length]++fb) (fs++[Value.func (.yield w.heap.size) #[] #[]]++cs):=by
   refine ((AVRels.mono t2.imm l2 ⟨hl,hfr⟩).append (.cons (.yld _ _ (by rw [hlen2]; omega) fun b hb=>?_) .nil)).append (AVRels.mono t2.imm l2 ⟨hl',hcr⟩)
   rw [<- hml,hlp] at hb
   simpa using hb
  refine ⟨w.heap.size,[],W2,{ target:=.fn (.func gf) cs.toArray,args:=fs.toArray++#[.func (.yield w.heap.size) #[] #[]] },W2,gf,
   (fs++[Value.func (.yield w.heap.size) #[] #[]]++cs).toArray,W2,by rw [<- hW2]; exact run_enterLoop_inner hr0 _ _ _ _ _,?_,fun _ _=>trivial,?_,fun h=>(by cases h),?_⟩
  .simp only [resolve,hgv]
   simp [go_sem,Deferred.ofValue,Act.eval]
  .clear hW2
   have:=enter_run (w:=W2) (vs:=(fs++[Value.func (.yield w.heap.size) #[] #[]]++cs).toArray) hbody
   simpa [invoke] using this
  .have hcc:Calls C.P gf (fs++[Value.func (.yield w.heap.size) #[] #[]]++cs).toArray W2 (rangePost (fen (some l0)) 0 C.P w.heap.size (CPost C (some l0) I0 m0 w0 Q) a):=by
    refine (hcall _ _ _ _ i2 hargs).mono fun e w3 ⟨r,h3,I3,m3,hR,hE,hi3,ht3⟩=>?_
    have hlocs:=ht3.locs i2.len
    have ht3':Trans C.k _ _ _ I3 m3 w3:=ht3.mono (by simp; omega)
    have hk2:C.k <= (m++[Loc.whole w.heap.size]).length:=by rw [hlen2]; omega
    have ttot:Trans m.length I m w I3 m3 w3:=t2.trans (ht3.mono (by simp; omega))
    refine rangeEnd_sound (ol:=h.length) (hpost r h3 hR) hE ⟨hi3,hr.env.trans ttot (l2.trans hlocs),hr.size,hr.defers.mono ttot.imm (l2.trans hlocs),hr.ro.mono (l2.trans hlocs)⟩
     (ht.trans (ttot.mono hk)) (ht3'.len hk2) ⟨hlocs.lt (by rw [hlen2]; omega),fun b hb=>?_⟩
    have:=hlocs.whole (o:=h.length) (by rw [hlen2]; omega) hb
    rw [<- hml,hlp] at this
    simpa using this
   exact callsIn_of hcc
def putAll:Env -> List Nat -> List AV -> Env
 | env,t :: ts,v :: vs=>putAll (env.put t v) ts vs
 | env,_,_=>env
def foldT (tmps:Array Value) (ps:List Nat) (vs:List Value):Array Value:=(ps.zip vs).foldl (fun t (p:Nat × Value)=>t.setIfInBounds p.1 p.2) tmps
theorem putAll_rel {S N:Nat} {I:Imm} {m:aQ} {w:World}:∀ (ps:List Nat) (args:List AV) (vs:List Value) (env:Env) (tmps:Array Value),EnvRel S I m w env tmps -> AVRels I m args vs -> tmps.size=N ->
  (∀ t ∈ ps,t < N /\ t ≠ dslot) -> env.get dslot=none -> EnvRel S I m w (putAll env ps args) (foldT tmps ps vs) /\ (foldT tmps ps vs).size=N /\ (putAll env ps args).get dslot=none
 | [],args,vs,env,tmps,h,_,hs,_,hd=>by cases args <;> exact ⟨h,hs,hd⟩
 | t :: ps,[],vs,env,tmps,h,ha,hs,_,hd=>by obtain rfl:=AVRels.nil_iff.1 ha; exact ⟨h,hs,hd⟩
 | t :: ps,v :: args,vs,env,tmps,h,ha,hs,hps,hd=>by
  obtain ⟨x,xs,rfl,hx,hxs⟩:=AVRels.cons_iff.1 ha
  obtain ⟨h1,h2⟩:=hps t (by simp)
  exact putAll_rel ps args xs (env.put t v) (tmps.setIfInBounds t x) (h.put hx (by rw [hs]; exact h1)) hxs (by simpa using hs) (fun t ht=>hps t (by simp [ht]))
   (by rw [Env.get_put,if_neg (Ne.symm h2)]; exact hd)
def roundP (o:Nat) (R:AEnd -> AHeap -> Prop):APost
 | .normal,_,h=>match h[o]? with
  | some (.loop en X _ _)=>R (.ret (.sc (.bool true))) (h.set o (.loop en X .ready none))
  | _=>False
 | .ret,_,h=>match h[o]? with
  | some (.loop en X _ _)=>R (.ret (.sc (.bool false))) (h.set o (.loop en X .done (some .ret)))
  | _=>False
 | .exit id,_,h=>match h[o]? with
  | some (.loop en X _ _)=>R (.ret (.sc (.bool false))) (h.set o (.loop en X .done (some (.exit id))))
  | _=>False
 | .pan _,_,_ | .goto _,_,_=>False
def beginP (o:Nat) (K:Env -> AHeap -> Prop):APost
 | .normal,env,h=>match h[o]? with
  | some (.loop en X st pd)=>st=.ready /\ K env (h.set o (.loop en X .busy pd))
  | _=>False
 | _,_,_=>False
theorem ayields_of_code {C:Cx} {o:Nat} {env:Env} {X:LoopX} {st:LoopState} {pd:Option Code} {ps:List Nat} {x y:ACode} {args:List AV} {h:AHeap} {R:AEnd -> AHeap -> Prop}
  (hob:h[o]?=some (.loop env X st pd)) (hX:XOk C ps x y X) (hlen:args.length=ps.length) (hd:env.get dslot=none) (hro:C.ro=some o) (hk:C.k=h.length)
  (hw:AWp C x (beginP o fun env2 h2=>AWp C y (roundP o R) env2 h2) (putAll env ps args) h):AYields C.P C.G o args h R:=by
 intro I m w vs l hi ha hl
 obtain ⟨hps,hx,hy,hsize,hall⟩:=hX
 obtain ⟨b,d,e1,hb,henv⟩:=hi.obj o _ _ hob hl
 cases e1
 have hvs:vs.toArray.size=X.params.size:=by
  have h1:=ha.1
  have h2:X.params.size=ps.length:=by rw [<- hps]; simp
  simp; omega
 refine ⟨_,_,_,_,run_yield hb hvs,roundIn_of_wpIn trivial ?_⟩
 have hfold:(X.params.zip vs.toArray).foldl (fun tmps (t,a)=>tmps.setIfInBounds t a) X.tmps=foldT X.tmps ps vs:=by
  unfold foldT
  rw [<- hps,<- Array.foldl_toList,Array.toList_zip]
 have hps':∀ t ∈ ps,t < C.N /\ t ≠ dslot:=fun t ht=>by
  rw [List.all_eq_true] at hall
  have:=hall t ht
  simp only [Bool.and_eq_true,decide_eq_true_eq] at this
  exact ⟨this.1,Nat.ne_of_lt this.2⟩
 have hE:EnvRel w.heap.size I m w env X.tmps:=by
  refine ⟨fun t v ht hv=>?_,fun t t' n n' B g1 g2 g3 g4=>?_⟩
  .obtain ⟨z,hz,hzr⟩:=henv t v ht hv
   exact ⟨z,hz,.of_rel hzr⟩
  .by_cases ht:t=dslot
   .subst ht; rw [hd] at g1; cases g1
   .obtain ⟨z,hz,hzr⟩:=henv t _ ht g1
    exact hzr.not_pend.elim
 obtain ⟨p1,p2,p3⟩:=putAll_rel (N:=C.N) ps args vs env X.tmps hE ha hsize hps' hd
 have hr:Rel C.G C.N (C.ro,some l) w.heap.size I m (putAll env ps args) h { tmps:=foldT X.tmps ps vs,defers:=[] } w :=
  ⟨hi,p1,p2,by rw [p3]; rfl,by rw [hro]; exact ⟨(List.getElem?_eq_some_iff.1 hl).1,fun b hb=>by rw [hl] at hb; cases hb; rfl⟩⟩
 have hkm:C.k <= m.length:=by rw [hk,hi.len]; exact Nat.le_refl _
 simp only
 rw [hfold]
 refine wpIn_mono (hw X.assign hx (some l) I m w I m _ w (.refl C.k I m w) hkm hr) fun e a2 w2 ⟨ex,env2,h2,I2,m2,q1,q2,q3,q4,q5⟩=>?_
 cases ex with
 | normal =>
  cases e <;> simp only [bB] at q2
  simp only [beginP] at q1
  split at q1
  .rename_i en2 X2 st2 pd2 hob2
   obtain ⟨rfl,q1⟩:=q1
   have ho2:o < m2.length:=by rw [q3.inv.len]; exact (List.getElem?_eq_some_iff.1 hob2).1
   obtain ⟨b2,d2,e2,hb2,henv2⟩:=q3.inv.obj o _ m2[o] hob2 (by simp [ho2])
   have hm2:m2[o]?=some (.whole b2):=by rw [<- e2]; simp [ho2]
   have hro2:=q3.ro
   rw [hro] at hro2
   have:=hro2.2 b2 hm2
   subst this
   obtain ⟨i3,t3,l3⟩:=q3.inv.setWhole (o':=.loop en2 X2 .busy pd2) (l':=.whole l) (d:=.loop { state:=.busy,pending:=pd2,fn:=X2.fn,tmps:=X2.tmps,params:=X2.params,assign:=X2.assign,body:=X2.body,defers:=d2 })
    hm2 hb2 rfl rfl (.refl _) (fun b' p hp=>hp) ⟨l,d2,rfl,World.putObj_heap_same (q3.inv.lt o _ l 0 hm2 rfl),fun t v ht hv=>by
     obtain ⟨z,hz,hzr⟩:=henv2 t v ht hv
     refine ⟨z,hz,hzr.mono (.refl _) ?_⟩
     intro j lj hj
     rw [List.getElem?_set]
     by_cases e:o=j
     .subst e; rw [hm2] at hj; cases hj; exact ⟨_,by simp [ho2],.refl _⟩
     .exact ⟨lj,by rw [if_neg e]; exact hj,.refl _⟩⟩
   refine ⟨_,run_beginRound hb2 rfl,?_⟩
   refine wpIn_mono (q1 X.body hy (some l) I m w I2 _ a2 _ (q4.trans (t3 C.k)) (by simpa using q5) ⟨i3,q3.env.trans (t3 C.k) l3,q3.size,q3.defers.mono (.refl _) l3,q3.ro.mono l3⟩) fun e4 a4 w4 ⟨ex4,env4,h4,I4,m4,r1,r2,r3,r4,r5⟩=>?_
   have fin:∀ (jump:Option Code) (v:AV) (hv:v=.sc (.bool jump.isNone)) (hp:match h4[o]? with | some (.loop en X _ _)=>R (.ret v) (h4.set o (.loop en X (if jump.isNone then .ready else .done) jump)) | _=>False),
     ∃ z w',(Instr.endRound l jump).run C.P w4=.ok z w' /\ ∃ r h' I' m',R r h' /\ EndRel I' m' r (.returned z) /\ Inv C.G I' m' h' w' /\ Trans h.length I m w I' m' w':=by
    intro jump v hv hp
    subst hv
    split at hp
    .rename_i en4 X4 st4 pd4 hob4
     have ho4:o < m4.length:=by rw [r3.inv.len]; exact (List.getElem?_eq_some_iff.1 hob4).1
     obtain ⟨b4,d4,e4,hb4,henv4⟩:=r3.inv.obj o _ m4[o] hob4 (by simp [ho4])
     have hm4:m4[o]?=some (.whole b4):=by rw [<- e4]; simp [ho4]
     have hro4:=r3.ro
     rw [hro] at hro4
     have:=hro4.2 b4 hm4
     subst this
     obtain ⟨i5,t5,l5⟩:=r3.inv.setWhole (o':=.loop en4 X4 (if jump.isNone then .ready else .done) jump) (l':=.whole l)
      (d:=.loop { state:=if jump.isNone then .ready else .done,pending:=jump,fn:=X4.fn,tmps:=X4.tmps,params:=X4.params,assign:=X4.assign,body:=X4.body,defers:=d4 })
      hm4 hb4 rfl rfl (.refl _) (fun b' p hp=>hp) ⟨l,d4,rfl,World.putObj_heap_same (r3.inv.lt o _ l 0 hm4 rfl),fun t v ht hv=>by
       obtain ⟨z,hz,hzr⟩:=henv4 t v ht hv
       refine ⟨z,hz,hzr.mono (.refl _) ?_⟩
       intro j lj hj
       rw [List.getElem?_set]
       by_cases e:o=j
       .subst e; rw [hm4] at hj; cases hj; exact ⟨_,by simp [ho4],.refl _⟩
       .exact ⟨lj,by rw [if_neg e]; exact hj,.refl _⟩⟩
     refine ⟨_,_,run_endRound jump hb4,_,_,_,_,hp,.sc _,i5,?_⟩
     rw [<- hk]
     exact r4.trans (t5 C.k)
    .exact hp.elim
   cases ex4 with
   | normal=>cases e4 <;> simp only [bB] at r2; exact fin none _ rfl r1
   | ret=>cases e4 <;> simp only [bB] at r2; exact fin (some .ret) _ rfl r1
   | exit id=>cases e4 <;> simp only [bB] at r2; subst r2; exact fin (some (.exit id)) _ rfl r1
   | pan v=>exact r1.elim
   | goto l=>exact r1.elim
  .exact q1.elim
 | exit id=>exact q1.elim
 | ret=>exact q1.elim
 | pan v=>exact q1.elim
 | goto l=>exact q1.elim
end Go.Apx
end
section
namespace Go.Apx
section
variable {C:Cx} {I0:Imm} {m0:aQ} {w0:World} {ops:Array Oper}
end
def v64 (b:BitVec 64):Value:=.int .u64 (b.toNat:Int)
end Go.Apx
end
