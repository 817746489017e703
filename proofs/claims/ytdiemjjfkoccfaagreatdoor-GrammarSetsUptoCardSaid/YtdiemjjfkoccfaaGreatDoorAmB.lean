/- ABSTRACT MACHINE, part 13: slice expressions; all operations together. -/
import Derived.Test.YtdiemjjfkoccfaaGreatDoorAmA
import Derived.Scope
import Derived.OrdersIn
import Derived.RangeFuncLeaves
import Derived.RangeFuncSeq
import Derived.Recover
import Derived.Maps.RangeRun
import Derived.ScopeJumps
set_option linter.unusedVariables false
set_option linter.unusedSimpArgs false
set_option linter.unnecessarySimpa false
section
namespace Go.Apx
def OptOpd (lo:Option Operand) (lo':Option Opd):Prop:=(lo=none /\ lo'=none) \/ ∃ y y',lo=some y /\ lo'=some y' /\ aF y=some y'
theorem RCapRel.ite2 {m:aQ} {o g off len k:Nat} {a:Addr} {cap:Nat} {p q:Prop} [Decidable p] [Decidable q] (h1:p -> RCapRel m o g off len a cap (.own k)) (h:q -> cap=len):RCapRel m o g off len a cap (if p then .own k else if q then .full else .any):=by
 split
 .rename_i hp; exact h1 hp
 .split
  .rename_i hq; exact h hq
  .trivial
theorem RCapRel.ite {m:aQ} {o g off len:Nat} {a:Addr} {cap:Nat} {p:Prop} [Decidable p] (h:p -> cap=len):RCapRel m o g off len a cap (if p then .full else .any):=by
 split
 .exact h (by assumption)
 .trivial
theorem optOpd_of {lo:Option Operand} {lo':Option Opd} (h:optC lo=some lo'):OptOpd lo lo':=by
 cases lo with
 | none=>simp [optC] at h; exact .inl ⟨rfl,h.symm⟩
 | some y =>
  simp only [optC,Option.map_eq_some_iff] at h
  obtain ⟨y',hy,rfl⟩:=h
  exact .inr ⟨y,y',rfl,rfl,hy⟩
section
variable {P:Program} {G:Globs} {N S k:Nat} {D:Ro} {o:Oper} {a:Act} {I:Imm} {m:aQ} {w:World} {env:Env} {h:AHeap} {ann:List Nat}
theorem af {lo:Option Operand} {lo':Option Opd} {d l:Nat} (hlo:OptOpd lo lo') (hr:Rel G N D S I m env h a w) (hn:bt d (lo'.map (aD G env))=some l) :
  (lo.map a.eval=none /\ l=d) \/ ∃ q z,lo.map a.eval=some (.int q z) /\ 0 <= z /\ z.toNat=l:=by
 rcases hlo with ⟨rfl,rfl⟩ | ⟨y,y',rfl,rfl,hy⟩
 .simp [bt] at hn; exact .inl ⟨rfl,hn.symm⟩
 .simp only [Option.map_some,bt] at hn
  split at hn
  .rename_i hh; cases hh
  .rename_i v hv
   simp at hv
   obtain ⟨q,z,rfl,hz,hzn⟩:=asNat_int hn
   exact .inr ⟨q,z,by simp [ae (aG hy hr hv)],hz,hzn⟩
  .cases hn
theorem ah {q:IntKind} {z:Int} {y:Nat} {code:BoundsCode} (h0:0 <= z) (h1:z.toNat <= y):(Instr.sliceBound (.int q z) y code).run P w=.ok z.toNat w:=by
 have:0 <= z /\ z <= (y:Int):=⟨h0,by omega⟩
 simp [Instr.sliceBound,asIntOf,this]
theorem run_sliceBounds {isSl:Bool} {len cap l r:Nat} {lo hi:Option Value} (hl:(lo=none /\ l=0) \/ ∃ q z,lo=some (.int q z) /\ 0 <= z /\ z.toNat=l)
  (hh:(hi=none /\ r=len) \/ ∃ q z,hi=some (.int q z) /\ 0 <= z /\ z.toNat=r) (hlr:l <= r) (hrc:r <= cap):(Instr.sliceBounds isSl len cap lo hi none).run P w=.ok (l,r,cap) w:=by
 rcases hh with ⟨rfl,rfl⟩ | ⟨q,z,rfl,hz,rfl⟩ <;> rcases hl with ⟨rfl,rfl⟩ | ⟨q',z',rfl,hz',rfl⟩
 .simp [Instr.sliceBounds]
 .simp [Instr.sliceBounds,ah hz' hlr]
 .simp [Instr.sliceBounds,ah hz hrc]
 .simp [Instr.sliceBounds,ah hz hrc,ah hz' hlr]
theorem run_sliceBounds3 {len cap l r:Nat} {lo:Option Value} {q q':IntKind} {z z':Int} (hl:(lo=none /\ l=0) \/ ∃ q z,lo=some (.int q z) /\ 0 <= z /\ z.toNat=l)
  (hz:0 <= z) (hzr:z.toNat=r) (hz':0 <= z') (hzm:z'.toNat=r) (hlr:l <= r) (hrc:r <= cap) :
  (Instr.sliceBounds true len cap lo (some (.int q z)) (some (.int q' z'))).run P w=.ok (l,r,r) w:=by
 subst hzr
 rcases hl with ⟨rfl,rfl⟩ | ⟨q2,z2,rfl,hz2,rfl⟩
 .simp [Instr.sliceBounds,ah hz' (show z'.toNat <= cap by omega),hzm,ah hz (Nat.le_refl _)]
 .simp [Instr.sliceBounds,ah hz' (show z'.toNat <= cap by omega),hzm,ah hz (Nat.le_refl _),ah hz2 hlr]
theorem cut_rel {q:Nat} {es:List AV} {ad:Addr} {vs:List Value} {l r cap':Nat} {c':Cap} {ad':Addr} (hq:0 < q) (hw:∀ e ∈ es,e.cells.length=q) (h1:∀ c ∈ es.flatMap AV.cells,c.one=true)
  (hrel:AVRels I m (es.flatMap AV.cells) vs) (hI:Lies I ad.block ad.off vs) (hs:es ≠ [] -> ad.spot=none) (hlr:l <= r) (hre:r <= es.length)
  (had:l < r -> ad'=ad.add (l * q)) (hc':c' ≠ .nil) (hcap:r - l <= cap') (hcr:CapRel m ad' (r - l) q cap' c') :
  AVRel I m (.sl q (cut es l (r - l)) c') (.slice (some ad') (r - l) cap'):=by
 have hlen:(cut es l (r - l)).length=r - l:=by simp [cut]; omega
 have hflat:(cut es l (r - l)).flatMap AV.cells=((es.flatMap AV.cells).drop (l * q)).take ((r - l) * q):=by
  unfold cut
  rw [flat_take _ _ (fun e he=>hw e (List.mem_of_mem_drop he)),flat_drop es l hw]
 have hr2:AVRels I m ((cut es l (r - l)).flatMap AV.cells) ((vs.drop (l * q)).take ((r - l) * q)):=by rw [hflat]; exact (hrel.drop _).take _
 have:=AVRel.sl (I:=I) (m:=m) q (cut es l (r - l)) c' ad' cap' ((vs.drop (l * q)).take ((r - l) * q)) hc' (by rw [hlen]; exact hcap) hq
  (fun e he=>hw e (List.mem_of_mem_drop (List.mem_of_mem_take he))) (fun c hc=>by rw [hflat] at hc; exact h1 c (List.mem_of_mem_drop (List.mem_of_mem_take hc))) hr2.1 hr2.2 ?_ ?_ (by rw [hlen]; exact hcr)
 .rw [hlen] at this; exact this
 .by_cases hlt:l < r
  .have hne:es ≠ []:=by intro e; subst e; simp at hre; omega
   rw [had hlt,addr_add (hs hne)]
   exact hI.sub _ _
  .have:r - l=0:=by omega
   rw [this]
   intro i x hx
   simp at hx
 .intro hne
  have hlt:l < r:=by
   by_cases hlt:l < r
   .exact hlt
   .exact absurd (List.length_eq_zero_iff.1 (by rw [hlen]; omega)) hne
  have hne:es ≠ []:=by intro e; subst e; simp at hre; omega
  rw [had hlt,addr_add (hs hne)]
theorem snd_slice_str {t:TypeId} {x:Operand} {lo hi mx:Option Operand} {x':Opd} {lo' hi' mx':Option Opd} {v:AV} {h':AHeap} (ho:o.op=.slice t x lo hi mx) (ht:P.underlying t=some .string)
  (hx:aF x=some x') (hlo:OptOpd lo lo') (hhi:OptOpd hi hi') (hmx:OptOpd mx mx')
  (hr:Rel G N D S I m env h a w) (he:aA G env h (.slice .str x' lo' hi' mx')=some (v,h')):Does P G k o a I m w v h':=by
 simp only [aA] at he
 split at he
 .rename_i s _ hu
  split at he
  .rename_i l r hl hrr
   split at he
   .rename_i hb
    obtain ⟨hlr,hrs⟩:=hb
    simp at he; obtain ⟨rfl,rfl⟩:=he
    have h1:=ae (aG hx hr hu)
    have hm:mx=none:=by
                 rcases hmx with ⟨h,_⟩ | ⟨_,_,_,h,_⟩
                 .exact h
                 .cases h
    have hb:=run_sliceBounds (P:=P) (w:=w) (isSl:=false) (len:=s.size) (cap:=s.size) (af hlo hr hl) (af hhi hr hrr) hlr hrs
    subst hm
    refine .same hr.inv (.sc _) (.inl ?_)
    simp [execOp,ho,h1,Instr.sliceAt,aH ht,Instr.slice,hb]
   .cases he
  .cases he
 .rename_i heq _ ; cases heq
 .rename_i heq _ ; cases heq
 .rename_i heq _ ; cases heq
 .cases he
theorem snd_slice_sl {t e:TypeId} {ty:Ty} {x:Operand} {lo hi mx:Option Operand} {x':Opd} {lo' hi' mx':Option Opd} {v:AV} {h':AHeap} (ho:o.op=.slice t x lo hi mx) (ht:P.underlying t=some (.slice e))
  (hty:cB P e=some ty) (hx:aF x=some x') (hlo:OptOpd lo lo') (hhi:OptOpd hi hi') (hmx:OptOpd mx mx')
  (hr:Rel G N D S I m env h a w) (he:aA G env h (.slice (.sl ty.size) x' lo' hi' mx')=some (v,h')):Does P G k o a I m w v h':=by
 obtain ⟨hty,hpos⟩:=cA hty
 obtain ⟨inf,hinf,hsz,_⟩:=aV (w:=w) hty
 simp only [aA] at he
 split at he
 .rename_i heq _; cases heq
 .rename_i q q' es cp heq hu
  cases heq
  split at he
  .rename_i hq
   split at he
   .rename_i l r hl hrr
    split at he
    .rename_i hb
     obtain ⟨hlr,hre⟩:=hb
     have hp:=aG hx hr hu
     obtain ⟨base,cap,vs,hax,hlecap,hrel,hw,h1,hbase,hI⟩:=elems_rel hq hp
     split at he
     .
      simp at he; obtain ⟨rfl,rfl⟩:=he
      have hm:mx=none:=by
                   rcases hmx with ⟨h,_⟩ | ⟨_,_,_,h,_⟩
                   .exact h
                   .cases h
      subst hm
      have hb:=run_sliceBounds (P:=P) (w:=w) (isSl:=true) (len:=es.length) (cap:=cap) (af hlo hr hl) (af hhi hr hrr) hlr (by omega)
      have hrun:Gives P o a w (.slice (if cap=l then base else base.map (·.add (l * ty.size))) (r - l) (cap - l)) w:=.inl (by
       simp [execOp,ho,hax,Instr.sliceAt,aH ht,Instr.slice,hb,aX hinf,hsz])
      cases base with
      | none =>
       have:=hbase rfl
       subst this
       have hr0:r=0:=by simpa using hre
       subst hr0
       have hl0:l=0:=by omega
       subst hl0
       generalize hgx:a.eval x=ax at hp
       rw [hgx] at hax; subst hax
       refine .same (x:=.slice none 0 0) hr.inv ?_ ?_
       .cases hp
        simpa [cut] using AVRel.slnil ty.size
       .cases hp
        simpa using hrun
      | some ad =>
       have hcpn:cp ≠ .nil:=by
        rintro rfl
        generalize hgx:a.eval x=ax at hp
        rw [hgx] at hax; subst hax
        cases hp <;> simp_all
       refine .same hr.inv ?_ hrun
       have hmain:∀ (c':Cap),c' ≠ .nil -> CapRel m (if cap=l then ad else ad.add (l * ty.size)) (r - l) ty.size (cap - l) c' ->
         AVRel I m (.sl ty.size (cut es l (r - l)) c') (.slice (if cap=l then some ad else (some ad).map (·.add (l * ty.size))) (r - l) (cap - l)):=by
        intro c' g1 g2
        have:=cut_rel (ad':=if cap=l then ad else ad.add (l * ty.size)) (cap':=cap - l) hpos hw h1 hrel (hI ad rfl).1 (hI ad rfl).2 hlr hre (fun hlt=>by rw [if_neg (by omega)]) g1 (by omega) g2
        have e1:(if cap=l then some ad else (some ad).map (·.add (l * ty.size)))=some (if cap=l then ad else ad.add (l * ty.size)):=by split <;> rfl
        rw [e1]; exact this
       split
       .rename_i hfull
        obtain ⟨rfl,rfl,hq2⟩:=hfull
        refine hmain cp hcpn ?_
        have e1:(if cap=0 then ad else ad.add (0 * ty.size))=ad:=by
         split
         .rfl
         .simp [Addr.add]
        rw [e1]
        generalize hgx:a.eval x=ax at hp
        rw [hgx] at hax; subst hax
        cases hp with
        | sl _ _ _ ad2 cap2 vs2 hc2 hle2 hk2 hw2 h12 hl2 hrel2 hI2 hs2 hcap2 =>
         rcases hq2 with rfl | rfl
         .simpa using hcap2
         .exact absurd rfl hcpn
       .split
        .rename_i hfull
         obtain ⟨rfl,rfl⟩:=hfull
         refine hmain .full (by simp) ?_
         generalize hgx:a.eval x=ax at hp
         rw [hgx] at hax; subst hax
         cases hp with
         | sl _ _ _ ad2 cap2 vs2 hc2 hle2 hk2 hw2 h12 hl2 hrel2 hI2 hs2 hcap2 =>
          have:cap=es.length:=hcap2
          simp [CapRel,this]
        .exact hmain .any (by simp) trivial
     .
      rename_i mo
      split at he
      .rename_i mm hmm
       split at he
       .rename_i hc
        obtain ⟨rfl,hhs,hcpn⟩:=hc
        simp at he; obtain ⟨rfl,rfl⟩:=he
        obtain ⟨yh,yh',rfl,rfl,hyh⟩:∃ y y',hi=some y /\ hi'=some y' /\ aF y=some y':=by
         rcases hhi with ⟨_,h⟩ | h
         .rw [h] at hhs; cases hhs
         .exact h
        obtain ⟨ym,ym',rfl,hym1,hym⟩:∃ y y',mx=some y /\ some mo=some y' /\ aF y=some y':=by
         rcases hmx with ⟨_,h⟩ | h
         .cases h
         .exact h
        obtain ⟨q1,z1,e1,hz1,hzr⟩:∃ q z,(some yh).map a.eval=some (.int q z) /\ 0 <= z /\ z.toNat=mm:=by
         rcases af (.inr ⟨yh,yh',rfl,rfl,hyh⟩) hr hrr with ⟨h,_⟩ | h
         .cases h
         .exact h
        obtain ⟨q2,z2,e2,hz2,hzm⟩:∃ q z,(some ym).map a.eval=some (.int q z) /\ 0 <= z /\ z.toNat=mm:=by
         rcases af (.inr ⟨ym,mo,rfl,rfl,by cases hym1; exact hym⟩) hr hmm with ⟨h,_⟩ | h
         .cases h
         .exact h
        have hb:=run_sliceBounds3 (P:=P) (w:=w) (len:=es.length) (cap:=cap) (q:=q1) (q':=q2) (af hlo hr hl) hz1 hzr hz2 hzm hlr (by omega)
        cases base with
        | none =>
         have:=hbase rfl
         subst this
         generalize hgx:a.eval x=ax at hp
         rw [hgx] at hax; subst hax
         cases hp
         exact absurd rfl hcpn
        | some ad =>
         refine .same hr.inv (x:=.slice (some (if mm=l then ad else ad.add (l * ty.size))) (mm - l) (mm - l)) ?_ (.inl ?_)
         .exact cut_rel hpos hw h1 hrel (hI ad rfl).1 (hI ad rfl).2 hlr hre (fun hlt=>by rw [if_neg (by omega)]) (by simp) (Nat.le_refl _) rfl
         .simp only [execOp,ho,hax,Instr.sliceAt,Sem.run_bind,aH ht,Result.andThen_ok,Instr.slice,e1,e2,hb,aX hinf,hsz,Sem.run_pure]
          split <;> simp_all
       .split at he
        .rename_i hc
         obtain ⟨rfl,hhs,rfl,rfl⟩:=hc
         simp at he; obtain ⟨rfl,rfl⟩:=he
         have hr0:mm=0:=by simpa using hre
         subst hr0
         have hl0:l=0:=by omega
         subst hl0
         obtain ⟨yh,yh',rfl,rfl,hyh⟩:∃ y y',hi=some y /\ hi'=some y' /\ aF y=some y':=by
          rcases hhi with ⟨_,h⟩ | h
          .rw [h] at hhs; cases hhs
          .exact h
         obtain ⟨ym,ym',rfl,hym1,hym⟩:∃ y y',mx=some y /\ some mo=some y' /\ aF y=some y':=by
          rcases hmx with ⟨_,h⟩ | h
          .cases h
          .exact h
         obtain ⟨q1,z1,e1,hz1,hzr⟩:∃ q z,(some yh).map a.eval=some (.int q z) /\ 0 <= z /\ z.toNat=0:=by
          rcases af (.inr ⟨yh,yh',rfl,rfl,hyh⟩) hr hrr with ⟨h,_⟩ | h
          .cases h
          .exact h
         obtain ⟨q2,z2,e2,hz2,hzm⟩:∃ q z,(some ym).map a.eval=some (.int q z) /\ 0 <= z /\ z.toNat=0:=by
          rcases af (.inr ⟨ym,mo,rfl,rfl,by cases hym1; exact hym⟩) hr hmm with ⟨h,_⟩ | h
          .cases h
          .exact h
         generalize hgx:a.eval x=ax at hp
         rw [hgx] at hax; subst hax
         cases hp with
         | slnil =>
          have hb:=run_sliceBounds3 (P:=P) (w:=w) (len:=0) (cap:=0) (q:=q1) (q':=q2) (af hlo hr hl) hz1 hzr hz2 hzm (Nat.le_refl _) (Nat.le_refl _)
          refine .same hr.inv (x:=.slice none 0 0) (AVRel.slnil 0) (.inl ?_)
          simp only [execOp,ho,hgx,Instr.sliceAt,Sem.run_bind,aH ht,Result.andThen_ok,Instr.slice,e1,e2,List.length_nil,hb,aX hinf,hsz,Sem.run_pure]
          rfl
         | sl _ _ _ _ _ _ _ _ _ _ _ _ _ _ hs=>simp_all
        .cases he
      .cases he
    .cases he
   .cases he
  .cases he
 .rename_i q ob g off len rc heq hu
  cases heq
  split at he
  .rename_i l r hl hrr
   split at he
   .rename_i hb
    obtain ⟨hlr,hre⟩:=hb
    simp at he; obtain ⟨rfl,rfl⟩:=he
    have hm:mx=none:=by
                 rcases hmx with ⟨h,_⟩ | ⟨_,_,_,h,_⟩
                 .exact h
                 .cases h
    subst hm
    have hp:=aG hx hr hu
    generalize hax:a.eval x=ax at hp
    cases hp with
    | rf _ _ _ _ _ ad cap hob hle hf hpr =>
     have hb:=run_sliceBounds (P:=P) (w:=w) (isSl:=true) (len:=len) (cap:=cap) (af hlo hr hl) (af hhi hr hrr) hlr (by omega)
     refine .same hr.inv (x:=.slice (some (if cap=l then ad else ad.add (l * ty.size))) (r - l) (cap - l)) ?_ (.inl ?_)
     .refine .rf ob g _ (r - l) _ _ (cap - l) hob (by omega) ?_ (fun hne=>?_)
      .refine RCapRel.ite2 (fun hff=>?_) fun hff=>?_
       .obtain ⟨rfl,rfl⟩:=hff
        obtain ⟨p1,p2⟩:=hf
        have e0:(if cap=0 then ad else ad.add (0 * ty.size))=ad:=by
         split
         .rfl
         .simp [Addr.add]
        rw [e0]
        exact ⟨by simpa using p1,fun b lo' n' hm=>by have:=p2 b lo' n' hm; simpa using this⟩
       .obtain ⟨rfl,rfl⟩:=hff
        have:cap=r:=hf
        omega
      .rw [if_neg (by omega)]
       intro g' b lo n' hm
       have hpr:=hpr (by omega)
       refine ⟨(hpr g' b lo n' hm).1,fun hg=>?_⟩
       rw [(hpr g' b lo n' hm).2 hg,Addr.add_mk,Nat.add_assoc]
     .simp only [execOp,ho,hax,Instr.sliceAt,Sem.run_bind,aH ht,Result.andThen_ok,Instr.slice,Option.map_none,hb,aX hinf,hsz,Sem.run_pure]
      split <;> simp_all
   .cases he
  .rename_i mo l r hl hrr
   split at he
   .rename_i mm hmm
    split at he
    .rename_i hb
     obtain ⟨rfl,rfl,hle1,his⟩:=hb
     simp only [Option.some.injEq,Prod.mk.injEq] at he; obtain ⟨rfl,rfl⟩:=he
     obtain ⟨yh,yh',rfl,rfl,hyh⟩:∃ y y',hi=some y /\ hi'=some y' /\ aF y=some y':=by
      rcases hhi with ⟨_,h⟩ | h
      .rw [h] at his; cases his
      .exact h
     obtain ⟨ym,ym',rfl,hym1,hym⟩:∃ y y',mx=some y /\ some mo=some y' /\ aF y=some y':=by
      rcases hmx with ⟨_,h⟩ | h
      .cases h
      .exact h
     obtain ⟨q1,z1,e1,hz1,hzr⟩:∃ q z,(some yh).map a.eval=some (.int q z) /\ 0 <= z /\ z.toNat=mm:=by
      rcases af (.inr ⟨yh,yh',rfl,rfl,hyh⟩) hr hrr with ⟨h,_⟩ | h
      .cases h
      .exact h
     obtain ⟨q2,z2,e2,hz2,hzm⟩:∃ q z,(some ym).map a.eval=some (.int q z) /\ 0 <= z /\ z.toNat=mm:=by
      rcases af (.inr ⟨ym,mo,rfl,rfl,by cases hym1; exact hym⟩) hr hmm with ⟨h,_⟩ | h
      .cases h
      .exact h
     have hp:=aG hx hr hu
     generalize hax:a.eval x=ax at hp
     cases hp with
     | rf _ _ _ _ _ ad cap hob hle hf hpr =>
      have hb:=run_sliceBounds3 (P:=P) (w:=w) (len:=len) (cap:=cap) (q:=q1) (q':=q2) (af hlo hr hl) hz1 hzr hz2 hzm (Nat.le_refl _) (by omega)
      refine .same hr.inv (x:=.slice (some ad) 0 0) ?_ (.inl ?_)
      .exact AVRel.sl ty.size [] .full ad 0 [] (by simp) (Nat.le_refl _) hpos (by simp) (by simp) rfl (fun i a x ha=>by simp at ha) (fun i x hx=>by simp at hx) (fun h=>absurd rfl h) rfl
      .simp only [execOp,ho,hax,Instr.sliceAt,Sem.run_bind,aH ht,Result.andThen_ok,Instr.slice,e1,e2,hb,aX hinf,hsz,Sem.run_pure]
       simp
    .cases he
   .cases he
  .cases he
 .rename_i heq _; cases heq
 .cases he
theorem snd_slice_arr {t e:TypeId} {n:Nat} {ty:Ty} {x:Operand} {lo hi mx:Option Operand} {x':Opd} {lo' hi' mx':Option Opd} {v:AV} {h':AHeap} (ho:o.op=.slice t x lo hi mx) (ht:P.underlying t=some (.array n e))
  (hty:cB P e=some ty) (hx:aF x=some x') (hlo:OptOpd lo lo') (hhi:OptOpd hi hi') (hmx:OptOpd mx mx')
  (hr:Rel G N D S I m env h a w) (he:aA G env h (.slice (.arr n ty.size) x' lo' hi' mx')=some (v,h')):Does P G k o a I m w v h':=by
 obtain ⟨hty,hpos⟩:=cA hty
 obtain ⟨inf,hinf,hsz,_⟩:=aV (w:=w) hty
 simp only [aA] at he
 split at he
 .rename_i heq _; cases heq
 .rename_i heq _; cases heq
 .rename_i heq _; cases heq
 .rename_i nn q ob g off heq hu
  cases heq
  split at he
  .rename_i l r hl hrr
   split at he
   .rename_i hb
    obtain ⟨hlr,hre⟩:=hb
    simp at he; obtain ⟨rfl,rfl⟩:=he
    have hm:mx=none:=by
                 rcases hmx with ⟨h,_⟩ | ⟨_,_,_,h,_⟩
                 .exact h
                 .cases h
    subst hm
    have hp:=aG hx hr hu
    generalize hax:a.eval x=ax at hp
    cases hp with
    | ptr _ _ _ ad hob hpr =>
     have hb:=run_sliceBounds (P:=P) (w:=w) (isSl:=false) (len:=n) (cap:=n) (af hlo hr hl) (af hhi hr hrr) hlr hre
     refine .same hr.inv (x:=.slice (some (if n=l then ad else ad.add (l * ty.size))) (r - l) (n - l)) ?_ (.inl ?_)
     .refine .rf ob g _ (r - l) _ _ (n - l) hob (by omega) (RCapRel.ite fun hff=>by omega) (fun hne=>?_)
      rw [if_neg (by omega)]
      intro g' b lo n' hm
      refine ⟨(hpr g' b lo n' hm).1,fun hg=>?_⟩
      rw [(hpr g' b lo n' hm).2 hg,Addr.add_mk,Nat.add_assoc]
     .simp only [execOp,ho,hax,Instr.sliceAt,Instr.sureAddr,Sem.run_bind,aH ht,Result.andThen_ok,Option.map_none,hb,aX hinf,hsz,Sem.run_pure]
   .cases he
  .cases he
 .cases he
theorem run_sliceBounds3g {len cap l r c:Nat} {lo:Option Value} {q q':IntKind} {z z':Int} (hl:(lo=none /\ l=0) \/ ∃ q z,lo=some (.int q z) /\ 0 <= z /\ z.toNat=l)
  (hz:0 <= z) (hzr:z.toNat=r) (hz':0 <= z') (hzm:z'.toNat=c) (hlr:l <= r) (hrc:r <= c) (hcc:c <= cap) :
  (Instr.sliceBounds true len cap lo (some (.int q z)) (some (.int q' z'))).run P w=.ok (l,r,c) w:=by
 subst hzr
 rcases hl with ⟨rfl,rfl⟩ | ⟨q2,z2,rfl,hz2,rfl⟩
 .simp [Instr.sliceBounds,ah hz' (show z'.toNat <= cap by omega),hzm,ah hz hrc]
 .simp [Instr.sliceBounds,ah hz' (show z'.toNat <= cap by omega),hzm,ah hz hrc,ah hz2 hlr]
theorem snd_kslice {t e:TypeId} {ty:Ty} {x:Operand} {lo hi mx:Option Operand} {x':Opd} {lo' hi':Option Opd} {ob g len l r g':Nat} {cs:List AV} (ho:o.op=.slice t x lo hi mx) (ht:P.underlying t=some (.slice e))
  (hty:cB P e=some ty) (hx:aF x=some x') (hlo:OptOpd lo lo') (hhi:OptOpd hi hi') (hmx:OptOpd mx none)
  (hr:Rel G N D S I m env h a w) (hu:aD G env x'=some (.rf ob g 0 len (.own ty.size))) (hl:bt 0 (lo'.map (aD G env))=some l) (hrr:bt len (hi'.map (aD G env))=some r) (hlr:l <= r)
  (hob:h[ob]?=some (.cells g' cs)) (hg:g'=g) (hrc:r * ty.size <= cs.length):Does P G k o a I m w (.rf ob g (l * ty.size) (r - l) .any) h:=by
 subst hg
 obtain ⟨hty,hpos⟩:=cA hty
 obtain ⟨inf,hinf,hsz,_⟩:=aV (w:=w) hty
 have hm:mx=none:=by
  rcases hmx with ⟨h,_⟩ | ⟨_,_,_,h,_⟩
  .exact h
  .cases h
 subst hm
 have hp:=aG hx hr hu
 generalize hax:a.eval x=ax at hp
 cases hp with
 | rf _ _ _ _ _ ad cap hob2 hle hf hpr =>
  obtain ⟨hpr2,hown⟩:=hf
  obtain ⟨b,lo0,n,us,hl0,hcn,_,_,_,_⟩:=hr.inv.obj ob _ m[ob] hob (by simp [hob2])
  have hm:m[ob]?=some (.cells g' b lo0 n):=by rw [<- hl0]; simp [hob2]
  have hcap:=hown _ _ _ hm
  have hrcap:r <= cap:=Nat.le_of_mul_le_mul_right (show r * ty.size <= cap * ty.size by omega) hpos
  have hb:=run_sliceBounds (P:=P) (w:=w) (isSl:=true) (len:=len) (cap:=cap) (af hlo hr hl) (af hhi hr hrr) hlr hrcap
  refine .same hr.inv (x:=.slice (some (if cap=l then ad else ad.add (l * ty.size))) (r - l) (cap - l)) ?_ (.inl ?_)
  .refine .rf ob g' _ (r - l) _ _ (cap - l) hob2 (by omega) trivial (fun hne=>?_)
   rw [if_neg (by omega)]
   intro g2 b2 lo2 n2 hm2
   refine ⟨(hpr2 g2 b2 lo2 n2 hm2).1,fun hg=>?_⟩
   rw [(hpr2 g2 b2 lo2 n2 hm2).2 hg,Addr.add_mk,Nat.add_zero]
  .simp only [execOp,ho,hax,Instr.sliceAt,Sem.run_bind,aH ht,Result.andThen_ok,Instr.slice,Option.map_none,hb,aX hinf,hsz,Sem.run_pure]
   split <;> simp_all
theorem snd_kslice3 {t e:TypeId} {ty:Ty} {x:Operand} {lo hi mx:Option Operand} {x' mo:Opd} {lo' hi':Option Opd} {ob g off len l r q:Nat} {rc:RCap} (ho:o.op=.slice t x lo hi mx) (ht:P.underlying t=some (.slice e))
  (hty:cB P e=some ty) (hx:aF x=some x') (hlo:OptOpd lo lo') (hhi:OptOpd hi hi') (hmx:OptOpd mx (some mo))
  (hr:Rel G N D S I m env h a w) (hu:aD G env x'=some (.rf ob g off len rc)) (hl:bt 0 (lo'.map (aD G env))=some l) (hrr:bt len (hi'.map (aD G env))=some r) (hmm:bt 0 (some (aD G env mo))=some q)
  (his:hi'.isSome=true) (hlr:l <= r) (hrq:r <= q) (hql:q <= len):Does P G k o a I m w (.rf ob g (off+l * ty.size) (r - l) .any) h:=by
 obtain ⟨hty,hpos⟩:=cA hty
 obtain ⟨inf,hinf,hsz,_⟩:=aV (w:=w) hty
 obtain ⟨yh,yh',rfl,rfl,hyh⟩:∃ y y',hi=some y /\ hi'=some y' /\ aF y=some y':=by
  rcases hhi with ⟨_,h⟩ | h
  .rw [h] at his; cases his
  .exact h
 obtain ⟨ym,ym',rfl,hym1,hym⟩:∃ y y',mx=some y /\ some mo=some y' /\ aF y=some y':=by
  rcases hmx with ⟨_,h⟩ | h
  .cases h
  .exact h
 obtain ⟨q1,z1,e1,hz1,hzr⟩:∃ q z,(some yh).map a.eval=some (.int q z) /\ 0 <= z /\ z.toNat=r:=by
  rcases af (.inr ⟨yh,yh',rfl,rfl,hyh⟩) hr hrr with ⟨h,_⟩ | h
  .cases h
  .exact h
 obtain ⟨q2,z2,e2,hz2,hzm⟩:∃ q' z,(some ym).map a.eval=some (.int q' z) /\ 0 <= z /\ z.toNat=q:=by
  rcases af (.inr ⟨ym,mo,rfl,rfl,by cases hym1; exact hym⟩) hr hmm with ⟨h,_⟩ | h
  .cases h
  .exact h
 have hp:=aG hx hr hu
 generalize hax:a.eval x=ax at hp
 cases hp with
 | rf _ _ _ _ _ ad cap hob hle hf hpr =>
  have hb:=run_sliceBounds3g (P:=P) (w:=w) (len:=len) (cap:=cap) (q:=q1) (q':=q2) (af hlo hr hl) hz1 hzr hz2 hzm hlr hrq (by omega)
  refine .same hr.inv (x:=.slice (some (if q=l then ad else ad.add (l * ty.size))) (r - l) (q - l)) ?_ (.inl ?_)
  .refine .rf ob g _ (r - l) _ _ (q - l) hob (by omega) trivial (fun hne=>?_)
   rw [if_neg (by omega)]
   intro g2 b2 lo2 n2 hm2
   have hpr:=hpr (by omega)
   refine ⟨(hpr g2 b2 lo2 n2 hm2).1,fun hg=>?_⟩
   rw [(hpr g2 b2 lo2 n2 hm2).2 hg,Addr.add_mk,Nat.add_assoc]
  .simp only [execOp,ho,hax,Instr.sliceAt,Sem.run_bind,aH ht,Result.andThen_ok,Instr.slice,e1,e2,hb,aX hinf,hsz,Sem.run_pure]
   split <;> simp_all
end
end Go.Apx
end
section
namespace Go.Apx
section
variable {P:Program} {G:Globs} {N S k:Nat} {D:Ro} {o:Oper} {a:Act} {I:Imm} {m:aQ} {w:World} {env:Env} {h:AHeap} {ann:List Nat}
theorem bin_sound {op:BinOp} {t t':TypeId} {x y:Operand} {ao:AOp} {v:AV} {h':AHeap} (ho:o.op=.binOp op t x y t') (hc:compBin P op t x y=some ao)
  (hr:Rel G N D S I m env h a w) (he:aA G env h ao=some (v,h')):Does P G k o a I m w v h':=by
 unfold compBin at hc
 split at hc
 .rename_i x' y' hx hy
  split at hc
  .rename_i hop
   have hop':BinOp.eql=.eql \/ BinOp.eql=.neq:=.inl rfl
   split at hc
   .simp at hc; subst hc; exact snd_bin ho hx hy hr he
   .rename_i hk
    simp at hc; subst hc
    refine snd_eqb ho hop' ?_ hx hy hr he
    rw [show 10=9+1 from rfl] at hk
    unfold eqKind at hk
    split at hk <;> first | assumption | (simp at hk; done) | (split at hk <;> first | (cases hk; done) | (split at hk <;> cases hk))
   .rename_i q hk
    split at hc
    .rename_i hn
     simp at hc; subst hc
     exact snd_eqnil ho hop' hk hn hx hy hr he
    .cases hc
   .simp only [Option.map_eq_some_iff] at hc
    obtain ⟨ks,hks,rfl⟩:=hc
    exact snd_eqagg ho hop' hks hx hy hr he
   .cases hc
  .rename_i hop
   have hop':BinOp.neq=.eql \/ BinOp.neq=.neq:=.inr rfl
   split at hc
   .simp at hc; subst hc; exact snd_bin ho hx hy hr he
   .rename_i hk
    simp at hc; subst hc
    refine snd_eqb ho hop' ?_ hx hy hr he
    rw [show 10=9+1 from rfl] at hk
    unfold eqKind at hk
    split at hk <;> first | assumption | (simp at hk; done) | (split at hk <;> first | (cases hk; done) | (split at hk <;> cases hk))
   .rename_i q hk
    split at hc
    .rename_i hn
     simp at hc; subst hc
     exact snd_eqnil ho hop' hk hn hx hy hr he
    .cases hc
   .simp only [Option.map_eq_some_iff] at hc
    obtain ⟨ks,hks,rfl⟩:=hc
    exact snd_eqagg ho hop' hks hx hy hr he
   .cases hc
  .simp at hc; subst hc; exact snd_bin ho hx hy hr he
 .cases hc
theorem list_two {α:Type} {l:List Operand} {f:Operand -> Option α} {a b:α} (h:l.map f=[some a,some b]):∃ x y,l=[x,y] /\ f x=some a /\ f y=some b:=by
 cases l with
 | nil=>simp at h
 | cons x l=>cases l with
  | nil=>simp at h
  | cons y l=>cases l with
   | nil=>simp at h; exact ⟨x,y,rfl,h.1,h.2⟩
   | cons z l=>simp at h
theorem list_one {α:Type} {l:List Operand} {f:Operand -> Option α} {a:α} (h:l.map f=[some a]):∃ x,l=[x] /\ f x=some a:=by
 cases l with
 | nil=>simp at h
 | cons x l=>cases l with
  | nil=>simp at h; exact ⟨x,rfl,h⟩
  | cons y l=>simp at h
theorem op_sound {ao:AOp} {v:AV} {h':AHeap} (hc:aR P ann o=some ao) (hk:k <= m.length) (hr:Rel G N D S I m env h a w) (he:aA G env h ao=some (v,h')) :
  Does P G k o a I m w v h':=by
 cases hop:o.op with
 | move x =>
  simp only [aR,hop,Option.map_eq_some_iff] at hc
  obtain ⟨x',hx,rfl⟩:=hc
  simp only [aA,Option.map_eq_some_iff,Prod.mk.injEq] at he
  obtain ⟨u,hu,rfl,rfl⟩:=he
  exact snd_move (.inl hop) hx hr hu
 | assign x =>
  simp only [aR,hop,Option.map_eq_some_iff] at hc
  obtain ⟨x',hx,rfl⟩:=hc
  simp only [aA,Option.map_eq_some_iff,Prod.mk.injEq] at he
  obtain ⟨u,hu,rfl,rfl⟩:=he
  exact snd_move (.inr hop) hx hr hu
 | pick c x y =>
  simp only [aR,hop] at hc
  split at hc
  .simp at hc; subst hc; exact snd_pick hop (by assumption) (by assumption) (by assumption) hr he
  .cases hc
 | alloc e =>
  simp only [aR,hop] at hc
  split at hc
  .split at hc
   .simp at hc; subst hc; simp [aA] at he
   .simp at hc; subst hc; exact snd_new hop (by assumption) hk hr he
  .cases hc
 | nilCheck x =>
  simp only [aR,hop,Option.map_eq_some_iff] at hc
  obtain ⟨x',hx,rfl⟩:=hc
  exact snd_nilc hop hx hr he
 | box e x =>
  simp only [aR,hop] at hc
  split at hc
  .split at hc
   .simp at hc; subst hc; exact snd_box hop (by assumption) hr he
   .simp at hc; subst hc; exact snd_boxm hop (by assumption) hk hr he
  .cases hc
 | build t parts =>
  simp only [aR,hop] at hc
  split at hc
  .rename_i fields z ht hz
   split at hc
   .cases hc
   .rename_i hall
    simp only [Option.map_eq_some_iff] at hc
    obtain ⟨ps,hps,rfl⟩:=hc
    exact snd_build_struct hop ht (by cases hh:fields.toList.all (fun f=>(P.info? f.type).isSome) <;> simp_all) hz hps hr he
  .rename_i n elem z ht hz
   split at hc
   .simp only [Option.map_eq_some_iff] at hc
    obtain ⟨ps,hps,rfl⟩:=hc
    exact snd_build_array hop ht (by assumption) hz hps hr he
   .cases hc
  .cases hc
 | buildSlice t len parts =>
  simp only [aR,hop] at hc
  split at hc
  .rename_i elem ht
   split at hc
   .split at hc
    .cases hc
    .simp only [Option.map_eq_some_iff] at hc
     obtain ⟨ps,hps,rfl⟩:=hc
     split at he
     .exact snd_mslice hop ht (by assumption) (by assumption) (by assumption) hps hk hr he
     .exact snd_bslice hop ht (by assumption) (by assumption) (by assumption) hps hr he
   .cases hc
  .cases hc
 | load t x =>
  simp only [aR,hop] at hc
  split at hc
  .simp at hc; subst hc; exact snd_load hop (by assumption) (by assumption) hr he
  .cases hc
 | store t ad x =>
  simp only [aR,hop] at hc
  split at hc
  .split at hc
   .split at hc
    .simp at hc; subst hc; simp [aA] at he
    .simp at hc; subst hc; exact snd_store hop (by assumption) (by assumption) (by assumption) hr he
   .cases hc
  .cases hc
 | binOp op t x y t' =>
  simp only [aR,hop] at hc
  exact bin_sound hop hc hr he
 | unOp op t x =>
  simp only [aR,hop,Option.map_eq_some_iff] at hc
  obtain ⟨x',hx,rfl⟩:=hc
  exact snd_un hop hx hr he
 | convert s d x =>
  simp only [aR,hop] at hc
  split at hc
  .simp at hc; subst hc; exact snd_conv hop (by assumption) (by assumption) (by assumption) hr he
  .simp at hc; subst hc; exact snd_same hop (by assumption) (by assumption) (by assumption) hr he
  .simp at hc; subst hc; exact snd_convRS hop (by assumption) (by assumption) (by assumption) hr he
  .cases hc
 | range t x =>
  simp only [aR,hop] at hc
  split at hc
  .simp at hc; subst hc; exact snd_rangeS hop (by assumption) (by assumption) hk hr he
  .simp at hc; subst hc; simp [aA] at he
  .cases hc
 | next x isS =>
  simp only [aR,hop] at hc
  split at hc
  .rename_i hS
   subst hS
   simp only [Option.map_eq_some_iff] at hc
   obtain ⟨x',hx,rfl⟩:=hc
   exact snd_nextS hop hx hr he
  .simp only [Option.map_eq_some_iff] at hc
   obtain ⟨x',hx,rfl⟩:=hc
   simp [aA] at he
 | entry x =>
  simp only [aR,hop,Option.map_eq_some_iff] at hc
  obtain ⟨x',hx,rfl⟩:=hc
  exact snd_entryM hop hx hr he
 | makeInterface t x =>
  simp only [aR,hop] at hc
  split at hc
  .cases hc
  .rename_i d x' hni hd hx
   simp at hc; subst hc
   exact snd_mkIface hop hd (fun e he=>hni e he) hx hr he
  .cases hc
 | makeFunc f xs ys =>
  simp only [aR,hop] at hc
  split at hc
  .simp at hc; subst hc; exact snd_mkFunc hop (by assumption) (by assumption) hr he
  .cases hc
 | makeMap t r =>
  cases r with
  | none=>simp [aR,hop] at hc; subst hc; exact snd_mkMap hop hk hr he
  | some r=>simp [aR,hop] at hc
 | makeSlice t l c =>
  simp only [aR,hop] at hc
  split at hc
  .rename_i elem ht
   split at hc
   .split at hc
    .rename_i hcond
     obtain ⟨h1,h2,h3⟩:=hcond
     simp at hc; subst hc
     exact snd_mkSlice hop ht (by assumption) (by assumption) (by assumption) h1 h2 h3 (by assumption) (by assumption) hk hr he
    .cases hc
   .cases hc
  .cases hc
 | slice t x lo hi mx =>
  simp only [aR,hop] at hc
  split at hc
  .rename_i x' lo' hi' mx' hx h1 h2 h3
   have o1:=optOpd_of h1
   have o2:=optOpd_of h2
   have o3:=optOpd_of h3
   split at hc
   .simp only [Option.some.injEq] at hc; subst hc; exact snd_slice_str hop (by assumption) hx o1 o2 o3 hr he
   .simp only [Option.map_eq_some_iff] at hc
    obtain ⟨ty,hty,rfl⟩:=hc
    split at he
    .simp [aA] at he
    exact snd_slice_sl hop (by assumption) hty hx o1 o2 o3 hr he
   .simp only [Option.map_eq_some_iff] at hc
    obtain ⟨ty,hty,rfl⟩:=hc
    exact snd_slice_arr hop (by assumption) hty hx o1 o2 o3 hr he
   .cases hc
  .cases hc
 | fieldAddr t x f =>
  simp only [aR,hop] at hc
  split at hc
  .simp at hc; subst hc; exact snd_faddr hop (by assumption) (by assumption) hr he
  .cases hc
 | field t x f =>
  simp only [aR,hop] at hc
  split at hc
  .simp at hc; subst hc; exact snd_field hop (by assumption) (by assumption) hr he
  .cases hc
 | indexAddr t x i =>
  simp only [aR,hop] at hc
  split at hc
  .simp only [Option.map_eq_some_iff] at hc
   obtain ⟨ty,hty,rfl⟩:=hc
   exact snd_iaddr hop (by assumption) hty (by assumption) (by assumption) hr he
  .simp only [Option.map_eq_some_iff] at hc
   obtain ⟨ty,hty,rfl⟩:=hc
   exact snd_iaddrA hop (by assumption) hty (by assumption) (by assumption) hr he
  .cases hc
 | index t x i =>
  simp only [aR,hop] at hc
  split at hc
  .simp at hc; subst hc; exact snd_indexS hop (by assumption) (by assumption) (by assumption) hr he
  .simp only [Option.map_eq_some_iff] at hc
   obtain ⟨ty,hty,rfl⟩:=hc
   exact snd_index hop (by assumption) hty (by assumption) (by assumption) hr he
  .cases hc
 | lookup t x y ok =>
  simp only [aR,hop] at hc
  split at hc
  .split at hc
   .simp at hc; subst hc
    exact snd_lookup hop (by assumption) (by assumption) (by assumption) (by assumption) (by assumption) hr he
   .cases hc
  .cases hc
 | mapUpdate t x y z =>
  simp only [aR,hop] at hc
  split at hc
  .split at hc
   .simp at hc; subst hc
    exact snd_mapUpd hop (by assumption) (by assumption) (by assumption) (by assumption) (by assumption) hr he
   .cases hc
  .cases hc
 | typeAssert x xt t ok =>
  simp only [aR,hop] at hc
  split at hc
  .cases hc
  .rename_i d z x' hni hd hz hx
   simp at hc; subst hc
   exact snd_tassert hop hd (fun e he=>hni e he) hz hx hr he
  .cases hc
 | extract x i =>
  simp only [aR,hop,Option.map_eq_some_iff] at hc
  obtain ⟨x',hx,rfl⟩:=hc
  exact snd_extract hop hx hr he
 | panic x =>
  simp only [aR,hop,Option.map_eq_some_iff] at hc
  obtain ⟨x',hx,rfl⟩:=hc
  simp [aA] at he
 | defer c =>
  simp only [aR,hop] at hc
  split at hc
  .split at hc
   .simp at hc; subst hc; simp [aA] at he
   .cases hc
  .cases hc
 | call c =>
  simp only [aR,hop] at hc
  split at hc
  .split at hc
   .simp at hc; subst hc; simp [aA] at he
   .cases hc
  .rename_i hcal
   split at hc
   .rename_i x' t ha hT
    obtain ⟨x,ha',hx⟩:=list_one ha
    split at hc
    .simp at hc; subst hc; exact snd_len (q:=.str) hop hcal ha' hT (by assumption) rfl hx hr he
    .simp at hc; subst hc; exact snd_len (q:=.sl) hop hcal ha' hT (by assumption) ⟨_,rfl⟩ hx hr he
    .simp at hc; subst hc; exact snd_len (q:=.map) hop hcal ha' hT (by assumption) ⟨_,_,rfl⟩ hx hr he
    .simp at hc; subst hc; exact snd_len (q:=.arr _) hop hcal ha' hT (by assumption) ⟨_,rfl⟩ hx hr he
    .cases hc
   .cases hc
  .rename_i hcal
   split at hc
   .rename_i x' t ha hT
    obtain ⟨x,ha',hx⟩:=list_one ha
    split at hc
    .simp at hc; subst hc; exact snd_clearM hop hcal ha' hT (by assumption) hx hr he
    .split at hc
     .split at hc
      .rename_i hty hz hzs
       simp at hc; subst hc; exact snd_clearS hop hcal ha' hT (by assumption) hty hz hzs hx hr he
      .cases hc
     .cases hc
    .cases hc
   .cases hc
  .rename_i hcal
   split at hc
   .rename_i x' y' t u ha hT
    obtain ⟨x,y,ha',hx,hy⟩:=list_two ha
    split at hc
    .simp only [Option.map_eq_some_iff] at hc
     obtain ⟨ks,hks,rfl⟩:=hc
     exact snd_delM hop hcal ha' hT (by assumption) hks hx hy hr he
    .cases hc
   .cases hc
  .rename_i hcal
   split at hc
   .rename_i x' t ha hT
    obtain ⟨x,ha',hx⟩:=list_one ha
    split at hc
    .simp at hc; subst hc; exact snd_capn hop hcal ha' hT (by assumption) hx hr he
    .cases hc
   .cases hc
  .rename_i hcal
   split at hc
   .rename_i x' y' t u ha hT
    obtain ⟨x,y,ha',hx,hy⟩:=list_two ha
    split at hc
    .split at hc
     .split at hc
      .split at hc
       .rename_i hcond
        obtain ⟨h1,h2,h3,h4⟩:=hcond
        simp only [Option.some.injEq] at hc; subst hc
        split at he
        .exact snd_mappend hop hcal ha' hT (by assumption) (by assumption) (by assumption) (by assumption) (by assumption) h1 h2 h3 h4 hx hy hk hr he
        split at he
        .simp [aA] at he
        .exact snd_append hop hcal ha' hT (by assumption) (by assumption) (by assumption) (by assumption) (by assumption) h1 h2 h3 h4 hx hy hk hr he
       .cases hc
      .cases hc
     .cases hc
    .split at hc
     .split at hc
      .rename_i hcond
       obtain ⟨h1,h2,h3,h4⟩:=hcond
       simp only [Option.some.injEq] at hc; subst hc
       exact snd_zappend hop hcal ha' hT (by assumption) (by assumption) (by assumption) (by assumption) (by assumption) h1 h2 h3 h4 hx hy hk hr he
      .cases hc
     .cases hc
    .cases hc
   .cases hc
  .rename_i hcal
   split at hc
   .rename_i x' y' t u ha hT
    obtain ⟨x,y,ha',hx,hy⟩:=list_two ha
    split at hc
    .simp only [Option.map_eq_some_iff] at hc
     obtain ⟨ty,hty,rfl⟩:=hc
     exact snd_copy hop hcal ha' hT (by assumption) hty hx hy hr he
    .cases hc
   .cases hc
  .rename_i hcal
   split at hc
   .rename_i x' y' ha
    obtain ⟨x,y,ha',hx,hy⟩:=list_two ha
    simp at hc; subst hc
    exact snd_mx (isMax:=true) hop hcal ha' hx hy hr he
   .cases hc
  .rename_i hcal
   split at hc
   .rename_i x' y' ha
    obtain ⟨x,y,ha',hx,hy⟩:=list_two ha
    simp at hc; subst hc
    exact snd_mx (isMax:=false) hop hcal ha' hx hy hr he
   .cases hc
  .simp at hc; subst hc; simp [aA] at he
  .cases hc
 | _=>simp [aR,hop] at hc
end
end Go.Apx
end
section
namespace Go.Apx
def Cap.ren (s:Nat -> Nat):Cap -> Cap
 | .tok t=>.tok (s t)
 | c=>c
def Cap.strip:Cap -> Cap
 | .tok _=>.any
 | c=>c
def Cap.inb (n:Nat):Cap -> Bool
 | .tok t=>t < n
 | _=>true
mutual
def AV.ren (s:Nat -> Nat):AV -> AV
 | .sc v=>.sc v
 | .agg cs=>.agg (renL s cs)
 | .tup cs=>.tup (renL s cs)
 | .sl k es c=>.sl k (renL s es) (c.ren s)
 | .ip v=>.ip (v.ren s)
 | .ptr o g off=>.ptr (s o) g off
 | .rf o g off len rc=>.rf (s o) g off len rc
 | .mp o=>.mp (s o)
 | .it o=>.it (s o)
 | .yld o=>.yld (s o)
 | .fn f a b=>.fn f (renL s a) (renL s b)
 | .ifc t v=>.ifc t (v.ren s)
 | .pend n=>.pend n
def renL (s:Nat -> Nat):List AV -> List AV
 | []=>[]
 | v :: r=>v.ren s :: renL s r
end
mutual
def AV.strip:AV -> AV
 | .sc v=>.sc v
 | .agg cs=>.agg (aj cs)
 | .tup cs=>.tup (aj cs)
 | .sl k es c=>.sl k (aj es) c.strip
 | .ip v=>.ip v.strip
 | .ptr o g off=>.ptr o g off
 | .rf o g off len rc=>.rf o g off len rc
 | .mp o=>.mp o
 | .it o=>.it o
 | .yld o=>.yld o
 | .fn f a b=>.fn f (aj a) (aj b)
 | .ifc t v=>.ifc t v.strip
 | .pend n=>.pend n
def aj:List AV -> List AV
 | []=>[]
 | v :: r=>v.strip :: aj r
end
mutual
def AV.inb (n:Nat):AV -> Bool
 | .sc _=>true
 | .agg cs=>inbL n cs
 | .tup cs=>inbL n cs
 | .sl _ es c=>inbL n es && c.inb n
 | .ip v=>v.inb n
 | .ptr o _ _=>o < n
 | .rf o _ _ _ _=>o < n
 | .mp o=>o < n
 | .it o=>o < n
 | .yld o=>o < n
 | .fn _ a b=>inbL n a && inbL n b
 | .ifc _ v=>v.inb n
 | .pend _=>true
def inbL (n:Nat):List AV -> Bool
 | []=>true
 | v :: r=>v.inb n && inbL n r
end
theorem renL_eq (s:Nat -> Nat):∀ l,renL s l=l.map (AV.ren s)
 | []=>rfl
 | v :: r=>by simp [renL,renL_eq s r]
theorem stripL_eq:∀ l,aj l=l.map AV.strip
 | []=>rfl
 | v :: r=>by simp [aj,stripL_eq r]
theorem inbL_eq (n:Nat):∀ l,inbL n l=l.all (AV.inb n)
 | []=>rfl
 | v :: r=>by simp [inbL,inbL_eq n r]
theorem strip_cells (v:AV):v.strip.cells=v.cells.map AV.strip:=by
 cases v <;> simp [AV.strip,AV.cells,stripL_eq]
theorem strip_one (v:AV):v.strip.one=v.one:=by cases v <;> rfl
theorem flatMap_strip (es:List AV):(es.map AV.strip).flatMap AV.cells=(es.flatMap AV.cells).map AV.strip:=by
 induction es with
 | nil=>rfl
 | cons e es ih=>simp [ih,strip_cells]
section
variable {I:Imm} {m m':aQ}
theorem map_rel {f:AV -> AV} {cs:List AV} {vs:List Value} (hl:cs.length=vs.length) (h:∀ (i:Nat) (a:AV) (x:Value),cs[i]?=some a -> vs[i]?=some x -> AVRel I m' (f a) x):AVRels I m' (cs.map f) vs:=by
 refine ⟨by simpa using hl,fun i a x ha hx=>?_⟩
 simp only [List.getElem?_map,Option.map_eq_some_iff] at ha
 obtain ⟨b,hb,rfl⟩:=ha
 exact h i b x hb hx
theorem AVRel.strip {v:AV} {x:Value} (h:AVRel I m v x):AVRel I m v.strip x:=by
 induction h with
 | sc x=>exact .sc x
 | agg cs vs hl h1 h ih =>
  simp only [AV.strip,stripL_eq]
  have:=map_rel hl ih
  exact .agg _ vs this.1 (fun c hc=>by obtain ⟨d,hd,rfl⟩:=List.mem_map.1 hc; rw [strip_one]; exact h1 d hd) this.2
 | tup cs vs hl h ih =>
  simp only [AV.strip,stripL_eq]
  have:=map_rel hl ih
  exact .tup _ vs this.1 this.2
 | slnil k=>exact .slnil k
 | sl k es c a cap vs hc hle hk hw h1 hl h hI hs hcap ih =>
  simp only [AV.strip,stripL_eq]
  have:=map_rel hl ih
  rw [<- flatMap_strip] at this
  have e:es.length=(es.map AV.strip).length:=by simp
  rw [e]
  refine .sl k _ _ a cap vs ?_ (by simpa using hle) hk (fun e he=>?_) (fun c hc=>?_) this.1 this.2 hI (fun hne=>hs (by simpa using hne)) ?_
  .cases c <;> first | exact hc | (intro h; cases h)
  .obtain ⟨d,hd,rfl⟩:=List.mem_map.1 he; rw [strip_cells]; simpa using hw d hd
  .rw [flatMap_strip] at hc
   obtain ⟨d,hd,rfl⟩:=List.mem_map.1 hc; rw [strip_one]; exact h1 d hd
  .cases c <;> first | exact hcap | trivial | (simpa [Cap.strip,CapRel] using hcap)
 | ip v a vs h1 hl h hI hs ih =>
  have:=map_rel hl ih
  rw [<- strip_cells] at this
  exact .ip _ a vs (fun c hc=>by rw [strip_cells] at hc; obtain ⟨d,hd,rfl⟩:=List.mem_map.1 hc; rw [strip_one]; exact h1 d hd) this.1 this.2 hI hs
 | ptr o g off a ho h=>exact .ptr o g off a ho h
 | rf o g off len rc a cap ho hle hf h=>exact .rf o g off len rc a cap ho hle hf h
 | mp o r ho h=>exact .mp o r ho h
 | it o r ho h=>exact .it o r ho h
 | yld o r ho h=>exact .yld o r ho h
 | fn f first captured fs cs hl hl' h h' ih ih' =>
  simp only [AV.strip,stripL_eq]
  have h1:=map_rel hl ih
  have h2:=map_rel hl' ih'
  exact .fn f _ _ fs cs h1.1 h2.1 h1.2 h2.2
 | ifc t v x h ih=>exact .ifc t _ x ih
theorem AVRel.cut {n:Nat} (hn:n <= m'.length) (hs:∀ j,j < n -> m'[j]?=m[j]?) {v:AV} {x:Value} (h:AVRel I m v x) (hb:v.inb n=true):AVRel I m' v x:=by
 have hptr:∀ o g off a,o < n -> PtrRel m o g off a -> PtrRel m' o g off a:=fun o g off a ho h g' b lo n hm=>by
  rw [hs o ho] at hm; exact h g' b lo n hm
 have hrc:∀ o g off len a cap c,o < n -> RCapRel m o g off len a cap c -> RCapRel m' o g off len a cap c:=fun o g off len a cap c ho h=>by
  cases c with
  | own k=>exact ⟨hptr o g off a ho h.1,fun b lo n hm=>by rw [hs o ho] at hm; exact h.2 b lo n hm⟩
  | _=>exact h
 have hmem:∀ {cs:List AV} {vs:List Value},inbL n cs=true -> (∀ (i:Nat) (a:AV) (x:Value),cs[i]?=some a -> vs[i]?=some x -> a.inb n=true -> AVRel I m' a x) ->
   ∀ (i:Nat) (a:AV) (x:Value),cs[i]?=some a -> vs[i]?=some x -> AVRel I m' a x:=by
  intro cs vs hbl ih i a x ha hx
  rw [inbL_eq,List.all_eq_true] at hbl
  exact ih i a x ha hx (hbl a (List.mem_of_getElem? ha))
 have hflat:∀ (es:List AV),inbL n es=true -> inbL n (es.flatMap AV.cells)=true:=by
  intro es
  induction es with
  | nil=>intro _; rfl
  | cons e es ih =>
   intro hb
   simp only [inbL,Bool.and_eq_true] at hb
   rw [inbL_eq,List.flatMap_cons,List.all_append,Bool.and_eq_true]
   refine ⟨?_,by rw [<- inbL_eq]; exact ih hb.2⟩
   cases e <;> simp_all [AV.cells,AV.inb,inbL_eq]
 induction h with
 | sc x=>exact .sc x
 | agg cs vs hl h1 h ih=>exact .agg cs vs hl h1 (hmem (by simpa [AV.inb] using hb) ih)
 | tup cs vs hl h ih=>exact .tup cs vs hl (hmem (by simpa [AV.inb] using hb) ih)
 | slnil k=>exact .slnil k
 | sl k es c a cap vs hc hle hk hw h1 hl h hI hsp hcap ih =>
  simp only [AV.inb,Bool.and_eq_true] at hb
  refine .sl k es c a cap vs hc hle hk hw h1 hl (hmem (hflat es hb.1) ih) hI hsp ?_
  cases c with
  | tok t =>
   have ht:t < n:=by simpa [Cap.inb] using hb.2
   refine ⟨by omega,fun n' b s' e' hm=>?_⟩
   rw [hs t ht] at hm
   exact hcap.2 n' b s' e' hm
  | nil=>exact hcap
  | any=>trivial
  | full=>exact hcap
 | ip v a vs h1 hl h hI hsp ih =>
  refine .ip v a vs h1 hl (hmem ?_ ih) hI hsp
  have:=hflat [v] (by simpa [AV.inb,inbL] using hb)
  simpa using this
 | ptr o g off a ho h =>
             have:o < n:=by simpa [AV.inb] using hb
             exact .ptr o g off a (by omega) (hptr o g off a this h)
 | rf o g off len rc a cap ho hle hf h =>
  have:o < n:=by simpa [AV.inb] using hb
  exact .rf o g off len rc a cap (by omega) hle (hrc o g off len a cap rc this hf) (fun hne=>hptr o g off a this (h hne))
 | mp o r ho h =>
          have:o < n:=by simpa [AV.inb] using hb
          exact .mp o r (by omega) (fun b hb'=>h b (by rw [<- hs o this]; exact hb'))
 | it o r ho h =>
          have:o < n:=by simpa [AV.inb] using hb
          exact .it o r (by omega) (fun b hb'=>h b (by rw [<- hs o this]; exact hb'))
 | yld o r ho h =>
          have:o < n:=by simpa [AV.inb] using hb
          exact .yld o r (by omega) (fun b hb'=>h b (by rw [<- hs o this]; exact hb'))
 | fn f first captured fs cs hl hl' h h' ih ih' =>
  simp only [AV.inb,Bool.and_eq_true] at hb
  exact .fn f first captured fs cs hl hl' (hmem hb.1 ih) (hmem hb.2 ih')
 | ifc t v x h ih=>exact .ifc t v x (ih hb)
theorem AVRels.cut {n:Nat} (hn:n <= m'.length) (hs:∀ j,j < n -> m'[j]?=m[j]?) {cs:List AV} {vs:List Value} (h:AVRels I m cs vs) (hb:inbL n cs=true):AVRels I m' cs vs:=by
 rw [inbL_eq,List.all_eq_true] at hb
 exact ⟨h.1,fun i a x ha hx=>(h.2 i a x ha hx).cut hn hs (hb a (List.mem_of_getElem? ha))⟩
end
theorem Env.get_mem:∀ {env:Env} {t:Nat} {v:AV},env.get t=some v -> (t,v) ∈ env
 | (k,u) :: r,t,v,h=>by
  simp only [Env.get] at h
  split at h
  .rename_i e; subst e; simp at h; subst h; simp
  .exact List.mem_cons_of_mem _ (Env.get_mem h)
def AObj.inb (n:Nat):AObj -> Bool
 | .dead=>true
 | .cells _ cs=>inbL n cs
 | .tok _=>true
 | .amap es=>es.all fun p=>p.1.inb n && p.2.inb n
 | .loop env _ _ _=>env.all fun p=>p.1 == dslot || (match env.get p.1 with | some v=>v.inb n | none=>true)
 | .queue=>true
 | .siter _ _=>true
 | .bmap es _ _=>es.all fun p=>p.1.inb n && p.2.inb n
 | .miter mo _ _ _=>match mo with | some o=>(AV.mp o).inb n | none=>true
theorem loop_inb {n:Nat} {env:Env} {x:LoopX} {st:LoopState} {pd:Option Code} (hb:(AObj.loop env x st pd).inb n=true) {t:Nat} {v:AV} (ht:t ≠ dslot) (hv:env.get t=some v):v.inb n=true:=by
 simp only [AObj.inb,List.all_eq_true] at hb
 have:=hb (t,v) (Env.get_mem hv)
 simpa [ht,hv] using this
theorem ObjRel.cut {I:Imm} {m m':aQ} {w:World} {o:AObj} {l:Loc} {n:Nat} (hn:n <= m'.length) (hs:∀ j,j < n -> m'[j]?=m[j]?) (h:ObjRel I m w o l) (hb:o.inb n=true):ObjRel I m' w o l:=by
 cases o with
 | dead=>exact h
 | cells g cs =>
  obtain ⟨b,lo,n',vs,rfl,hle,hr,rest⟩:=h
  exact ⟨b,lo,n',vs,rfl,hle,hr.cut hn hs hb,rest⟩
 | tok n=>exact h
 | amap es =>
  obtain ⟨b,ents,clock,rfl,h1,h2,h3,h4,h5⟩:=h
  refine ⟨b,ents,clock,rfl,h1,h2,fun i p e hp he=>?_,h4,h5⟩
  simp only [AObj.inb,List.all_eq_true,Bool.and_eq_true] at hb
  obtain ⟨b1,b2⟩:=hb p (List.mem_of_getElem? hp)
  exact ⟨(h3 i p e hp he).1.cut hn hs b1,(h3 i p e hp he).2.cut hn hs b2⟩
 | loop env x st pd =>
  obtain ⟨b,d,rfl,h1,h2⟩:=h
  refine ⟨b,d,rfl,h1,fun t v ht hv=>?_⟩
  obtain ⟨y,hy,hr⟩:=h2 t v ht hv
  exact ⟨y,hy,hr.cut hn hs (loop_inb hb ht hv)⟩
 | queue=>exact h
 | siter t p=>exact h
 | bmap es bs clock =>
  obtain ⟨b,ents,rfl,h1,⟨h2,h3,h4,h5⟩,h6⟩:=h
  refine ⟨b,ents,rfl,h1,⟨h2,fun i p e hp he=>?_,h4,h5⟩,h6⟩
  simp only [AObj.inb,List.all_eq_true,Bool.and_eq_true] at hb
  obtain ⟨b1,b2⟩:=hb p (List.mem_of_getElem? hp)
  exact ⟨(h3 i p e hp he).1.cut hn hs b1,(h3 i p e hp he).2.cut hn hs b2⟩
 | miter mo since c0 seen =>
  obtain ⟨b,mb,rfl,h1,h2⟩:=h
  refine ⟨b,mb,rfl,h1,?_⟩
  rcases h2 with h2 | ⟨o,r,e1,e2,h2⟩
  .exact .inl h2
  .subst e1
   exact .inr ⟨o,r,rfl,e2,h2.cut hn hs hb⟩
theorem inb_cells {n:Nat} {v:AV} (h:∀ c ∈ v.cells,c.inb n=true):v.inb n=true:=by
 cases v <;> simp_all [AV.cells,AV.inb,inbL_eq]
theorem inb_all {n:Nat} {cs:List AV} {vs:List Value} (hl:cs.length=vs.length) (ih:∀ (i:Nat) (a:AV) (x:Value),cs[i]?=some a -> vs[i]?=some x -> a.inb n=true):∀ c ∈ cs,c.inb n=true:=by
 intro c hc
 obtain ⟨i,hi⟩:=List.getElem?_of_mem hc
 have hlt:=(List.getElem?_eq_some_iff.1 hi).1
 exact ih i c vs[i] hi (by simp)
theorem AVRel.inb {I:Imm} {m:aQ} {n:Nat} (hn:m.length <= n) {v:AV} {x:Value} (h:AVRel I m v x):v.inb n=true:=by
 induction h with
 | sc x=>rfl
 | agg cs vs hl h1 h ih=>simp only [AV.inb,inbL_eq,List.all_eq_true]; exact inb_all hl ih
 | tup cs vs hl h ih=>simp only [AV.inb,inbL_eq,List.all_eq_true]; exact inb_all hl ih
 | slnil k=>rfl
 | sl k es c a cap vs hc hle hk hw h1 hl h hI hs hcap ih =>
  simp only [AV.inb,inbL_eq,Bool.and_eq_true,List.all_eq_true]
  refine ⟨fun e he=>inb_cells fun d hd=>inb_all hl ih d (List.mem_flatMap.2 ⟨e,he,hd⟩),?_⟩
  cases c with
  | tok t=>have:=hcap.1; simp only [Cap.inb,decide_eq_true_eq]; omega
  | _=>rfl
 | ip v a vs h1 hl h hI hs ih=>simp only [AV.inb]; exact inb_cells (inb_all hl ih)
 | ptr o g off a ho h=>simp only [AV.inb,decide_eq_true_eq]; omega
 | rf o g off len rc a cap ho hle hf h=>simp only [AV.inb,decide_eq_true_eq]; omega
 | mp o r ho h=>simp only [AV.inb,decide_eq_true_eq]; omega
 | it o r ho h=>simp only [AV.inb,decide_eq_true_eq]; omega
 | yld o r ho h=>simp only [AV.inb,decide_eq_true_eq]; omega
 | fn f first captured fs cs hl hl' h h' ih ih' =>
  simp only [AV.inb,inbL_eq,Bool.and_eq_true,List.all_eq_true]
  exact ⟨inb_all hl ih,inb_all hl' ih'⟩
 | ifc t v x h ih=>exact ih
theorem ObjRel.inb {I:Imm} {m:aQ} {w:World} {n:Nat} (hn:m.length <= n) {o:AObj} {l:Loc} (h:ObjRel I m w o l):o.inb n=true:=by
 cases o with
 | dead=>rfl
 | cells g cs =>
  obtain ⟨b,lo,n',vs,rfl,hle,hr,rest⟩:=h
  simp only [AObj.inb,inbL_eq,List.all_eq_true]
  exact inb_all hr.1 fun i a x ha hx=>(hr.2 i a x ha hx).inb hn
 | tok n=>rfl
 | amap es =>
  obtain ⟨b,ents,clock,rfl,h1,h2,h3,h4,h5⟩:=h
  simp only [AObj.inb,List.all_eq_true,Bool.and_eq_true]
  intro p hp
  obtain ⟨i,hi⟩:=List.getElem?_of_mem hp
  have hlt:=(List.getElem?_eq_some_iff.1 hi).1
  have:=h3 i p ents[i] hi (by simp)
  exact ⟨this.1.inb hn,this.2.inb hn⟩
 | loop env x st pd =>
  obtain ⟨b,d,rfl,h1,h2⟩:=h
  simp only [AObj.inb,List.all_eq_true]
  intro p hp
  by_cases hd:p.1=dslot
  .simp [hd]
  .cases hg:env.get p.1 with
   | none=>simp
   | some v =>
    obtain ⟨y,hy,hr⟩:=h2 p.1 v hd hg
    simp [hr.inb hn]
 | queue=>rfl
 | siter t p=>rfl
 | bmap es bs clock =>
  obtain ⟨b,ents,rfl,h1,⟨h2,h3,h4,h5⟩,h6⟩:=h
  simp only [AObj.inb,List.all_eq_true,Bool.and_eq_true]
  intro p hp
  obtain ⟨i,hi,rfl⟩:=List.mem_iff_getElem.1 hp
  have:=h3 i es[i] ents.toList[i] (by simp [hi]) (by simp [show i < ents.toList.length by omega])
  exact ⟨this.1.inb hn,this.2.inb hn⟩
 | miter mo since c0 seen =>
  obtain ⟨b,mb,rfl,h1,h2⟩:=h
  rcases h2 with ⟨e1,e2⟩ | ⟨o,r,e1,e2,h2⟩
  .subst e1; rfl
  .subst e1; exact h2.inb hn
theorem Inv.take {G:Globs} {I:Imm} {m:aQ} {h:AHeap} {w:World} (hv:Inv G I m h w) (n:Nat) (hb:∀ (i:Nat) (o:AObj),i < n -> h[i]?=some o -> o.inb n=true) (hn:n <= h.length):Inv G I (m.take n) (h.take n) w where
 len:=by simp [hv.len]
 obj i o l ho hl:=by
  rw [List.getElem?_take] at ho hl
  split at ho
  .rename_i hi
   rw [if_pos hi] at hl
   have hbo:=hb i o hi ho
   exact (hv.obj i o l ho hl).cut (n:=n) (by simp; have:=hv.len; omega) (fun j hj=>by rw [List.getElem?_take,if_pos hj]) hbo
  .cases ho
 imm:=hv.imm
 disj i j l l' b o hi hj:=by
  rw [List.getElem?_take] at hi hj
  split at hi
  .split at hj
   .exact hv.disj i j l l' b o hi hj
   .cases hj
  .cases hi
 immd i l b o hi:=by
  rw [List.getElem?_take] at hi
  split at hi
  .exact hv.immd i l b o hi
  .cases hi
 lt i l b o hi:=by
  rw [List.getElem?_take] at hi
  split at hi
  .exact hv.lt i l b o hi
  .cases hi
 glob:=hv.glob
theorem Trans.take {k n:Nat} {I I':Imm} {m m':aQ} {w w':World} (h:Trans k I m w I' m' w') (hk:k <= n):Trans k I m w I' (m'.take n) w' :=
 {h with
  own:=fun i l b o hi=>by
   rw [List.getElem?_take] at hi
   split at hi
   .exact h.own i l b o hi
   .cases hi
  loc:=fun i l hi hl=>by
   obtain ⟨l',h1,h2⟩:=h.loc i l hi hl
   exact ⟨l',by rw [List.getElem?_take,if_pos (by omega)]; exact h1,h2⟩ }
inductive AEnd where
 | ret (v:AV)
 | pan (v:AV)
def EndRel (I:Imm) (m:aQ):AEnd -> Ending -> Prop
 | .ret v,.returned x=>AVRel I m v x
 | .pan v,.panicked ch=>∃ x,ch=[{ v:=x,recovered:=false }] /\ AVRel I m v x
 | _,_=>False
def aJ (P:Program) (f:FuncId):Bool :=
 match P.funcs[f]? with
 | some fn=>fn.body.isSome && !(fn.name == "runtime.NumGoroutine")
 | none=>false
def ACalls (P:Program) (G:Globs) (f:FuncId) (args:List AV) (h:AHeap) (R:AEnd -> AHeap -> Prop):Prop :=
 aJ P f=true /\ ∀ (I:Imm) (m:aQ) (w:World) (vs:List Value),Inv G I m h w -> AVRels I m args vs ->
  Calls P f vs.toArray w fun e w'=>∃ r h' I' m',R r h' /\ EndRel I' m' r e /\ Inv G I' m' h' w' /\ Trans h.length I m w I' m' w'
theorem ACalls.mono {P:Program} {G:Globs} {f:FuncId} {args:List AV} {h:AHeap} {R R':AEnd -> AHeap -> Prop} (hc:ACalls P G f args h R) (hr:∀ r h',R r h' -> R' r h'):ACalls P G f args h R' :=
 ⟨hc.1,fun I m w vs hi ha=>(hc.2 I m w vs hi ha).mono fun e w' ⟨r,h',I',m',h1,h2⟩=>⟨r,h',I',m',hr _ _ h1,h2⟩⟩
end Go.Apx
end
section
namespace Go.Apx
structure AItem where
 dst:Option Nat
 op:AOp
 guard:Option (Nat × Bool)
 after:List Nat
def Opd.slots:Opd -> List Nat
 | .t n=>[n]
 | _=>[]
def AOp.opds:AOp -> List Opd
 | .mv x | .box x | .boxm x | .load _ x | .un _ x | .conv _ x | .same x | .nilc x | .clearM x | .clearS _ _ x | .capn x | .rangeS x | .nextS x | .rangeM x | .nextM x | .entryM x | .convRS x | .mkIface _ x | .faddr _ _ x | .field _ _ x | .extract x _ | .len _ x | .tassert _ _ _ x | .panic x | .pstore _ _ x=>[x]
 | .pick c a b=>[c,a,b]
 | .new _ | .pnew _ | .mkMap | .recover=>[]
 | .build _ ps=>ps.map fun p=>p.2.2
 | .bslice _ _ _ ps=>ps.map fun p=>p.2
 | .mslice _ _ _ ps=>ps.map fun p=>p.2
 | .store _ a x=>[a,x]
 | .delM _ x y | .bin _ x y | .eqb _ x y | .eqnil _ _ x y | .eqagg _ _ x y | .mkSlice _ _ _ x y | .iaddr _ x y | .iaddrA _ _ x y | .index _ _ x y | .indexS x y | .lookup _ _ _ x y | .append _ _ x y | .mappend _ _ x y | .happend _ _ x y | .zappend _ _ _ x y | .copy _ x y | .mx _ x y=>[x,y]
 | .mkFunc _ a b=>a++b
 | .mapUpd _ a b c=>[a,b,c]
 | .slice _ x lo hi m3 | .kslice _ x lo hi m3=>x :: (lo.toList++hi.toList++m3.toList)
 | .call f args | .defer f args=>f :: args
def AOp.extra:AOp -> List Nat
 | .pstore _ d _=>[d]
 | .defer _ _=>[dslot]
 | _=>[]
def AItem.reads (it:AItem):List Nat :=
 (match it.guard with | some (d,_)=>[d] | none=>[])++it.op.extra++it.op.opds.flatMap Opd.slots
def AItem.writes (it:AItem):List Nat :=
 (match it.dst with | some d=>[d] | none=>[])++it.op.extra
def AItem.apart (x y:AItem):Bool :=
 x.writes.all (fun t=>!(y.reads.contains t) && !(y.writes.contains t)) && y.writes.all (fun t=>!(x.reads.contains t))
def AOp.loud:AOp -> Bool
 | .new _ | .boxm _ | .store _ _ _ | .mkMap | .mslice _ _ _ _ | .mkSlice _ _ _ _ _ | .mapUpd _ _ _ _ | .append _ _ _ _ | .mappend _ _ _ _ | .happend _ _ _ _ | .kslice _ _ _ _ _ | .zappend _ _ _ _ _ | .clearM _ | .clearS _ _ _ | .delM _ _ _ | .rangeS _ | .nextS _ | .rangeM _ | .nextM _ | .copy _ _ _ | .panic _ | .call _ _ | .defer _ _ | .recover=>true
 | _=>false
def ancs:List AItem -> List (List Nat) -> List (List Nat)
 | [],acc=>acc.reverse
 | it :: r,acc=>ancs r ((it.after++it.after.flatMap fun j=>(acc.reverse)[j]?.getD []).eraseDups :: acc)
def bT (l:List AItem):List Nat :=
 let an:=ancs l []
 let loud:=(List.range l.length).filter fun i=>(l[i]?).any fun it=>it.op.loud
 let lev:=fun i=>(loud.filter fun j=>(an[i]?.getD []).contains j).length
 let quietAt:=fun n=>(List.range l.length).filter fun i=>!loud.contains i && lev i == n
 quietAt 0++(List.range loud.length).flatMap fun n=>(loud[n]?).toList++quietAt (n+1)
def bX (l:List AItem) (an:List (List Nat)):List Nat -> List (Bool × Nat)
 | []=>[]
 | i :: r=>(r.any fun j=>!(an[j]?.getD []).contains i,i) :: bX l an r
def planOk (l:List AItem) (an:List (List Nat)):List Nat -> List Nat -> Bool
 | _,[]=>true
 | done,i :: r =>
  (match l[i]? with
   | none=>false
   | some it=>it.after.all (done.contains ·) && r.all fun j=>j != i && ((an[j]?.getD []).contains i || (match l[j]? with | some jt=>it.apart jt | none=>false))) && planOk l an (i :: done) r
def ancOk (l:List AItem) (an:List (List Nat)):Bool :=
 (List.range l.length).all fun i=>(an[i]?.getD []).all fun x=>match l[i]? with
  | some it=>it.after.any fun j=>j == x || (an[j]?.getD []).contains x
  | none=>false
def planOf (l:List AItem):Option (List (Bool × AItem)) :=
 let an:=ancs l []
 let p:=bT l
 if p.length=l.length /\ ancOk l an=true /\ planOk l an [] p=true /\ (List.range l.length).all (p.contains ·)=true then mapM' (fun (q:Bool × Nat)=>(l[q.2]?).map fun it=>(q.1,it)) (bX l an p) else none
structure ESet where
 ks:KeyK
 m:Opd
 k:Opd
 v:Opd
 e:Nat
 s:Nat
inductive ACode where
 | skip
 | reg (l:List AItem)
 | dreg (l:List (Bool × AItem))
 | ereg (l:List (Bool × AItem)) (es:List ESet)
 | seq (a b:ACode)
 | cond (c:Opd) (a b:ACode)
 | block (id:Nat) (a:ACode)
 | loop (a:ACode)
 | scope (a:ACode)
 | rangeF (g:Opd) (ps:List Nat) (a b:ACode)
 | exit (id:Nat)
 | ret
 | label (l:Nat)
 | goto (l:Nat)
def dstOk (N:Nat):Option Nat -> Bool
 | some d=>decide (d < N) && decide (d < dslot)
 | none=>true
def bd (P:Program) (ann:List Nat) (N:Nat) (ops:Array Oper) (o:Oper):Option AItem :=
 match aR P ann o with
 | none=>none
 | some op =>
  if dstOk N o.dst then
   match o.guard with
   | none=>some { dst:=o.dst,op,guard:=none,after:=(o.after.toList.filter (Region.binds .any)).map (·.on) }
   | some (j,want)=>match (ops[j]?).bind (·.dst) with
    | some d=>if dslot <= d then none else some { dst:=o.dst,op,guard:=some (d,want),after:=(o.after.toList.filter (Region.binds .any)).map (·.on) }
    | none=>none
  else none
def isEntry (o:Oper):Bool:=match o.op with | .mapEntry _ _ _=>true | _=>false
def bindsTo (o:Oper) (r:Nat):Bool:=o.after.any fun e=>Region.binds .any e && e.on == r
def floatB (o:Oper):Bool:=(match o.op with | .move _=>true | _=>false) && o.guard.isNone && o.after.all fun e=>!Region.binds .any e
def floatsOf (ops:Array Oper) (n1:Nat):List Nat:=(List.range n1).filter fun i=>match ops[i]? with | some o=>floatB o | none=>false
def notSel (o:Oper):Bool:=match o.op with | .select _ _=>false | _=>true
def splitB (ops:Array Oper) (n1:Nat):Bool :=
 let fl:=floatsOf ops n1
 decide (n1 < ops.size) &&
 ((List.range ops.size).all fun i=>match ops[i]? with
  | some o=>o.guard.isNone && notSel o && (o.after.all fun e=>!Region.binds .any e || decide (e.on < i)) && (decide (i <= n1) || o.after.any fun e=>Region.binds .any e && e.on+1 == i)
  | none=>false) &&
 ((List.range n1).all fun r=>fl.contains r || (match ops[n1]? with | some o=>bindsTo o r | none=>false) ||
  (List.range n1).any fun r'=>decide (r < r') && !fl.contains r' && (match ops[r']? with | some o'=>bindsTo o' r | none=>false)) &&
 fl.all fun f=>match ops[f]? with
  | some o=>(List.range ops.size).all fun j=>match ops[j]? with
   | some oj=>j == f || bindsTo oj f || o.apart ops oj
   | none=>true
  | none=>false
def setsOf (P:Program) (N:Nat):List Oper -> Option (List ESet)
 | []=>some []
 | o1 :: o2 :: o3 :: r=>match o1.op,o1.dst,o2.op,o2.dst,o3.op,o3.dst with
  | .mapEntry t (.tmp mt) kx,some e,.extract (.tmp e') 1,some s,.entryStore t' (.tmp mt') (.tmp s') vx,none =>
   if e'=e /\ s'=s /\ t'=t /\ mt'=mt /\ e < N /\ s < N /\ e ≠ s then
    match P.underlying t,aF (.tmp mt),aF kx,aF vx with
    | some (.map kt el),some m,some k,some v=>match bc P kt,az P el with
     | some ks,some _=>(setsOf P N r).map (⟨ks,m,k,v,e,s⟩ :: ·)
     | _,_=>none
    | _,_,_,_=>none
   else none
  | _,_,_,_,_,_=>none
 | _=>none
def eregOf (P:Program) (ann:List Nat) (N:Nat) (ops:Array Oper):Option ACode :=
 match ops.toList.findIdx? isEntry with
 | none=>none
 | some n1=>if splitB ops n1 then
   match mapM' (bd P ann N (ops.extract 0 n1)) (ops.extract 0 n1).toList,setsOf P N (ops.toList.drop n1) with
   | some l,some es=>(planOf l).map fun pl=>.ereg pl es
   | _,_=>none
  else none
def aE (P:Program) (ann:List Nat) (N:Nat):Code -> Option ACode
 | .skip=>some .skip
 | .label l=>some (.label l)
 | .goto l=>some (.goto l)
 | .region _ ops draw=>match mapM' (bd P ann N ops) ops.toList with
  | some l=>if draw then (planOf l).map .dreg else some (.reg l)
  | none=>if draw then eregOf P ann N ops else none
 | .seq a b=>match aE P ann N a,aE P ann N b with
  | some a,some b=>some (.seq a b)
  | _,_=>none
 | .cond c a b=>match aF c,aE P ann N a,aE P ann N b with
  | some c,some a,some b=>some (.cond c a b)
  | _,_,_=>none
 | .block id a=>(aE P ann N a).map (.block id)
 | .loop a=>(aE P ann N a).map .loop
 | .scope a=>(aE P ann N a).map .scope
 | .rangeFunc g ps a b=>match aF g,aE P ann N a,aE P ann N b with
  | some g,some a,some b=>if ps.toList.all (fun t=>decide (t < N) && decide (t < dslot)) then some (.rangeF g ps.toList a b) else none
  | _,_,_=>none
 | .exit id=>some (.exit id)
 | .ret=>some .ret
 | _=>none
structure Cx where
 P:Program
 G:Globs
 N:Nat
 ann:List Nat
 k:Nat
 ro:Option Nat
inductive AExit where
 | normal
 | exit (id:Nat)
 | ret
 | pan (v:AV)
 | goto (l:Nat)
def bB (I:Imm) (m:aQ):AExit -> Exit -> Prop
 | .normal,.normal=>True
 | .exit i,.exit j=>i=j
 | .goto i,.goto j=>i=j
 | .ret,.ret=>True
 | .pan v,.panic ch=>∃ x,ch=[{ v:=x,recovered:=false }] /\ AVRel I m v x
 | _,_=>False
abbrev APost:=AExit -> Env -> AHeap -> Prop
def fen:Option Nat -> Fence
 | none=>Fence.wide
 | some l=>Fence.wide.inRound l
def CPost (C:Cx) (rc:Option Nat) (I0:Imm) (m0:aQ) (w0:World) (Q:APost):Exit -> Act -> World -> Prop:=fun e a w =>
 ∃ x env h I m,Q x env h /\ bB I m x e /\ Rel C.G C.N (C.ro,rc) w0.heap.size I m env h a w /\ Trans C.k I0 m0 w0 I m w /\ C.k <= m.length
def AWp (C:Cx) (ac:ACode) (Q:APost) (env:Env) (h:AHeap):Prop :=
 ∀ c,aE C.P C.ann C.N c=some ac -> ∀ (rc:Option Nat) (I0:Imm) (m0:aQ) (w0:World) (I:Imm) (m:aQ) (a:Act) (w:World),Trans C.k I0 m0 w0 I m w -> C.k <= m.length ->
  Rel C.G C.N (C.ro,rc) w0.heap.size I m env h a w -> c.wpIn (fen rc) 0 C.P (CPost C rc I0 m0 w0 Q) a w
theorem AWp.mono {C:Cx} {ac:ACode} {Q Q':APost} {env:Env} {h:AHeap} (hw:AWp C ac Q env h) (hq:∀ e env h,Q e env h -> Q' e env h):AWp C ac Q' env h :=
 fun c hc rc I0 m0 w0 I m a w ht hk hr=>wpIn_mono (hw c hc rc I0 m0 w0 I m a w ht hk hr) fun e a w ⟨x,env,h,I,m,h1,h2⟩=>⟨x,env,h,I,m,hq _ _ _ h1,h2⟩
theorem Rel.weaken {G:Globs} {N S:Nat} {D:Ro} {I:Imm} {m:aQ} {env env':Env} {h:AHeap} {a:Act} {w:World} (hr:Rel G N D S I m env h a w) (hle:EnvLe env' env):Rel G N D S I m env' h a w :=
 ⟨hr.inv,hr.env.weaken hle,hr.size,by rw [hle.2]; exact hr.defers,hr.ro⟩
theorem AWp.weaken {C:Cx} {ac:ACode} {Q:APost} {env env':Env} {h:AHeap} (hw:AWp C ac Q env' h) (hle:EnvLe env' env):AWp C ac Q env h :=
 fun c hc rc I0 m0 w0 I m a w ht hk hr=>hw c hc rc I0 m0 w0 I m a w ht hk (hr.weaken hle)
def aY (env:Env):Option Nat -> AV -> Env
 | some d,v=>env.put d v
 | none,_=>env
def guardOf (env:Env):Option (Nat × Bool) -> Option Bool
 | none=>some true
 | some (d,want)=>match env.get d with
  | some (.sc (.bool b))=>some (b == want)
  | some (.tup [])=>some false
  | _=>none
def AYields (P:Program) (G:Globs) (o:Nat) (args:List AV) (h:AHeap) (R:AEnd -> AHeap -> Prop):Prop :=
 ∀ (I:Imm) (m:aQ) (w:World) (vs:List Value) (l:Nat),Inv G I m h w -> AVRels I m args vs -> m[o]?=some (.whole l) ->
  YieldAt Fence.wide 0 P l vs.toArray w fun e w'=>∃ r h' I' m',R r h' /\ EndRel I' m' r e /\ Inv G I' m' h' w' /\ Trans h.length I m w I' m' w'
def isLoop (h:AHeap) (o:Nat):Bool :=
 match h[o]? with
 | some (.loop _ _ _ _)=>true
 | _=>false
def deferred (env:Env):Option (List AV) :=
 match env.get dslot with
 | none=>some []
 | some (.tup l)=>some l
 | some _=>none
def bJ (C:Cx) (it:AItem) (env:Env) (h:AHeap) (K:Env -> AHeap -> Prop) (Q:APost):Prop :=
 match it.op with
 | .pnew n=>match it.dst with
  | some d=>K (env.put d (.pend n)) h
  | none=>False
 | .pstore n d x=>match env.get d,oneOpd C.G env x with
  | some (.pend n'),some v=>n'=n /\ v.cells.length=n /\ it.dst=none /\ K (env.put d (.ip v)) h
  | _,_=>False
 | .call f args=>match aD C.G env f,mapM' (aD C.G env) args with
  | some (.fn (.func fid) a b),some vs=>∃ R,ACalls C.P C.G fid (a++vs++b) h R /\ ∀ r h',R r h' -> (match r with
    | .ret v=>K (aY env it.dst v) h'
    | .pan v=>Q (.pan v) env h')
  | some (.yld o),some vs=>isLoop h o=true /\ ∃ R,AYields C.P C.G o vs h R /\ ∀ r h',R r h' -> (match r with
    | .ret v=>K (aY env it.dst v) h'
    | .pan v=>Q (.pan v) env h')
  | _,_=>False
 | .defer f args=>match aD C.G env f,mapM' (aD C.G env) args,deferred env with
  | some (.fn (.func fid) a b),some vs,some l=>C.ro=none /\ it.dst=none /\ K (env.put dslot (.tup (.tup (.fn (.func fid) a b :: vs) :: l))) h
  | _,_,_=>False
 | .panic x=>match aD C.G env x with
  | some (.ifc t v)=>Q (.pan (.ifc t v)) env h
  | _=>False
 | .rangeM x=>match aD C.G env x with
  | some (.sc (.map none))=>K (aY env it.dst (.it h.length)) (h++[.miter none 0 0 []])
  | some (.mp mo)=>match h[mo]? with
   | some (.amap es)=>∀ (bs:List Nat) (clock:Nat),bs.length=es.length -> bs.Nodup -> (∀ b ∈ bs,b < clock) -> K (aY env it.dst (.it h.length)) (h.set mo (.bmap es bs clock)++[.miter (some mo) clock clock []])
   | _=>False
  | _=>False
 | .nextM x=>match aD C.G env x with
  | some (.it io)=>match h[io]? with
   | some (.miter none since c0 seen)=>K (aY env it.dst (.tup [.sc (.bool false)])) h
   | some (.miter (some mo) since c0 seen)=>match h[mo]? with
    | some (.bmap es bs clock)=>(∀ b ∈ bs,b < since) /\ since <= c0 /\ ((∀ b ∈ bs,b ∈ seen) -> K (aY env it.dst (.tup [.sc (.bool false)])) (h.set mo (.amap es))) /\
      ∀ (i:Nat) (p:AV × AV) (b:Nat),es[i]?=some p -> bs[i]?=some b -> b ∉ seen -> K (aY env it.dst (.tup [.sc (.bool true),p.1,p.2])) (h.set io (.miter (some mo) since clock (seen++[b])))
    | _=>False
   | _=>False
  | _=>False
 | .happend kk b x y=>match aD C.G env x,(aD C.G env y).bind (elems h kk) with
  | some (.sl q [] .nil),some xs=>xs ≠ [] /\ xs.length <= maxLenA /\ K (aY env it.dst (.rf h.length 0 0 xs.length (.own kk))) (h++[.cells 0 (xs.flatMap AV.cells)])
  | some (.rf o g 0 len (.own k')),some xs=>match h[o]? with
   | some (.cells g' cs)=>k'=kk /\ g'=g /\ (if (len+xs.length) * kk <= cs.length then K (aY env it.dst (.rf o g 0 (len+xs.length) (.own kk))) (h.set o (.cells g (cs.take (len * kk)++xs.flatMap AV.cells++cs.drop ((len+xs.length) * kk))))
     else len * kk <= cs.length /\ xs ≠ [] /\ len+xs.length <= maxLenA /\
     K (aY env it.dst (.rf o g 0 (len+xs.length) (.own kk))) (h.set o (.cells g (cs.take (len * kk)++xs.flatMap AV.cells))) /\
     K (aY env it.dst (.rf h.length 0 0 (len+xs.length) (.own kk))) (h++[.cells 0 (cs.take (len * kk)++xs.flatMap AV.cells)]))
   | _=>False
  | _,_=>False
 | .kslice kk x lo hi mx=>match aD C.G env x,bt 0 (lo.map (aD C.G env)) with
  | some (.rf o g off len rc),some l=>match bt len (hi.map (aD C.G env)) with
   | some r=>match mx with
    | none=>rc=.own kk /\ off=0 /\ l <= r /\ (match h[o]? with | some (.cells g' cs)=>g'=g /\ r * kk <= cs.length | _=>False) /\ K (aY env it.dst (.rf o g (l * kk) (r - l) .any)) h
    | some y=>match bt 0 (some (aD C.G env y)) with
     | some q=>hi.isSome=true /\ l <= r /\ r <= q /\ q <= len /\ K (aY env it.dst (.rf o g (off+l * kk) (r - l) .any)) h
     | none=>False
   | none=>False
  | _,_=>False
 | op=>match aA C.G env h op with
  | some (v,h')=>K (aY env it.dst v) h'
  | none=>False
def bG (C:Cx) (it:AItem) (env:Env) (h:AHeap) (K:Env -> AHeap -> Prop) (Q:APost):Prop :=
 match guardOf env it.guard with
 | some true=>bJ C it env h K Q
 | some false=>K (aY env it.dst (.tup [])) h
 | none=>False
def opsWp (C:Cx):List AItem -> APost -> Env -> AHeap -> Prop
 | [],Q,env,h=>Q .normal env h
 | it :: r,Q,env,h=>bG C it env h (fun env h=>opsWp C r Q env h) Q
theorem Trans.locs {k:Nat} {I I':Imm} {m m':aQ} {w w':World} (h:Trans k I m w I' m' w') (hk:m.length=k):LocsLe m m' :=
 fun i l hi=>h.loc i l (by rw [<- hk]; exact (List.getElem?_eq_some_iff.1 hi).1) hi
theorem Trans.len {k:Nat} {I I':Imm} {m m':aQ} {w w':World} (h:Trans k I m w I' m' w') (hk:k <= m.length):k <= m'.length:=by
 rcases Nat.lt_or_ge m'.length k with h1 | h1
 .obtain ⟨l',h2,_⟩:=h.loc m'.length m[m'.length] h1 (by simp [show m'.length < m.length by omega])
  have:=(List.getElem?_eq_some_iff.1 h2).1
  omega
 .exact h1
section
variable {C:Cx} {I0:Imm} {m0:aQ} {w0:World} {I:Imm} {m:aQ} {a:Act} {w:World} {env:Env} {h:AHeap} {ops:Array Oper} {o:Oper} {it:AItem}
theorem put_rel {D:Ro} {G:Globs} {N S:Nat} {dst:Option Nat} {v:AV} {x:Value} {h':AHeap} {I':Imm} {m':aQ} {w':World} {k:Nat} (hr:Rel G N D S I m env h a w) (hi:Inv G I' m' h' w') (ht:Trans k I m w I' m' w') (hm:LocsLe m m')
  (hv:AVRel I' m' v x) (hd:∀ d,dst=some d -> d < N /\ d ≠ dslot):Rel G N D S I' m' (aY env dst v) h' (a.put dst x) w':=by
 have he:=hr.env.trans ht hm
 cases dst with
 | none=>exact ⟨hi,he,hr.size,hr.defers.mono ht.imm hm,hr.ro.mono hm⟩
 | some d =>
  refine ⟨hi,he.put hv (by rw [hr.size]; exact (hd d rfl).1),?_,?_,hr.ro.mono hm⟩
  rotate_left
  .simp only [aY,Env.get_put,if_neg (Ne.symm (hd d rfl).2)]; exact hr.defers.mono ht.imm hm
  simp [Act.put,hr.size]
theorem bn (hc:bd C.P C.ann C.N ops o=some it):aR C.P C.ann o=some it.op /\ it.dst=o.dst /\ (∀ d,o.dst=some d -> d < C.N /\ d ≠ dslot) /\
  ((o.guard=none /\ it.guard=none) \/ ∃ j want d,o.guard=some (j,want) /\ (ops[j]?).bind (·.dst)=some d /\ it.guard=some (d,want) /\ d ≠ dslot) /\
  it.after=(o.after.toList.filter (Region.binds .any)).map (·.on):=by
 unfold bd at hc
 split at hc
 .cases hc
 .rename_i op hop
  split at hc
  .rename_i hd
   have hd':∀ d,o.dst=some d -> d < C.N /\ d ≠ dslot:=by
    intro d h1; rw [h1] at hd
    simp only [dstOk,Bool.and_eq_true,decide_eq_true_eq] at hd
    exact ⟨hd.1,Nat.ne_of_lt hd.2⟩
   split at hc
   .rename_i hg
    simp at hc; subst hc
    exact ⟨hop,rfl,hd',.inl ⟨hg,rfl⟩,rfl⟩
   .rename_i j want hg
    split at hc
    .rename_i d hj
     split at hc
     .cases hc
     .rename_i hle
      simp at hc; subst hc
      exact ⟨hop,rfl,hd',.inr ⟨j,want,d,hg,hj,rfl,fun e=>hle (by rw [e]; exact Nat.le_refl _)⟩,rfl⟩
    .cases hc
  .cases hc
theorem undef_rel:AVRel I m (.tup []) undef:=.tup [] [] rfl (fun i a x ha=>by simp at ha)
theorem pcalls {P:Program} {G:Globs} {N S:Nat} {D:Ro} {ann:List Nat} {f:Opd} {args:List Opd} {fid:FuncId} {fa fb vs:List AV} (hc:aR P ann o=some (.call f args)) (hr:Rel G N D S I m env h a w)
  (hf:aD G env f=some (.fn (.func fid) fa fb)) (hvs:mapM' (aD G env) args=some vs) (hbody:∃ fn,P.funcs[fid]?=some fn /\ fn.body.isNone=false /\ (fn.name == "runtime.NumGoroutine")=false) :
  ∃ us,AVRels I m (fa++vs++fb) us /\ (execOp a.eval o).run P w=.ok (.enter fid us.toArray) w:=by
 obtain ⟨fn,hfn,hb,hnm⟩:=hbody
 cases hop:o.op
 case makeMap t r=>cases r <;> simp [aR,hop] at hc
 all_goals simp only [aR,hop] at hc
 case call c =>
  split at hc
  .rename_i fo hcal
   split at hc
   .rename_i f' args' hcf hca
    simp at hc
    obtain ⟨rfl,rfl⟩:=hc
    have h1:=aG hcf hr hf
    have h2:=opds_sound hca hr hvs
    generalize hax:a.eval fo=ax at h1
    cases h1 with
    | fn _ _ _ fs cs hl hl' hrel hrel' =>
     refine ⟨fs++c.args.toList.map a.eval++cs,(AVRels.append ⟨hl,hrel⟩ h2).append ⟨hl',hrel'⟩,?_⟩
     have hargs:c.args.map a.eval=(c.args.toList.map a.eval).toArray:=by apply Array.ext'; simp
     simp only [execOp,hop,resolve,hcal,hax,Deferred.ofValue,Sem.run_bind,Sem.run_pure,Result.andThen_ok,invoke,callFunc,run_program,hfn,hnm,hb]
     simp [hargs]
   .cases hc
  all_goals (repeat' split at hc) <;> simp at hc
 all_goals first
  | (simp at hc; done)
  | ((repeat' split at hc) <;> simp at hc; done)
  | (simp only [compBin] at hc; (repeat' split at hc) <;> simp at hc; done)
theorem pyields {P:Program} {G:Globs} {N S:Nat} {D:Ro} {ann:List Nat} {f:Opd} {args:List Opd} {ob:Nat} {vs:List AV} (hc:aR P ann o=some (.call f args)) (hr:Rel G N D S I m env h a w)
  (hf:aD G env f=some (.yld ob)) (hvs:mapM' (aD G env) args=some vs) :
  ∃ us l,AVRels I m vs us /\ ob < m.length /\ (∀ b,m[ob]?=some (.whole b) -> l=b) /\ (execOp a.eval o).run P w=(Instr.yield l us.toArray).run P w:=by
 cases hop:o.op
 case makeMap t r=>cases r <;> simp [aR,hop] at hc
 all_goals simp only [aR,hop] at hc
 case call c =>
  split at hc
  .rename_i fo hcal
   split at hc
   .rename_i f' args' hcf hca
    simp at hc
    obtain ⟨rfl,rfl⟩:=hc
    have h1:=aG hcf hr hf
    have h2:=opds_sound hca hr hvs
    generalize hax:a.eval fo=ax at h1
    cases h1 with
    | yld _ l ho hl =>
     refine ⟨c.args.toList.map a.eval,l,h2,ho,hl,?_⟩
     have hargs:c.args.map a.eval=(c.args.toList.map a.eval).toArray:=by apply Array.ext'; simp
     simp only [execOp,hop,resolve,hcal,hax,Deferred.ofValue,Sem.run_bind,Sem.run_pure,Result.andThen_ok,invoke]
     simp [hargs]
   .cases hc
  all_goals (repeat' split at hc) <;> simp at hc
 all_goals first
  | (simp at hc; done)
  | ((repeat' split at hc) <;> simp at hc; done)
  | (simp only [compBin] at hc; (repeat' split at hc) <;> simp at hc; done)
end
end Go.Apx
end
section
namespace Go.Apx
open Go.ChangeMaps (setBlock)
section
variable {P:Program} {G:Globs} {N S k:Nat} {D:Ro} {o:Oper} {a:Act} {I:Imm} {m:aQ} {w:World} {env:Env} {h:AHeap}
theorem Inv.putObj (hv:Inv G I m h w) {i:Nat} {o':AObj} (ho:∀ l,m[i]?=some l -> ObjRel I m w o' l):Inv G I m (h.set i o') w :=
 {len:=by simp [hv.len]
  obj:=fun j o l hj hl=>by
   rw [List.getElem?_set] at hj
   split at hj
   .rename_i e; subst e
    split at hj
    .simp at hj; subst hj; exact ho l hl
    .cases hj
   .exact hv.obj j o l hj hl
  imm:=hv.imm,disj:=hv.disj,immd:=hv.immd,lt:=hv.lt,glob:=hv.glob }
theorem Inv.see (hv:Inv G I m h w) {i:Nat} {es:List (AV × AV)} (ho:h[i]?=some (.amap es)) :
  ∃ bs clock,bs.length=es.length /\ bs.Nodup /\ (∀ b ∈ bs,b < clock) /\ Inv G I m (h.set i (.bmap es bs clock)) w /\ ∃ b ents,m[i]?=some (.whole b) /\ w.heap[b]?=some (.map ents clock):=by
 have hlt:i < m.length:=by rw [hv.len]; exact (List.getElem?_eq_some_iff.1 ho).1
 obtain ⟨b,ents,clock,hl,hb,h2,h3,h4,h5⟩:=hv.obj i _ m[i] ho (by simp [hlt])
 have hm:m[i]?=some (.whole b):=by rw [<- hl]; simp [hlt]
 refine ⟨ents.toList.map (·.born),clock,by simpa using h2.symm,?_,?_,hv.putObj fun l hml=>?_,b,ents,hm,hb⟩
 .unfold List.Nodup
  rw [List.pairwise_map]
  exact h5
 .intro x hx
  obtain ⟨e,he,rfl⟩:=List.mem_map.1 hx
  exact h4 e he
 .rw [hm] at hml; cases hml
  exact ⟨b,ents,rfl,hb,⟨h2,h3,h4,h5⟩,rfl⟩
theorem Inv.hide (hv:Inv G I m h w) {i:Nat} {es:List (AV × AV)} {bs:List Nat} {c:Nat} (ho:h[i]?=some (.bmap es bs c)):Inv G I m (h.set i (.amap es)) w:=by
 refine hv.putObj fun l hl=>?_
 obtain ⟨b,ents,rfl,hb,hr,_⟩:=hv.obj i _ l ho hl
 exact ⟨b,ents,c,rfl,hb,hr⟩
theorem Inv.setMIter (hv:Inv G I m h w) {i b:Nat} {o':AObj} {mb mb':Option Nat} {s s' c c':Nat} {q q':Array Nat} {w1:World} (hw1:w1=w \/ w1=w.drew) (hl:m[i]?=some (.whole b)) (hb:w.heap[b]?=some (.mapIter mb s q c))
  (ho:∀ w':World,w'.heap[b]?=some (.mapIter mb' s' q' c') -> ObjRel I m w' o' (.whole b)) :
  Inv G I m (h.set i o') (setBlock w1 b (.mapIter mb' s' q' c')) /\ (∀ k,Trans k I m w I m (setBlock w1 b (.mapIter mb' s' q' c'))):=by
 have hheq:w1.heap=w.heap:=by rcases hw1 with rfl | rfl <;> rfl
 obtain ⟨W,hW⟩:∃ W,W=setBlock w1 b (.mapIter mb' s' q' c'):=⟨_,rfl⟩
 have hWh:W.heap=w.heap.setIfInBounds b (.mapIter mb' s' q' c'):=by rw [hW]; simp [setBlock,hheq]
 have hlt:b < w.heap.size:=hv.lt i _ b 0 hl rfl
 have hcell:∀ b' o,b' ≠ b -> W.cell? ⟨b',o,none⟩=w.cell? ⟨b',o,none⟩:=by
  intro b' o hne
  simp only [World.cell?,hWh]
  rw [Array.getElem?_setIfInBounds_ne (Ne.symm hne)]
 have hfroz:∀ a:Addr,W.frozen? a=w.frozen? a:=by
  intro a
  simp only [World.frozen?,hWh]
  by_cases hne:a.block=b
  .rw [hne,Array.getElem?_setIfInBounds_self_of_lt hlt,hb]
  .rw [Array.getElem?_setIfInBounds_ne (Ne.symm hne)]
 have hheap:∀ b',b' ≠ b -> W.heap[b']?=w.heap[b']?:=fun b' hne=>by rw [hWh]; exact Array.getElem?_setIfInBounds_ne (Ne.symm hne)
 have hself:W.heap[b]?=some (.mapIter mb' s' q' c'):=by rw [hWh]; exact Array.getElem?_setIfInBounds_self_of_lt hlt
 have hno:∀ o,w.cell? ⟨b,o,none⟩=none:=fun o=>by simp [World.cell?,hb]
 have himm:∀ b' o x,I b' o=some x -> b' ≠ b:=by
  rintro b' o x hx rfl
  have:=hv.imm b' o x hx
  rw [hno] at this; cases this
 have hsz:W.heap.size=w.heap.size:=by rw [hWh]; simp
 rw [<- hW]
 refine ⟨?_,fun k=>?_⟩
 .exact
  {len:=by simp [hv.len]
   obj:=fun j o l hj hlj=>by
    rw [List.getElem?_set] at hj
    split at hj
    .rename_i e; subst e
     split at hj
     .simp at hj; subst hj
      rw [hl] at hlj; simp at hlj; subst hlj
      exact ho W hself
     .cases hj
    .rename_i hne
     have hnb:∀ b' p,l.owns b' p -> b' ≠ b:=by
      rintro b' p hp rfl
      exact hne (hv.disj j i l _ b' p hlj hl hp rfl).symm
     exact (hv.obj j o l hj hlj).mono (.refl I) (.refl m) (fun b' p hp=>⟨hcell b' p (hnb b' p hp),hfroz _⟩)
      (fun b' e=>hheap b' (hnb b' 0 (by subst e; exact rfl)))
   imm:=fun b' o x hx=>by rw [hcell b' o (himm b' o x hx)]; exact hv.imm b' o x hx
   disj:=hv.disj
   immd:=hv.immd
   lt:=fun j l b' o hj hp=>by rw [hsz]; exact hv.lt j l b' o hj hp
   glob:=hv.glob }
 .exact
  {os:=by rw [hW]; rcases hw1 with rfl | rfl <;> rfl
   tape:=by rw [hW]; rcases hw1 with rfl | rfl <;> rfl
   output:=by rw [hW]; rcases hw1 with rfl | rfl <;> rfl
   size:=by rw [hsz]; exact Nat.le_refl _
   cell:=fun b' o hb' hn=>hcell b' o fun e=>hn i _ hl (by subst e; exact rfl)
   froz:=fun a ha=>hfroz a
   blk:=fun b' hb' hn=>hheap b' fun e=>hn i _ 0 hl (by subst e; exact rfl)
   imm:=.refl I
   own:=fun j l b' o h1 h2 _=>⟨j,l,h1,h2⟩
   immNew:=fun b' o _ hx=>.inl hx
   loc:=fun j l _ hj=>⟨l,hj,.refl l⟩ }
theorem snd_rangeM0 {t kt et:TypeId} {x:Operand} {x':Opd} (ho:o.op=.range t x) (ht:P.underlying t=some (.map kt et)) (hx:aF x=some x') (hk:k <= m.length)
  (hr:Rel G N D S I m env h a w) (hu:aD G env x'=some (.sc (.map none))):Does P G k o a I m w (.it h.length) (h++[.miter none 0 0 []]):=by
 have h1:=ae (aG hx hr hu)
 obtain ⟨h2,h3,h4⟩:=hr.inv.allocNew (.mapIter none 0 #[] 0) [] (.whole w.heap.size) (.miter none 0 0 []) (fun i x hx=>by simp at hx) (fun b o hp=>⟨hp,by simp⟩) ⟨w.heap.size,none,rfl,heap_alloc_new,.inl ⟨rfl,rfl⟩⟩
 refine ⟨.pointer (some ⟨w.heap.size,0,none⟩),_,_,_,.inl ?_,?_,h2,h3.mono hk,h4⟩
 .simp [execOp,ho,h1,run_range_nilMap w t kt et ht]
 .rw [<- hr.inv.len]
  exact .it m.length _ (by simp) fun b hb=>by simp at hb; exact hb
theorem snd_rangeM {t kt et:TypeId} {x:Operand} {x':Opd} {mo:Nat} {es:List (AV × AV)} (ho:o.op=.range t x) (ht:P.underlying t=some (.map kt et)) (hx:aF x=some x') (hk:k <= m.length)
  (hr:Rel G N D S I m env h a w) (hu:aD G env x'=some (.mp mo)) (hmo:h[mo]?=some (.amap es)) :
  ∃ bs clock,bs.length=es.length /\ bs.Nodup /\ (∀ b ∈ bs,b < clock) /\ Does P G k o a I m w (.it h.length) (h.set mo (.bmap es bs clock)++[.miter (some mo) clock clock []]):=by
 obtain ⟨bs,clock,q1,q2,q3,hv2,b,ents,hm,hb⟩:=hr.inv.see hmo
 refine ⟨bs,clock,q1,q2,q3,?_⟩
 have hp:=aG hx hr hu
 generalize hax:a.eval x=ax at hp
 cases hp with
 | mp _ r ho2 hrr =>
  have:=hrr b hm
  subst this
  obtain ⟨h2,h3,h4⟩:=hv2.allocNew (.mapIter (some r) clock #[] clock) [] (.whole w.heap.size) (.miter (some mo) clock clock []) (fun i x hx=>by simp at hx) (fun b o hp=>⟨hp,by simp⟩)
   ⟨w.heap.size,some r,rfl,heap_alloc_new,.inr ⟨mo,r,rfl,rfl,(AVRel.mp (I:=I) (m:=m) mo r ho2 hrr).mono (Imm.row_le hr.inv.imm_new) (LocsLe.append m _)⟩⟩
  refine ⟨.pointer (some ⟨w.heap.size,0,none⟩),_,_,_,.inl ?_,?_,h2,h3.mono hk,h4⟩
  .simp [execOp,ho,hax,run_range_map w t kt et r ents clock ht hb]
  .rw [<- hr.inv.len]
   exact .it m.length _ (by simp) fun b hb=>by simp at hb; exact hb
theorem snd_nextM0 {x:Operand} {x':Opd} {io since c0:Nat} {seen:List Nat} (ho:o.op=.next x false) (hx:aF x=some x') (hr:Rel G N D S I m env h a w) (hu:aD G env x'=some (.it io)) (hio:h[io]?=some (.miter none since c0 seen)) :
  Does P G k o a I m w (.tup [.sc (.bool false)]) h:=by
 have hp:=aG hx hr hu
 generalize hax:a.eval x=ax at hp
 have hlt:io < m.length:=by rw [hr.inv.len]; exact (List.getElem?_eq_some_iff.1 hio).1
 obtain ⟨b,mb,hl,hb,hrel⟩:=hr.inv.obj io _ m[io] hio (by simp [hlt])
 have hm:m[io]?=some (.whole b):=by rw [<- hl]; simp [hlt]
 have hmb:mb=none:=by
  rcases hrel with h | ⟨o,r,h,_⟩
  .exact h.2
  .cases h
 subst hmb
 cases hp with
 | it _ rr _ hrr =>
  have:=hrr b hm
  subst this
  refine .same hr.inv (x:=.tuple #[.bool false]) ?_ (.inl ?_)
  .exact AVRel.tup _ [_] rfl (by
    intro i a x ha hx
    match i with
    | 0=>simp at ha hx; subst ha hx; exact .sc _
    | n+1=>simp at ha)
  .simp [execOp,ho,Instr.next,hax,getObj,Sem.run,hb]
theorem snd_nextM {x:Operand} {x':Opd} {io mo since c0 clock:Nat} {seen bs:List Nat} {es:List (AV × AV)} (ho:o.op=.next x false) (hx:aF x=some x') (hr:Rel G N D S I m env h a w) (hu:aD G env x'=some (.it io))
  (hio:h[io]?=some (.miter (some mo) since c0 seen)) (hmo:h[mo]?=some (.bmap es bs clock)) (hold:∀ b ∈ bs,b < since) (hsc:since <= c0) :
  ((∀ b ∈ bs,b ∈ seen) /\ Does P G k o a I m w (.tup [.sc (.bool false)]) (h.set mo (.amap es))) \/
  ∃ (i:Nat) (p:AV × AV) (b:Nat),es[i]?=some p /\ bs[i]?=some b /\ b ∉ seen /\ Does P G k o a I m w (.tup [.sc (.bool true),p.1,p.2]) (h.set io (.miter (some mo) since clock (seen++[b]))):=by
 have hp:=aG hx hr hu
 generalize hax:a.eval x=ax at hp
 have hlt:io < m.length:=by rw [hr.inv.len]; exact (List.getElem?_eq_some_iff.1 hio).1
 have hltm:mo < m.length:=by rw [hr.inv.len]; exact (List.getElem?_eq_some_iff.1 hmo).1
 obtain ⟨b,mb,hl,hb,hrel⟩:=hr.inv.obj io _ m[io] hio (by simp [hlt])
 have hm:m[io]?=some (.whole b):=by rw [<- hl]; simp [hlt]
 obtain ⟨b2,ents,hl2,hb2,⟨e1,e2,e3,e4⟩,hbs⟩:=hr.inv.obj mo _ m[mo] hmo (by simp [hltm])
 have hm2:m[mo]?=some (.whole b2):=by rw [<- hl2]; simp [hltm]
 obtain ⟨mo',r,hq1,hmb,hmp⟩:=hrel.resolve_left (fun h=>by cases h.1)
 cases hq1
 subst hmb
 have hrb:r=b2:=by cases hmp with | mp _ _ _ h=>exact h b2 hm2
 subst hrb
 subst hbs
 cases hp with
 | it _ rr _ hrr =>
  have:=hrr b hm
  subst this
  rcases run_next_at (P:=P) w o.type rr r since c0 seen.toArray ents clock hb hb2 (fun x hx=>hold x.born (List.mem_map.2 ⟨x,hx,rfl⟩)) hsc with ⟨h0,hrun⟩ | ⟨e,he,w1,hal,hrun⟩
  .left
   refine ⟨fun y hy=>?_,.tuple #[.bool false],w,I,m,.inl ?_,?_,hr.inv.hide hmo,.refl k I m w,.refl m⟩
   .obtain ⟨x,hx,rfl⟩:=List.mem_map.1 hy
    have:=all_seen ents seen.toArray h0 x hx
    simpa using this
   .simp only [execOp,ho,hax]
    rw [Sem.run_bind,hrun]; rfl
   .exact AVRel.tup _ [_] rfl (by
     intro i a x ha hx
     match i with
     | 0=>simp at ha hx; subst ha hx; exact .sc _
     | n+1=>simp at ha)
  .right
   obtain ⟨hem,hes⟩:=mem_left he
   obtain ⟨i,hi,hie⟩:=List.mem_iff_getElem.1 hem
   have hei:ents.toList[i]?=some e:=by rw [<- hie]; simp [hi]
   have hil:i < es.length:=by rw [e1]; exact hi
   obtain ⟨k1,k2⟩:=e2 i es[i] e (by simp [hil]) hei
   obtain ⟨hi2,ht2⟩:=hr.inv.setMIter (o':=.miter (some mo) since clock (seen++[e.born])) (mb':=some r) (s':=since) (q':=seen.toArray.push e.born) (c':=clock) hal hm hb
    (fun w' hw'=>⟨rr,some r,rfl,by rw [hw']; simp,.inr ⟨mo,r,rfl,rfl,hmp⟩⟩)
   refine ⟨i,es[i],e.born,by simp [hil],by rw [List.getElem?_map,hei]; rfl,by simpa using hes,.tuple #[.bool true,e.key,e.val],_,I,m,.inl ?_,?_,hi2,ht2 k,.refl m⟩
   .simp only [execOp,ho,hax]
    rw [Sem.run_bind,hrun]; rfl
   .exact AVRel.tup _ [_,_,_] rfl (by
     intro j a x ha hx
     match j with
     | 0=>simp at ha hx; subst ha hx; exact .sc _
     | 1=>simp at ha hx; subst ha hx; exact k1
     | 2=>simp at ha hx; subst ha hx; exact k2
     | n+3=>simp at ha)
end
end Go.Apx
end
section
namespace Go.Apx
section
variable {C:Cx} {I0:Imm} {m0:aQ} {w0:World} {I:Imm} {m:aQ} {a:Act} {w:World} {env:Env} {h:AHeap} {ops:Array Oper} {o:Oper} {it:AItem}
 {K:Env -> AHeap -> Prop} {Q:APost} {next:Act -> World -> Prop} {rc:Option Nat}
def Goes (C:Cx) (rc:Option Nat) (I0:Imm) (m0:aQ) (w0:World) (K:Env -> AHeap -> Prop) (next:Act -> World -> Prop):Prop :=
 ∀ (env:Env) (h:AHeap) (I:Imm) (m:aQ) (a:Act) (w:World),K env h -> Rel C.G C.N (C.ro,rc) w0.heap.size I m env h a w -> Trans C.k I0 m0 w0 I m w -> C.k <= m.length -> next a w
theorem fen_fn (rc:Option Nat) (f:FuncId):(fen rc).fn f:=by cases rc <;> trivial
theorem fen_depth (rc:Option Nat):(fen rc).depth=none:=by cases rc <;> rfl
theorem fen_round (rc:Option Nat):(fen rc).round=rc:=by cases rc <;> rfl
theorem wp_gives {P:Program} {x:Value} {w':World} {Q':Exit -> Act -> World -> Prop} (hnd:∀ c,o.op ≠ .defer c) (hg:Gives P o a w x w') (hn:next (a.put o.dst x) w'):o.wpIn (fen rc) 0 P a w next Q':=by
 refine ⟨fun f _=>fen_fn rc f,?_⟩
 rw [Oper.semAt_eq _ _ _ hnd]
 rcases hg with hg | ⟨hg,rfl⟩ <;> simp only [hg,Oper.uponIn] <;> exact hn
theorem not_defer {P:Program} {ann:List Nat} {ao:AOp} (hc:aR P ann o=some ao) (hn:∀ f args,ao ≠ .defer f args):∀ c,o.op ≠ .defer c:=by
 intro c ho
 simp only [aR,ho] at hc
 split at hc
 .split at hc
  .simp at hc; exact hn _ _ hc.symm
  .cases hc
 .cases hc
theorem callsIn_of {P:Program} {f:FuncId} {args:Array Value} {R:Ending -> World -> Prop} (h:Calls P f args w R):CallsIn (fen rc) 0 P f args w R:=by
 cases rc with
 | none=>exact callsIn_wide.2 h
 | some l =>
  have h':CallsIn Fence.wide 0 P f args w R:=callsIn_wide.2 h
  exact h'
theorem Inv.allocLoose {G:Globs} {k:Nat} (hv:Inv G I m h w) (cs:Array Value) (e:TypeId) :
  Inv G I m h (w.alloc (.cells cs e)) /\ Trans k I m w I m (w.alloc (.cells cs e)):=by
 refine ⟨hv.frame (.refl I) (by simp) (fun b p hb=>World.cell?_alloc_lt w _ _ hb) (fun a ha=>World.frozen?_alloc_old w _ a (Nat.ne_of_lt ha))
  (fun b hb=>ba hb) (fun b o hb hx=>hx) (fun b o v hx=>?_),?_⟩
 .rw [World.cell?_alloc_lt w _ _ (hv.imm_lt hx)]; exact hv.imm b o v hx
 .exact
     {os:=rfl,tape:=rfl,output:=rfl,size:=by simp,cell:=fun b o hb _=>World.cell?_alloc_lt w _ _ hb,
      froz:=fun a ha=>World.frozen?_alloc_old w _ a (Nat.ne_of_lt ha),blk:=fun b hb _=>ba hb,imm:=.refl I,
      own:=fun i l b o h1 h2 _=>⟨i,l,h1,h2⟩,immNew:=fun b o hb hx=>.inl hx,
      loc:=fun i l _ hl=>⟨l,hl,.refl l⟩ }
theorem opWp_default {v:AV} {h':AHeap} (hc:bd C.P C.ann C.N ops o=some it) (hr:Rel C.G C.N (C.ro,rc) w0.heap.size I m env h a w) (ht:Trans C.k I0 m0 w0 I m w) (hk:C.k <= m.length)
  (he:aA C.G env h it.op=some (v,h')) (hK:K (aY env it.dst v) h') (hn:Goes C rc I0 m0 w0 K next):o.wpIn (fen rc) 0 C.P a w next (CPost C rc I0 m0 w0 Q):=by
 obtain ⟨h1,h2,h3,_⟩:=bn hc
 obtain ⟨x,w',I',m',hg,hv,hi,htr,hm⟩:=op_sound (k:=C.k) h1 hk hr he
 refine wp_gives (not_defer h1 fun f args e=>by rw [e] at he; simp [aA] at he) hg (hn _ _ I' m' _ _ hK ?_ (ht.trans htr) (htr.len hk))
 have:=put_rel (dst:=o.dst) hr hi htr hm hv h3
 rw [h2]
 exact this
theorem opWp_does {v:AV} {h':AHeap} (hc:bd C.P C.ann C.N ops o=some it) (hr:Rel C.G C.N (C.ro,rc) w0.heap.size I m env h a w) (ht:Trans C.k I0 m0 w0 I m w) (hk:C.k <= m.length)
  (hd:Does C.P C.G C.k o a I m w v h') (hnd:∀ {f args},it.op ≠ .defer f args) (hK:K (aY env it.dst v) h') (hn:Goes C rc I0 m0 w0 K next):o.wpIn (fen rc) 0 C.P a w next (CPost C rc I0 m0 w0 Q):=by
 obtain ⟨h1,h2,h3,_⟩:=bn hc
 obtain ⟨x,w',I',m',hg,hv,hi,htr,hm⟩:=hd
 refine wp_gives (not_defer h1 fun f args e=>hnd e) hg (hn _ _ I' m' _ _ hK ?_ (ht.trans htr) (htr.len hk))
 have:=put_rel (dst:=o.dst) hr hi htr hm hv h3
 rw [h2]
 exact this
theorem roundIn_of {P:Program} {l:Nat} {f:FuncId} {tmps:Array Value} {assign body:Code} {R:Ending -> World -> Prop} (h:RoundIn Fence.wide 0 P l f tmps assign body w R):RoundIn (fen rc) 0 P l f tmps assign body w R:=by
 cases rc with
 | none=>exact h
 | some l=>exact h
theorem compOpd_t {x:Operand} {d:Nat} (h:aF x=some (.t d)):x=.tmp d /\ d ≠ dslot:=by
 cases x with
 | tmp n =>
  simp only [aF] at h
  split at h
  .rename_i hn
   simp at h; subst h
   exact ⟨rfl,Nat.ne_of_lt hn⟩
  .cases h
 | const v=>simp only [aF] at h; split at h <;> simp at h
 | global g=>simp [aF] at h
 | func f=>simp [aF] at h
theorem defer_sound {f:Opd} {args:List Opd} {fid:FuncId} {fa fb vs l:List AV} (hc:aR C.P C.ann o=some (.defer f args)) (hr:Rel C.G C.N (C.ro,rc) w0.heap.size I m env h a w) (ht:Trans C.k I0 m0 w0 I m w) (hk:C.k <= m.length)
  (hf:aD C.G env f=some (.fn (.func fid) fa fb)) (hvs:mapM' (aD C.G env) args=some vs) (hold:deferred env=some l) (hro:C.ro=none) (hdst:o.dst=none)
  (hK:K (env.put dslot (.tup (.tup (.fn (.func fid) fa fb :: vs) :: l))) h) (hn:Goes C rc I0 m0 w0 K next):o.wpIn (fen rc) 0 C.P a w next (CPost C rc I0 m0 w0 Q):=by
 have hrc:rc=none:=by
  have:=hr.ro
  rw [hro] at this
  cases rc with
  | none=>rfl
  | some l=>exact this.elim
 subst hrc
 cases hop:o.op
 case makeMap t r=>cases r <;> simp [aR,hop] at hc
 all_goals simp only [aR,hop] at hc
 case defer c =>
  split at hc
  .rename_i fo hcal
   split at hc
   .rename_i f' args' hcf hca
    simp at hc
    obtain ⟨rfl,rfl⟩:=hc
    have h1:=aG hcf hr hf
    have h2:=opds_sound hca hr hvs
    generalize hax:a.eval fo=ax at h1
    cases h1 with
    | fn _ _ _ fs cs hl hl' hrel hrel' =>
     have hargs:c.args.map a.eval=(c.args.toList.map a.eval).toArray:=by apply Array.ext'; simp
     have hrun:(execOp a.eval o).run C.P w=.ok (.defer { target:=.fn (.func fid) cs.toArray,args:=fs.toArray++(c.args.toList.map a.eval).toArray }) w:=by
      simp only [execOp,hop,resolve,hcal,hax,Deferred.ofValue,Sem.run_bind,Sem.run_pure,Result.andThen_ok,hargs]
     refine ⟨fun f _=>trivial,?_⟩
     show o.uponIn Fence.wide 0 C.P a next _ ((o.semAt none a.eval).run C.P w)
     rw [Oper.semAt_none,hrun,Oper.uponIn_defer,hdst]
     refine hn _ _ I m _ _ hK ?_ ht hk
     refine ⟨hr.inv,⟨fun t v hnd hv=>?_,fun t t' n1 n2 B' h1 h2 h3 h4=>?_⟩,hr.size,?_,hr.ro⟩
     .rw [Env.get_put,if_neg hnd] at hv
      exact hr.env.get t v hnd hv
     .rw [Env.get_put] at h1 h2
      split at h1
      .simp at h1
      .split at h2
       .simp at h2
       .exact hr.env.apart t t' n1 n2 B' h1 h2 h3 h4
     .rw [Env.get_put,if_pos rfl]
      have hd:=hr.defers
      show DefRel I m (some (.tup _)) (_ :: a.defers)
      have hnew:DRel I m (.tup (.fn (.func fid) fa fb :: vs)) { target:=.fn (.func fid) cs.toArray,args:=fs.toArray++(c.args.toList.map a.eval).toArray } :=
       ⟨fs,cs,_,⟨hl,hrel⟩,⟨hl',hrel'⟩,h2,rfl⟩
      unfold deferred at hold
      split at hold
      .rename_i hg
       rw [hg] at hd
       have hd:a.defers=[]:=hd
       simp at hold; subst hold
       rw [hd]
       refine ⟨rfl,fun i e d he hd'=>?_⟩
       cases i with
       | zero =>
        have e1:=Option.some.inj he
        have e2:=Option.some.inj hd'
        subst e1 e2
        exact hnew
       | succ i=>simp at he
      .rename_i l' hg
       rw [hg] at hd
       simp at hold; subst hold
       refine ⟨by simp [hd.1],fun i e d he hd'=>?_⟩
       cases i with
       | zero =>
        have e1:=Option.some.inj he
        have e2:=Option.some.inj hd'
        subst e1 e2
        exact hnew
       | succ i=>exact hd.2 i e d (by simpa using he) (by simpa using hd')
      .cases hold
   .cases hc
  .cases hc
 all_goals first
  | (simp at hc; done)
  | ((repeat' split at hc) <;> simp at hc; done)
  | (simp only [compBin] at hc; (repeat' split at hc) <;> simp at hc; done)
theorem comp_kslice {P:Program} {ann:List Nat} {o:Oper} {kk:Nat} {x':Opd} {lo' hi' mx':Option Opd} (hc:aR P ann o=some (.kslice kk x' lo' hi' mx')):∃ (t e:TypeId) (x:Operand) (lo hi mx:Option Operand) (ty:Ty),o.op=.slice t x lo hi mx /\
  P.underlying t=some (.slice e) /\ cB P e=some ty /\ aF x=some x' /\ OptOpd lo lo' /\ OptOpd hi hi' /\ OptOpd mx mx' /\ kk=ty.size:=by
 cases hop:o.op
 case makeMap t r=>cases r <;> simp [aR,hop] at hc
 case slice t x lo hi mx =>
  simp only [aR,hop] at hc
  split at hc
  .rename_i x0 lo0 hi0 mx0 hx h1 h2 h3
   split at hc
   .simp at hc
   .simp only [Option.map_eq_some_iff] at hc
    obtain ⟨ty,hty,hc⟩:=hc
    split at hc
    .cases hc
     exact ⟨t,_,x,lo,hi,mx,ty,rfl,by assumption,hty,hx,optOpd_of h1,optOpd_of h2,optOpd_of h3,rfl⟩
    .cases hc
   .simp only [Option.map_eq_some_iff] at hc
    obtain ⟨ty,hty,hc⟩:=hc
    cases hc
   .cases hc
  .cases hc
 all_goals simp only [aR,hop,compBin] at hc <;> first
  | (simp at hc; done)
  | ((repeat' split at hc) <;> simp at hc; done)
theorem comp_happend {P:Program} {ann:List Nat} {o:Oper} {kk b:Nat} {x' y':Opd} (hc:aR P ann o=some (.happend kk b x' y')):∃ (c:Call) (t u e f:TypeId) (x y:Operand) (ty:Ty) (inf:TypeInfo) (zv:Value),o.op=.call c /\ c.callee=.builtin .append /\ c.args.toList=[x,y] /\ c.argTypes.toList=[t,u] /\
  P.underlying t=some (.slice e) /\ P.underlying u=some (.slice f) /\ bC P e=some ty /\ P.info? e=some inf /\ inf.zero=some zv /\ Val.small inf.bytes=true /\ 0 < inf.bytes /\ zv.cells.size=ty.size /\ 0 < ty.size /\ aF x=some x' /\ aF y=some y' /\ kk=ty.size /\ b=inf.bytes:=by
 cases hop:o.op
 case makeMap t r=>cases r <;> simp [aR,hop] at hc
 case call c =>
  simp only [aR,hop] at hc
  split at hc
  case h_6 hcal =>
   split at hc
   .rename_i x0 y0 t u ha hT
    obtain ⟨x,y,ha',hx,hy⟩:=list_two ha
    split at hc
    .rename_i e f ht hu
     split at hc
     .rename_i ty inf hty hinf
      split at hc
      .rename_i zv hzv
       split at hc
       .rename_i hcond
        obtain ⟨h1,h2,h3,h4⟩:=hcond
        simp only [Option.some.injEq] at hc
        split at hc
        .cases hc
        .split at hc
         .cases hc
          exact ⟨c,t,u,e,f,x,y,ty,inf,zv,rfl,hcal,ha',hT,ht,hu,hty,hinf,hzv,h1,h2,h3,h4,hx,hy,rfl,rfl⟩
         .cases hc
       .cases hc
      .cases hc
     .cases hc
    .split at hc
     .split at hc <;> cases hc
     .cases hc
    .cases hc
   .cases hc
  all_goals (repeat' split at hc) <;> simp at hc
 all_goals simp only [aR,hop] at hc
 all_goals first
  | (simp at hc; done)
  | ((repeat' split at hc) <;> simp at hc; done)
  | (simp only [compBin] at hc; (repeat' split at hc) <;> simp at hc; done)
theorem opWp_sound (hc:bd C.P C.ann C.N ops o=some it) (hr:Rel C.G C.N (C.ro,rc) w0.heap.size I m env h a w) (ht:Trans C.k I0 m0 w0 I m w) (hk:C.k <= m.length)
  (hw:bJ C it env h K Q) (hn:Goes C rc I0 m0 w0 K next):o.wpIn (fen rc) 0 C.P a w next (CPost C rc I0 m0 w0 Q):=by
 obtain ⟨hcomp,hdst,hlt,hguard,_⟩:=bn hc
 unfold bJ at hw
 split at hw
 .
  rename_i n hop
  rw [hop] at hcomp
  split at hw
  .rename_i d hd
   rw [hdst] at hd
   have hal:∃ e z,o.op=.alloc e /\ az C.P e=some z /\ z.cells.length=n:=by
    cases ho:o.op with
    | alloc e =>
     simp only [aR,ho] at hcomp
     split at hcomp
     .split at hcomp
      .simp at hcomp; exact ⟨e,_,rfl,by assumption,hcomp⟩
      .simp at hcomp
     .cases hcomp
    | makeMap t r=>cases r <;> simp [aR,ho] at hcomp
    | _=>simp only [aR,ho,compBin] at hcomp <;> first | (simp at hcomp; done) | ((repeat' split at hcomp) <;> simp at hcomp; done)
   obtain ⟨e,z,ho,hz,hzn⟩:=hal
   obtain ⟨inf,zv,hinf,hzv,hok,hzz,hzr⟩:=bH (w:=w) hz
   have hzs:zv.cells.size=n:=by
    have:=(bi (I:=I) (m:=m) hok).1
    rw [<- hzz,hzn] at this; simpa using this.symm
   obtain ⟨hi,htr⟩:=hr.inv.allocLoose (k:=C.k) zv.cells e
   refine wp_gives (not_defer hcomp fun f args e=>by cases e) (x:=.pointer (some ⟨w.heap.size,0,none⟩)) (w':=w.alloc (.cells zv.cells e)) (.inl (by simp [execOp,ho,Instr.alloc,hzr,newVar,newRow])) (hn _ _ I m _ _ hw ?_ (ht.trans htr) hk)
   have hdN:=(hlt d hd).1
   have hdd:=(hlt d hd).2
   have htmps:∀ u,(a.put o.dst (.pointer (some ⟨w.heap.size,0,none⟩))).tmps[u]?=if u=d then some (.pointer (some ⟨w.heap.size,0,none⟩)) else a.tmps[u]?:=by
    intro u
    rw [hd]
    simp only [Act.put,Array.getElem?_setIfInBounds]
    by_cases h':d=u
    .subst h'; simp [hr.size,hdN]
    .simp [h',Ne.symm h']
   have hold:=hr.env.trans htr (.refl m)
   refine ⟨hi,⟨fun t v hnd hv=>?_,fun t t' n1 n2 B h1 h2 h3 h4=>?_⟩,by rw [hd]; simp [Act.put,hr.size],by rw [hd,Env.get_put,if_neg (Ne.symm hdd)]; exact hr.defers,hr.ro⟩
   .rw [Env.get_put] at hv
    rw [htmps]
    split at hv
    .rename_i e'; subst e'
     simp at hv; subst hv
     rw [if_pos rfl]
     refine ⟨_,rfl,w.heap.size,rfl,⟨ht.size,by simp⟩,fun i hi=>?_,hr.inv.imm_new,fun i l o hl ho=>?_⟩
     .simp [hzs,hi]
     .exact absurd (hr.inv.lt i l _ o hl ho) (Nat.lt_irrefl _)
    .rename_i e'; rw [if_neg e']; exact hold.get t v hnd hv
   .rw [Env.get_put] at h1 h2
    rw [htmps] at h3 h4
    have hfar:∀ (u n' B':Nat),env.get u=some (.pend n') -> a.tmps[u]?=some (.pointer (some ⟨B',0,none⟩)) -> B' < w.heap.size:=by
     intro u n' B' hu hu'
     have hud:u ≠ dslot:=fun e=>by subst e; have:=hr.defers; rw [hu] at this; exact this.elim
     obtain ⟨x,hx,B2,hB2,hp⟩:=hr.env.get u _ hud hu
     rw [hu'] at hx
     simp at hx; subst hx
     simp at hB2; subst hB2
     exact hp.1.2
    split at h1 <;> split at h2
    .rename_i e1 e2; rw [e1,e2]
    .rename_i e1 e2
     rw [if_pos e1] at h3; rw [if_neg e2] at h4
     simp at h3
     have:=hfar t' n2 B h2 h4
     omega
    .rename_i e1 e2
     rw [if_neg e1] at h3; rw [if_pos e2] at h4
     simp at h4
     have:=hfar t n1 B h1 h3
     omega
    .rename_i e1 e2
     rw [if_neg e1] at h3; rw [if_neg e2] at h4
     exact hr.env.apart t t' n1 n2 B h1 h2 h3 h4
  .exact hw.elim
 .
  rename_i n d x hop
  rw [hop] at hcomp
  split at hw
  .rename_i n' v hd hv
   obtain ⟨rfl,hvn,hdn,hK⟩:=hw
   obtain ⟨hv1,hv2⟩:=oneOpd_some hv
   have hst:∃ t ty x0,o.op=.store t (.tmp d) x0 /\ bC C.P t=some ty /\ ty.size=n' /\ aF x0=some x /\ d ≠ dslot:=by
    cases ho:o.op with
    | store t ad x0 =>
     simp only [aR,ho] at hcomp
     split at hcomp
     .split at hcomp
      .split at hcomp
       .rename_i had _
        simp at hcomp; obtain ⟨h1,rfl,rfl⟩:=hcomp
        obtain ⟨rfl,hnd⟩:=compOpd_t had
        exact ⟨t,_,x0,rfl,by assumption,h1,by assumption,hnd⟩
       .simp at hcomp
      .cases hcomp
     .cases hcomp
    | makeMap t r=>cases r <;> simp [aR,ho] at hcomp
    | _=>simp only [aR,ho,compBin] at hcomp <;> first | (simp at hcomp; done) | ((repeat' split at hcomp) <;> simp at hcomp; done)
   obtain ⟨t,ty,x0,ho,hty,hsz,hx,hdd⟩:=hst
   obtain ⟨y,hy,B,rfl,hp⟩:=hr.env.get d _ hdd hd
   obtain ⟨⟨hS,hB⟩,hcells,hInone,hown⟩:=hp
   have hax:a.eval (.tmp d)=.pointer (some ⟨B,0,none⟩):=by simp [Act.eval,Array.getD_eq_getD_getElem?,hy]
   have hrel:=rel_cells (aG hx hr hv1) hv2
   have hdN:d ≠ dslot:=hdd
   have hlen:(a.eval x0).cells.toList.length=ty.size:=by rw [<- hrel.1.1,hsz]; exact hvn
   have hstv:=run_storeVar (P:=C.P) (w:=w) hty (b:=B) (o:=0) (v:=a.eval x0) (by simpa using hlen)
    (fun j hj=>by simpa using (hcells j (by simp at hlen; omega)).1) (fun j hj=>by simpa using (hcells j (by simp at hlen; omega)).2) hrel.2
   have hle:ImmLe I (I.row B (a.eval x0).cells.toList):=Imm.row_le hInone
   have hin:∀ q,q < (a.eval x0).cells.toList.length -> (w.setCells B 0 (a.eval x0).cells.toList).cell? ⟨B,q,none⟩=(a.eval x0).cells.toList[q]?:=by
    intro q hq
    have:=World.cell?_setCells_in B (a.eval x0).cells.toList 0 w (fun q hq=>by simpa using (hcells q (by omega)).1) q hq
    rw [Nat.zero_add] at this
    rw [this,List.getElem?_eq_getElem hq]
   have hother:∀ b p,b ≠ B -> (w.setCells B 0 (a.eval x0).cells.toList).cell? ⟨b,p,none⟩=w.cell? ⟨b,p,none⟩:=fun b p hb=>cell?_setCells (fun h=>hb h.1)
   have hnew:∀ b p,b ≠ B -> I.row B (a.eval x0).cells.toList b p=I b p:=fun b p hb=>by unfold Imm.row; rw [if_neg hb]
   have hownB:∀ (i:Nat) (l:Loc) (b p:Nat),m[i]?=some l -> l.owns b p -> b ≠ B:=fun i l b p hl hp e=>hown i l p hl (e ▸ hp)
   obtain ⟨s1,s2,s3,s4⟩:=misc_setCells (b:=B) (o:=0) (vs:=(a.eval x0).cells.toList) (w:=w)
   have hi:Inv C.G (I.row B (a.eval x0).cells.toList) m h (w.setCells B 0 (a.eval x0).cells.toList) :=
    {len:=hr.inv.len
     obj:=fun i ob l h1 h2=>(hr.inv.obj i ob l h1 h2).mono hle (.refl m) (fun b p hp=>⟨hother b p (hownB i l b p h2 hp),World.frozen?_setCells _ _ _ _ _⟩)
      (fun b e=>heap_setCells (hownB i l b 0 h2 (by subst e; exact rfl)))
     imm:=fun b p y hy=>by
      by_cases hb:b=B
      .subst hb
       simp only [Imm.row,if_pos] at hy
       rw [hin p (List.getElem?_eq_some_iff.1 hy).1]; exact hy
      .rw [hnew b p hb] at hy
       rw [hother b p hb]; exact hr.inv.imm b p y hy
     disj:=hr.inv.disj
     immd:=fun i l b p h1 h2=>by rw [hnew b p (hownB i l b p h1 h2)]; exact hr.inv.immd i l b p h1 h2
     lt:=fun i l b p h1 h2=>by rw [size_setCells]; exact hr.inv.lt i l b p h1 h2
     glob:=fun g v hg m'=>(hr.inv.glob g v hg m').mono hle (.refl m') }
   have htr:Trans C.k I0 m0 w0 (I.row B (a.eval x0).cells.toList) m (w.setCells B 0 (a.eval x0).cells.toList) :=
    {os:=s1.trans ht.os,tape:=s2.trans ht.tape,output:=s3.trans ht.output,size:=by rw [size_setCells]; exact ht.size
     cell:=fun b p hb hn=>by rw [hother b p (by omega)]; exact ht.cell b p hb hn
     froz:=fun ad ha=>by rw [World.frozen?_setCells]; exact ht.froz ad ha
     blk:=fun b hb hn=>by rw [heap_setCells (by omega)]; exact ht.blk b hb hn
     imm:=ht.imm.trans hle
     own:=ht.own
     immNew:=fun b p hb hx=>ht.immNew b p hb (by rw [hnew b p (by omega)] at hx; exact hx)
     loc:=ht.loc }
   refine wp_gives (not_defer hcomp fun f args e=>by cases e) (x:=undef) (w':=w.setCells B 0 (a.eval x0).cells.toList) (.inr ⟨by simp [execOp,ho,hax,Instr.storeAt,Instr.sureAddr,hstv],rfl⟩) (hn _ _ _ m _ _ hK ?_ htr hk)
   have hod:o.dst=none:=by rw [<- hdst]; exact hdn
   rw [hod]
   refine ⟨hi,⟨fun t v' hnd hv'=>?_,fun t t' n1 n2 B' h1 h2 h3 h4=>?_⟩,hr.size,by rw [Env.get_put,if_neg (Ne.symm hdN)]; exact hr.defers.mono hle (.refl m),hr.ro⟩
   .rw [Env.get_put] at hv'
    split at hv'
    .rename_i e'; subst e'
     simp at hv'; subst hv'
     refine ⟨_,hy,.of_rel (.ip v _ (a.eval x0).cells.toList hv2 hrel.1.1 (fun i c y hc hy=>(hrel.1.2 i c y hc hy).mono hle (.refl m)) ?_ rfl)⟩
     exact Lies.row
    .rename_i e'
     obtain ⟨x',hx',hs⟩:=hr.env.get t v' hnd hv'
     refine ⟨x',hx',?_⟩
     cases v' with
     | pend n2 =>
      obtain ⟨B2,rfl,⟨p0,p1⟩,p2,p3,p4⟩:=hs
      have hne:B2 ≠ B:=by
       rintro rfl
       exact e' (hr.env.apart t d n2 n' B2 hv' hd hx' hy)
      exact ⟨B2,rfl,⟨p0,by rw [size_setCells]; exact p1⟩,fun i hi=>by rw [hother B2 i hne,World.frozen?_setCells]; exact p2 i hi,fun p=>by rw [hnew B2 p hne]; exact p3 p,p4⟩
     | _=>exact AVRel.mono hle (.refl m) hs
   .rw [Env.get_put] at h1 h2
    split at h1
    .simp at h1
    .split at h2
     .simp at h2
     .exact hr.env.apart t t' n1 n2 B' h1 h2 h3 h4
  .exact hw.elim
 .
  rename_i f args hop
  rw [hop] at hcomp
  split at hw
  .rename_i fid fa fb vs hf hvs
   obtain ⟨R,⟨hb,hcall⟩,hpost⟩:=hw
   have hbody:∃ fn,C.P.funcs[fid]?=some fn /\ fn.body.isNone=false /\ (fn.name == "runtime.NumGoroutine")=false:=by
    unfold aJ at hb
    split at hb
    .rename_i fn hfn
     simp at hb
     refine ⟨fn,hfn,?_,by simpa using hb.2⟩
     cases hbd:fn.body <;> simp_all
    .cases hb
   obtain ⟨us,hus,hrun⟩:=pcalls hcomp hr hf hvs hbody
   refine ⟨fun f _=>fen_fn rc f,?_⟩
   rw [Oper.semAt_eq _ _ _ (not_defer hcomp fun f args e=>by cases e)]
   simp only [hrun,Oper.uponIn]
   refine ⟨fun hdep=>(by rw [fen_depth] at hdep; cases hdep),callsIn_of ((hcall I m w us hr.inv hus).mono fun e w' ⟨r,h',I',m',hR,hE,hi,htr⟩=>?_)⟩
   have hlocs:=htr.locs hr.inv.len
   have htr':Trans C.k I m w I' m' w':=htr.mono (by rw [<- hr.inv.len]; exact hk)
   have hp:=hpost r h' hR
   cases e with
   | returned x =>
    cases r with
    | ret v =>
     have hv:AVRel I' m' v x:=hE
     refine hn _ _ I' m' _ _ hp ?_ (ht.trans htr') (htr'.len hk)
     have:=put_rel (dst:=o.dst) hr hi htr' hlocs hv hlt
     rw [hdst]; exact this
    | pan v=>exact hE.elim
   | panicked ch =>
    cases r with
    | ret v=>exact hE.elim
    | pan v =>
     obtain ⟨x,rfl,hv⟩:=hE
     exact ⟨.pan v,env,h',I',m',hp,⟨x,rfl,hv⟩,⟨hi,hr.env.trans htr' hlocs,hr.size,hr.defers.mono htr'.imm hlocs,hr.ro.mono hlocs⟩,ht.trans htr',htr'.len hk⟩
   | outgrown=>cases r <;> exact hE.elim
  .rename_i ob vs hf hvs
   obtain ⟨hloop,R,hy,hpost⟩:=hw
   obtain ⟨us,l,hus,hob,hl,hrun⟩:=pyields hcomp hr hf hvs
   have hmo:m[ob]?=some (.whole l):=by
    unfold isLoop at hloop
    split at hloop
    .rename_i env1 x1 st1 pd1 hob1
     obtain ⟨b,d,e,_⟩:=hr.inv.obj ob _ m[ob] hob1 (by simp [hob])
     have e2:m[ob]?=some (.whole b):=by rw [<- e]; simp [hob]
     rw [hl b e2]; exact e2
    .cases hloop
   obtain ⟨fn,tmps,assign,body,hrun',hround⟩:=hy I m w us l hr.inv hus hmo
   refine ⟨fun f _=>fen_fn rc f,?_⟩
   rw [Oper.semAt_eq _ _ _ (not_defer hcomp fun f args e=>by cases e)]
   rw [hrun,hrun']
   simp only [Oper.uponIn]
   refine ⟨fun hdep=>(by rw [fen_depth] at hdep; cases hdep),roundIn_of (hround.mono fun e w' ⟨r,h',I',m',hR,hE,hi,htr⟩=>?_)⟩
   have hlocs:=htr.locs hr.inv.len
   have htr':Trans C.k I m w I' m' w':=htr.mono (by rw [<- hr.inv.len]; exact hk)
   have hp:=hpost r h' hR
   cases e with
   | returned x =>
    cases r with
    | ret v =>
     have hv:AVRel I' m' v x:=hE
     refine hn _ _ I' m' _ _ hp ?_ (ht.trans htr') (htr'.len hk)
     have:=put_rel (dst:=o.dst) hr hi htr' hlocs hv hlt
     rw [hdst]; exact this
    | pan v=>exact hE.elim
   | panicked ch =>
    cases r with
    | ret v=>exact hE.elim
    | pan v =>
     obtain ⟨x,rfl,hv⟩:=hE
     exact ⟨.pan v,env,h',I',m',hp,⟨x,rfl,hv⟩,⟨hi,hr.env.trans htr' hlocs,hr.size,hr.defers.mono htr'.imm hlocs,hr.ro.mono hlocs⟩,ht.trans htr',htr'.len hk⟩
   | outgrown=>cases r <;> exact hE.elim
  .exact hw.elim
 .
  rename_i f args hop
  rw [hop] at hcomp
  split at hw
  .rename_i fid fa fb vs l hf hvs hold
   obtain ⟨hro,hnd,hK⟩:=hw
   exact defer_sound hcomp hr ht hk hf hvs hold hro (hdst.symm.trans hnd) hK hn
  .exact hw.elim
 .
  rename_i x hop
  rw [hop] at hcomp
  split at hw
  .rename_i t v hx
   have hpn:∃ x0,o.op=.panic x0 /\ aF x0=some x:=by
    cases ho:o.op with
    | panic x0=>simp only [aR,ho,Option.map_eq_some_iff] at hcomp; obtain ⟨y,hy,e⟩:=hcomp; cases e; exact ⟨x0,rfl,hy⟩
    | makeMap t r=>cases r <;> simp [aR,ho] at hcomp
    | _=>simp only [aR,ho,compBin] at hcomp <;> first | (simp at hcomp; done) | ((repeat' split at hcomp) <;> simp at hcomp; done)
   obtain ⟨x0,ho,hx0⟩:=hpn
   have hrel:=aG hx0 hr hx
   generalize hax:a.eval x0=ax at hrel
   cases hrel with
   | ifc _ _ y hy =>
    have hrun:(execOp a.eval o).run C.P w=.halt (.panic (.iface t y)) w:=by simp [execOp,ho,hax,Instr.panic]
    refine ⟨fun f _=>fen_fn rc f,?_⟩
    rw [Oper.semAt_eq _ _ _ (fun c e=>by rw [ho] at e; cases e)]
    simp only [hrun,Oper.uponIn]
    exact ⟨.pan (.ifc t v),env,h,I,m,hw,⟨_,rfl,.ifc t v y hy⟩,hr,ht,hk⟩
  .exact hw.elim
 .
  rename_i x' hop
  rw [hop] at hcomp
  obtain ⟨t,kt,et,x,ho,htt,hx⟩:∃ t kt et x,o.op=.range t x /\ C.P.underlying t=some (.map kt et) /\ aF x=some x':=by
   cases ho:o.op with
   | range t x =>
    simp only [aR,ho] at hcomp
    split at hcomp
    .cases hcomp
    .simp at hcomp; subst hcomp; exact ⟨t,_,_,x,rfl,by assumption,by assumption⟩
    .cases hcomp
   | makeMap t r=>cases r <;> simp [aR,ho] at hcomp
   | _=>simp only [aR,ho,compBin] at hcomp <;> first | (simp at hcomp; done) | ((repeat' split at hcomp) <;> simp at hcomp; done)
  split at hw
  .rename_i hu
   exact opWp_does hc hr ht hk (snd_rangeM0 ho htt hx hk hr hu) (fun e=>by rw [hop] at e; cases e) hw hn
  .rename_i mo hu
   split at hw
   .rename_i es hmo
    obtain ⟨bs,clock,q1,q2,q3,hd⟩:=snd_rangeM ho htt hx hk hr hu hmo
    exact opWp_does hc hr ht hk hd (fun e=>by rw [hop] at e; cases e) (hw bs clock q1 q2 q3) hn
   .exact hw.elim
  .exact hw.elim
 .
  rename_i x' hop
  rw [hop] at hcomp
  obtain ⟨x,ho,hx⟩:∃ x,o.op=.next x false /\ aF x=some x':=by
   cases ho:o.op with
   | next x isS =>
    simp only [aR,ho] at hcomp
    split at hcomp
    .simp at hcomp
    .rename_i hs
     simp only [Option.map_eq_some_iff] at hcomp
     obtain ⟨y,hy,e⟩:=hcomp
     cases e
     exact ⟨x,by simpa using hs,hy⟩
   | makeMap t r=>cases r <;> simp [aR,ho] at hcomp
   | _=>simp only [aR,ho,compBin] at hcomp <;> first | (simp at hcomp; done) | ((repeat' split at hcomp) <;> simp at hcomp; done)
  split at hw
  .rename_i io hu
   split at hw
   .rename_i since c0 seen hio
    exact opWp_does hc hr ht hk (snd_nextM0 ho hx hr hu hio) (fun e=>by rw [hop] at e; cases e) hw hn
   .rename_i mo since c0 seen hio
    split at hw
    .rename_i es bs clock hmo
     obtain ⟨g1,g2,g3,g4⟩:=hw
     rcases snd_nextM ho hx hr hu hio hmo g1 g2 with ⟨q,hd⟩ | ⟨i,p,b,q1,q2,q3,hd⟩
     .exact opWp_does hc hr ht hk hd (fun e=>by rw [hop] at e; cases e) (g3 q) hn
     .exact opWp_does hc hr ht hk hd (fun e=>by rw [hop] at e; cases e) (g4 i p b q1 q2 q3) hn
    .exact hw.elim
   .exact hw.elim
  .exact hw.elim
 .
  rename_i kk b x' y' hop
  rw [hop] at hcomp
  obtain ⟨c,t,u,e,f,x,y,ty,inf,zv,ho,hcal,ha',hT,ht',hu',hty,hinf,hzv,h1,h2,h3,h4,hx,hy,rfl,rfl⟩:=comp_happend hcomp
  split at hw
  .rename_i q xs hu1 hu2
   obtain ⟨g1,g2,g3⟩:=hw
   exact opWp_does hc hr ht hk (snd_mappend ho hcal ha' hT ht' hu' hty hinf hzv h1 h2 h3 h4 hx hy hk hr (by simp [aA,hu1,hu2,g1,g2])) (fun e=>by rw [hop] at e; cases e) g3 hn
  .rename_i ob g len k' xs hu1 hu2
   split at hw
   .rename_i g' cs hob
    obtain ⟨rfl,rfl,hw⟩:=hw
    split at hw
    .rename_i g3
     exact opWp_does hc hr ht hk (snd_kappend ho hcal ha' hT ht' hu' hty hinf h4 hx hy hr hu1 hu2 hob g3) (fun e=>by rw [hop] at e; cases e) hw hn
    obtain ⟨g3,g4,g5,g6,g7⟩:=hw
    rcases snd_happend ho hcal ha' hT ht' hu' hty hinf hzv h1 h2 h3 h4 hx hy hk hr hu1 hu2 hob g3 g4 g5 with hd | hd
    .exact opWp_does hc hr ht hk hd (fun e=>by rw [hop] at e; cases e) g6 hn
    .exact opWp_does hc hr ht hk hd (fun e=>by rw [hop] at e; cases e) g7 hn
   .exact hw.elim
  .exact hw.elim
 .
  rename_i kk x' lo' hi' mx' hop
  rw [hop] at hcomp
  obtain ⟨t,e,x,lo,hi,mx,ty,ho,ht0,hty,hx,h1,h2,h3,rfl⟩:=comp_kslice hcomp
  split at hw
  .rename_i ob g off len rc l hu hl
   split at hw
   .rename_i r hrr
    split at hw
    .obtain ⟨rfl,rfl,g3,g4,g5⟩:=hw
     split at g4
     .rename_i g' cs hob
      exact opWp_does hc hr ht hk (snd_kslice ho ht0 hty hx h1 h2 h3 hr hu hl hrr g3 hob g4.1 g4.2) (fun e=>by rw [hop] at e; cases e) g5 hn
     .exact g4.elim
    .split at hw
     .rename_i q hq
      obtain ⟨g2,g3,g4,g5,g6⟩:=hw
      exact opWp_does hc hr ht hk (snd_kslice3 ho ht0 hty hx h1 h2 h3 hr hu hl hrr hq g2 g3 g4 g5) (fun e=>by rw [hop] at e; cases e) g6 hn
     .exact hw.elim
   .exact hw.elim
  .exact hw.elim
 .
  split at hw
  .rename_i v h' he
   exact opWp_default hc hr ht hk he hw hn
  .exact hw.elim
theorem yielded_guard {d:Nat} {b:Bool} {j:Nat} (hnd:d ≠ dslot) (hr:Rel C.G C.N (C.ro,rc) w0.heap.size I m env h a w) (hd:env.get d=some (.sc (.bool b))) (hj:(ops[j]?).bind (·.dst)=some d):yielded ops a.tmps j=some b:=by
 obtain ⟨x,hx,hs⟩:=hr.env.get d _ hnd hd
 have:x=.bool b:=ae hs
 subst this
 simp [yielded,hj,hx]
theorem itemWp_sound {i:Nat} (ho:ops[i]?=some o) (hc:bd C.P C.ann C.N ops o=some it) (hr:Rel C.G C.N (C.ro,rc) w0.heap.size I m env h a w) (ht:Trans C.k I0 m0 w0 I m w) (hk:C.k <= m.length)
  (hw:bG C it env h K Q) (hn:Goes C rc I0 m0 w0 K next):wpOpIn (fen rc) 0 C.P ops (CPost C rc I0 m0 w0 Q) i next a w:=by
 obtain ⟨hcomp,hdst,hlt,hguard,_⟩:=bn hc
 simp only [wpOpIn,ho]
 unfold bG guardOf at hw
 rcases hguard with ⟨hg1,hg2⟩ | ⟨j,want,d,hg1,hj,hg2,hnd⟩
 .rw [hg2] at hw
  simp only at hw
  have:Region.wanted o (yielded ops a.tmps)=true:=by simp [Region.wanted,hg1]
  rw [if_pos this]
  exact opWp_sound hc hr ht hk hw hn
 .rw [hg2] at hw
  simp only at hw
  cases hd:env.get d with
  | none=>rw [hd] at hw; simp at hw
  | some v =>
   rw [hd] at hw
   cases v with
   | sc x =>
    cases x with
    | bool b =>
     simp only at hw
     have hy:=yielded_guard hnd hr hd hj
     cases hbw:(b == want) with
     | true =>
      rw [hbw] at hw
      have:Region.wanted o (yielded ops a.tmps)=true:=by simp [Region.wanted,hg1,hy]; simpa using hbw
      rw [if_pos this]
      exact opWp_sound hc hr ht hk hw hn
     | false =>
      rw [hbw] at hw
      have:¬ Region.wanted o (yielded ops a.tmps)=true:=by simp [Region.wanted,hg1,hy]; simpa using hbw
      rw [if_neg this]
      refine ⟨fun f _=>fen_fn rc f,?_⟩
      refine hn _ _ I m _ _ hw ?_ ht hk
      have:=put_rel (k:=C.k) (dst:=o.dst) hr hr.inv (.refl C.k I m w) (.refl m) (undef_rel) hlt
      rw [hdst]; exact this
    | _=>simp at hw
   | tup l =>
    cases l with
    | cons a l=>simp at hw
    | nil =>
     simp only at hw
     have hy:yielded ops a.tmps j=none:=by
      obtain ⟨x,hx,hs⟩:=hr.env.get d _ hnd hd
      have:x=.tuple #[]:=by
       have hs':AVRel I m (.tup []) x:=hs
       cases hs' with
       | tup _ vs hl _ =>
        have:vs=[]:=List.eq_nil_of_length_eq_zero (by simpa using hl.symm)
        subst this; rfl
      subst this
      simp [yielded,hj,hx]
     have:¬ Region.wanted o (yielded ops a.tmps)=true:=by simp [Region.wanted,hg1,hy]
     rw [if_neg this]
     refine ⟨fun f _=>fen_fn rc f,?_⟩
     refine hn _ _ I m _ _ hw ?_ ht hk
     have:=put_rel (k:=C.k) (dst:=o.dst) hr hr.inv (.refl C.k I m w) (.refl m) (undef_rel) hlt
     rw [hdst]; exact this
   | _=>simp at hw
theorem opsWp_sound:∀ (items:List AItem) (i:Nat) (env:Env) (h:AHeap) (I:Imm) (m:aQ) (a:Act) (w:World),(∀ (j:Nat) (it:AItem),items[j]?=some it -> ∃ o,ops[i+j]?=some o /\ bd C.P C.ann C.N ops o=some it) ->
  opsWp C items Q env h -> Rel C.G C.N (C.ro,rc) w0.heap.size I m env h a w -> Trans C.k I0 m0 w0 I m w -> C.k <= m.length -> wpOpsIn (fen rc) 0 C.P ops (CPost C rc I0 m0 w0 Q) (List.range' i items.length) a w
 | [],i,env,h,I,m,a,w,_,hw,hr,ht,hk=>⟨.normal,env,h,I,m,hw,trivial,hr,ht,hk⟩
 | it :: items,i,env,h,I,m,a,w,hc,hw,hr,ht,hk=>by
  obtain ⟨o,ho,hco⟩:=hc 0 it rfl
  rw [List.length_cons,List.range'_succ,wpOpsIn_cons]
  refine itemWp_sound ho hco hr ht hk hw fun env' h' I' m' a' w' hw' hr' ht' hk'=>?_
  exact opsWp_sound items (i+1) env' h' I' m' a' w' (fun j it' hj=>by
   obtain ⟨o',h1,h2⟩:=hc (j+1) it' (by simpa using hj)
   exact ⟨o',by rw [show i+1+j=i+(j+1) by omega]; exact h1,h2⟩) hw' hr' ht' hk'
end
theorem bV {P:Program} {b:Frame} {a:Act} {k:List Item} {cs:List Frame} {w:World} {c:Code}:step P (lone (b.atR a (.code (.scope c) :: k)) cs w)=.next (lone (b.atR a (.code c :: .inScope c :: k)) cs w) :=
 step_lone_go (by simp [stepG,stepG.exec,Frame.atR])
theorem stepR_inScope {P:Program} {b:Frame} {a:Act} {k:List Item} {cs:List Frame} {w:World} {c:Code}:step P (lone (b.atR a (.inScope c :: k)) cs w)=.next (lone (b.atR a k) cs w) :=
 step_lone_go (by simp [stepG,stepG.exec,Frame.atR])
theorem wpIn_scope_straight {F:Fence} {n:Nat} {P:Program} {a:Act} {w:World} {Q:Exit -> Act -> World -> Prop} {c:Code} (h:c.wpIn F n P (Exit.noGoto Q) a w):(Code.scope c).wpIn F n P Q a w:=by
 intro b k cs hro hb hr
 have h0:(lone (b.atR a (.code (.scope c) :: k)) cs w).fenced P F:=fenced_calm hb hr rfl
 obtain ⟨e,a₁,w₁,hq,harr⟩:=h b (.inScope c :: k) cs hro hb hr
 cases e with
 | normal=>exact ⟨.normal,a₁,w₁,hq,.head h0 bV (StepsIn.trans harr (.one (fenced_calm hb hr rfl) stepR_inScope))⟩
 | exit id =>
  have hx:exitTo id (.inScope c :: k)=exitTo id k:=by simp [exitTo]
  exact ⟨.exit id,a₁,w₁,hq,fun k' hk=>.head h0 bV (harr.1 k' (by rw [hx]; exact hk)),
   fun hr' hk=>let ⟨k₁,h1,h2⟩:=harr.2 hr' (by rw [hx]; exact hk); ⟨k₁,h1,.head h0 bV h2⟩⟩
 | goto l=>exact hq.elim
 | ret=>exact ⟨_,a₁,w₁,hq,.of_steps (.one h0 bV) harr⟩
 | panic ch=>exact ⟨_,a₁,w₁,hq,.of_steps (.one h0 bV) harr⟩
 | outgrown=>exact ⟨_,a₁,w₁,hq,.of_steps (.one h0 bV) harr⟩
theorem wpIn_scope_jumps {F:Fence} {n:Nat} {P:Program} {a:Act} {w:World} {Q:Exit -> Act -> World -> Prop} {c rest:Code} (l:Nat) (J:Nat -> Act -> World -> Prop) (hf:findLabel c l=some rest)
  (first:c.wpIn F n P (Exit.jump l (fun a w=>∃ j,J j a w) Q) a w)
  (pass:∀ j a w,J j a w -> rest.wpIn F n P (Exit.jump l (fun a w=>∃ j',j' < j /\ J j' a w) Q) a w):(Code.scope c).wpIn F n P Q a w:=by
 intro b k cs hro hb hr
 have h0:(lone (b.atR a (.code (.scope c) :: k)) cs w).fenced P F:=fenced_calm hb hr rfl
 have hg:gotoIn l (.inScope c :: k)=some (.code rest :: .inScope c :: k):=by simp [gotoIn,hf]
 have hx:∀ id,exitTo id (.inScope c :: k)=exitTo id k:=fun id=>by simp [exitTo]
 have key:∀ j a w,J j a w -> ∃ e a' w',Q e a' w' /\ ArrivesIn (Machine.fenced P F) P (lone (b.atR a (.code rest :: .inScope c :: k)) cs w) b k cs e a' w':=by
  intro j
  induction j using Nat.strongRecOn with
  | _ j ih =>
   intro a w hJ
   obtain ⟨e,a₁,w₁,hq,harr⟩:=pass j a w hJ b (.inScope c :: k) cs hro hb hr
   cases e with
   | normal=>exact ⟨.normal,a₁,w₁,hq,StepsIn.trans harr (.one (fenced_calm hb hr rfl) stepR_inScope)⟩
   | exit id=>exact ⟨.exit id,a₁,w₁,hq,fun k' hk=>harr.1 k' (by rw [hx]; exact hk),fun hr' hk=>harr.2 hr' (by rw [hx]; exact hk)⟩
   | goto l' =>
    obtain ⟨rfl,j',hlt,hJ'⟩:=hq
    obtain ⟨e₂,a₂,w₂,hq₂,harr₂⟩:=ih j' hlt a₁ w₁ hJ'
    exact ⟨e₂,a₂,w₂,hq₂,.of_steps (harr.1 _ hg) harr₂⟩
   | ret=>exact ⟨_,a₁,w₁,hq,harr⟩
   | panic ch=>exact ⟨_,a₁,w₁,hq,harr⟩
   | outgrown=>exact ⟨_,a₁,w₁,hq,harr⟩
 obtain ⟨e,a₁,w₁,hq,harr⟩:=first b (.inScope c :: k) cs hro hb hr
 cases e with
 | normal=>exact ⟨.normal,a₁,w₁,hq,.head h0 bV (StepsIn.trans harr (.one (fenced_calm hb hr rfl) stepR_inScope))⟩
 | exit id =>
  exact ⟨.exit id,a₁,w₁,hq,fun k' hk=>.head h0 bV (harr.1 k' (by rw [hx]; exact hk)),
   fun hr' hk=>let ⟨k₁,h1,h2⟩:=harr.2 hr' (by rw [hx]; exact hk); ⟨k₁,h1,.head h0 bV h2⟩⟩
 | goto l' =>
  obtain ⟨rfl,j,hJ'⟩:=hq
  obtain ⟨e₂,a₂,w₂,hq₂,harr₂⟩:=key j a₁ w₁ hJ'
  exact ⟨e₂,a₂,w₂,hq₂,.of_steps (.head h0 bV (harr.1 _ hg)) harr₂⟩
 | ret=>exact ⟨_,a₁,w₁,hq,.of_steps (.one h0 bV) harr⟩
 | panic ch=>exact ⟨_,a₁,w₁,hq,.of_steps (.one h0 bV) harr⟩
 | outgrown=>exact ⟨_,a₁,w₁,hq,.of_steps (.one h0 bV) harr⟩
theorem region_comp {P:Program} {ann:List Nat} {N id:Nat} {ops:Array Oper} {draw:Bool} {ac:ACode} (hc:aE P ann N (.region id ops draw)=some ac) (hE:∀ pl es,ac ≠ .ereg pl es:=by (intro _ _ e; cases e)) :
  ∃ l,mapM' (bd P ann N ops) ops.toList=some l /\ (match draw with | true=>∃ pl,planOf l=some pl /\ ac=.dreg pl | false=>ac=.reg l):=by
 simp only [aE] at hc
 split at hc
 .rename_i l hl
  refine ⟨l,hl,?_⟩
  cases draw with
  | true=>simp only [if_true,Option.map_eq_some_iff] at hc; obtain ⟨pl,h1,rfl⟩:=hc; exact ⟨pl,h1,rfl⟩
  | false=>simp at hc; exact hc.symm
 .split at hc
  .unfold eregOf at hc
   split at hc
   .cases hc
   .split at hc
    .split at hc
     .simp only [Option.map_eq_some_iff] at hc
      obtain ⟨pl,_,rfl⟩:=hc
      exact (hE _ _ rfl).elim
     .cases hc
    .cases hc
  .cases hc
theorem bu {P:Program} {ann:List Nat} {N id:Nat} {ops:Array Oper} {draw:Bool} {ac:ACode} (hc:aE P ann N (.region id ops draw)=some ac)
  (h1:∀ l,ac ≠ .reg l) (h2:∀ l,ac ≠ .dreg l) (hE:∀ pl es,ac ≠ .ereg pl es:=by (intro _ _ e; cases e)):False:=by
 obtain ⟨l,_,he⟩:=region_comp hc hE
 cases draw with
 | true=>obtain ⟨pl,_,e⟩:=he; exact h2 _ e
 | false=>exact h1 _ he
theorem AWp.reg {C:Cx} {l:List AItem} {Q:APost} {env:Env} {h:AHeap} (hw:opsWp C l Q env h):AWp C (.reg l) Q env h:=by
 intro c hc rc I0 m0 w0 I m a w ht hk hr
 cases c with
 | region id ops draw =>
  obtain ⟨l',hl',he⟩:=region_comp hc
  cases draw with
  | true=>obtain ⟨pl,_,e⟩:=he; cases e
  | false =>
   simp only [ACode.reg.injEq] at he
   subst he
   obtain ⟨h1,h2⟩:=mapM'_some hl'
   have:=opsWp_sound (ops:=ops) (I0:=I0) (m0:=m0) (w0:=w0) l 0 env h I m a w (fun j it hj=>by
    obtain ⟨o,ho⟩:=get_of_lt h1 hj
    exact ⟨o,by rw [Nat.zero_add,<- Array.getElem?_toList]; exact ho,h2 j o it ho hj⟩) hw hr ht hk
   refine wpIn_region ?_
   rw [List.range_eq_range',show ops.size=l.length by simpa using h1]
   exact this
 | _=>simp only [aE] at hc <;> first | (simp at hc; done) | ((repeat' split at hc) <;> simp at hc; done)
theorem AWp.skip {C:Cx} {Q:APost} {env:Env} {h:AHeap} (hw:Q .normal env h):AWp C .skip Q env h:=by
 intro c hc rc I0 m0 w0 I m a w ht hk hr
 have hpost:CPost C rc I0 m0 w0 Q .normal a w:=⟨.normal,env,h,I,m,hw,trivial,hr,ht,hk⟩
 cases c with
 | skip=>exact wpIn_skip hpost
 | label l=>exact wpIn_label hpost
 | region id ops draw=>exact (bu hc (by rintro _ e; cases e) (by rintro _ e; cases e)).elim
 | _=>simp only [aE] at hc <;> first | (simp at hc; done) | ((repeat' split at hc) <;> simp at hc; done)
theorem AWp.exit {C:Cx} {id:Nat} {Q:APost} {env:Env} {h:AHeap} (hw:Q (.exit id) env h):AWp C (.exit id) Q env h:=by
 intro c hc rc I0 m0 w0 I m a w ht hk hr
 cases c with
 | exit id' =>
  simp [aE] at hc; subst hc
  exact wpIn_exit ⟨.exit id',env,h,I,m,hw,rfl,hr,ht,hk⟩
 | region id ops draw=>exact (bu hc (by rintro _ e; cases e) (by rintro _ e; cases e)).elim
 | _=>simp only [aE] at hc <;> first | (simp at hc; done) | ((repeat' split at hc) <;> simp at hc; done)
theorem AWp.ret {C:Cx} {Q:APost} {env:Env} {h:AHeap} (hw:Q .ret env h):AWp C .ret Q env h:=by
 intro c hc rc I0 m0 w0 I m a w ht hk hr
 cases c with
 | ret=>exact wpIn_ret ⟨.ret,env,h,I,m,hw,trivial,hr,ht,hk⟩
 | region id ops draw=>exact (bu hc (by rintro _ e; cases e) (by rintro _ e; cases e)).elim
 | _=>simp only [aE] at hc <;> first | (simp at hc; done) | ((repeat' split at hc) <;> simp at hc; done)
def thenP (K:Env -> AHeap -> Prop) (Q:APost):APost
 | .normal,env,h=>K env h
 | e,env,h=>Q e env h
theorem AWp.seq {C:Cx} {x y:ACode} {Q:APost} {env:Env} {h:AHeap} (hw:AWp C x (thenP (fun env h=>AWp C y Q env h) Q) env h):AWp C (.seq x y) Q env h:=by
 intro c hc rc I0 m0 w0 I m a w ht hk hr
 cases c with
 | seq c1 c2 =>
  simp only [aE] at hc
  split at hc
  .rename_i x' y' hx hy
   simp at hc; obtain ⟨rfl,rfl⟩:=hc
   refine wpIn_seq (wpIn_mono (hw c1 hx rc I0 m0 w0 I m a w ht hk hr) fun e a' w' ⟨x,env',h',I',m',h1,h2,h3,h4,h5⟩=>?_)
   cases e with
   | normal =>
    cases x <;> simp only [bB] at h2
    exact h1 c2 hy rc I0 m0 w0 I' m' a' w' h4 h5 h3
   | exit id=>cases x <;> simp only [bB] at h2; subst h2; exact ⟨.exit _,env',h',I',m',h1,rfl,h3,h4,h5⟩
   | ret=>cases x <;> simp only [bB] at h2; exact ⟨.ret,env',h',I',m',h1,trivial,h3,h4,h5⟩
   | panic ch=>cases x <;> simp only [bB] at h2; exact ⟨.pan _,env',h',I',m',h1,h2,h3,h4,h5⟩
   | goto l=>cases x <;> simp only [bB] at h2; subst h2; exact ⟨.goto _,env',h',I',m',h1,rfl,h3,h4,h5⟩
   | outgrown=>cases x <;> exact h2.elim
  .cases hc
 | region id ops draw=>exact (bu hc (by rintro _ e; cases e) (by rintro _ e; cases e)).elim
 | _=>simp only [aE] at hc <;> first | (simp at hc; done) | ((repeat' split at hc) <;> simp at hc; done)
theorem AWp.cond {C:Cx} {c:Opd} {x y:ACode} {Q:APost} {env:Env} {h:AHeap} {b:Bool} (hb:aD C.G env c=some (.sc (.bool b))) (ht:b=true -> AWp C x Q env h) (hf:b=false -> AWp C y Q env h) :
  AWp C (.cond c x y) Q env h:=by
 intro cc hc rc I0 m0 w0 I m a w htr hk hr
 cases cc with
 | cond c0 c1 c2 =>
  simp only [aE] at hc
  split at hc
  .rename_i c' x' y' hc0 hx hy
   simp at hc; obtain ⟨rfl,rfl,rfl⟩:=hc
   have:=ae (aG hc0 hr hb)
   cases b with
   | true=>exact wpIn_cond_true this (ht rfl c1 hx rc I0 m0 w0 I m a w htr hk hr)
   | false=>exact wpIn_cond_false this (hf rfl c2 hy rc I0 m0 w0 I m a w htr hk hr)
  .cases hc
 | region id ops draw=>exact (bu hc (by rintro _ e; cases e) (by rintro _ e; cases e)).elim
 | _=>simp only [aE] at hc <;> first | (simp at hc; done) | ((repeat' split at hc) <;> simp at hc; done)
def blockP (id:Nat) (Q:APost):APost
 | .exit i,env,h=>if i=id then Q .normal env h else Q (.exit i) env h
 | e,env,h=>Q e env h
theorem AWp.block {C:Cx} {id:Nat} {x:ACode} {Q:APost} {env:Env} {h:AHeap} (hw:AWp C x (blockP id Q) env h):AWp C (.block id x) Q env h:=by
 intro c hc rc I0 m0 w0 I m a w ht hk hr
 cases c with
 | block id' c1 =>
  simp only [aE,Option.map_eq_some_iff] at hc
  obtain ⟨x',hx,he⟩:=hc
  simp at he; obtain ⟨rfl,rfl⟩:=he
  refine wpIn_block (wpIn_mono (hw c1 hx rc I0 m0 w0 I m a w ht hk hr) fun e a' w' ⟨x,env',h',I',m',h1,h2,h3,h4,h5⟩=>?_)
  cases e with
  | normal=>cases x <;> simp only [bB] at h2; exact ⟨.normal,env',h',I',m',h1,trivial,h3,h4,h5⟩
  | exit i =>
   cases x <;> simp only [bB] at h2
   subst h2
   simp only [blockP] at h1
   simp only [Exit.inBlock]
   split
   .rename_i e; rw [if_pos e] at h1; exact ⟨.normal,env',h',I',m',h1,trivial,h3,h4,h5⟩
   .rename_i e; rw [if_neg e] at h1; exact ⟨.exit _,env',h',I',m',h1,rfl,h3,h4,h5⟩
  | ret=>cases x <;> simp only [bB] at h2; exact ⟨.ret,env',h',I',m',h1,trivial,h3,h4,h5⟩
  | panic ch=>cases x <;> simp only [bB] at h2; exact ⟨.pan _,env',h',I',m',h1,h2,h3,h4,h5⟩
  | goto l=>cases x <;> simp only [bB] at h2; subst h2; exact ⟨.goto _,env',h',I',m',h1,rfl,h3,h4,h5⟩
  | outgrown=>cases x <;> exact h2.elim
 | region id ops draw=>exact (bu hc (by rintro _ e; cases e) (by rintro _ e; cases e)).elim
 | _=>simp only [aE] at hc <;> first | (simp at hc; done) | ((repeat' split at hc) <;> simp at hc; done)
theorem AWp.label {C:Cx} {l:Nat} {Q:APost} {env:Env} {h:AHeap} (hw:Q .normal env h):AWp C (.label l) Q env h:=by
 intro c hc rc I0 m0 w0 I m a w ht hk hr
 have hpost:CPost C rc I0 m0 w0 Q .normal a w:=⟨.normal,env,h,I,m,hw,trivial,hr,ht,hk⟩
 cases c with
 | label l'=>exact wpIn_label hpost
 | region id ops draw=>exact (bu hc (by rintro _ e; cases e) (by rintro _ e; cases e)).elim
 | _=>simp only [aE] at hc <;> first | (simp at hc; done) | ((repeat' split at hc) <;> simp at hc; done)
theorem AWp.goto {C:Cx} {l:Nat} {Q:APost} {env:Env} {h:AHeap} (hw:Q (.goto l) env h):AWp C (.goto l) Q env h:=by
 intro c hc rc I0 m0 w0 I m a w ht hk hr
 cases c with
 | goto l' =>
  simp only [aE,Option.some.injEq,ACode.goto.injEq] at hc
  subst hc
  exact wpIn_goto ⟨.goto _,env,h,I,m,hw,rfl,hr,ht,hk⟩
 | region id ops draw=>exact (bu hc (by rintro _ e; cases e) (by rintro _ e; cases e)).elim
 | _=>simp only [aE] at hc <;> first | (simp at hc; done) | ((repeat' split at hc) <;> simp at hc; done)
def noGotoP (Q:APost):APost
 | .goto _,_,_=>False
 | e,env,h=>Q e env h
theorem AWp.scope {C:Cx} {x:ACode} {Q:APost} {env:Env} {h:AHeap} (hw:AWp C x (noGotoP Q) env h):AWp C (.scope x) Q env h:=by
 intro c hc rc I0 m0 w0 I m a w ht hk hr
 cases c with
 | scope c1 =>
  simp only [aE,Option.map_eq_some_iff] at hc
  obtain ⟨x',hx,he⟩:=hc
  simp at he; subst he
  refine wpIn_scope_straight (wpIn_mono (hw c1 hx rc I0 m0 w0 I m a w ht hk hr) fun e a' w' hp=>?_)
  obtain ⟨x,env',h',I',m',h1,h2,h3⟩:=hp
  cases e with
  | goto l=>cases x <;> simp only [bB] at h2; exact h1.elim
  | _ =>
   refine ⟨x,env',h',I',m',?_,h2,h3⟩
   cases x <;> first | exact h1 | exact h1.elim
 | region id ops draw=>exact (bu hc (by rintro _ e; cases e) (by rintro _ e; cases e)).elim
 | _=>simp only [aE] at hc <;> first | (simp at hc; done) | ((repeat' split at hc) <;> simp at hc; done)
def findA:ACode -> Nat -> Option ACode
 | .seq a b,l=>match findA a l with
  | some r=>some (.seq r b)
  | none=>findA b l
 | .label l',l=>if l' == l then some .skip else none
 | _,_=>none
theorem findLabel_comp {P:Program} {ann:List Nat} {N:Nat}:∀ {c:Code} {x:ACode} {l:Nat} {rest:Code},aE P ann N c=some x -> findLabel c l=some rest -> (findA x l).isSome=true
 | .seq a b,x,l,rest,hc,hf=>by
  simp only [aE] at hc
  split at hc
  .rename_i a' b' ha hb
   simp only [Option.some.injEq] at hc; subst hc
   simp only [findA]
   simp only [findLabel] at hf
   split at hf
   .rename_i r hl
    have:=findLabel_comp ha hl
    cases hfa:findA a' l with
    | some r=>rfl
    | none=>rw [hfa] at this; cases this
   .have:=findLabel_comp hb hf
    cases hfa:findA a' l with
    | some r=>rfl
    | none=>exact this
  .cases hc
 | .label l',x,l,rest,hc,hf=>by
  simp only [aE,Option.some.injEq] at hc; subst hc
  simp only [findLabel] at hf
  simp only [findA]
  split at hf
  .rename_i e; rw [if_pos e]; rfl
  .cases hf
 | .skip,x,l,rest,hc,hf | .region _ _ _,x,l,rest,hc,hf | .cond _ _ _,x,l,rest,hc,hf | .block _ _,x,l,rest,hc,hf | .loop _,x,l,rest,hc,hf | .rangeFunc _ _ _ _,x,l,rest,hc,hf | .exit _,x,l,rest,hc,hf
 | .scope _,x,l,rest,hc,hf | .goto _,x,l,rest,hc,hf | .ret,x,l,rest,hc,hf | .refuse _,x,l,rest,hc,hf=>by simp [findLabel] at hf
theorem findA_comp {P:Program} {ann:List Nat} {N:Nat}:∀ {c:Code} {x y:ACode} {l:Nat},aE P ann N c=some x -> findA x l=some y -> ∃ rest,findLabel c l=some rest /\ aE P ann N rest=some y
 | .seq a b,x,y,l,hc,hf=>by
  simp only [aE] at hc
  split at hc
  .rename_i a' b' ha hb
   simp only [Option.some.injEq] at hc; subst hc
   simp only [findA] at hf
   cases hfa:findA a' l with
   | some r =>
    rw [hfa] at hf
    simp only [Option.some.injEq] at hf; subst hf
    obtain ⟨rest,h1,h2⟩:=findA_comp ha hfa
    exact ⟨.seq rest b,by simp [findLabel,h1],by simp [aE,h2,hb]⟩
   | none =>
    rw [hfa] at hf
    have hna:findLabel a l=none:=by
     cases hl:findLabel a l with
     | none=>rfl
     | some rest =>
      exfalso
      have:=findLabel_comp ha hl
      rw [hfa] at this; cases this
    obtain ⟨rest,h1,h2⟩:=findA_comp hb hf
    exact ⟨rest,by simp [findLabel,hna,h1],h2⟩
  .cases hc
 | .label l',x,y,l,hc,hf=>by
  simp only [aE,Option.some.injEq] at hc; subst hc
  simp only [findA] at hf
  split at hf
  .rename_i e
   simp only [Option.some.injEq] at hf; subst hf
   exact ⟨.skip,by simp [findLabel,e],rfl⟩
  .cases hf
 | .region id ops draw,x,y,l,hc,hf=>by
  by_cases hE:∃ pl es,x=.ereg pl es
  .obtain ⟨pl,es,rfl⟩:=hE; simp [findA] at hf
  obtain ⟨l1,_,hx⟩:=region_comp hc (fun pl es e=>hE ⟨pl,es,e⟩)
  cases draw with
  | true=>obtain ⟨pl,_,rfl⟩:=hx; simp [findA] at hf
  | false=>simp only at hx; subst hx; simp [findA] at hf
 | .skip,x,y,l,hc,hf=>by simp only [aE,Option.some.injEq] at hc; subst hc; simp [findA] at hf
 | .cond c a b,x,y,l,hc,hf=>by
  simp only [aE] at hc
  split at hc
  .simp only [Option.some.injEq] at hc; subst hc; simp [findA] at hf
  .cases hc
 | .block id a,x,y,l,hc,hf=>by simp only [aE,Option.map_eq_some_iff] at hc; obtain ⟨_,_,rfl⟩:=hc; simp [findA] at hf
 | .loop a,x,y,l,hc,hf=>by simp only [aE,Option.map_eq_some_iff] at hc; obtain ⟨_,_,rfl⟩:=hc; simp [findA] at hf
 | .scope a,x,y,l,hc,hf=>by simp only [aE,Option.map_eq_some_iff] at hc; obtain ⟨_,_,rfl⟩:=hc; simp [findA] at hf
 | .rangeFunc g ps a b,x,y,l,hc,hf=>by
  simp only [aE] at hc
  split at hc
  .split at hc
   .simp only [Option.some.injEq] at hc; subst hc; simp [findA] at hf
   .cases hc
  .cases hc
 | .exit id,x,y,l,hc,hf=>by simp only [aE,Option.some.injEq] at hc; subst hc; simp [findA] at hf
 | .ret,x,y,l,hc,hf=>by simp only [aE,Option.some.injEq] at hc; subst hc; simp [findA] at hf
 | .goto l',x,y,l,hc,hf=>by simp only [aE,Option.some.injEq] at hc; subst hc; simp [findA] at hf
 | .refuse s,x,y,l,hc,hf=>by simp [aE] at hc
def jumpP (l:Nat) (J:Env -> AHeap -> Prop) (Q:APost):APost
 | .goto l',env,h=>l'=l /\ J env h
 | e,env,h=>Q e env h
theorem AWp.scopeJ {C:Cx} {x y:ACode} {Q:APost} {env:Env} {h:AHeap} (l:Nat) (hf:findA x l=some y) (J:Nat -> Env -> AHeap -> Prop)
  (first:AWp C x (jumpP l (fun env h=>∃ j,J j env h) Q) env h) (pass:∀ j env h,J j env h -> AWp C y (jumpP l (fun env h=>∃ j',j' < j /\ J j' env h) Q) env h):AWp C (.scope x) Q env h:=by
 intro c hc rc I0 m0 w0 I m a w ht hk hr
 cases c with
 | scope c1 =>
  simp only [aE,Option.map_eq_some_iff] at hc
  obtain ⟨x',hx,he⟩:=hc
  simp at he; subst he
  obtain ⟨rest,hfl,hrest⟩:=findA_comp hx hf
  have post:∀ (J':Env -> AHeap -> Prop) (e:Exit) (a':Act) (w':World),CPost C rc I0 m0 w0 (jumpP l J' Q) e a' w' ->
    Exit.jump l (fun a w=>∃ env h I m,J' env h /\ Rel C.G C.N (C.ro,rc) w0.heap.size I m env h a w /\ Trans C.k I0 m0 w0 I m w /\ C.k <= m.length) (CPost C rc I0 m0 w0 Q) e a' w':=by
   rintro J' e a' w' ⟨x,env',h',I',m',h1,h2,h3,h4,h5⟩
   cases e with
   | goto l' =>
    cases x <;> simp only [bB] at h2
    subst h2
    exact ⟨h1.1,env',h',I',m',h1.2,h3,h4,h5⟩
   | normal=>cases x <;> simp only [bB] at h2; exact ⟨.normal,env',h',I',m',h1,trivial,h3,h4,h5⟩
   | exit id=>cases x <;> simp only [bB] at h2; subst h2; exact ⟨.exit _,env',h',I',m',h1,rfl,h3,h4,h5⟩
   | ret=>cases x <;> simp only [bB] at h2; exact ⟨.ret,env',h',I',m',h1,trivial,h3,h4,h5⟩
   | panic ch=>cases x <;> simp only [bB] at h2; exact ⟨.pan _,env',h',I',m',h1,h2,h3,h4,h5⟩
   | outgrown=>cases x <;> exact h2.elim
  refine wpIn_scope_jumps l (fun j a w=>∃ env h I m,J j env h /\ Rel C.G C.N (C.ro,rc) w0.heap.size I m env h a w /\ Trans C.k I0 m0 w0 I m w /\ C.k <= m.length) hfl ?_ ?_
  .refine wpIn_mono (first c1 hx rc I0 m0 w0 I m a w ht hk hr) fun e a' w' hp=>?_
   have:=post _ e a' w' hp
   cases e with
   | goto l' =>
    obtain ⟨h1,env',h',I',m',⟨j,hJ⟩,h3⟩:=this
    exact ⟨h1,j,env',h',I',m',hJ,h3⟩
   | _=>exact this
  .rintro j a1 w1 ⟨env1,h1,I1,m1,hJ,hr1,ht1,hk1⟩
   refine wpIn_mono (pass j env1 h1 hJ rest hrest rc I0 m0 w0 I1 m1 a1 w1 ht1 hk1 hr1) fun e a' w' hp=>?_
   have:=post _ e a' w' hp
   cases e with
   | goto l' =>
    obtain ⟨h1,env',h',I',m',⟨j',hlt,hJ⟩,h3⟩:=this
    exact ⟨h1,j',hlt,env',h',I',m',hJ,h3⟩
   | _=>exact this
 | region id ops draw=>exact (bu hc (by rintro _ e; cases e) (by rintro _ e; cases e)).elim
 | _=>simp only [aE] at hc <;> first | (simp at hc; done) | ((repeat' split at hc) <;> simp at hc; done)
theorem AWp.loop {C:Cx} {x:ACode} {Q:APost} {env:Env} {h:AHeap} (S:Nat -> Env -> AHeap -> Prop) {n0:Nat} (h0:S n0 env h)
  (round:∀ n env h,S n env h -> AWp C x (thenP (fun env' h'=>∃ n',n' < n /\ S n' env' h') Q) env h):AWp C (.loop x) Q env h:=by
 intro c hc rc I0 m0 w0 I m a w ht hk hr
 cases c with
 | loop c1 =>
  simp only [aE,Option.map_eq_some_iff] at hc
  obtain ⟨x',hx,he⟩:=hc
  simp at he; subst he
  let J:Nat -> Act -> World -> Prop:=fun n a w=>∃ env h I m,S n env h /\ Rel C.G C.N (C.ro,rc) w0.heap.size I m env h a w /\ Trans C.k I0 m0 w0 I m w /\ C.k <= m.length
  have hex:∀ a w,(∃ n,J n a w) -> ∃ n,J n a w /\ ∀ n',n' < n -> ¬ J n' a w:=by
   intro a w ⟨n,hn⟩
   induction n using Nat.strongRecOn with
   | _ n ih =>
    by_cases hlt:∃ n',n' < n /\ J n' a w
    .obtain ⟨n',h1,h2⟩:=hlt; exact ih n' h1 h2
    .exact ⟨n,hn,fun n' h1 h2=>hlt ⟨n',h1,h2⟩⟩
  classical
  let μ:Act -> World -> Nat:=fun a w=>if hj:∃ n,J n a w then Classical.choose (hex a w hj) else 0
  have hμ:∀ a w,(∃ n,J n a w) -> J (μ a w) a w /\ ∀ n',n' < μ a w -> ¬ J n' a w:=by
   intro a w hj
   simp only [μ,dif_pos hj]
   exact Classical.choose_spec (hex a w hj)
  refine wpIn_loop (fun a w=>∃ n,J n a w) μ ⟨n0,env,h,I,m,h0,hr,ht,hk⟩ fun a w hj=>?_
  obtain ⟨⟨env,h,I,m,hS,hr,ht,hk⟩,_⟩:=hμ a w hj
  refine wpIn_mono (round (μ a w) env h hS c1 hx rc I0 m0 w0 I m a w ht hk hr) fun e a' w' ⟨x,env',h',I',m',h1,h2,h3,h4,h5⟩=>?_
  cases e with
  | normal =>
   cases x <;> simp only [bB] at h2
   obtain ⟨n',hlt,hS'⟩:=h1
   have hj':∃ n,J n a' w':=⟨n',env',h',I',m',hS',h3,h4,h5⟩
   refine ⟨hj',?_⟩
   rcases Nat.lt_or_ge (μ a' w') (μ a w) with hl | hg
   .exact hl
   .exact absurd ⟨env',h',I',m',hS',h3,h4,h5⟩ ((hμ a' w' hj').2 n' (by omega))
  | exit id=>cases x <;> simp only [bB] at h2; subst h2; exact ⟨.exit _,env',h',I',m',h1,rfl,h3,h4,h5⟩
  | ret=>cases x <;> simp only [bB] at h2; exact ⟨.ret,env',h',I',m',h1,trivial,h3,h4,h5⟩
  | panic ch=>cases x <;> simp only [bB] at h2; exact ⟨.pan _,env',h',I',m',h1,h2,h3,h4,h5⟩
  | goto l=>cases x <;> simp only [bB] at h2; subst h2; exact ⟨.goto _,env',h',I',m',h1,rfl,h3,h4,h5⟩
  | outgrown=>cases x <;> exact h2.elim
 | region id ops draw=>exact (bu hc (by rintro _ e; cases e) (by rintro _ e; cases e)).elim
 | _=>simp only [aE] at hc <;> first | (simp at hc; done) | ((repeat' split at hc) <;> simp at hc; done)
end Go.Apx
end
section
namespace Go.Apx
def onNormal (Z:Act -> World -> Prop) (Q:Exit -> Act -> World -> Prop):Exit -> Act -> World -> Prop
 | .normal=>Z
 | e=>Q e
section
variable {F:Fence} {n:Nat} {P:Program} {Q:Exit -> Act -> World -> Prop} {Z:Act -> World -> Prop} {ops1 ops:Array Oper}
theorem uponIn_onNormal {o:Oper} {a:Act} {K K':Act -> World -> Prop} {r:Result Next} (hK:∀ a w,K a w -> K' a w) (h:o.uponIn F n P a K (onNormal Z Q) r):o.uponIn F n P a K' Q r:=by
 cases r with
 | ok x w' =>
  cases x <;> simp only [Oper.uponIn] at h ⊢ <;>
   first
    | exact hK _ _ h
    | exact ⟨h.1,CallsIn.mono h.2 (fun e w'' he=>by cases e <;> first | exact hK _ _ he | exact he)⟩
    | exact ⟨h.1,RowsIn.mono h.2 (fun _ _ he=>hK _ _ he)⟩
    | exact ⟨h.1,RoundIn.mono h.2 (fun e w'' he=>by cases e <;> first | exact hK _ _ he | exact he)⟩
 | halt x w'=>cases x <;> simp only [Oper.uponIn] at h ⊢ <;> exact h
theorem wpIn_onNormal {o:Oper} {a:Act} {w:World} {K K':Act -> World -> Prop} (hK:∀ a w,K a w -> K' a w) (h:o.wpIn F n P a w K (onNormal Z Q)):o.wpIn F n P a w K' Q :=
 ⟨h.1,uponIn_onNormal hK h.2⟩
theorem wanted_plain {o:Oper} {y:Nat -> Option Bool} (h:o.guard=none):Region.wanted o y=true:=by simp [Region.wanted,h]
theorem wpOpIn_onNormal {i:Nat} {o:Oper} {a:Act} {w:World} {K K':Act -> World -> Prop} (h1:ops1[i]?=some o) (h2:ops[i]?=some o) (hg:o.guard=none) (hK:∀ a w,K a w -> K' a w) (h:wpOpIn F n P ops1 (onNormal Z Q) i K a w):wpOpIn F n P ops Q i K' a w:=by
 unfold wpOpIn at h ⊢
 simp only [h1,h2] at h ⊢
 rw [if_pos (wanted_plain hg)] at h ⊢
 exact wpIn_onNormal hK h
structure SplitOk (ops1 ops:Array Oper) (fl:List Nat):Prop where
 le:ops1.size < ops.size
 pre:∀ i,i < ops1.size -> ops[i]?=ops1[i]?
 gd:∀ (i:Nat) (o:Oper),ops[i]?=some o -> o.guard=none
 lo:∀ (i:Nat) (o:Oper),ops[i]?=some o -> ∀ e ∈ o.after,Region.binds .any e=true -> e.on < i
 ch:∀ (i:Nat) (o:Oper),ops1.size < i -> ops[i]?=some o -> ∃ e ∈ o.after,Region.binds .any e=true /\ e.on+1=i
 cov:∀ r,r < ops1.size -> r ∉ fl -> (∃ o,ops[ops1.size]?=some o /\ ∃ e ∈ o.after,Region.binds .any e=true /\ e.on=r) \/
  ∃ (r':Nat) (o':Oper),r < r' /\ r' < ops1.size /\ r' ∉ fl /\ ops[r']?=some o' /\ ∃ e ∈ o'.after,Region.binds .any e=true /\ e.on=r
def unl (L:Array Bool):Nat:=L.toList.countP (· == false)
theorem countP_set':∀ (l:List Bool) (i:Nat),l[i]?=some false -> (l.set i true).countP (· == false)+1=l.countP (· == false)
 | [],i,h=>by simp at h
 | b :: l,0,h=>by simp at h; subst h; simp [List.countP_cons]
 | b :: l,i+1,h=>by
  have:=countP_set' l i (by simpa using h)
  simp only [List.set_cons_succ,List.countP_cons]
  omega
theorem unl_set {L:Array Bool} {i:Nat} (h:L[i]?=some false):unl (L.setIfInBounds i true)+1=unl L:=by
 unfold unl
 rw [Array.toList_setIfInBounds]
 exact countP_set' _ _ (by rw [Array.getElem?_toList]; exact h)
theorem unl_zero {L:Array Bool} (h:unl L=0) {i:Nat} {b:Bool} (hi:L[i]?=some b):b=true:=by
 unfold unl at h
 rw [List.countP_eq_zero] at h
 have:=h b (List.mem_of_getElem? (i:=i) (by rw [Array.getElem?_toList]; exact hi))
 cases b with
 | true=>rfl
 | false=>simp at this
structure ListOk (ops1 ops:Array Oper) (fl:List Nat) (L1 L:Array Bool):Prop where
 s1:L1.size=ops1.size
 s:L.size=ops.size
 ag:∀ i,i < ops1.size -> L[i]?=L1[i]?
 tl:∀ i,ops1.size <= i -> i < ops.size -> L[i]?=some false
 cl:∀ (j:Nat) (o:Oper),L[j]?=some true -> ops[j]?=some o -> ∀ e ∈ o.after,Region.binds .any e=true -> L[e.on]?=some true
 fl:∀ f ∈ fl,f < ops1.size -> L[f]?=some true
theorem getD_false {L:Array Bool} {i:Nat}:L.getD i true=false ↔ L[i]?=some false:=by
 rw [Array.getD_eq_getD_getElem?]
 cases h:L[i]? with
 | none=>simp
 | some b=>simp
theorem getD_true {L:Array Bool} {i:Nat}:L.getD i false=true ↔ L[i]?=some true:=by
 rw [Array.getD_eq_getD_getElem?]
 cases h:L[i]? with
 | none=>simp
 | some b=>simp
theorem readyL_iff {L:Array Bool} {i:Nat}:i ∈ Region.ready .any ops L ↔ L[i]?=some false /\ ∃ o,ops[i]?=some o /\ ∀ e ∈ o.after,Region.binds .any e=true -> L[e.on]?=some true:=by
 rw [mem_ready,getD_false]
 constructor
 .rintro ⟨h1,o,h2,h3⟩; exact ⟨h1,o,h2,fun e he hb=>getD_true.1 (h3 e he hb)⟩
 .rintro ⟨h1,o,h2,h3⟩; exact ⟨h1,o,h2,fun e he hb=>getD_true.2 (h3 e he hb)⟩
theorem ListOk.set {fl:List Nat} {L1 L:Array Bool} (h:ListOk ops1 ops fl L1 L) {i:Nat} (hi:i < ops1.size) {o:Oper} (ho:ops[i]?=some o) (hr:∀ e ∈ o.after,Region.binds .any e=true -> L[e.on]?=some true):ListOk ops1 ops fl (L1.setIfInBounds i true) (L.setIfInBounds i true):=by
 have hg:∀ (M:Array Bool) (j:Nat),i < M.size -> (M.setIfInBounds i true)[j]?=if i=j then some true else M[j]?:=fun M j hM=>by
  rw [Array.getElem?_setIfInBounds]
  by_cases e:i=j
  .subst e; simp [hM]
  .simp [e]
 have h1:i < L1.size:=by rw [h.s1]; exact hi
 have h2:i < L.size:=by have:=(Array.getElem?_eq_some_iff.1 ho).1; rw [h.s]; exact this
 refine ⟨by simp [h.s1],by simp [h.s],fun j hj=>?_,fun j hj hj2=>?_,fun j oj hj hoj e he hb=>?_,fun f hf hfl=>?_⟩
 .rw [hg L j h2,hg L1 j h1,h.ag j hj]
 .rw [hg L j h2,if_neg (by omega)]; exact h.tl j hj hj2
 .rw [hg L _ h2] at hj ⊢
  by_cases e1:i=e.on
  .rw [if_pos e1]
  .rw [if_neg e1]
   by_cases e2:i=j
   .subst e2
    rw [ho] at hoj; cases hoj
    exact hr e he hb
   .rw [if_neg e2] at hj
    exact h.cl j oj hj hoj e he hb
 .rw [hg L f h2]
  split
  .rfl
  .exact h.fl f hf hfl
theorem SplitOk.all {fl:List Nat} {L1 L:Array Bool} (hs:SplitOk ops1 ops fl) (h:ListOk ops1 ops fl L1 L) (hr:ops1.size ∈ Region.ready .any ops L):∀ (k r:Nat),ops1.size - r=k -> r < ops1.size -> L[r]?=some true:=by
 obtain ⟨_,o,ho,hrr⟩:=readyL_iff.1 hr
 intro k
 induction k using Nat.strongRecOn with
 | ind k ih =>
  intro r hk hlt
  by_cases hf:r ∈ fl
  .exact h.fl r hf hlt
  .rcases hs.cov r hlt hf with ⟨o',ho',e,he,hb,rfl⟩ | ⟨r',o',h1,h2,h3,h4,e,he,hb,rfl⟩
   .rw [ho] at ho'; cases ho'
    exact hrr e he hb
   .exact h.cl r' o' (ih (ops1.size - r') (by omega) r' rfl h2) h4 e he hb
theorem split_any {fl:List Nat} (hs:SplitOk ops1 ops fl) (t:Nat) (hZ:∀ (L:Array Bool) (a:Act) (w:World),L.size=ops.size -> (∀ i,i < ops1.size -> L[i]?=some true) -> (∀ i,ops1.size <= i -> i < ops.size -> L[i]?=some false) -> Z a w -> wpAnyIn F n P .any ops Q t L a w) :
  ∀ (k:Nat) (L1 L:Array Bool) (a:Act) (w:World),unl L1=k -> ListOk ops1 ops fl L1 L -> wpAnyIn F n P .any ops1 (onNormal Z Q) k L1 a w -> wpAnyIn F n P .any ops Q (k+t) L a w
 | 0,L1,L,a,w,hu,hl,h=>by
  rw [Nat.zero_add]
  refine hZ L a w hl.s (fun i hi=>?_) hl.tl h.2
  have hi1:i < L1.size:=by rw [hl.s1]; exact hi
  rw [hl.ag i hi,Array.getElem?_eq_getElem hi1]
  rw [unl_zero hu (Array.getElem?_eq_getElem hi1)]
 | k+1,L1,L,a,w,hu,hl,h=>by
  have hex:∃ i,i < ops1.size /\ L1[i]?=some false:=by
   apply Classical.byContradiction
   intro hn
   have:unl L1=0:=by
    unfold unl
    rw [List.countP_eq_zero]
    intro b hb
    obtain ⟨i,hi⟩:=List.getElem?_of_mem hb
    rw [Array.getElem?_toList] at hi
    cases b with
    | true=>simp
    | false=>exact (hn ⟨i,by rw [<- hl.s1]; exact (Array.getElem?_eq_some_iff.1 hi).1,hi⟩).elim
   omega
  obtain ⟨x,hx,hxf⟩:=hex
  have hmin:∀ (c i:Nat),i=c -> i < ops1.size -> L1[i]?=some false -> ∃ j,j ∈ Region.ready .any ops L:=by
   intro c
   induction c using Nat.strongRecOn with
   | ind c ih =>
    intro i hic hi hif
    have hil:i < ops.size:=Nat.lt_trans hi hs.le
    obtain ⟨o,ho⟩:∃ o,ops[i]?=some o:=⟨ops[i],by simp [hil]⟩
    by_cases hall:∀ e ∈ o.after,Region.binds .any e=true -> L[e.on]?=some true
    .exact ⟨i,readyL_iff.2 ⟨by rw [hl.ag i hi]; exact hif,o,ho,hall⟩⟩
    .simp only [Classical.not_forall] at hall
     obtain ⟨e,he,hb,hne⟩:=hall
     have hlo:=hs.lo i o ho e he hb
     have he1:e.on < ops1.size:=by omega
     refine ih e.on (by omega) e.on rfl he1 ?_
     have hes:e.on < L1.size:=by rw [hl.s1]; exact he1
     rw [hl.ag _ he1] at hne
     rw [Array.getElem?_eq_getElem hes] at hne ⊢
     cases hb2:L1[e.on] with
     | true=>rw [hb2] at hne; exact (hne rfl).elim
     | false=>rfl
  obtain ⟨y,hy⟩:=hmin x x rfl hx hxf
  rw [show k+1+t=(k+t)+1 by omega]
  refine ⟨fun he=>by rw [he] at hy; (cases hy),fun i hi=>?_⟩
  obtain ⟨hif,o,ho,hrr⟩:=readyL_iff.1 hi
  have hil:=(Array.getElem?_eq_some_iff.1 ho).1
  by_cases hi1:i < ops1.size
  .have ho1:ops1[i]?=some o:=by rw [<- hs.pre i hi1]; exact ho
   have hif1:L1[i]?=some false:=by rw [<- hl.ag i hi1]; exact hif
   have hr1:i ∈ Region.ready .any ops1 L1:=readyL_iff.2 ⟨hif1,o,ho1,fun e he hb=>by
    have hlo:=hs.lo i o ho e he hb
    rw [<- hl.ag e.on (by omega)]
    exact hrr e he hb⟩
   refine wpOpIn_onNormal ho1 ho (hs.gd i o ho) (fun a' w' h'=>?_) (h.2 i hr1)
   exact split_any hs t hZ k _ _ a' w' (by have:=unl_set hif1; omega) (hl.set hi1 ho hrr) h'
  .exfalso
   rcases Nat.lt_or_eq_of_le (Nat.le_of_not_lt hi1) with h2 | h2
   .obtain ⟨e,he,hb,heq⟩:=hs.ch i o h2 ho
    have h3:=hrr e he hb
    rw [hl.tl e.on (by omega) (by omega)] at h3
    cases h3
   .rw [<- h2] at hi
    have:=hs.all hl hi _ x rfl hx
    rw [hl.ag x hx,hxf] at this
    cases this
end
end Go.Apx
end
