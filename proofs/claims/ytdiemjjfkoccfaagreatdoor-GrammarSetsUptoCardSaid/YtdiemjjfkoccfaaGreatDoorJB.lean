/- Plain law: which sentences the rounds find. -/
import Derived.Test.YtdiemjjfkoccfaaGreatDoorKC
import Derived.Test.YtdiemjjfkoccfaaGreatDoorJA
import Derived.Test.YtdiemjjfkoccfaaGreatDoorGC
import Derived.Test.YtdiemjjfkoccfaaGreatDoorGB
set_option linter.unusedVariables false
set_option linter.unusedSimpArgs false
set_option linter.unnecessarySimpa false
section
namespace Go.Apx
open Go.Proofs
inductive GnP (g:Gr):List Pt -> W -> Prop
 | nil:GnP g [] []
 | sym (p:Pt) (r:List Pt) (w:W):p.sort=emp -> GnP g r w -> GnP g (p :: r) (p.sym :: w)
 | srt (p:Pt) (r:List Pt) (R:Rl) (u w:W):p.sort ≠ emp -> R ∈ g.rules -> R.sort=p.sort -> GnP g R.parts u -> GnP g r w -> GnP g (p :: r) (u++w)
def Gn (g:Gr) (s:ByteArray) (l:W):Prop:=∃ R ∈ g.rules,R.sort=s /\ GnP g R.parts l
theorem GnP.app {g:Gr} {a b:List Pt} {u w:W} (h:GnP g a u) (h':GnP g b w):GnP g (a++b) (u++w):=by
 induction h with
 | nil=>exact h'
 | sym p r w hp _ ih=>exact .sym p _ _ hp ih
 | srt p r R u w hp hR e h1 _ _ ih=>rw [List.append_assoc]; exact .srt p _ R _ _ hp hR e h1 ih
theorem GnP.symI {g:Gr} {a:List Pt} {u:W} {p:Pt} (h:GnP g a u) (hp:p.sort=emp):GnP g (a++[p]) (u++[p.sym]):=h.app (.sym p [] [] hp .nil)
theorem GnP.srtI {g:Gr} {a:List Pt} {u w:W} {p:Pt} (h:GnP g a u) (hp:p.sort ≠ emp) (hg:Gn g p.sort w):GnP g (a++[p]) (u++w):=by
 obtain ⟨R,hR,e,h1⟩:=hg
 have:=h.app (.srt p [] R w [] hp hR e h1 .nil)
 rwa [List.append_nil] at this
theorem ruleN_le {g:Gr} {M:List Int} (h:LensR g M) {R:Rl} (hR:R ∈ g.rules):lenAt g M R.sort <= ruleN g M R:=by
 have h2:=h.2
 have key:∀ (l:List Rl) (x:List Int × Bool),(l.foldl (bP g) x).2=false -> ∀ R ∈ l,lenAt g x.1 R.sort <= ruleN g x.1 R:=by
  intro l
  induction l with
  | nil=>intro x _ R hR; simp at hR
  | cons r l ih =>
   intro x hx R hR
   have hx':=rounds_same g (r :: l) x hx
   rw [List.foldl_cons] at hx
   have h1:¬ ruleN g x.1 r < lenAt g x.1 r.sort:=fun hlt=>by
    have e:bP g x r=(x.1.set (aw g.sorts r.sort).toNat (ruleN g x.1 r),true):=by unfold bP; rw [if_pos hlt]
    rw [e,rounds_true g l _ rfl] at hx
    cases hx
   have e:bP g x r=x:=by unfold bP; rw [if_neg h1]
   rw [e] at hx
   rcases List.mem_cons.1 hR with rfl | hR
   .omega
   .exact ih x hx R hR
 exact key g.rules (M,false) h2 R hR
theorem GnP.low {g:Gr} {M:List Int} (h:LensR g M) {l:List Pt} {w:W} (hw:GnP g l w):∀ n:Int,l.foldl (stepP g M) n <= n+w.length:=by
 induction hw with
 | nil=>intro n; simp
 | sym p r w hp _ ih =>
  intro n
  have:=ih (stepP g M n p)
  rw [List.foldl_cons]
  have e:stepP g M n p <= n+1:=by unfold stepP; rw [if_pos hp]; omega
  simp only [List.length_cons]
  omega
 | srt p r R u w hp hR e h1 _ ih1 ih =>
  intro n
  have h2:=ih (stepP g M n p)
  have h3:=ih1 0
  have h4:=ruleN_le h hR
  unfold ruleN at h4
  rw [List.foldl_cons]
  have e:stepP g M n p <= n+u.length:=by unfold stepP; rw [if_neg hp,<- e]; omega
  simp only [List.length_append]
  omega
theorem Gn.low {g:Gr} {M:List Int} (h:LensR g M) {s:ByteArray} {w:W} (hw:Gn g s w):lenAt g M s <= w.length:=by
 obtain ⟨R,hR,rfl,h1⟩:=hw
 have h2:=ruleN_le h hR
 have h3:=h1.low h 0
 unfold ruleN at h2
 omega
inductive Cat (st:St):List Pt -> W -> Prop
 | nil:Cat st [] []
 | sym (p:Pt) (r:List Pt) (w:W):p.sort=emp -> Cat st r w -> Cat st (p :: r) (p.sym :: w)
 | srt (p:Pt) (r:List Pt) (u w:W):p.sort ≠ emp -> u ∈ bh st p.sort -> Cat st r w -> Cat st (p :: r) (u++w)
def Mono (a b:St):Prop:=∀ s,∀ x ∈ bh a s,x ∈ bh b s
theorem Cat.mono {a b:St} (h:Mono a b) {l:List Pt} {w:W} (hc:Cat a l w):Cat b l w:=by
 induction hc with
 | nil=>exact .nil
 | sym p r w hp _ ih=>exact .sym p r w hp ih
 | srt p r u w hp hu _ ih=>exact .srt p r u w hp (h _ _ hu) ih
structure Snv (g:Gr) (most:Int) (S:List ByteArray) (st:St):Prop where
 snd:∀ s,∀ x ∈ bh st s,Gn g s x /\ (x.length:Int) <= most
 nd:∀ s,(bh st s).Nodup
 ks:∀ s,bh st s ≠ [] -> s ∈ S
theorem restF_low {g:Gr} {M:List Int} (hM:LensR g M) {st:St} (hs:∀ s,∀ x ∈ bh st s,Gn g s x) {l:List Pt} {w:W} (hc:Cat st l w):∀ n:Int,l.foldl (restS g M) n <= n+w.length:=by
 induction hc with
 | nil=>intro n; simp
 | sym p r w hp _ ih =>
  intro n
  have:=ih (restS g M n p)
  rw [List.foldl_cons]
  have e:restS g M n p <= n+1:=by unfold restS; rw [if_pos hp]; omega
  simp only [List.length_cons]
  omega
 | srt p r u w hp hu _ ih =>
  intro n
  have h2:=ih (restS g M n p)
  have h3:=(hs _ _ hu).low hM
  rw [List.foldl_cons]
  have e:restS g M n p <= n+u.length:=by unfold restS; rw [if_neg hp]; omega
  simp only [List.length_append]
  omega
theorem getS_sset (st:St) (s t:ByteArray) (l:List W):bh (bE st s l) t=if t=s then l else bh st t:=by
 unfold bh
 induction st with
 | nil =>
  simp only [bE,bF]
  by_cases e:s=t
  .subst e; simp
  .rw [if_neg fun x=>e x.symm]; simp only [bF,if_neg (fun x=>e (Eq.symm x))]
 | cons p st ih =>
  obtain ⟨k,x⟩:=p
  simp only [bE]
  by_cases e:k=s
  .subst e
   simp only [if_true,bF]
   by_cases e2:t=k
   .subst e2; simp
   .simp [e2,fun x=>e2 (Eq.symm x)]
  .simp only [if_neg e,if_neg (fun x=>e (Eq.symm x)),bF]
   by_cases e2:t=k
   .subst e2; simp [e]
   .simp only [if_neg e2,if_neg (fun x=>e2 (Eq.symm x))]
    exact ih
structure Stq (g:Gr) (most:Int) (S:List ByteArray) (a b:St):Prop where
 inv:Snv g most S a -> Snv g most S b
 mono:Mono a b
 tot:totS a <= totS b
 same:totS b=totS a -> b=a
section
variable {g:Gr} {most:Int} {S:List ByteArray}
theorem Stq.refl (a:St):Stq g most S a a:=⟨fun h=>h,fun _ _ h=>h,Nat.le_refl _,fun _=>rfl⟩
theorem Stq.trans {a b c:St} (h:Stq g most S a b) (h':Stq g most S b c):Stq g most S a c :=
 ⟨fun x=>h'.inv (h.inv x),fun s x hx=>h'.mono s x (h.mono s x hx),Nat.le_trans h.tot h'.tot,fun e=>by
  have h1:=h.tot
  have h2:=h'.tot
  have e1:=h.same (by omega)
  have e2:=h'.same (by omega)
  rw [e2,e1]⟩
theorem addF_stq {st:St} {s:ByteArray} {l:W} (hs:s ∈ S) (hl:Gn g s l) (hm:(l.length:Int) <= most):Stq g most S st (addF st s l).1:=by
 unfold addF
 by_cases e:l ∈ bh st s
 .rw [if_pos e]; exact .refl _
 .rw [if_neg e]
  have ht:=totS_sset st s (bh st s++[l])
  simp only [List.length_append,List.length_singleton] at ht
  have ht':totS (bE st s (bh st s++[l]))=totS st+1:=by unfold bh at ht ⊢; omega
  refine ⟨fun hi=>⟨fun t x hx=>?_,fun t=>?_,fun t hx=>?_⟩,fun t x hx=>?_,by simp only; omega,fun e=>by simp only at e; omega⟩
  .simp only [getS_sset] at hx
   split at hx
   .rename_i e2; subst e2
    rcases List.mem_append.1 hx with hx | hx
    .exact hi.snd _ _ hx
    .simp at hx; subst hx; exact ⟨hl,hm⟩
   .exact hi.snd _ _ hx
  .simp only [getS_sset]
   split
   .rename_i e2
    refine List.nodup_append.2 ⟨hi.nd s,by simp,fun x hx y hy=>?_⟩
    simp at hy; subst hy
    rintro rfl; exact e hx
   .exact hi.nd t
  .simp only [getS_sset] at hx
   split at hx
   .rename_i e2; subst e2; exact hs
   .exact hi.ks t hx
  .simp only [getS_sset]
   split
   .rename_i e2; subst e2; simp [hx]
   .exact hx
theorem addF_in {st:St} {s:ByteArray} {l:W}:l ∈ bh (addF st s l).1 s:=by
 unfold addF
 split
 .rename_i e; exact e
 .simp [getS_sset]
def Full (st:St):Prop:=∃ s,2000 < (bh st s).length
theorem addF_full {st:St} {s:ByteArray} {l:W} (h:(addF st s l).2=false):Full (addF st s l).1:=by
 unfold addF at h ⊢
 split
 .rename_i e; rw [if_pos e] at h; cases h
 .rename_i e
  rw [if_neg e] at h
  simp only [decide_eq_false_iff_not] at h
  refine ⟨s,?_⟩
  simp only [getS_sset,if_true,List.length_append,List.length_singleton]
  omega
structure ExQ (g:Gr) (most:Int) (S:List ByteArray) (s:ByteArray) (l:List Pt) (bg:W) (st:St) (x:St × Bool):Prop where
 stq:Stq g most S st x.1
 full:x.2=false -> Full x.1
 cmp:x.2=true -> Snv g most S st -> ∀ w,Cat st l w -> ((bg++w).length:Int) <= most -> bg++w ∈ bh x.1 s
theorem extF_q {M:List Int} (hM:LensR g M) {s:ByteArray} (hs:s ∈ S) {R:Rl} (hR:R ∈ g.rules) (hRs:R.sort=s):∀ (l:List Pt) (pre:List Pt) (bg:W) (st:St),R.parts=pre++l -> GnP g pre bg -> Snv g most S st -> ExQ g most S s l bg st (bz g M most s l bg st)
 | [],pre,bg,st,hp,hg,hI=>by
  rw [List.append_nil] at hp
  unfold bz
  split
  .refine ⟨.refl _,fun h=>(by cases h),fun _ _ w hw hlen=>?_⟩
   cases hw
   simp at hlen; omega
  .rename_i h1
   refine ⟨addF_stq hs ⟨R,hR,hRs,by rw [hp]; exact hg⟩ (by omega),addF_full,fun _ _ w hw _=>?_⟩
   cases hw
   rw [List.append_nil]; exact addF_in
 | p :: r,pre,bg,st,hp,hg,hI=>by
  unfold bz
  split
  .rename_i h1
   refine ⟨.refl _,fun h=>(by cases h),fun _ hI w hw hlen=>?_⟩
   have:=restF_low hM (fun s x hx=>(hI.snd s x hx).1) hw 0
   unfold restN at h1
   simp only [List.length_append] at hlen
   omega
  .have hp':R.parts=(pre++[p])++r:=by rw [hp]; simp
   split
   .rename_i h2
    have q:=extF_q hM hs hR hRs r (pre++[p]) (bg++[p.sym]) st hp' (hg.symI h2) hI
    refine ⟨q.stq,q.full,fun e hI w hw hlen=>?_⟩
    cases hw with
    | sym _ _ w _ hw =>
     have:=q.cmp e hI w hw (by simpa using hlen)
     simpa using this
    | srt _ _ u w hn=>exact (hn h2).elim
   .rename_i h2
    have key:∀ (xs:List W) (x:St × Bool),(∀ y ∈ xs,Gn g p.sort y) -> Snv g most S x.1 -> (x.2=false -> Full x.1) ->
      Stq g most S x.1 (xs.foldl (fun (x:St × Bool) y=>if x.2=true then bz g M most s r (bg++y) x.1 else x) x).1 /\
      ((xs.foldl (fun (x:St × Bool) y=>if x.2=true then bz g M most s r (bg++y) x.1 else x) x).2=false -> Full (xs.foldl (fun (x:St × Bool) y=>if x.2=true then bz g M most s r (bg++y) x.1 else x) x).1) /\
      ((xs.foldl (fun (x:St × Bool) y=>if x.2=true then bz g M most s r (bg++y) x.1 else x) x).2=true -> ∀ y ∈ xs,∀ w,Cat x.1 r w -> ((bg++y++w).length:Int) <= most -> bg++y++w ∈ bh (xs.foldl (fun (x:St × Bool) y=>if x.2=true then bz g M most s r (bg++y) x.1 else x) x).1 s):=by
     intro xs
     induction xs with
     | nil=>intro x _ hi hf; exact ⟨.refl _,hf,fun _ y hy=>by simp at hy⟩
     | cons y xs ih =>
      intro x hy hi hf
      rw [List.foldl_cons]
      by_cases hb:x.2=true
      .rw [if_pos hb]
       have q:=extF_q hM hs hR hRs r (pre++[p]) (bg++y) x.1 hp' (hg.srtI h2 (hy y (by simp))) hi
       obtain ⟨a1,a2,a3⟩:=ih (bz g M most s r (bg++y) x.1) (fun z hz=>hy z (by simp [hz])) (q.stq.inv hi) q.full
       refine ⟨q.stq.trans a1,a2,fun e z hz w hw hlen=>?_⟩
       rcases List.mem_cons.1 hz with rfl | hz
       .have hq:(bz g M most s r (bg++z) x.1).2=true:=by
         cases hc:(bz g M most s r (bg++z) x.1).2 with
         | true=>rfl
         | false=>rw [foldE_stop (fun st y=>bz g M most s r (bg++y) st) xs _ hc,hc] at e; cases e
        exact a1.mono _ _ (q.cmp hq hi w hw hlen)
       .exact a3 e z hz w (hw.mono q.stq.mono) hlen
      .have hb':x.2=false:=by simpa using hb
       rw [if_neg hb]
       have e:=foldE_stop (fun st y=>bz g M most s r (bg++y) st) xs x hb'
       rw [e]
       exact ⟨.refl _,hf,fun h=>(hb h).elim⟩
    obtain ⟨a1,a2,a3⟩:=key (bh st p.sort) (st,true) (fun y hy=>(hI.snd _ _ hy).1) hI (fun h=>by cases h)
    refine ⟨a1,a2,fun e hI w hw hlen=>?_⟩
    cases hw with
    | sym _ _ w hp _=>exact (h2 hp).elim
    | srt _ _ u w _ hu hw =>
     have:=a3 e u hu w hw (by simpa [Nat.add_assoc] using hlen)
     simpa using this
termination_by l=>l.length
theorem roundE_q {M:List Int} (hM:LensR g M) {x:St × Bool} (hI:Snv g most S x.1) (hf:x.2=false -> Full x.1) {R:Rl} (hR:R ∈ g.rules) :
  Stq g most S x.1 (bS g M most S x R).1 /\ ((bS g M most S x R).2=false -> Full (bS g M most S x R).1) /\
  ((bS g M most S x R).2=true -> R.sort ∈ S -> ∀ w,Cat x.1 R.parts w -> (w.length:Int) <= most -> w ∈ bh (bS g M most S x R).1 R.sort):=by
 unfold bS
 by_cases h1:x.2=true
 .rw [if_pos h1]
  by_cases h2:R.sort ∈ S
  .rw [if_pos h2]
   have q:=extF_q hM h2 hR rfl R.parts [] [] x.1 rfl .nil hI
   exact ⟨q.stq,q.full,fun e _ w hw hl=>by simpa using q.cmp e hI w hw (by simpa using hl)⟩
  .rw [if_neg h2]
   exact ⟨.refl _,hf,fun _ h=>(h2 h).elim⟩
 .rw [if_neg h1]
  exact ⟨.refl _,hf,fun h=>(h1 h).elim⟩
theorem rounds_q {M:List Int} (hM:LensR g M):∀ (l:List Rl) (x:St × Bool),(∀ R ∈ l,R ∈ g.rules) -> Snv g most S x.1 -> (x.2=false -> Full x.1) ->
  Stq g most S x.1 (l.foldl (bS g M most S) x).1 /\ ((l.foldl (bS g M most S) x).2=false -> Full (l.foldl (bS g M most S) x).1) /\
  ((l.foldl (bS g M most S) x).2=true -> ∀ R ∈ l,R.sort ∈ S -> ∀ w,Cat x.1 R.parts w -> (w.length:Int) <= most -> w ∈ bh (l.foldl (bS g M most S) x).1 R.sort)
 | [],x,_,hI,hf=>⟨.refl _,hf,fun _ R hR=>by simp at hR⟩
 | R :: l,x,hl,hI,hf=>by
  rw [List.foldl_cons]
  obtain ⟨a1,a2,a3⟩:=roundE_q hM hI hf (hl R (by simp))
  obtain ⟨b1,b2,b3⟩:=rounds_q hM l _ (fun q hq=>hl q (by simp [hq])) (a1.inv hI) a2
  refine ⟨a1.trans b1,b2,fun e Q hQ hs w hw hlen=>?_⟩
  rcases List.mem_cons.1 hQ with rfl | hQ
  .have hq:(bS g M most S x Q).2=true:=by
    cases hc:(bS g M most S x Q).2 with
    | true=>rfl
    | false=>rw [roundE_stop l _ hc,hc] at e; cases e
   exact b1.mono _ _ (a3 hq hs w hw hlen)
  .exact b3 e Q hQ hs w (hw.mono a1.mono) hlen
theorem iterE_q {M:List Int} (hM:LensR g M):∀ k,Snv g most S (bZ g M most S k).1 /\ ((bZ g M most S k).2=false -> Full (bZ g M most S k).1)
 | 0=>⟨⟨fun s x hx=>by simp [bZ,bh,bF] at hx,fun s=>by simp [bZ,bh,bF],fun s h=>by simp [bZ,bh,bF] at h⟩,fun h=>by cases h⟩
 | k+1=>by
  obtain ⟨h1,h2⟩:=iterE_q hM k
  obtain ⟨a,b,_⟩:=rounds_q hM g.rules (bZ g M most S k) (fun _ h=>h) h1 h2
  exact ⟨a.inv h1,b⟩
def Over (g:Gr) (S:List ByteArray) (most:Int):Prop:=∃ s ∈ S,∃ L:List W,L.Nodup /\ 2000 < L.length /\ ∀ w ∈ L,Gn g s w /\ (w.length:Int) <= most
theorem Snv.over {st:St} (hI:Snv g most S st) (hf:Full st):Over g S most:=by
 obtain ⟨s,hs⟩:=hf
 exact ⟨s,hI.ks s (by intro e; rw [e] at hs; simp at hs),_,hI.nd s,hs,hI.snd s⟩
theorem gn_in {st:St} (hS:∀ R ∈ g.rules,R.sort ∈ S -> ∀ p ∈ R.parts,p.sort ≠ emp -> p.sort ∈ S) (hc:∀ R ∈ g.rules,R.sort ∈ S -> ∀ w,Cat st R.parts w -> (w.length:Int) <= most -> w ∈ bh st R.sort) {l:List Pt} {w:W} (hw:GnP g l w) :
  (∀ p ∈ l,p.sort ≠ emp -> p.sort ∈ S) -> (w.length:Int) <= most -> Cat st l w:=by
 induction hw with
 | nil=>intro _ _; exact .nil
 | sym p r w hp _ ih =>
  intro h1 h2
  simp only [List.length_cons] at h2
  exact .sym p r w hp (ih (fun q hq=>h1 q (by simp [hq])) (by omega))
 | srt p r R u w hp hR e _ _ ih1 ih =>
  intro h1 h2
  simp only [List.length_append] at h2
  have hs:=h1 p (by simp) hp
  refine .srt p r u w hp ?_ (ih (fun q hq=>h1 q (by simp [hq])) (by omega))
  have:=hc R hR (by rw [e]; exact hs) u (ih1 (hS R hR (by rw [e]; exact hs)) (by omega)) (by omega)
  rwa [e] at this
theorem nodup_leW:∀ {a b:List W},a.Nodup -> (∀ x ∈ a,x ∈ b) -> a.length <= b.length
 | [],b,_,_=>Nat.zero_le _
 | x :: a,b,hn,h=>by
  simp only [List.nodup_cons] at hn
  have hx:=h x (by simp)
  have:=nodup_leW (a:=a) (b:=b.erase x) hn.2 fun y hy=>by
   have hne:y ≠ x:=by rintro rfl; exact hn.1 hy
   exact (List.mem_erase_of_ne hne).2 (h y (by simp [hy]))
  rw [List.length_erase_of_mem hx] at this
  have:=List.length_pos_of_mem hx
  simp only [List.length_cons]
  omega
end
theorem reach_cl {g:Gr} {x:ByteArray} {S:List ByteArray} (h:ReachS g x S):x ∈ S /\ ∀ R ∈ g.rules,R.sort ∈ S -> ∀ p ∈ R.parts,p.sort ≠ emp -> p.sort ∈ S:=by
 obtain ⟨b,hb,rfl⟩:=h
 refine ⟨hb.me rfl,fun R hR hs p hp hne=>hb.cl R.sort (.inl hs) p.sort ?_⟩
 unfold contE contL
 refine List.mem_flatMap.2 ⟨R,List.mem_filter.2 ⟨hR,by simp⟩,?_⟩
 unfold evP
 exact List.mem_map.2 ⟨p,List.mem_filter.2 ⟨hp,by simpa using hne⟩,rfl⟩
theorem iterE_end {g:Gr} {s:ByteArray} {most:Int} {S:List ByteArray} {M:List Int} {k:Nat} (hS:ReachS g s S) (hM:LensR g M) (hok:LenOk g M) (hmo:most <= 12) (hy:SymsOk g) (h:(bZ g M most S (k+1)).2=true) (ht:totS (bZ g M most S (k+1)).1=totS (bZ g M most S k).1) :
  ¬ Over g S most /\ (bh (bZ g M most S (k+1)).1 s).Nodup /\ ∀ w,w ∈ bh (bZ g M most S (k+1)).1 s ↔ Gn g s w /\ (w.length:Int) <= most:=by
 obtain ⟨hs,hcl⟩:=reach_cl hS
 obtain ⟨hI,hF⟩:=iterE_q (most:=most) (S:=S) hM k
 obtain ⟨a,b,c⟩:=rounds_q hM g.rules (bZ g M most S k) (fun _ h=>h) hI hF
 obtain ⟨x,hx⟩:∃ x,x=bZ g M most S (k+1):=⟨_,rfl⟩
 have hr:g.rules.foldl (bS g M most S) (bZ g M most S k)=x:=hx.symm
 rw [<- hx] at h ht ⊢
 rw [hr] at a b c
 have e:=a.same ht
 rw [e] at a b c ⊢
 have cc:=c h
 have all:∀ t ∈ S,∀ w,Gn g t w /\ (w.length:Int) <= most -> w ∈ bh (bZ g M most S k).1 t:=by
  rintro t ht w ⟨⟨R,hR,rfl,hw⟩,hl⟩
  exact cc R hR ht w (gn_in hcl cc hw (hcl R hR ht) hl) hl
 have hst:StOk most (bZ g M most S (k+1)).1:=by
  have key:∀ n,(bZ g M most S n).2=true -> StOk most (bZ g M most S n).1:=by
   intro n
   induction n with
   | zero=>intro _ p hp; simp [bZ] at hp
   | succ n ih =>
    have fk:∀ (l:List Rl) (x:St × Bool),(∀ R ∈ l,symsOk R.parts) -> (x.2=true -> StOk most x.1) -> (l.foldl (bS g M most S) x).2=true -> StOk most (l.foldl (bS g M most S) x).1:=by
     intro l
     induction l with
     | nil=>intro x _ h1 h2; exact h1 h2
     | cons R l ihl =>
      intro x h0 h1 h2
      rw [List.foldl_cons] at h2 ⊢
      exact ihl _ (fun q hq=>h0 q (by simp [hq])) (fun h3=>roundE_ok hok hmo (h0 R (by simp)) h1 h3) h2
    exact fk g.rules _ hy ih
  exact key _ (by rw [<- hx]; exact h)
 rw [<- hx,e] at hst
 refine ⟨?_,hI.nd s,fun w=>⟨hI.snd s w,all s hs w⟩⟩
 rintro ⟨t,ht,L,h1,h2,h3⟩
 have:=nodup_leW h1 fun w hw=>all t ht w (h3 w hw)
 have:=(hst.get t).1
 omega
theorem iterE_over {g:Gr} {most:Int} {S:List ByteArray} {M:List Int} {k:Nat} (hM:LensR g M) (h:(bZ g M most S k).2=false):Over g S most:=by
 obtain ⟨a,b⟩:=iterE_q (most:=most) (S:=S) hM k
 exact a.over (b h)
theorem SentO.plain {g:Gr} {s:ByteArray} {most:Int} {A:Prop} {B:List W -> Prop} (hy:SymsOk g) (hmo:most <= 12) (h:SentO g s most A B):∃ S,ReachS g s S /\ ((Over g S most /\ A) \/
  (¬ Over g S most /\ ∃ l',l'.Nodup /\ SortedW l' /\ (∀ w,w ∈ l' ↔ Gn g s w /\ (w.length:Int) <= most) /\ B l')):=by
 obtain ⟨S,M,hS,hM,hok,h⟩:=h
 refine ⟨S,hS,?_⟩
 rcases h with ⟨k,h1,_,hA⟩ | ⟨k,l',h1,h2,hp,hsl,hB⟩
 .exact .inl ⟨iterE_over hM h1,hA⟩
 .obtain ⟨a,b,c⟩:=iterE_end hS hM hok hmo hy h1 h2
  exact .inr ⟨a,l',hp.nodup_iff.2 b,hsl,fun w=>by rw [hp.mem_iff]; exact c w,hB⟩
end Go.Apx
end
section
namespace Go.Apx
open Go.Proofs
section
variable {g:Gr}
theorem gnp_refF {S:List ByteArray} {symb:Bool} (hc:ClosedS g (fun _=>symb) S) {l:List Pt} {w:W} (h:GnP g l w):(symb=false -> w=[]) -> l.any (refF S fun _=>symb)=false:=by
 induction h with
 | nil=>intro _; rfl
 | sym p r w hp _ ih =>
  intro hs
  cases symb with
  | false=>exact absurd (hs rfl) (by simp)
  | true =>
   rw [List.any_cons,ih (fun e=>by cases e)]
   simp [refF,hp]
 | srt p r R u w hp hR e _ _ ih1 ih =>
  intro hs
  have h1:symb=false -> u=[] /\ w=[]:=fun e=>by simpa using hs e
  have hm:=hc R hR (ih1 fun e=>(h1 e).1)
  rw [List.any_cons,ih fun e=>(h1 e).2]
  rw [e] at hm
  simp [refF,hp,hm]
theorem refF_gnp {S:List ByteArray} {symb:Bool} (hS:∀ s ∈ S,∃ w,Gn g s w /\ (symb=false -> w=[])) {l:List Pt} (h:l.any (refF S fun _=>symb)=false):∃ w,GnP g l w /\ (symb=false -> w=[]):=by
 induction l with
 | nil=>exact ⟨[],.nil,fun _=>rfl⟩
 | cons p l ih =>
  rw [List.any_cons,Bool.or_eq_false_iff] at h
  obtain ⟨w,hw,he⟩:=ih h.2
  have h1:=h.1
  unfold refF at h1
  by_cases e:p.sort=emp
  .rw [if_pos e] at h1
   have:symb=true:=by simpa using h1
   subst this
   exact ⟨_,.sym p l w e hw,fun e=>by cases e⟩
  .rw [if_neg e] at h1
   obtain ⟨u,⟨R,hR,er,hu⟩,hue⟩:=hS p.sort (by simpa using h1)
   exact ⟨_,.srt p l R u w e hR er hu hw,fun e=>by rw [hue e,he e]; rfl⟩
theorem grow_iff {S:List ByteArray} {symb:Bool} (h:GrowS g (fun _=>symb) S) (s:ByteArray):s ∈ S ↔ ∃ w,Gn g s w /\ (symb=false -> w=[]):=by
 classical
 constructor
 .intro hs
  have hC:ClosedS g (fun _=>symb) (S.filter fun s=>decide (∃ w,Gn g s w /\ (symb=false -> w=[]))):=by
   intro R hR ha
   have h1:=h.closed R hR (refF_mono (fun s hs=>(List.mem_filter.1 hs).1) ha)
   obtain ⟨w,hw,he⟩:=refF_gnp (fun s hs=>by simpa using (List.mem_filter.1 hs).2) ha
   exact List.mem_filter.2 ⟨h1,by simp only [decide_eq_true_eq]; exact ⟨w,⟨R,hR,rfl,hw⟩,he⟩⟩
  have:=h.least _ hC s hs
  simpa using (List.mem_filter.1 this).2
 .rintro ⟨w,⟨R,hR,e,hw⟩,he⟩
  have:=h.closed R hR (gnp_refF h.closed hw he)
  rwa [e] at this
theorem null_iff {N:List ByteArray} (h:GrowS g noP N) (s:ByteArray):s ∈ N ↔ Gn g s []:=by
 have:=grow_iff (symb:=false) h s
 simpa using this
theorem full_iff {F:List ByteArray} (h:GrowS g (fun _=>true) F) (s:ByteArray):s ∈ F ↔ ∃ w,Gn g s w:=by
 have:=grow_iff (symb:=true) h s
 simpa using this
end
end Go.Apx
end
section
namespace Go.Apx
open Go.Proofs
abbrev bWff:ByteArray:=⟨#[119,102,102]⟩
abbrev bPh:ByteArray:=⟨#[112,104]⟩
abbrev bPs:ByteArray:=⟨#[112,115]⟩
abbrev bNot:ByteArray:=⟨#[45,46]⟩
abbrev bL:ByteArray:=⟨#[40]⟩
abbrev bTo:ByteArray:=⟨#[45,62]⟩
abbrev bR:ByteArray:=⟨#[41]⟩
def r1:Rl:=⟨⟨#[119,112,104]⟩,bWff,[⟨bPh,emp,0⟩],true,.full⟩
def r2:Rl:=⟨⟨#[119,112,115]⟩,bWff,[⟨bPs,emp,0⟩],true,.full⟩
def r3:Rl:=⟨⟨#[119,110]⟩,bWff,[⟨bNot,emp,0⟩,⟨emp,bWff,0⟩],false,.full⟩
def r4:Rl:=⟨⟨#[119,105]⟩,bWff,[⟨bL,emp,0⟩,⟨emp,bWff,0⟩,⟨bTo,emp,0⟩,⟨emp,bWff,1⟩,⟨bR,emp,0⟩],false,.full⟩
def LG:Gr:={ sorts:=[bWff],rules:=[r1,r2,r3,r4],sc:=.full,rc:=.full }
theorem LG_sorted:aU LG bWff=0:=by decide +kernel
theorem LG_rules {R:Rl} (h:R ∈ LG.rules):R=r1 \/ R=r2 \/ R=r3 \/ R=r4:=by
 simpa [LG] using h
theorem LG_sortsIn:bA LG:=by
 intro R hR
 rcases LG_rules hR with rfl | rfl | rfl | rfl <;> refine ⟨by decide +kernel,?_⟩ <;> decide +kernel
theorem LG_syms:SymsOk LG:=by
 intro R hR
 rcases LG_rules hR with rfl | rfl | rfl | rfl <;> unfold symsOk <;> decide +kernel
theorem LG_nodup:LG.sorts.Nodup:=by simp [LG]
theorem LG_parts {R:Rl} (h:R ∈ LG.rules):R.parts.length <= 5:=by
 rcases LG_rules h with rfl | rfl | rfl | rfl <;> decide
theorem LG_sort {R:Rl} (h:R ∈ LG.rules):R.sort=bWff:=by
 rcases LG_rules h with rfl | rfl | rfl | rfl <;> rfl
theorem LG_null {N:List ByteArray} (h:GrowS LG noP N):N=[]:=by
 have:ClosedS LG noP []:=by
  intro R hR ha
  rcases LG_rules hR with rfl | rfl | rfl | rfl <;> exact absurd ha (by decide +kernel)
 have h2:=h.least [] this
 cases N with
 | nil=>rfl
 | cons a N=>have:=h2 a (by simp); simp at this
theorem LG_full {F:List ByteArray} {pm:Pt -> Bool} (hpm:pm=fun _=>true) (h:GrowS LG pm F):bWff ∈ F:=by
 subst hpm
 exact h.closed r1 (by simp [LG]) (by simp [r1,refF])
theorem LG_begins {F:List ByteArray} (h:bWff ∈ F):begE LG [] F bWff=[(false,bPh),(false,bPs),(false,bNot),(false,bL)]:=by
 have e:¬ bWff=emp:=by decide +kernel
 simp [begE,begL,LG,begR,r1,r2,r3,r4,begP,uselF,h]
theorem LG_first {N F:List ByteArray} {b:CSt} (hN:GrowS LG noP N) (hF:GrowS LG (fun _=>true) F) (hb:CloS (begE LG N F) bWff true [] b):srtS b.u=[bL,bNot,bPh,bPs]:=by
 obtain rfl:=LG_null hN
 have hf:=LG_full rfl hF
 have hS:∀ z ∈ b.S,z=bWff:=fun z hz=>hb.snd (fun z=>z=bWff) (fun _=>rfl) (fun y hy=>by rw [LG_begins hf] at hy; simp at hy) (fun z e y hy=>by rw [e,LG_begins hf] at hy; simp at hy) z hz
 have hu:∀ s,s ∈ b.u ↔ s ∈ [bPh,bPs,bNot,bL]:=by
  intro s
  constructor
  .intro hs
   obtain ⟨z,hz,hz2⟩:=hb.usnd s hs (by simp)
   have e:z=bWff:=by rcases hz with hz | hz; exact hS z hz; exact hz
   rw [e,LG_begins hf] at hz2
   simpa using hz2
  .intro hs
   refine hb.nt bWff (.inr rfl) s ?_
   rw [LG_begins hf]
   simpa using hs
 have hp:b.u.Perm [bPh,bPs,bNot,bL]:=(List.perm_ext_iff_of_nodup (hb.und (by simp)) (by decide +kernel)).2 hu
 rw [srtS_perm (hp.trans ((List.perm_ext_iff_of_nodup (l₂:=[bL,bNot,bPh,bPs]) (by decide +kernel) (by decide +kernel)).2 fun x=>by simp only [List.mem_cons,List.not_mem_nil,or_false]; constructor <;> (rintro (h | h | h | h) <;> simp [h])))]
 unfold srtS
 rw [List.mergeSort_of_pairwise (by decide +kernel)]
 decide +kernel
theorem LG_lens:LensR LG [1]:=⟨⟨1,by decide +kernel⟩,by decide +kernel⟩
theorem LG_least {M:List Int} (h:LensR LG M):lenAt LG M bWff=1:=by
 rw [h.eq LG_lens]
 decide +kernel
def LGs:List W:=[[bPh],[bPs],[bNot,bPh],[bNot,bPs]]
theorem LG_pos {s:ByteArray} {w:W} (h:Gn LG s w):s=bWff /\ 1 <= w.length:=by
 have e:s=bWff:=by
  obtain ⟨R,hR,e,_⟩:=h
  rw [<- e,LG_sort hR]
 refine ⟨e,?_⟩
 have:=h.low LG_lens
 rw [e,LG_least LG_lens] at this
 omega
theorem gnP_sym {g:Gr} {p:Pt} {r:List Pt} {w:W} (h:GnP g (p :: r) w) (hp:p.sort=emp):∃ w',w=p.sym :: w' /\ GnP g r w':=by
 cases h with
 | sym _ _ w' _ h=>exact ⟨w',rfl,h⟩
 | srt _ _ _ _ _ hn=>exact (hn hp).elim
theorem gnP_srt {g:Gr} {p:Pt} {r:List Pt} {w:W} (h:GnP g (p :: r) w) (hp:p.sort ≠ emp):∃ u w',w=u++w' /\ Gn g p.sort u /\ GnP g r w':=by
 cases h with
 | sym _ _ w' hn=>exact (hp hn).elim
 | srt _ _ R u w' _ hR e h1 h2=>exact ⟨u,w',rfl,⟨R,hR,e,h1⟩,h2⟩
theorem gnP_nil {g:Gr} {w:W} (h:GnP g [] w):w=[]:=by cases h; rfl
theorem LG_gn {s:ByteArray} {w:W} (h:Gn LG s w):w=[bPh] \/ w=[bPs] \/ (∃ u,w=bNot :: u /\ Gn LG bWff u) \/ 3 <= w.length:=by
 obtain ⟨R,hR,e,h1⟩:=h
 have hw:∀ i,(⟨emp,bWff,i⟩:Pt).sort ≠ emp:=fun i=>by show bWff ≠ emp; decide +kernel
 rcases LG_rules hR with rfl | rfl | rfl | rfl
 .obtain ⟨w1,rfl,h2⟩:=gnP_sym h1 rfl
  rw [gnP_nil h2]; exact .inl rfl
 .obtain ⟨w1,rfl,h2⟩:=gnP_sym h1 rfl
  rw [gnP_nil h2]; exact .inr (.inl rfl)
 .obtain ⟨w1,rfl,h2⟩:=gnP_sym h1 rfl
  obtain ⟨u,w2,rfl,h3,h4⟩:=gnP_srt h2 (hw 0)
  rw [gnP_nil h4,List.append_nil]
  exact .inr (.inr (.inl ⟨u,rfl,h3⟩))
 .obtain ⟨w1,rfl,h2⟩:=gnP_sym h1 rfl
  obtain ⟨u,w2,rfl,h3,h4⟩:=gnP_srt h2 (hw 0)
  obtain ⟨w3,rfl,h5⟩:=gnP_sym h4 rfl
  refine .inr (.inr (.inr ?_))
  have:=(LG_pos h3).2
  simp; omega
theorem LG_mem (s:ByteArray) (w:W):Gn LG s w /\ (w.length:Int) <= 2 -> w ∈ LGs:=by
 rintro ⟨h,hl⟩
 rcases LG_gn h with rfl | rfl | ⟨u,rfl,hu⟩ | h3
 .simp [LGs]
 .simp [LGs]
 .simp only [List.length_cons] at hl
  rcases LG_gn hu with rfl | rfl | ⟨v,rfl,hv⟩ | h3
  .simp [LGs]
  .simp [LGs]
  .have:=(LG_pos hv).2
   simp only [List.length_cons] at hl
   omega
  .omega
 .omega
theorem LG_in {w:W} (h:w ∈ LGs):Gn LG bWff w /\ (w.length:Int) <= 2:=by
 have g1:Gn LG bWff [bPh]:=⟨r1,by simp [LG],rfl,.sym _ _ _ rfl .nil⟩
 have g2:Gn LG bWff [bPs]:=⟨r2,by simp [LG],rfl,.sym _ _ _ rfl .nil⟩
 have hw:(⟨emp,bWff,0⟩:Pt).sort ≠ emp:=by show bWff ≠ emp; decide +kernel
 have gn:∀ u,Gn LG bWff u -> Gn LG bWff (bNot :: u):=fun u hu=>⟨r3,by simp [LG],rfl,.sym _ _ _ rfl (by simpa using (GnP.nil (g:=LG)).srtI (p:=⟨emp,bWff,0⟩) hw hu)⟩
 simp only [LGs,List.mem_cons,List.not_mem_nil,or_false] at h
 rcases h with rfl | rfl | rfl | rfl
 .exact ⟨g1,by simp⟩
 .exact ⟨g2,by simp⟩
 .exact ⟨gn _ g1,by simp⟩
 .exact ⟨gn _ g2,by simp⟩
theorem LG_over {S:List ByteArray}:¬ Over LG S 2:=by
 rintro ⟨s,_,L,h1,h2,h3⟩
 have:=nodup_leW h1 fun w hw=>LG_mem s w (h3 w hw)
 simp [LGs] at this
 omega
theorem LG_sent {l':List W} (h1:l'.Nodup) (h2:SortedW l') (h3:∀ w,w ∈ l' ↔ Gn LG bWff w /\ (w.length:Int) <= 2):l'=LGs:=by
 refine sortedW_unique ((List.perm_ext_iff_of_nodup h1 (by decide +kernel)).2 fun w=>?_) h2 (by unfold SortedW; decide +kernel)
 rw [h3]
 exact ⟨LG_mem _ w,LG_in⟩
end Go.Apx
end
section
namespace Go.Apx
open Go.Proofs
set_option maxRecDepth 4000
theorem logic_c {h:AHeap}:AEx PP Gl 33 [] h (.ret (aM LG)) h:=by
 refine enter_33 (by simp) ?_
 simp -implicitDefEqProofs [code_33,res_33,ann_33]
 exact bx (v:=aM LG) (by simp [deferred,dslot]) rfl ⟨rfl,rfl⟩
theorem sortA_c {h:AHeap}:AEx PP Gl 34 [.sc (.string ⟨#[124,45]⟩)] h (.ret (.sc (.string bWff))) h:=KOk.at (KOk.interp (k:=⟨34,[.sc (.string ⟨#[124,45]⟩)],[],.sc (.string bWff),[]⟩) (K:=[]) mixed (findT_ok tbl_ok) (by simp) 60 (by kernel_rfl)) rfl rfl
theorem sortB_c {h:AHeap}:AEx PP Gl 34 [.sc (.string ⟨#[99,108,97,115,115]⟩)] h (.ret (.sc (.string ⟨#[99,108,97,115,115]⟩))) h:=KOk.at (KOk.interp (k:=⟨34,[.sc (.string ⟨#[99,108,97,115,115]⟩)],[],.sc (.string ⟨#[99,108,97,115,115]⟩),[]⟩) (K:=[]) mixed (findT_ok tbl_ok) (by simp) 60 (by kernel_rfl)) rfl rfl
theorem LG_check_c {h:AHeap}:AEx PP Gl 23 [aM LG] h (.ret (i64 (aO LG))) h:=check_c LG (fun _ _ r hr _=>Nat.le_trans (LG_parts hr) (by decide)) (by decide) (by decide)
theorem LG_first_c {h:AHeap}:AEx PP Gl 11 [aM LG,.sc (.string bWff)] h (.ret (.tup [.sl 1 [sv bL,sv bNot,sv bPh,sv bPs] .any,i64 0])) h:=by
 refine (First_c LG bWff (fun _=>LG_sortsIn) (by decide) (by decide) (fun R hR=>Nat.le_trans (LG_parts hR) (by decide)) LG_check_c).mono ?_
 rintro r h' ⟨rfl,⟨h1,_⟩ | ⟨_,N,F,b,hN,hF,hb,rfl⟩⟩
 .exact (h1 LG_sorted).elim
 .rw [LG_first hN hF hb]; exact ⟨rfl,rfl⟩
theorem LG_least_c {h:AHeap}:AEx PP Gl 14 [aM LG,.sc (.string bWff)] h (.ret (.tup [i64 1,i64 0])) h:=by
 refine (Least_c LG bWff LG_nodup (fun _=>LG_sortsIn) (by decide) (by decide) (fun R hR=>Nat.le_trans (LG_parts hR) (by decide)) LG_check_c).mono ?_
 rintro r h' ⟨rfl,⟨h1,_⟩ | ⟨_,S,hS,⟨hm,_⟩ | ⟨_,M,hM,_,rfl⟩⟩⟩
 .exact (h1 LG_sorted).elim
 .exact (hm (LG_full rfl hS)).elim
 .rw [LG_least hM]; exact ⟨rfl,rfl⟩
theorem LG_sent_c {h:AHeap}:AEx PP Gl 16 [aM LG,.sc (.string bWff),i64 2] h (.ret (.tup [.sl 1 (LGs.map encW) .any,i64 0])) h:=by
 refine (Sentences_c LG bWff 2 (fun _=>⟨LG_sortsIn,LG_syms,LG_nodup⟩) (by decide) (by decide) (fun R hR=>Nat.le_trans (LG_parts hR) (by decide)) LG_check_c).mono ?_
 rintro r h' ⟨rfl,⟨h1,_⟩ | ⟨_,h1,_⟩ | ⟨_,_,_,hO⟩⟩
 .exact (h1 LG_sorted).elim
 .omega
 .obtain ⟨S,hS,⟨ho,_⟩ | ⟨_,l',q1,q2,q3,rfl⟩⟩:=hO.plain LG_syms (by omega)
  .exact (LG_over ho).elim
  .rw [LG_sent q1 q2 q3]; exact ⟨rfl,rfl⟩
set_option maxHeartbeats 4000000 in
theorem awake_c {h:AHeap}:AEx PP Gl 9 [] h (.ret (.sc (.bool true))) h:=by
 refine aC Tryz.func9 body_9 comp_9 resc_9 (by simp) (by simp) ?_
 refine AWp.go (a:=cp0_9) (b:=tl1_9) rfl ?_
 simp -implicitDefEqProofs [cp0_9]
 refine AWp.go (a:=cp1_9) (b:=tl2_9) rfl ?_
 simp -implicitDefEqProofs [cp1_9]
 refine aP logic_c rfl rfl ?_
 simp -implicitDefEqProofs [aM,LG]
 refine AWp.go (a:=cp2_9) (b:=tl3_9) rfl ?_
 simp -implicitDefEqProofs [cp2_9]
 refine aP LG_first_c (by simp [aM,LG]) rfl ?_
 simp -implicitDefEqProofs
 refine AWp.go (a:=cp3_9) (b:=tl4_9) rfl ?_
 simp -implicitDefEqProofs [cp3_9]
 refine aP LG_least_c (by simp [aM,LG]) rfl ?_
 simp -implicitDefEqProofs
 refine AWp.go (a:=cp4_9) (b:=tl5_9) rfl ?_
 simp -implicitDefEqProofs [cp4_9]
 refine aP LG_sent_c (by simp [aM,LG]) rfl ?_
 simp -implicitDefEqProofs
 refine AWp.go (a:=cp5_9) (b:=tl6_9) rfl ?_
 simp -implicitDefEqProofs [cp5_9]
 have s1:AEx PP Gl 13 [.sl 1 [sv bL,sv bNot,sv bPh,sv bPs] .any,.sl 1 [sv bL,sv bNot,sv bPh,sv bPs] .full] h (.ret (bl true)) h:=by
  simpa using same_c 1 1 [bL,bNot,bPh,bPs] [bL,bNot,bPh,bPs] .any .full (fun _=>rfl) (fun _=>rfl) (by simp) (h:=h)
 have s2:AEx PP Gl 13 [encW [bNot,bPh],.sl 1 [sv bNot,sv bPh] .full] h (.ret (bl true)) h:=by
  rw [show encW [bNot,bPh]=.sl 1 [sv bNot,sv bPh] .any from rfl]
  simpa using same_c 1 1 [bNot,bPh] [bNot,bPh] .any .full (fun _=>rfl) (fun _=>rfl) (by simp) (h:=h)
 refine aP s1 rfl rfl ?_
 simp -implicitDefEqProofs [LGs]
 refine aP s2 rfl rfl ?_
 simp -implicitDefEqProofs
 refine aP sortA_c rfl rfl ?_
 simp -implicitDefEqProofs
 refine aP sortB_c rfl rfl ?_
 simp -implicitDefEqProofs
 refine aB mixed ?_
 simp -implicitDefEqProofs [tl6_9,res_9]
 exact bx (v:=bl true) (by simp [deferred,dslot]) (by simp [aN,aK]) ⟨rfl,rfl⟩
end Go.Apx
end
section
namespace Go.Apx
open Go.Proofs
set_option maxRecDepth 4000
structure GrOk (g:Gr):Prop where
 ck:aO g=0
 sorts:g.sorts.length <= 32
 rules:g.rules.length <= 600
 parts:∀ R ∈ g.rules,R.parts.length <= 200
 inn:bA g
 syms:SymsOk g
 nd:g.sorts.Nodup
theorem allIdx_get {α:Type} {p:α -> Nat -> Bool} {l:List α} (h:allIdx p l=true) {i:Nat} {x:α} (hi:l[i]?=some x):p x i=true:=by
 unfold allIdx at h
 rw [List.all_eq_true] at h
 have:=h i (by simp [ar hi])
 rwa [hi] at this
theorem index_of_get {l:List ByteArray} (h:∀ (i:Nat) x,l[i]?=some x -> aw l x=i):l.Nodup:=by
 rw [List.nodup_iff_pairwise_ne,List.pairwise_iff_getElem]
 intro i j hi hj hij e
 have h2:=h j l[j] (by simp [hj])
 have h3:=h i l[i] (by simp [hi])
 rw [e] at h3
 omega
theorem gok {g:Gr} (h:aO g=0):GrOk g:=by
 have h0:=h
 unfold aO at h
 split at h
 .omega
 .rename_i c1
  split at h
  .omega
  .rename_i c2
   split at h
   .rename_i c3
    split at h
    .rename_i c4
     have hp:∀ R ∈ g.rules,R.parts.length <= 200:=fun r hr=>by
      have:g.rules.any longF=false:=by simpa using c2
      rw [List.any_eq_false] at this
      have:=this r hr
      simp [longF] at this; omega
     have hr:∀ R ∈ g.rules,rruleF g R=true:=fun R hR=>by
      obtain ⟨i,hi⟩:=List.getElem?_of_mem hR
      have:=allIdx_get c4 hi
      simp only [ruleOkF,Bool.and_eq_true] at this
      exact this.1
     refine ⟨h0,by omega,by omega,hp,fun R hR=>?_,fun R hR p hm he=>?_,index_of_get fun i x hi=>?_⟩
     .have:=hr R hR
      simp only [rruleF,Bool.and_eq_true,List.all_eq_true] at this
      refine ⟨this.1.1.1.2,fun p hp hne=>?_⟩
      have hq:=this.1.1.2 p hp
      unfold partF at hq
      rw [if_neg hne] at hq
      simp only [Bool.and_eq_true] at hq
      exact hq.2
     .have:=hr R hR
      simp only [rruleF,Bool.and_eq_true,List.all_eq_true] at this
      have hq:=this.1.1.2 p hm
      unfold partF at hq
      rw [if_pos he] at hq
      simp only [okName,Bool.and_eq_true,decide_eq_true_eq] at hq
      omega
     .have:=allIdx_get c3 hi
      simp only [nameOkF,Bool.and_eq_true,decide_eq_true_eq] at this
      exact this.2
    .omega
   .omega
theorem sorted_mem {g:Gr} {s:ByteArray} (h:aU g s=0):aO g=0 /\ bU g.sorts s=true:=by
 unfold aU at h
 by_cases e:aO g=0
 .rw [if_neg (by simpa using e)] at h
  refine ⟨e,?_⟩
  by_cases e2:bU g.sorts s=true
  .exact e2
  .rw [if_neg e2] at h; omega
 .rw [if_pos e] at h; exact (e h).elim
theorem small_bounds {g:Gr} {a b:Int} (h:smallF g a b=true) (hb:b <= 12):g.sorts.length <= 40 /\ g.rules.length <= 620 /\ (g.sorts.length <= 32 -> g.rules.length <= 600 -> ∀ r ∈ g.rules,longF r=false -> r.parts.length <= 12):=by
 unfold smallF at h
 split at h
 .cases h
 .rename_i c1
  refine ⟨by omega,by omega,fun h1 h2 r hr hl=>?_⟩
  rw [if_neg (by omega)] at h
  simp only [Bool.and_eq_true,List.all_eq_true,decide_eq_true_eq] at h
  have:=h.1.1 r hr
  simp only [badR,Bool.not_eq_true',Bool.or_eq_false_iff,Bool.and_eq_false_iff,decide_eq_false_iff_not] at this
  simp only [longF,decide_eq_false_iff_not] at hl
  omega
end Go.Apx
end
