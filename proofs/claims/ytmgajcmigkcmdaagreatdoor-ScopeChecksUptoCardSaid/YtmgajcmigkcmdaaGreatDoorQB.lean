/- Plain law: bounds of the reference's state; few statements are small. -/
import Derived.Test.YtmgajcmigkcmdaaGreatDoorQA
import Derived.Test.YtmgajcmigkcmdaaGreatDoorNM
import Derived.Test.YtmgajcmigkcmdaaGreatDoorNR
set_option linter.unusedVariables false
set_option linter.unusedSimpArgs false
set_option linter.unnecessarySimpa false
section
namespace Go.Apx
open Go.Proofs Go.Shelf
set_option maxRecDepth 4000
def HT (r:RSt):Prop:=∀ A ∈ r.now :: r.outer,∀ h ∈ A.hs,1 <= h.text.length /\ h.text.length <= 1000
theorem declR_hs (k:Bool):∀ (l:List ByteArray) (r:RSt),(declR k r l).2.now.hs=r.now.hs
 | [],r=>rfl
 | s :: t,r=>by
  simp only [declR]
  split
  .rfl
  .rw [declR_hs k t]
   cases k <;> rfl
theorem HT.decl {k:Bool} {l:List ByteArray} {r:RSt} (h:HT r):HT (declR k r l).2:=by
 intro A hA e he
 rcases List.mem_cons.1 hA with rfl | hA
 .rw [declR_hs] at he; exact h _ (List.mem_cons_self ..) e he
 .rw [declR_outer] at hA; exact h A (List.mem_cons_of_mem _ hA) e he
theorem HT.add {r:RSt} (h:HT r) (e:Hy) (he:1 <= e.text.length /\ e.text.length <= 1000) (labs:List ByteArray) (flts:List Hy):HT { r with labs:=labs,flts:=flts,now:={ r.now with hs:=r.now.hs++[e] } }:=by
 intro A hA x hx
 rcases List.mem_cons.1 hA with rfl | hA
 .rcases List.mem_append.1 hx with hx | hx
  .exact h _ (List.mem_cons_self ..) x hx
  .obtain rfl:=List.mem_singleton.1 hx; exact he
 .exact h A (List.mem_cons_of_mem _ hA) x hx
theorem HT.same {r q:RSt} (h:HT r) (h1:q.now.hs=r.now.hs) (h2:q.outer=r.outer):HT q:=by
 intro A hA x hx
 rcases List.mem_cons.1 hA with rfl | hA
 .rw [h1] at hx; exact h _ (List.mem_cons_self ..) x hx
 .rw [h2] at hA; exact h A (List.mem_cons_of_mem _ hA) x hx
theorem ht_step {r:RSt} (h:HT r) (a:Int) (s:St) (sm:Sm s) (h0:(stepR r a s).1=0):HT (stepR r a s).2:=by
 by_cases h8:s.kind=8
 .rw [step_open h0 h8]
  intro A hA x hx
  rcases List.mem_cons.1 hA with rfl | hA
  .exact h _ (List.mem_cons_self ..) x hx
  .rcases List.mem_append.1 hA with hA | hA
   .exact h A (List.mem_cons_of_mem _ hA) x hx
   .obtain rfl:=List.mem_singleton.1 hA; exact h _ (List.mem_cons_self ..) x hx
 by_cases h9:s.kind=9
 .obtain ⟨B,hB,e⟩:=step_close h0 h9
  rw [e]
  intro A hA x hx
  rcases List.mem_cons.1 hA with rfl | hA
  .exact h _ (List.mem_cons_of_mem _ (List.mem_of_getElem? hB)) x hx
  .exact h A (List.mem_cons_of_mem _ (List.mem_of_mem_take hA)) x hx
 unfold stepR at h0 ⊢
 by_cases hf:formF2 s=false
 .rw [if_pos hf]; exact h
 have hlen:=formF2_len (by simpa using hf)
 have htl:=sm.tl
 rw [if_neg hf]
 split
 .split
  .exact h
  .exact h.decl
 split
 .exact h.decl
 split
 .rename_i e3
  have l1:(frow 3).2.2.1=2:=by decide
  rw [show s.kind.toNat=3 by omega,l1] at hlen
  split
  .exact h
  .split
   .exact h
   .exact h.add (hyO s true) (by simp only [hyO]; omega) _ _
 split
 .rename_i e4
  have l1:(frow 4).2.2.1=1:=by decide
  rw [show s.kind.toNat=4 by omega,l1] at hlen
  split
  .exact h
  .split
   .exact h
   .exact h.add (hyO s false) (by simp only [hyO]; omega) _ _
 split
 .split
  .exact h
  .split
   .exact h
   .exact h.same rfl rfl
 split
 .split
  .exact h
  .split
   .exact h
   .exact h.same rfl rfl
 rename_i g1 g2 g3 g4 g5 g6
 have:=formF2_range hf
 exfalso
 omega
theorem ht_run:∀ (l:List St) (r:RSt) (i:Nat) (q:RSt),HT r -> (∀ s ∈ l,Sm s) -> runR i r l=.inr q -> HT q
 | [],r,i,q,h,_,e=>by cases e; exact h
 | s :: t,r,i,q,h,sm,e=>by
  simp only [runR] at e
  by_cases g:(stepR r i s).1=0
  .rw [if_pos g] at e
   exact ht_run t _ _ q (ht_step h i s (sm s (by simp)) g) (fun x hx=>sm x (by simp [hx])) e
  .rw [if_neg g] at e; cases e
structure Bd (A:AcR):Prop where
 cs:A.cs.length <= 2 ^ 20
 vs:A.vs.length <= 2 ^ 20
 hs:A.hs.length <= 2 ^ 20
 ap:A.ap.length <= 2 ^ 30
 ht:∀ x ∈ A.hs,1 <= x.text.length /\ x.text.length <= 1000
theorem run_bd {l:List St} {q:RSt} (sm:∀ s ∈ l,Sm s) (hl:l.length <= 100) (h:runR 0 r0S l=.inr q):Bd q.now /\ ∃ y,runF 0 x0 l=.inr y /\ Sim y q:=by
 rcases sim_run l x0 r0S 0 0 sim0 xi0 sm with ⟨a,e,h1,h2⟩ | ⟨y,q',h1,h2,hS,xi⟩
 .rw [h] at h2; cases h2
 .rw [h] at h2; cases h2
  have q2:=xi.cs
  have q3:=xi.vs
  have q4:=xi.hs
  have q5:=xi.ap
  have q6:=srtP_len y.ap
  refine ⟨⟨by rw [hS.cs]; omega,by rw [hS.vs]; omega,by rw [hS.hs]; omega,by rw [hS.ap]; omega,?_⟩,y,h1,hS⟩
  exact ht_run l r0S 0 q (by intro A hA x hx; simp [r0S] at hA; subst hA; simp at hx) sm h q.now (List.mem_cons_self ..)
theorem le_sum_mem {α:Type} (f:α -> Nat):∀ {l:List α} {x:α},x ∈ l -> f x <= (l.map f).sum
 | a :: l,x,h=>by
  rcases List.mem_cons.1 h with rfl | h
  .simp
  .have:=le_sum_mem f h
   simp; omega
theorem few_sm {l:List St} (h:fewF l=true):l.length <= 60 /\ ∀ s ∈ l,Sm s:=by
 simp only [fewF,Bool.and_eq_true,decide_eq_true_eq] at h
 obtain ⟨h1,h2,h3⟩:=h
 refine ⟨h1,fun s hs=>?_⟩
 have a1:s.text.length+s.proof.length <= nF l:=le_sum_mem (fun s:St=>s.text.length+s.proof.length) hs
 have a2:s.label.size+wsum (s.text++s.proof) <= zF l:=le_sum_mem (fun s:St=>s.label.size+wsum (s.text++s.proof)) hs
 refine ⟨by omega,by omega,fun w hw=>?_⟩
 have a3:w.size <= wsum (s.text++s.proof):=le_sum_mem ByteArray.size (List.mem_append_right _ hw)
 omega
theorem Fl.one {k:Nat} {es:List AV} {V:AV} (h:Fl k es V):V.one=true:=by obtain ⟨q,c,rfl,_⟩:=h; rfl
theorem Fl.pend {k:Nat} {es:List AV} {V:AV} (h:Fl k es V):V.isPend=false:=by obtain ⟨q,c,rfl,_⟩:=h; rfl
theorem Fl.cells {k:Nat} {es:List AV} {V:AV} (h:Fl k es V):V.cells=[V]:=by obtain ⟨q,c,rfl,_⟩:=h; rfl
def AtQ (h:AHeap) (A:AcR) (r:AEnd) (H:AHeap):Prop :=
 ∃ VC VV VH VA,r=.ret (.tup [.agg [VC,VV,VH,VA,i64 A.d],i64 0]) /\ H=h /\ Fl 1 (A.cs.map sv) VC /\ Fl 1 (A.vs.map sv) VV /\ Fl 3 (A.hs.map encHy) VH /\ Fl 2 (A.ap.map encP) VA
theorem atR_c (l:List St) (c:Cap) (i:Nat) (hl:l.length <= 100) (hi:i <= l.length) (sm:∀ s ∈ l,Sm s) (so:∀ s ∈ l,s.tc=.nil -> s.text=[]) {q:RSt} (hq:runR 0 r0S (l.take i)=.inr q) {h:AHeap} :
  ACalls PP Gl 17 [.sl 4 (l.map encSt) c,i64 (i:Int)] h (AtQ h q.now):=by
 obtain ⟨_,y,hy,hS⟩:=run_bd (fun s hs=>sm s (List.mem_of_mem_take hs)) (by rw [List.length_take]; omega) hq
 refine (at_ok l c i hl hi sm so hy).mono ?_
 rintro r H ⟨VC,VV,VH,VA,rfl,rfl,fc,fv,fh,fa⟩
 exact ⟨VC,VV,VH,VA,by rw [hS.d],rfl,by rw [hS.cs]; exact fc,by rw [hS.vs]; exact fv,by rw [hS.hs]; exact fh,by rw [hS.ap]; exact fa⟩
theorem checkR_c (l:List St) (c:Cap) (hl:l.length <= 100) (sm:∀ s ∈ l,Sm s) (so:∀ s ∈ l,s.tc=.nil -> s.text=[]) {h:AHeap}:AEx PP Gl 16 [.sl 4 (l.map encSt) c] h (.ret (.tup [i64 (checkR l).1,i64 (checkR l).2])) h:=by
 have:=check_c l c hl sm so (h:=h)
 rwa [check_eq l sm] at this
end Go.Apx
end
section
namespace Go.Apx
open Go.Proofs
theorem sts_few (l:List St):l.length <= (l.map szSt).sum /\ nF l <= (l.map szSt).sum /\ zF l <= (l.map szSt).sum:=by
 refine ⟨sts_len l,?_,?_⟩
 .induction l with
  | nil=>simp [nF]
  | cons s l ih =>
   unfold nF at ih ⊢
   simp only [List.map_cons,List.sum_cons]
   unfold szSt at ih ⊢
   omega
 .induction l with
  | nil=>simp [zF]
  | cons s l ih =>
   unfold zF at ih ⊢
   simp only [List.map_cons,List.sum_cons]
   have:wsum (s.text++s.proof)=(s.text.map (·.size)).sum+(s.proof.map (·.size)).sum:=by unfold wsum; rw [List.map_append,List.sum_append]
   rw [this]
   unfold szSt at ih ⊢
   omega
theorem sts_so {l:List St} (h:∀ s ∈ l,StOk s):∀ s ∈ l,s.tc=.nil -> s.text=[]:=fun s hs e=>by
 rcases (h s hs).2.1 with h1 | h1
 .rw [h1] at e; cases e
 .exact h1.2
end Go.Apx
end
