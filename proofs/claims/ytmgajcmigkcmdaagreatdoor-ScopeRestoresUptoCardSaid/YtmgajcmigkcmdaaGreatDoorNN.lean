/- Walk: the law ScopeRestores. -/
import Derived.Test.YtmgajcmigkcmdaaGreatDoorQB
import Derived.Test.YtmgajcmigkcmdaaGreatDoorNM
import Derived.Test.YtmgajcmigkcmdaaGreatDoorND
namespace Go.Apx
open Go.Proofs Go.Shelf
set_option linter.unusedVariables false
set_option linter.unusedSimpArgs false
set_option linter.unnecessarySimpa false
set_option maxRecDepth 4000
set_option maxHeartbeats 8000000 in
theorem restores_c (l : List St) (c : Cap) (so : ∀ s ∈ l,s.tc = .nil → s.text = []) (hl : l.length ≤ 2 ^ 21) (hn : nF l ≤ 2 ^ 21) (hz : zF l ≤ 2 ^ 21) {h : AHeap} : AEx PP Gl 8 [.sl 4 (l.map encSt) c] h (.ret (.sc (.bool true))) h:=by
 refine enter_law04_ScopeRestores (by simp) ?_
 simp -implicitDefEqProofs [code_law04_ScopeRestores,res_law04_ScopeRestores,ann_law04_ScopeRestores]
 refine callk (few_c l c so hl hn hz) rfl rfl ?_
 cases hf : fewF l with
 | false =>
  simp -implicitDefEqProofs
  refine callk awake_c rfl rfl ?_
  simp -implicitDefEqProofs
  exact retE (by simp [deferred,dslot]) rfl rfl rfl
 | true =>
 obtain ⟨h60,sm⟩:=few_sm hf
 simp -implicitDefEqProofs
 refine callk (checkR_c l c (by omega) sm so) rfl rfl ?_
 by_cases hc : (checkR l).2 = 0
 case neg =>
  simp -implicitDefEqProofs [hc]
  refine callk awake_c rfl rfl ?_
  simp -implicitDefEqProofs
  exact retE (by simp [deferred,dslot]) rfl rfl rfl
 obtain ⟨r,hr,hro⟩:=check_ok.1 hc
 simp -implicitDefEqProofs [hc]
 refine AWp.cnt l.length [0,28] (fun i=>[(29,i64 (i : Int))]) (fun _=>h) (fun _=>True) mixed trivial (le_of (by simp [dslot])) rfl ?_ ?_
 ·intro i hi _
  obtain ⟨s,hs⟩ : ∃ s,s = l[i]:=⟨_,rfl⟩
  have hs2 : l[i]? = some s:=by rw [hs]; simp [hi]
  have hlt : (i : Int) < l.length:=by omega
  have hile : i ≤ l.length:=by omega
  have wi : IntKind.i64.wrap ((i : Int) + 1) = (i : Int) + 1:=IntWalk.i64_in _ (by omega)
  obtain ⟨q,hq,_⟩:=run_parts hr i
  obtain ⟨bd,_⟩:=run_bd (fun s hs=>sm s (List.mem_of_mem_take hs)) (by rw [List.length_take]; omega) hq
  have hpre:=check_prefix hq
  simp -implicitDefEqProofs [lp0_law04_ScopeRestores,hlt]
  refine callr (atR_c l c i (by omega) hile sm so hq) rfl rfl ?_
  rintro r1 H ⟨VC,VV,VH,VA,rfl,rfl,fc,fv,fh,fa⟩
  simp -implicitDefEqProofs [hile,fc.one,fv.one,fh.one,fa.one]
  have hck:=fun c'=>checkR_c (l.take i) c' (by rw [List.length_take]; omega) (fun s hs=>sm s (List.mem_of_mem_take hs)) (fun s hs=>so s (List.mem_of_mem_take hs)) (h:=H)
  rw [List.map_take] at hck
  refine callk (hck _) rfl rfl ?_
  obtain ⟨E,hE⟩ : ∃ E,E = (checkR (l.take i)).2:=⟨_,rfl⟩
  rw [← hE] at hpre ⊢
  have hd2 : ((q.now.d : Int) = 0) ↔ q.now.d = 0:=by omega
  have hbe : decide (E = 0) = decide (q.now.d = 0):=decide_eq_decide.2 hpre
  simp -implicitDefEqProofs [fc.one,fv.one,fh.one,fa.one,hd2,hbe,hi,← hs,encSt]
  refine ⟨fun k8=>?_,fun k8=>?_⟩
  ·obtain ⟨e,he,hel,p,hp,hpn⟩:=restores hc hs2 k8 hq
   have hsc:=scope_c l c (i : Int) (by omega) (h:=H)
   rw [he] at hsc
   have we : IntKind.i64.wrap ((e : Int) + 1) = ((e + 1 : Nat) : Int):=IntWalk.i64_in _ (by omega)
   refine callk hsc rfl rfl ?_
   simp -implicitDefEqProofs [we]
   refine callr (atR_c l c (e + 1) (by omega) (by omega) sm so hp) (by simp) rfl ?_
   rintro r2 H2 ⟨WC,WV,WH,WA,rfl,rfl,gc,gv,gh,ga⟩
   rw [hpn] at gc gv gh ga
   rw [hpn]
   simp -implicitDefEqProofs [fc.one,fv.one,fh.one,fa.one,gc.one,gv.one,gh.one,ga.one]
   have b1:=bd.cs
   have b2:=bd.vs
   have b3:=bd.hs
   have b4:=bd.ap
   refine callk (equalT_c fc fv fh fa gc gv gh ga (by omega) (by omega) (by omega) (by omega) (fun x hx=>by have:=(bd.ht x hx).2; omega)) rfl rfl ?_
   simp -implicitDefEqProofs [wi]
   exact le_of (by simp [dslot])
  ·simp -implicitDefEqProofs [wi]
   exact le_of (by simp [dslot])
 ·intro _
  simp -implicitDefEqProofs [lp0_law04_ScopeRestores]
  refine callr (atR_c l c l.length (by omega) (Nat.le_refl _) sm so (by rw [List.take_length]; exact hr)) rfl rfl ?_
  rintro r1 H ⟨VC,VV,VH,VA,rfl,rfl,fc,fv,fh,fa⟩
  simp -implicitDefEqProofs [fc.one,fv.one,fh.one,fa.one]
  refine callk awake_c rfl rfl ?_
  simp -implicitDefEqProofs
  exact retE (by simp [deferred,dslot]) rfl rfl rfl
end Go.Apx
