/- errors.As at an error scope.broken and a target *scope.broken, as a contract of the abstract machine. -/
import Derived.Test.YtmgajcmigkcmdaaGreatDoorNE
import Derived.Test.YtmgajcmigkcmdaaGreatDoorNA
import Derived.Test.YtmgajcmigkcmdaaGreatDoorCodeT
import Derived.Test.YtmgajcmigkcmdaaGreatDoorAmD
import Derived.Test.YtmgajcmigkcmdaaGreatDoorAmC
set_option linter.unusedVariables false
set_option linter.unusedSimpArgs false
set_option linter.unnecessarySimpa false
namespace Go.Apx
open Go.Proofs
set_option maxRecDepth 4000
theorem rels_two {I:Imm} {m:Locs} {a b:AV} {vs:List Value} (h:AVRels I m [a,b] vs):∃ x y,vs=[x,y] /\ AVRel I m a x /\ AVRel I m b y:=by
 obtain ⟨x,r,rfl,h1,h2⟩:=AVRels.cons_iff.1 h
 obtain ⟨y,r,rfl,h3,h4⟩:=AVRels.cons_iff.1 h2
 obtain rfl:=AVRels.nil_iff.1 h4
 exact ⟨x,y,rfl,h1,h3⟩
theorem agg_inv {I:Imm} {m:Locs} {cs:List AV} {z:Value} (h:AVRel I m (.agg cs) z):∃ vs,z=.agg vs.toArray /\ AVRels I m cs vs:=by
 cases h with
 | agg _ vs hl h1 h=>exact ⟨vs,rfl,hl,h⟩
theorem sc_inv {I:Imm} {m:Locs} {v x:Value} (h:AVRel I m (.sc v) x):x=v:=by cases h; rfl
theorem err_cell {I:Imm} {m:Locs} {h:AHeap} {w:World} (hi:Inv Gl I m h w):w.cell? ⟨0,0,none⟩=some (.iface 142 (.agg #[.pointer (some ⟨3,62,none⟩)])):=by
 have hg:=hi.glob 0 errT (by rfl) []
 unfold errT at hg
 cases hg with
 | ip v a vs h1 hl hr hI hs =>
  obtain ⟨x,r,rfl,hx,_⟩:=AVRels.cons_iff.1 (show AVRels I [] [AV.ifc 142 (.agg [.sc (.pointer (some ⟨3,62,none⟩))])] vs from ⟨hl,hr⟩)
  cases hx with
  | ifc _ _ y hy =>
   obtain ⟨us,rfl,hus⟩:=agg_inv hy
   obtain ⟨z,r2,rfl,hz,h2⟩:=AVRels.cons_iff.1 hus
   obtain rfl:=AVRels.nil_iff.1 h2
   obtain rfl:=sc_inv hz
   exact hi.imm _ _ _ (hI 0 _ rfl)
theorem as_hb:hasBody PP 46=true:=by kernel_rfl
theorem As_ex {h:AHeap} {o g:Nat} {x y:Value} {u v:AV} (hx1:x.oneCell'=true) (hy1:y.oneCell'=true) (ho:h[o]?=some (.cells g [u,v])) :
  AEx PP Gl 46 [.ifc 91 (.agg [.sc x,.sc y]),.ifc 93 (.ptr o g 0)] h (.ret (.sc (.bool true))) (h.set o (.cells g [.sc x,.sc y])):=by
 refine ⟨as_hb,fun I m w vs hi ha=>?_⟩
 obtain ⟨p,q,rfl,hp,hq⟩:=rels_two ha
 cases hp with
 | ifc _ _ p hp =>
  obtain ⟨ps,rfl,hps⟩:=agg_inv hp
  obtain ⟨p0,p1,rfl,h0,h1⟩:=rels_two hps
  obtain rfl:=sc_inv h0
  obtain rfl:=sc_inv h1
  cases hq with
  | ifc _ _ q hq =>
   have hlt:o < m.length:=by rw [hi.len]; exact (List.getElem?_eq_some_iff.1 ho).1
   obtain ⟨b,lo,n,us,hl,hle,hus,hone,hcell,hall⟩:=hi.obj o _ m[o] ho (by simp [hlt])
   have hm:m[o]?=some (.cells g b lo n):=by rw [<- hl]; simp [hlt]
   obtain ⟨u0,u1,rfl,hu0,hu1⟩:=rels_two hus
   cases hq with
   | ptr _ _ _ a _ hpr =>
    have:=(hpr _ _ _ _ hm).2 rfl
    subst this
    refine (ErrAs.As_c p0 p1 u0 u1 b (lo+0) w hx1 hy1 (err_cell hi) (hcell 0 u0 rfl) (hcell 1 u1 rfl) (hall 0 (by simp at hle; omega)).2 (hall 1 (by simp at hle; omega)).2).mono ?_
    rintro e w' ⟨rfl,rfl⟩
    obtain ⟨i1,t1⟩:=hi.allocLoose (k:=h.length) #[.pointer (some ⟨b,lo+0,none⟩)] 93
    obtain ⟨i2,t2⟩:=i1.allocLoose (k:=h.length) #[.pointer (some ⟨3,93,none⟩),.pointer (some ⟨w.heap.size,0,none⟩),.int .u64 150] 110
    obtain ⟨i3,t3⟩:=i2.allocLoose (k:=h.length) #[.pointer (some ⟨3,93,none⟩),.pointer (some ⟨w.heap.size,0,none⟩),.int .u64 150] 110
    obtain ⟨i4,t4⟩:=i3.allocLoose (k:=h.length) #[p0,p1] 91
    obtain ⟨i5,t5⟩:=i4.store (off:=0) (us':=[.sc p0,.sc p1]) (us:=[p0,p1]) ho hm (by simp) (.cons (.sc _) (.cons (.sc _) .nil)) (by simp [hx1,hy1])
    refine ⟨_,_,I,m,⟨rfl,rfl⟩,.sc _,?_,(((t1.trans t2).trans t3).trans t4).trans (t5 _)⟩
    simpa [World.setCells] using i5
def exAs:List AV -> AHeap -> Option (AV × AHeap)
 | [.ifc t (.agg [.sc x,.sc y]),.ifc t' (.ptr o g 0)],h=>if t=91 /\ t'=93 /\ x.oneCell'=true /\ y.oneCell'=true then
   (match h[o]? with
   | some (.cells g' [_,_])=>if g'=g then some (.sc (.bool true),h.set o (.cells g [.sc x,.sc y])) else none
   | _=>none) else none
 | _,_=>none
theorem exAs_ok {args:List AV} {H:AHeap} {v:AV} {H':AHeap} (he:exAs args H=some (v,H')):KOk PP Gl ⟨46,args,H,v,H'⟩:=by
 unfold exAs at he
 split at he
 .rename_i t x y t' o g
  split at he
  .rename_i hc
   obtain ⟨rfl,rfl,hx,hy⟩:=hc
   split at he
   .rename_i g' a b ho
    split at he
    .rename_i hg
     subst hg
     simp only [Option.some.injEq,Prod.mk.injEq] at he
     obtain ⟨rfl,rfl⟩:=he
     intro h hh
     have hh':er h=H:=hh
     subst hh'
     have ho':h[o]?=some (.cells g' [a,b]):=by
      rw [er_get] at ho
      exact er_cells.1 ho
     refine (As_ex hx hy ho').mono fun r h' hr=>?_
     obtain ⟨rfl,rfl⟩:=hr
     exact ⟨rfl,by rw [er_set]; rfl,.set ho' (by simp) _⟩
    .cases he
   .cases he
  .cases he
 .cases he
def exCls:List AV -> AHeap -> Option (AV × AHeap)
 | [],h=>some (.agg (clsC 256),h)
 | _,_=>none
theorem exCls_ok {args:List AV} {H:AHeap} {v:AV} {H':AHeap} (he:exCls args H=some (v,H')):KOk PP Gl ⟨140,args,H,v,H'⟩:=by
 unfold exCls at he
 split at he
 .simp only [Option.some.injEq,Prod.mk.injEq] at he
  obtain ⟨rfl,rfl⟩:=he
  exact KOk.of_ex (fun h=>classes_c) _
 .cases he
end Go.Apx
