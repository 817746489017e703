/- ABSTRACT MACHINE, part 26: from the readings of arguments to abstract values. -/
import Derived.Test.YtdiemjjfkoccfaaGreatDoorAmC
import GoSem.ClaimChange
import Derived.Below
import Derived.RowKit3
import Derived.ChangeArms
import Derived.DataReads
import Derived.WalkKit
import Derived.ProofKit
import Derived.OpenShut
import Derived.Deep.DeepHandedRow
import Derived.Lib.LaidTab
import Derived.LaidSub
import Derived.WideKeyArgs
import Derived.Test.YtdiemjjfkoccfaaGreatDoorAmF
set_option linter.unusedVariables false
set_option linter.unusedSimpArgs false
set_option linter.unnecessarySimpa false
section
namespace Go.Apx
def I0 (W:World):Imm:=fun b o=>W.cell? ⟨b,o,none⟩
theorem inv0 {G:Globs} {W:World} (hg:∀ g v,G g=some v -> ∀ m',AVRel (I0 W) m' v (.pointer (some ⟨g,0,none⟩))):Inv G (I0 W) [] [] W where
 len:=rfl
 obj i o l h:=by simp at h
 imm b o v h:=h
 disj i j l l' b o h:=by simp at h
 immd i l b o h:=by simp at h
 lt i l b o h:=by simp at h
 glob:=hg
theorem below_of_trans {k:Nat} {I I':Imm} {m':aQ} {W W':World} (h:Trans k I [] W I' m' W'):RowKit.Below W.heap.size W W' where
 os:=h.os
 tape:=h.tape
 output:=h.output
 size:=h.size
 block b hb:=h.blk b hb fun i l o hi=>by simp at hi
theorem frozen_of_trans {k:Nat} {I I':Imm} {m':aQ} {W W':World} (h:Trans k I [] W I' m' W') (a:Addr) (ha:a.block < W.heap.size):W'.frozen? a=W.frozen? a:=h.froz a ha
mutual
def bulk {H:Type}:DataW H -> Nat
 | .lit (.string bytes)=>bytes.length+1
 | .lit _=>1
 | .nil=>1
 | .ptr d=>bulk d+1
 | .slice elems spare=>bulkL elems+bulkL spare+1
 | .agg parts=>bulkL parts+1
 | .iface _ d=>bulk d+1
 | .map entries=>bulkE entries+1
 | .held _=>1
def bulkL {H:Type}:List (DataW H) -> Nat
 | []=>0
 | d :: r=>bulk d+bulkL r
def bulkE {H:Type}:List (Lit × DataW H) -> Nat
 | []=>0
 | x :: r=>bulkP x+bulkE r
def bulkP {H:Type}:Lit × DataW H -> Nat
 | (.string bytes,d)=>bytes.length+bulk d+1
 | (_,d)=>bulk d+1
end
def Rd (P:Program) (W:World) (fuel:Nat) (t:TypeId) {α:Type} (g:α -> AV) (sz:α -> Nat) (ok:α -> Prop):Prop :=
 ∀ (H:Type) (enc:TypeId × Value -> H) (cs:List Value) (d:DataW H) (ps:List MemPlace),DataW.trod enc P W 0 (fun _=>true) true fuel t cs=some (d,ps) ->
  ∃ a:α,ok a /\ AVRels (I0 W) [] (g a).cells cs /\ sz a <= bulk d
theorem rels_one {I:Imm} {m:aQ} {v:AV} {x:Value} (h:AVRel I m v x):AVRels I m [v] [x]:=.cons h .nil
section
variable {P:Program} {W:World} {fuel:Nat} {t e:TypeId}
theorem Rd.bool (ht:P.underlying t=some .bool):Rd P W fuel t (fun b:Bool=>.sc (.bool b)) (fun _=>1) (fun _=>True):=by
 intro H enc cs d ps h
 obtain ⟨b,rfl,e⟩:=DataW.trod_bool ht h
 cases e
 exact ⟨b,trivial,rels_one (.sc _),by simp [bulk]⟩
theorem Rd.int {k:IntKind} (ht:P.underlying t=some (.int k)):Rd P W fuel t (fun n:Int=>.sc (.int k n)) (fun _=>1) (fun n=>k.min <= n /\ n <= k.max):=by
 intro H enc cs d ps h
 obtain ⟨n,rfl,e,hw⟩:=DataW.trod_int ht h
 cases e
 refine ⟨n,?_,rels_one (.sc _),by simp [bulk]⟩
 simpa [Lit.wf] using hw
theorem Rd.string (ht:P.underlying t=some .string):Rd P W fuel t (fun s:ByteArray=>.sc (.string s)) (fun s=>s.size+1) (fun _=>True):=by
 intro H enc cs d ps h
 obtain ⟨s,rfl,e,hl⟩:=DataW.trod_string ht h
 cases e
 refine ⟨s,trivial,rels_one (.sc _),?_⟩
 simp only [bulk,Array.length_toList]
 exact Nat.le_refl _
theorem cell_block {a b:Addr} (hb:a.block=b.block) (ho:a.off=b.off) (hs:b.spot=none) {x:Value} (h:W.cell? a=some x):W.cell? b=some x:=by
 unfold World.cell? at h ⊢
 rw [<- hb,<- ho,hs]
 split at h
 .split at h
  .cases h
  .simpa using h
 .cases h
theorem cell_spot {a:Addr} {x:Value} (h:W.cell? a=some x):a.spot=none:=by
 unfold World.cell? at h
 split at h
 .split at h
  .cases h
  .rename_i hs; cases hsp:a.spot <;> simp_all
 .cases h
theorem add_off (a:Addr) (i:Nat):(a.add i).block=a.block /\ (a.add i).off=a.off+i:=by
 unfold Addr.add
 split
 .rename_i h; subst h; exact ⟨rfl,rfl⟩
 .exact ⟨rfl,rfl⟩
theorem cells_lie {a:Addr} {n:Nat} {vs:List Value} (h:W.cells? 0 a n=some vs):vs.length=n /\ Lies (I0 W) a.block a.off vs /\ (0 < n -> a.spot=none):=by
 obtain ⟨_,h1,h2⟩:=World.cells?_some h
 refine ⟨h1,fun i x hx=>?_,fun hn=>?_⟩
 .have hi:=(List.getElem?_eq_some_iff.1 hx).1
  have:=h2 i (by omega)
  rw [hx] at this
  exact cell_block (b:=⟨a.block,a.off+i,none⟩) (add_off a i).1 (add_off a i).2 rfl this
 .have:=h2 0 hn
  have h0:vs[0]?=some vs[0]:=by simp [show 0 < vs.length by omega]
  rw [h0] at this
  have:=cell_spot this
  simpa [Addr.add] using this
theorem lies_append {I:Imm} {b o:Nat} {us vs:List Value} (h:Lies I b o us) (h':Lies I b (o+us.length) vs):Lies I b o (us++vs):=by
 intro i x hx
 rw [List.getElem?_append] at hx
 split at hx
 .exact h i x hx
 .rename_i hi
  have:=h' (i - us.length) x hx
  rw [show o+us.length+(i - us.length)=o+i by omega] at this
  exact this
theorem rows_read {α H:Type} {enc:TypeId × Value -> H} {g:α -> AV} {sz:α -> Nat} {ok:α -> Prop} {k n:Nat} {a:Addr} (hk:P.cellsOf e=k) (hpos:0 < k) (hc:∀ a,(g a).cells.length=k) (he:Rd P W n e g sz ok) :
  ∀ (elems:List (DataW H × List MemPlace)) (j:Nat),(∀ i,i < elems.length -> (W.cells? 0 (a.add ((j+i) * P.cellsOf e)) (P.cellsOf e)).bind (DataW.trod enc P W 0 (fun _=>true) true n e)=elems[i]?) ->
   ∃ (l:List α) (vs:List Value),l.length=elems.length /\ (∀ x ∈ l,ok x) /\ AVRels (I0 W) [] ((l.map g).flatMap AV.cells) vs /\ vs.length=l.length * k /\ Lies (I0 W) a.block (a.off+j * k) vs /\ (elems ≠ [] -> a.spot=none \/ j ≠ 0) /\ (l.map sz).sum <= bulkL (elems.map (·.1))
 | [],j,h=>⟨[],[],rfl,by simp,.nil,by simp,fun i x hx=>by simp at hx,fun h=>absurd rfl h,by simp [bulkL]⟩
 | x :: elems,j,h=>by
  have h0:=h 0 (by simp)
  simp only [Nat.add_zero,List.getElem?_cons_zero] at h0
  obtain ⟨cs',h1,h2⟩:=Option.bind_eq_some_iff.1 h0
  rw [hk] at h1
  obtain ⟨g1,g2,g3⟩:=cells_lie h1
  obtain ⟨d,ps⟩:=x
  obtain ⟨y,y1,y2,y3⟩:=he H enc cs' d ps h2
  obtain ⟨l,vs,r1,r2,r3,r4,r5,r6,r7⟩:=rows_read hk hpos hc he elems (j+1) (fun i hi=>by
   have:=h (i+1) (by simp; omega)
   rw [show j+1+i=j+(i+1) by omega]
   simpa using this)
  refine ⟨y :: l,cs'++vs,by simp [r1],fun z hz=>by rcases List.mem_cons.1 hz with rfl | hz; exact y1; exact r2 z hz,by simpa using y2.append r3,by simp [g1,r4,Nat.add_mul]; omega,?_,?_,?_⟩
  .refine lies_append ?_ ?_
   .rw [(add_off a (j * k)).1,(add_off a (j * k)).2] at g2; exact g2
   .rw [g1,Nat.add_assoc,<- Nat.succ_mul]; exact r5
  .intro _
   by_cases hj:j=0
   .subst hj
    have:=g3 hpos
    left
    simpa [Addr.add] using this
   .exact .inr hj
  .simp only [List.map_cons,List.sum_cons,bulkL]; omega
theorem Rd.slice {α:Type} {g:α -> AV} {sz:α -> Nat} {ok:α -> Prop} {k:Nat} (ht:P.underlying t=some (.slice e)) (hk:P.cellsOf e=k) (hpos:0 < k) (hc:∀ a,(g a).cells.length=k) (h1:∀ a,∀ c ∈ (g a).cells,c.one=true)
  (he:∀ n,n < fuel -> Rd P W n e g sz ok):Rd P W fuel t (fun p:List α × Bool=>.sl k (p.1.map g) (if p.2=true then .any else .nil)) (fun p=>(p.1.map sz).sum+1) (fun p=>(∀ a ∈ p.1,ok a) /\ (p.2=false -> p.1=[])):=by
 intro H enc cs d ps h
 rcases DataW.trod_slice ht h with ⟨rfl,e⟩ | ⟨a,len,cap,elems,rest,n,rfl,rfl,e,hb,hl,hm,hlen,hel,hsp,hns⟩
 .cases e
  exact ⟨([],false),⟨by simp,by simp⟩,rels_one (.slnil k),by simp [bulk]⟩
 .cases e
  obtain ⟨l,vs,r1,r2,r3,r4,r5,r6,r7⟩:=rows_read (enc:=enc) (a:=a) hk hpos hc (he n (by omega)) elems 0 (fun i hi=>by rw [Nat.zero_add]; exact hel i (by omega))
  refine ⟨(l,true),⟨r2,by simp⟩,?_,by simp [bulk]; omega⟩
  have hll:l.length=len:=by omega
  have hvs:((l.map g).flatMap AV.cells).length=vs.length:=r3.1
  refine rels_one ?_
  simp only [if_true]
  rw [show len=(l.map g).length by simp [hll]]
  refine .sl k (l.map g) .any a cap vs (by intro e; cases e) (by simp; omega) hpos (fun x hx=>?_) (fun c hc'=>?_) hvs r3.2 (by simpa using r5) (fun hne=>?_) trivial
  .obtain ⟨y,_,rfl⟩:=List.mem_map.1 hx; exact hc y
  .obtain ⟨x,hx,hx'⟩:=List.mem_flatMap.1 hc'
   obtain ⟨y,_,rfl⟩:=List.mem_map.1 hx
   exact h1 y c hx'
  .rcases r6 (by intro e; subst e; simp at r1; simp [r1] at hne) with h | h
   .exact h
   .exact absurd rfl h
theorem Rd.struct2 {α β:Type} {g:α -> AV} {sz:α -> Nat} {ok:α -> Prop} {g':β -> AV} {sz':β -> Nat} {ok':β -> Prop} {f0 f1:Field} {c0 c1:Nat} (ht:P.underlying t=some (.struct #[f0,f1])) (ho:f0.offset=0) (ho1:f1.offset=c0)
  (hc0:P.cellsOf f0.type=c0) (hc1:P.cellsOf f1.type=c1) (hct:P.cellsOf t=c0+c1) (h0:∀ n,n < fuel -> Rd P W n f0.type g sz ok) (h1:∀ n,n < fuel -> Rd P W n f1.type g' sz' ok') :
  Rd P W fuel t (fun a:α × β=>.agg ((g a.1).cells++(g' a.2).cells)) (fun a=>sz a.1+sz' a.2+1) (fun a=>ok a.1 /\ ok' a.2):=by
 intro H enc cs d ps h
 obtain ⟨xs,n,rfl,e,hlen,hxl,hx⟩:=DataW.trod_struct ht h
 cases e
 have e0:=hx 0 f0 rfl
 have e1:=hx 1 f1 rfl
 rw [ho,hc0,List.drop_zero] at e0
 rw [ho1,hc1,List.take_of_length_le (by simp; omega)] at e1
 match xs,hxl,e0,e1 with
 | [(d0,p0),(d1,p1)],_,e0,e1 =>
  obtain ⟨a,a1,a2,a3⟩:=h0 n (by omega) H enc _ d0 p0 e0
  obtain ⟨b,b1,b2,b3⟩:=h1 n (by omega) H enc _ d1 p1 e1
  refine ⟨(a,b),⟨a1,b1⟩,?_,by simp [bulk,bulkL]; omega⟩
  have:=a2.append b2
  rw [List.take_append_drop] at this
  exact this
end
theorem rel_of_cells {W:World} {v:AV} {x:Value} (h:AVRels (I0 W) [] v.cells x.cells.toList) (h1:∀ c ∈ v.cells,c.one=true) (ha:(∃ cs,v=.agg cs) -> ∃ cs,x=.agg cs) (hn:(∃ cs,x=.agg cs) -> ∃ cs,v=.agg cs):AVRel (I0 W) [] v x:=by
 cases v with
 | agg cs =>
  obtain ⟨vs,rfl⟩:=ha ⟨cs,rfl⟩
  have:AVRels (I0 W) [] cs vs.toList:=h
  have e:Value.agg vs=.agg vs.toList.toArray:=by simp
  rw [e]
  exact .agg cs vs.toList this.1 h1 this.2
 | _ =>
  have hx:∀ cs,x ≠ .agg cs:=fun cs e=>by
   obtain ⟨cs',e'⟩:=hn ⟨cs,e⟩
   cases e'
  have:x.cells.toList=[x]:=by
   cases x <;> first | rfl | exact absurd rfl (hx _)
  rw [this] at h
  simpa [AVRels.cons_iff,AVRels.nil_iff] using h
end Go.Apx
end
section
namespace Go.Apx
open Go.ChangeShapes Go.WideShapes Go.ChangeAt Go.RowKit
section
variable {P:Program} {W:World} {fuel:Nat} {t e:TypeId}
theorem Rd.map {α β:Type} {g:α -> AV} {sz:α -> Nat} {ok:α -> Prop} {g':β -> AV} {sz':β -> Nat} {ok':β -> Prop} (φ:α -> β) (h:Rd P W fuel t g sz ok) (hc:∀ a,(g' (φ a)).cells=(g a).cells) (hs:∀ a,sz' (φ a) <= sz a) (ho:∀ a,ok a -> ok' (φ a)) :
  Rd P W fuel t g' sz' ok':=by
 intro H enc cs d ps hd
 obtain ⟨a,a1,a2,a3⟩:=h H enc cs d ps hd
 exact ⟨φ a,ho a a1,by rw [hc]; exact a2,Nat.le_trans (hs a) a3⟩
theorem arg_agg {α H:Type} {enc:TypeId × Value -> H} {g:α -> AV} {sz:α -> Nat} {ok:α -> Prop} {v:Value} {d:DataW H} {ps:List MemPlace} (rd:∀ fuel,Rd P W fuel t g sz ok) (h:DataW.Trod enc P W 0 (fun _=>true) true t v d ps)
  (h1:∀ a,∀ c ∈ (g a).cells,c.one=true) (hg:∀ a,∃ cs,g a=.agg cs) (hv:∃ cs,v=.agg cs):∃ a,ok a /\ AVRel (I0 W) [] (g a) v /\ sz a <= bulk d:=by
 obtain ⟨fuel,hf⟩:=h
 obtain ⟨a,a1,a2,a3⟩:=rd fuel H enc _ d ps hf
 exact ⟨a,a1,rel_of_cells a2 (h1 a) (fun _=>hv) (fun _=>hg a),a3⟩
theorem arg_one {α H:Type} {enc:TypeId × Value -> H} {g:α -> AV} {sz:α -> Nat} {ok:α -> Prop} {v:Value} {d:DataW H} {ps:List MemPlace} (rd:∀ fuel,Rd P W fuel t g sz ok) (h:DataW.Trod enc P W 0 (fun _=>true) true t v d ps)
  (h1:∀ a,∀ c ∈ (g a).cells,c.one=true) (hg:∀ a cs,g a ≠ .agg cs) (hv:∀ cs,v ≠ .agg cs):∃ a,ok a /\ AVRel (I0 W) [] (g a) v /\ sz a <= bulk d:=by
 obtain ⟨fuel,hf⟩:=h
 obtain ⟨a,a1,a2,a3⟩:=rd fuel H enc _ d ps hf
 exact ⟨a,a1,rel_of_cells a2 (h1 a) (fun ⟨cs,e⟩=>absurd e (hg a cs)) (fun ⟨cs,e⟩=>absurd e (hv cs)),a3⟩
end
theorem agg_of_okWide {P:Program} {W:World} {r:Reach} {base:Nat} {t:TypeId} {v:Value} {fs:Array Field} (ht:P.underlying t=some (.struct fs)) (h:Value.okWide P W r base t v):∃ cs,v=.agg cs:=by
 unfold Value.okWide at h
 rw [ht] at h
 obtain ⟨cs,h,_⟩:=h
 exact ⟨cs,h⟩
theorem string_of_okWide {P:Program} {W:World} {r:Reach} {base:Nat} {t:TypeId} {v:Value} (ht:P.underlying t=some .string) (h:Value.okWide P W r base t v):∀ cs,v ≠ .agg cs:=by
 rintro cs rfl
 unfold Value.okWide at h
 rw [ht] at h
 simp [Cell.okWide,Cell.ok,ht] at h
theorem all_stays {H:Type} {enc:TypeId × Value -> H} {P:Program} (hl:laidOutB P=true) {W W':World} {sp:Nat -> Bool}:∀ {ts:List TypeId} {vs:List Value} {ds:List (DataW H)} {ps:List MemPlace},(∀ t ∈ ts,P.readableRec t=true /\ t < P.types.size) ->
  DataW.TrodAll enc P W 0 (fun _=>true) true ts vs ds ps -> (∀ p ∈ ps,W.sameAt W' p) -> (∀ p ∈ ps,sp p.block=true) -> DataW.TrodAll enc P W' 0 sp true ts vs ds ps
 | [],_,_,_,_,h,_,_=>by
  obtain ⟨rfl,rfl,rfl⟩:=trodAll_nil h
  exact trodAll_mk0
 | t :: ts,_,_,_,hr,h,h1,h2=>by
  obtain ⟨v,vs1,d,ds1,a,b,rfl,rfl,rfl,g1,g2⟩:=trodAll_cons h
  have ht:=hr t (by simp)
  exact ⟨a,b,WideElems.Trod_stays hl ht.1 ht.2 g1 (fun p hp=>h1 p (by simp [hp])) (fun p hp=>h2 p (by simp [hp])),all_stays hl (fun t' h'=>hr t' (by simp [h'])) g2 (fun p hp=>h1 p (by simp [hp])) (fun p hp=>h2 p (by simp [hp])),rfl⟩
theorem law_post {H:Type} {enc:TypeId × Value -> H} {P:Program} {f:Func} {s:ChangeSpec} {apart fresh handsOn again:Bool} {W W':World} {args:Array Value} {ds gs:List (DataW H)} {before:List MemPlace} {tb:TypeId}
  (hl:laidOutB P=true) (hr:∀ t ∈ f.params.toList,P.readableRec t=true /\ t < P.types.size) (hv:s.vars=[]) (hres:f.resultTypes=#[tb]) (hb:P.underlying tb=some .bool) (hs:s.fn H (ds++gs)={ results:=[.lit (.bool true)],args:=ds })
  (hW:DataW.Whole enc P f.params.toList s.vars apart W args.toList ds gs before) (hB:Below W.heap.size W W') (hfz:∀ a:Addr,a.block < W.heap.size -> W'.frozen? a=W.frozen? a) :
  s.post enc P f apart fresh handsOn again W args (.bool true) W':=by
 have hW':=hW
 obtain ⟨p,q,hA,hV,rfl,hz,hn⟩:=hW
 rw [hv] at hV
 obtain ⟨rfl,rfl⟩:=trodVars_none hV
 simp only [List.append_nil] at hW' hs hz hn
 have hold:∀ x ∈ p,x.block < W.heap.size:=fun x hx=>hW'.lt x hx
 have hargs:∀ sp:Nat -> Bool,(∀ x ∈ p,sp x.block=true) -> DataW.TrodAll enc P W' 0 sp true f.params.toList args.toList ds p:=fun sp hsp=>all_stays hl hr hA (fun x hx=>hB.same (hold x hx)) hsp
 have hrt:∀ (b:Nat) (sp:Nat -> Bool) (hd:Bool),DataW.TrodAll enc P W' b sp hd f.resultTypes.toList (Value.resultList f.resultTypes.size (.bool true)) [.lit (.bool true)] []:=by
  intro b sp hd
  rw [hres]
  exact trodAll_cons_mk (shut_bool hb true) trodAll_mk0
 have hok:=ok_one (P:=P) (W':=W') (f:=f) (v:=.bool true) hres rfl (okWide_bool_mk hb true)
 have e0:s.fn H (ds++([]:List (DataW H)))={ results:=[.lit (.bool true)],args:=ds }:=by simpa using hs
 have hv0:∀ (w:World) (sp:Nat -> Bool),DataW.TrodVars enc P w sp s.vars ([]:List (DataW H)) []:=by intro w sp; rw [hv]; exact rfl
 refine ⟨ds,[],p,[],p,[],hW',?_,?_,?_,World.keptBut_mono (fun x hx=>⟨hx,.inr (.inl hx)⟩) (hB.frame (· ∈ p)),fun _=>⟨hok,[.lit (.bool true)]++ds,[],[]++p,⟨[]++p,[],trodAll_append (hargs _ (fun _ _=>rfl)) (hrt 0 _ _),hv0 _ _,by simp,?_,by simpa using hn⟩,fun x hx _=>by simpa using hx⟩⟩
 .rw [e0]; exact hrt _ _ _
 .rw [e0]; exact hargs _ (fun x hx=>by simpa using hold x hx)
 .rw [e0]; exact hv0 _ _
 .intro b off hp
  have hp':MemPlace.cell b off ∈ p:=by simpa using hp
  rw [hfz _ (hold _ hp')]
  exact hz b off hp'
theorem law_calls {H:Type} {enc:TypeId × Value -> H} {P:Program} {G:Globs} {fid:FuncId} {f:Func} {s:ChangeSpec} {apart fresh handsOn again:Bool} {W:World} {args:Array Value} {ds gs:List (DataW H)} {before:List MemPlace} {tb:TypeId} {avs:List AV}
  (hl:laidOutB P=true) (hr:∀ t ∈ f.params.toList,P.readableRec t=true /\ t < P.types.size) (hv:s.vars=[]) (hres:f.resultTypes=#[tb]) (hb:P.underlying tb=some .bool) (hs:s.fn H (ds++gs)={ results:=[.lit (.bool true)],args:=ds })
  (hW:DataW.Whole enc P f.params.toList s.vars apart W args.toList ds gs before) (hG:∀ g v,G g=some v -> ∀ m',AVRel (I0 W) m' v (.pointer (some ⟨g,0,none⟩))) (hargs:AVRels (I0 W) [] avs args.toList)
  (hc:AEx P G fid avs [] (.ret (.sc (.bool true))) []) :
  Calls P fid args W fun e W'=>∃ v,e=.returned v /\ s.post enc P f apart fresh handsOn again W args v W':=by
 have:=hc.2 (I0 W) [] W args.toList (inv0 hG) hargs
 rw [show args.toList.toArray=args by simp] at this
 refine this.mono fun e W' ⟨r,h',I',m',⟨hr1,hh⟩,he,hi,ht⟩=>?_
 subst hr1
 have hev:e=.returned (.bool true):=by
  cases e with
  | returned x =>
   have he':AVRel I' m' (.sc (.bool true)) x:=he
   cases he'
   rfl
  | panicked ch =>
   obtain ⟨_,_,hx⟩:=he
  | _=>exact absurd he (by simp [EndRel])
 exact ⟨_,hev,law_post hl hr hv hres hb hs hW (below_of_trans ht) (frozen_of_trans ht)⟩
end Go.Apx
end
section
namespace Go.Apx
def flatV:AV -> Bool
 | .sc _=>true
 | .tup vs=>vs.all fun v=>match v with | .sc _=>true | _=>false
 | _=>false
theorem flatV_rel {I I':Imm} {m m':aQ} {v:AV} {x:Value} (hv:flatV v=true) (h:AVRel I m v x):AVRel I' m' v x:=by
 cases h with
 | sc x=>exact .sc x
 | tup cs vs hl hr =>
  refine .tup cs vs hl fun i a y ha hy=>?_
  have h1:=hr i a y ha hy
  simp only [flatV,List.all_eq_true] at hv
  have:=hv a (List.mem_of_getElem? ha)
  cases a <;> simp at this
  cases h1
  exact .sc _
 | _=>cases hv
def Lends (h:AHeap) (us vs:List AV):Prop:=∀ (G:Globs) (I:Imm) (m:aQ) (w:World) (xs:List Value),Inv G I m h w -> AVRels I m us xs -> AVRels (I0 w) [] vs xs
theorem lend {P:Program} {G:Globs} {f:FuncId} {us vs:List AV} {h:AHeap} {v:AV} (hc:AEx P G f vs [] (.ret v) []) (hv:flatV v=true) (hl:Lends h us vs):AEx P G f us h (.ret v) h:=by
 refine ⟨hc.1,fun I m w xs hi ha=>?_⟩
 have hle:ImmLe I (I0 w):=fun b o y hy=>hi.imm b o y hy
 have hg:∀ g u,G g=some u -> ∀ m',AVRel (I0 w) m' u (.pointer (some ⟨g,0,none⟩)):=fun g u h m'=>(hi.glob g u h m').mono hle (.refl m')
 refine (hc.2 (I0 w) [] w xs (inv0 hg) (hl G I m w xs hi ha)).mono fun e w' hx=>?_
 obtain ⟨r,h',I',m',⟨rfl,rfl⟩,he,hi',ht⟩:=hx
 have hno:∀ (b o:Nat) (i:Nat) (l:Loc),([]:aQ)[i]?=some l -> ¬ l.owns b o:=fun b o i l h=>by simp at h
 have hcell:∀ b p,b < w.heap.size -> w'.cell? ⟨b,p,none⟩=w.cell? ⟨b,p,none⟩:=fun b p hb=>ht.cell b p hb (hno b p)
 have hblk:∀ b,b < w.heap.size -> w'.heap[b]?=w.heap[b]?:=fun b hb=>ht.blk b hb fun i l o h=>hno b o i l h
 refine ⟨.ret v,h,I,m,⟨rfl,rfl⟩,?_,?_,?_⟩
 .cases e with
  | returned x =>
   have he':AVRel I' m' v x:=he
   exact flatV_rel hv he'
  | panicked ch=>exact he.elim
  | _=>exact he.elim
 .refine hi.frame (.refl I) ht.size hcell ht.froz hblk (fun b o _ h=>h) fun b o x hx=>?_
  rw [hcell b o (hi.imm_lt hx)]
  exact hi.imm b o x hx
 .exact
     {os:=ht.os,tape:=ht.tape,output:=ht.output,size:=ht.size,cell:=fun b o hb _=>hcell b o hb,froz:=ht.froz,blk:=fun b hb _=>hblk b hb,imm:=.refl I,own:=fun i l b o h1 h2 _=>⟨i,l,h1,h2⟩,immNew:=fun b o _ h=>.inl h,loc:=fun i l _ h=>⟨l,h,.refl l⟩ }
theorem Lends.nil {h:AHeap}:Lends h [] []:=fun G I m w xs _ ha=>by
 obtain rfl:=AVRels.nil_iff.1 ha
 exact .nil
theorem Lends.cons {h:AHeap} {u v:AV} {us vs:List AV} (h1:∀ (G:Globs) (I:Imm) (m:aQ) (w:World) (x:Value),Inv G I m h w -> AVRel I m u x -> AVRel (I0 w) [] v x) (h2:Lends h us vs):Lends h (u :: us) (v :: vs):=fun G I m w xs hi ha=>by
 obtain ⟨y,ys,rfl,g1,g2⟩:=AVRels.cons_iff.1 ha
 exact .cons (h1 G I m w y hi g1) (h2 G I m w ys hi g2)
theorem lend_same {h:AHeap} {v:AV} (hv:v.inb 0=true):∀ (G:Globs) (I:Imm) (m:aQ) (w:World) (x:Value),Inv G I m h w -> AVRel I m v x -> AVRel (I0 w) [] v x:=fun G I m w x hi hx =>
 (hx.mono (fun b o y hy=>hi.imm b o y hy) (.refl m)).cut (n:=0) (Nat.zero_le _) (fun j hj=>absurd hj (Nat.not_lt_zero _)) hv
end Go.Apx
end
section
namespace Go.Apx
section
variable {G:Globs} {N S k:Nat} {D:Ro} {I:Imm} {m:aQ} {h:AHeap} {w:World} {env:Env} {a:Act}
theorem Inv.ghost (hv:Inv G I m h w):Inv G I (m++[.cells 0 0 0 0]) (h++[.cells 0 []]) w:=by
 have hml:LocsLe m (m++[.cells 0 0 0 0]):=.append m _
 have hget:∀ (i:Nat) (l:Loc),(m++[.cells 0 0 0 0])[i]?=some l -> (i < m.length /\ m[i]?=some l) \/ (i=m.length /\ l=.cells 0 0 0 0):=by
  intro i l hi
  rcases Nat.lt_or_ge i m.length with h1 | h1
  .rw [List.getElem?_append_left h1] at hi; exact .inl ⟨h1,hi⟩
  .rw [List.getElem?_append_right h1] at hi
   cases hq:i - m.length with
   | zero=>rw [hq] at hi; simp at hi; exact .inr ⟨by omega,hi.symm⟩
   | succ j=>rw [hq] at hi; simp at hi
 have hno:∀ b o,¬ (Loc.cells 0 0 0 0).owns b o:=fun b o hp=>by have:=hp.2; omega
 exact
  {len:=by simp [hv.len]
   obj:=fun i o l ho hl=>by
    rcases hget i l hl with ⟨h1,h2⟩ | ⟨rfl,rfl⟩
    .rw [List.getElem?_append_left (by rw [<- hv.len]; exact h1)] at ho
     exact (hv.obj i o l ho h2).mono (.refl I) hml (fun b p _=>⟨rfl,rfl⟩) (fun b _=>rfl)
    .rw [hv.len] at ho
     simp at ho
     subst ho
     exact ⟨0,0,0,[],rfl,by simp,.nil,by simp,by simp,fun i hi=>by omega⟩
   imm:=hv.imm
   disj:=fun i j l l' b o h1 h2 h3 h4=>by
    rcases hget i l h1 with ⟨_,h1⟩ | ⟨_,rfl⟩
    .rcases hget j l' h2 with ⟨_,h2⟩ | ⟨_,rfl⟩
     .exact hv.disj i j l l' b o h1 h2 h3 h4
     .exact (hno _ _ h4).elim
    .exact (hno _ _ h3).elim
   immd:=fun i l b o h1 h2=>by
    rcases hget i l h1 with ⟨_,h1⟩ | ⟨_,rfl⟩
    .exact hv.immd i l b o h1 h2
    .exact (hno _ _ h2).elim
   lt:=fun i l b o h1 h2=>by
    rcases hget i l h1 with ⟨_,h1⟩ | ⟨_,rfl⟩
    .exact hv.lt i l b o h1 h2
    .exact (hno _ _ h2).elim
   glob:=hv.glob }
theorem Trans.ghost (k:Nat) (I:Imm) (m:aQ) (w:World):Trans k I m w I (m++[.cells 0 0 0 0]) w :=
 {os:=rfl,tape:=rfl,output:=rfl,size:=Nat.le_refl _,cell:=fun _ _ _ _=>rfl,froz:=fun _ _=>rfl,blk:=fun _ _ _=>rfl,imm:=.refl I,
  own:=fun i l b o h1 h2 _=>by
   rcases Nat.lt_or_ge i m.length with h3 | h3
   .rw [List.getElem?_append_left h3] at h1; exact ⟨i,l,h1,h2⟩
   .rw [List.getElem?_append_right h3] at h1
    cases hq:i - m.length with
    | zero=>rw [hq] at h1; simp at h1; subst h1; have:=h2.2; omega
    | succ j=>rw [hq] at h1; simp at h1
  immNew:=fun _ _ _ h=>.inl h,loc:=fun i l _ h=>LocsLe.append m _ i l h }
theorem Rel.ghost (hr:Rel G N D S I m env h a w):Rel G N D S I (m++[.cells 0 0 0 0]) env (h++[.cells 0 []]) a w :=
 ⟨hr.inv.ghost,hr.env.trans (Trans.ghost 0 I m w) (.append m _),hr.size,hr.defers.mono (.refl I) (.append m _),hr.ro.mono (.append m _)⟩
end
theorem AWp.ghost {C:Cx} {c:ACode} {Q:APost} {env:Env} {h:AHeap} (hw:AWp C c Q env (h++[.cells 0 []])):AWp C c Q env h:=by
 intro c hc rc I0 m0 w0 I m a w ht hk hr
 exact hw c hc rc I0 m0 w0 I (m++[.cells 0 0 0 0]) a w (ht.trans (Trans.ghost _ I m w)) (by simp; omega) hr.ghost
theorem AWp.ghosts {C:Cx} {c:ACode} {Q:APost} {env:Env}:∀ (n:Nat) {h:AHeap},AWp C c Q env (h++List.replicate n (.cells 0 [])) -> AWp C c Q env h
 | 0,h,hw=>by simpa using hw
 | n+1,h,hw=>.ghost (AWp.ghosts n (by rw [List.append_assoc]; exact hw))
section
variable {P:Program} {G:Globs} {N S k:Nat} {D:Ro} {o:Oper} {a:Act} {I:Imm} {m:aQ} {w:World} {env:Env} {h:AHeap} {ann:List Nat}
theorem snd_mkInto {t e:TypeId} {x y:Operand} {x' y':Opd} {ty:Ty} {inf:TypeInfo} {z:AV} {q g:Nat} {l c:Int} (ho:o.op=.makeSlice t x y) (ht:P.underlying t=some (.slice e))
  (hty:bC P e=some ty) (hz:az P e=some z) (hinf:P.info? e=some inf) (hb:Val.small inf.bytes=true) (hzs:z.cells.length=ty.size) (hpos:0 < ty.size)
  (hx:aF x=some x') (hy:aF y=some y')
  (hr:Rel G N D S I m env h a w) (hl:aD G env x'=some (.sc (.int .i64 l))) (hc:aD G env y'=some (.sc (.int .i64 c))) (hb3:0 <= l /\ l <= c /\ c <= maxLenA) (hq:h[q]?=some (.cells g [])) :
  Does P G k o a I m w (.rf q (g+1) 0 l.toNat (if l=c then .full else .any)) (h.set q (.cells (g+1) (List.replicate c.toNat z.cells).flatten)):=by
 obtain ⟨inf',zv,hinf',hzv,hok,hzz,hzr⟩:=bH (w:=w) hz
 obtain ⟨inf2,hinf2,hsz,_⟩:=aV (w:=w) hty
 rw [hinf] at hinf' hinf2
 simp at hinf' hinf2; subst hinf'; subst hinf2
 obtain ⟨h0,hlc,hcm⟩:=hb3
 have e1:=ae (aG hx hr hl)
 have e2:=ae (aG hy hr hc)
 have hbytes:inf.bytes <= 4096:=by simpa [Val.small] using hb
 have hcm':c <= 4294967296:=hcm
 have hwl:IntKind.i64.wrap l=l:=IntWalk.i64_in _ (by omega)
 have hwc:IntKind.i64.wrap c=c:=IntWalk.i64_in _ (by omega)
 have hlim:∀ n:Int,0 <= n -> n <= 4294967296 -> ¬ ((inf.bytes:Int) * n > 2 ^ 48):=by
  intro n h1 h2
  have:(inf.bytes:Int) * n <= 4096 * 4294967296:=Int.mul_le_mul (by omega) h2 h1 (by omega)
  have h3:(4096 * 4294967296:Int) <= 2 ^ 48:=by decide
  omega
 have hqm:q < m.length:=by rw [hr.inv.len]; exact (List.getElem?_eq_some_iff.1 hq).1
 obtain ⟨b0,lo0,n0,vs0,hl0,hle0,_⟩:=hr.inv.obj q _ m[q] hq (by simp [hqm])
 have hm0:m[q]?=some (.cells g b0 lo0 n0):=by rw [<- hl0]; simp [hqm]
 have hzrel:∀ m',AVRels I m' z.cells zv.cells.toList:=fun m'=>by rw [hzz]; exact bi hok
 have hzone:∀ c ∈ z.cells,c.one=true:=by rw [hzz]; exact ofValue_one hok
 have hzsize:zv.cells.size=ty.size:=by have:=(hzrel m).1; simp at this; omega
 generalize hrw:((Array.range (c.toNat * ty.size)).map fun i=>zv.cells[i % zv.cells.size]!)=row
 have hzeros:row.toList=(List.replicate c.toNat zv.cells.toList).flatten:=by
  rw [<- hrw,<- hzsize]; exact zeros_eq zv.cells _ (by omega)
 have hrow:∀ m',AVRels I m' (List.replicate c.toNat z.cells).flatten row.toList:=fun m'=>by
  rw [hzeros]; exact replicate_rel' (hzrel m') _
 have hrs:row.size=c.toNat * ty.size:=by rw [<- hrw]; simp
 obtain ⟨i1,i2,i3⟩:=hr.inv.allocSet (ob:=.cells row e) (l':=.cells (g+1) w.heap.size 0 (c.toNat * ty.size)) (o':=.cells (g+1) (List.replicate c.toNat z.cells).flatten) hm0 (.cells (by omega)) (fun b o hp=>hp.1) (by
  refine ⟨w.heap.size,0,_,row.toList,rfl,?_,hrow _,?_,fun i x hx=>?_,fun i hi=>?_⟩
  .rw [(hrow m).1]; simp [hrs]
  .intro y hy
   obtain ⟨l',hl',hyl⟩:=List.mem_flatten.1 hy
   rw [(List.mem_replicate.1 hl').2] at hyl
   exact hzone y hyl
  .have:=World.cell?_alloc_new w row e i
   rw [Nat.zero_add,this]; simpa using hx
  .have h1:=World.cell?_alloc_new w row e i
   have h2:=World.frozen?_alloc_new w row e i
   rw [Nat.zero_add,h1,h2]
   refine ⟨?_,rfl⟩
   rw [Array.getElem?_eq_getElem (by rw [hrs]; exact hi)]; rfl)
 refine ⟨.slice (some ⟨w.heap.size,0,none⟩) l.toNat c.toNat,_,_,_,.inl ?_,?_,i1,i2 k,i3⟩
 .have c1:¬ c < 0:=by omega
  have c2:¬ l < 0:=by omega
  have c3:¬ l > c:=by omega
  have c4:=hlim c (by omega) hcm'
  have hr0:Array.range 0=#[]:=rfl
  simp only [execOp,ho,e1,e2,Instr.makeSlice,Sem.run_bind,aH ht,Result.andThen_ok,asInt,asIntOf,Sem.run_pure,bb hinf,hwl,hwc,c1,c2,c3,c4]
  simp only [decide_false,Bool.or_false,Bool.false_eq_true,if_false,Sem.run_bind,run_askRoom,Result.andThen_ok,aX hinf,hsz]
  by_cases hn:c.toNat * ty.size=0
  .have:row=#[]:=by apply Array.eq_empty_of_size_eq_zero; omega
   subst this
   simp [newRow,hn,hr0,-Ty.size]
  .rw [<- hrw]
   simp [newRow,hn,hzr,-Ty.size]
 .refine .rf q (g+1) 0 l.toNat _ ⟨w.heap.size,0,none⟩ c.toNat (by simpa using hqm) (by omega) (by split <;> simp_all [RCapRel]) ?_
  intro _ g' b lo n hm
  simp [hqm] at hm
  obtain ⟨rfl,rfl,rfl,rfl⟩:=hm
  exact ⟨Nat.le_refl _,fun _=>rfl⟩
end
def mkG (C:Cx) (it:AItem) (env:Env):Option (Nat × RCap × List AV) :=
 match it.op,it.guard with
 | .mkSlice _ _ z len cap,none=>match aD C.G env len,aD C.G env cap with
  | some (.sc (.int .i64 l)),some (.sc (.int .i64 c))=>if 0 <= l /\ l <= c /\ c <= maxLenA then some (l.toNat,if l=c then .full else .any,(List.replicate c.toNat z).flatten) else none
  | _,_=>none
 | _,_=>none
def isMk:AOp -> Bool
 | .mkSlice _ _ _ _ _=>true
 | _=>false
def drawG (C:Cx):List (Bool × AItem) -> APost -> Env -> AHeap -> Prop
 | [],Q,env,h=>Q .normal env h
 | (b,it) :: r,Q,env,h=>match bW C it env with
  | some (d,v)=>drawG C r Q (aY env d v) h
  | none=>if isMk it.op=true then ∃ q n rc cs,mkG C it env=some (n,rc,cs) /\ h[q]?=some (.cells 0 []) /\ drawG C r Q (aY env it.dst (.rf q 1 0 n rc)) (h.set q (.cells 1 cs))
   else b=false /\ bG C it env h (fun env h=>drawG C r Q env h) (fun e _ h=>∀ env,Q e env h)
theorem mkG_congr {C:Cx} {it:AItem} {env env':Env} (ha:Agree it.reads env env'):mkG C it env=mkG C it env':=by
 have ho:=ha.opds (G:=C.G)
 unfold mkG
 cases hop:it.op <;> cases hg:it.guard <;> try rfl
 rename_i k b z len cap
 rw [hop] at ho
 simp only [ho len (by simp [AOp.opds]),ho cap (by simp [AOp.opds])]
theorem drawG_up {C:Cx} {Q:APost}:∀ {pl:List (Bool × AItem)} {env:Env} {h:AHeap},drawG C pl Q env h -> drawG C pl (upEq Q) env h
 | [],env,h,hw=>⟨env,.refl env,hw⟩
 | (b,it) :: r,env,h,hw=>by
  simp only [drawG] at hw ⊢
  split at hw
  .exact drawG_up hw
  .split at hw
   .rename_i hk
    rw [if_pos hk]
    obtain ⟨q,n,rc,cs,h1,h2,h3⟩:=hw
    exact ⟨q,n,rc,cs,h1,h2,drawG_up h3⟩
   .rename_i hk
    rw [if_neg hk]
    exact ⟨hw.1,bq (fun e h he=>drawG_up he) (fun v e h he env=>he) hw.2⟩
theorem drawG_le {C:Cx} {Q:APost}:∀ {pl:List (Bool × AItem)} {env env':Env} {h:AHeap},EnvEq env env' -> drawG C pl (upEq Q) env h -> drawG C pl (upEq Q) env' h
 | [],env,env',h,he,⟨env0,h1,h2⟩=>⟨env0,h1.trans he,h2⟩
 | (b,it) :: r,env,env',h,he,hw=>by
  simp only [drawG] at hw ⊢
  rw [<- aa (C:=C) (it:=it) (fun t _=>he t)]
  split at hw
  .exact drawG_le (he.put _ _) hw
  .split at hw
   .rename_i hk
    rw [if_pos hk]
    obtain ⟨q,n,rc,cs,h1,h2,h3⟩:=hw
    exact ⟨q,n,rc,cs,by rw [<- mkG_congr (fun t _=>he t)]; exact h1,h2,drawG_le (he.put _ _) h3⟩
   .rename_i hk
    rw [if_neg hk]
    refine ⟨hw.1,bq ?_ (fun v e h he=>he) (itemWp_agree (env:=env') (env':=env) (fun t _=>(he t).symm) (fun v h hv=>hv) hw.2)⟩
    rintro e h1 ⟨d,v,rfl,_,hK⟩
    exact drawG_le (he.put d v) hK
theorem drawG_swap {C:Cx} {Q:APost} {x y:AItem} {b:Bool} {r:List (Bool × AItem)} {env:Env} {h:AHeap} (ha:x.apart y=true) (hmk:isMk x.op=true -> b=true \/ isMk y.op=true) (hw:drawG C ((true,x) :: (b,y) :: r) (upEq Q) env h) :
  drawG C ((b,y) :: (true,x) :: r) (upEq Q) env h:=by
 obtain ⟨h1,h2⟩:=AItem.apart_spec ha
 have hxw:∀ t,x.dst=some t -> t ∈ x.writes:=fun t h=>by simp [AItem.writes,h]
 have hyw:∀ t,y.dst=some t -> t ∈ y.writes:=fun t h=>by simp [AItem.writes,h]
 have hagy:∀ dx vx,(∀ t,dx=some t -> t ∈ x.writes) -> Agree y.reads env (aY env dx vx):=fun dx vx hwx t ht=>by
  rw [putD_get,if_neg]
  intro e
  exact (h1 t (hwx t e)).1 ht
 have hagx:∀ (d:Option Nat) (v:AV),(∀ t,d=some t -> t ∈ y.writes) -> Agree x.reads env (aY env d v):=fun d v hd t ht=>by
  rw [putD_get,if_neg]
  intro e
  exact h2 t (hd t e) ht
 have hcomm:∀ (dx:Option Nat) (vx:AV) (d:Option Nat) (v:AV),(∀ t,dx=some t -> t ∈ x.writes) -> (∀ t,d=some t -> t ∈ y.writes) -> EnvEq (aY (aY env dx vx) d v) (aY (aY env d v) dx vx):=fun dx vx d v hwx hd =>
  EnvEq.comm fun t e e'=>(h1 t (hwx t e)).2 (hd t e')
 rw [drawG] at hw
 split at hw
 .rename_i dx vx hqx
  have hwx:=bf hqx
  rw [drawG] at hw
  rw [<- aa (hagy dx vx hwx)] at hw
  rw [drawG]
  split at hw
  .rename_i dy vy hqy
   have hwy:=bf hqy
   rw [drawG,<- aa (hagx dy vy hwy),hqx]
   exact drawG_le (hcomm dx vx dy vy hwx hwy) hw
  .split at hw
   .rename_i hky
    rw [if_pos hky]
    obtain ⟨q,n,rc,cs,g1,g2,g3⟩:=hw
    rw [<- mkG_congr (hagy dx vx hwx)] at g1
    refine ⟨q,n,rc,cs,g1,g2,?_⟩
    rw [drawG,<- aa (hagx _ _ hyw),hqx]
    exact drawG_le (hcomm dx vx _ _ hwx hyw) g3
   .rename_i hky
    rw [if_neg hky]
    refine ⟨hw.1,bq ?_ (fun v e h he=>he) (itemWp_agree (hagy dx vx hwx) (fun v h hv=>hv) hw.2)⟩
    rintro e h1 ⟨d,v,rfl,hd,hK⟩
    rw [drawG,<- aa (hagx d v hd),hqx]
    exact drawG_le (hcomm dx vx d v hwx hd) hK
 .rename_i hqx
  split at hw
  .rename_i hkx
   obtain ⟨q,n,rc,cs,g1,g2,g3⟩:=hw
   rw [drawG] at g3
   rw [<- aa (hagy _ _ hxw)] at g3
   rw [drawG]
   split at g3
   .rename_i dy vy hqy
    have hwy:=bf hqy
    rw [drawG,<- aa (hagx dy vy hwy),hqx]
    simp only
    rw [if_pos hkx]
    refine ⟨q,n,rc,cs,by rw [<- mkG_congr (hagx dy vy hwy)]; exact g1,g2,?_⟩
    exact drawG_le (hcomm _ _ dy vy hxw hwy) g3
   .split at g3
    .rename_i hky
     rw [if_pos hky]
     obtain ⟨q',n',rc',cs',f1,f2,f3⟩:=g3
     rw [<- mkG_congr (hagy _ _ hxw)] at f1
     have hne:q ≠ q':=by
      rintro rfl
      have:=(List.getElem?_eq_some_iff.1 g2).1
      simp [this] at f2
     refine ⟨q',n',rc',cs',f1,by rw [List.getElem?_set,if_neg hne] at f2; exact f2,?_⟩
     rw [drawG,<- aa (hagx _ _ hyw),hqx]
     simp only
     rw [if_pos hkx]
     refine ⟨q,n,rc,cs,by rw [<- mkG_congr (hagx _ _ hyw)]; exact g1,by rw [List.getElem?_set,if_neg (Ne.symm hne)]; exact g2,?_⟩
     rw [List.set_comm _ _ (Ne.symm hne)]
     exact drawG_le (hcomm _ _ _ _ hxw hyw) f3
    .rename_i hky
     rcases hmk hkx with e | e
     .rw [e] at g3; cases g3.1
     .exact (hky e).elim
  .cases hw.1
theorem drawG_bubble {C:Cx} {Q:APost} {y:AItem} {b:Bool} {r:List (Bool × AItem)}:∀ {l:List (Bool × AItem)} {env:Env} {h:AHeap},(∀ p ∈ l,p.1=true /\ p.2.apart y=true /\ (isMk p.2.op=true -> b=true \/ isMk y.op=true)) ->
  drawG C (l++(b,y) :: r) (upEq Q) env h -> drawG C ((b,y) :: (l++r)) (upEq Q) env h
 | [],env,h,_,hw=>hw
 | (c,x) :: l,env,h,hl,hw=>by
  obtain ⟨rfl,h2,h3⟩:c=true /\ x.apart y=true /\ (isMk x.op=true -> b=true \/ isMk y.op=true):=hl (c,x) (by simp)
  rw [List.cons_append]
  refine drawG_swap h2 h3 ?_
  rw [List.cons_append,drawG] at hw
  rw [drawG]
  split at hw
  .exact drawG_bubble (fun p hp=>hl p (by simp [hp])) hw
  .split at hw
   .rename_i hk
    rw [if_pos hk]
    obtain ⟨q,n,rc,cs,h1,h2,h3⟩:=hw
    exact ⟨q,n,rc,cs,h1,h2,drawG_bubble (fun p hp=>hl p (by simp [hp])) h3⟩
   .cases hw.1
def mkTail (x:AItem):List (Bool × AItem) -> Bool
 | []=>true
 | (b,y) :: r=>if b=false /\ x.apart y=false then true else if b=false /\ isMk y.op=false then false else mkTail x r
def mkOk:List (Bool × AItem) -> Bool
 | []=>true
 | (b,x) :: r=>(!(b && isMk x.op) || mkTail x r) && mkOk r
def MkRel (l:List AItem) (an:List (List Nat)) (p q:Bool × Nat):Prop :=
 ∀ x y,l[p.2]?=some x -> l[q.2]?=some y -> p.1=true -> isMk x.op=true -> q.1=false -> isMk y.op=false -> p.2 ∈ anc an q.2 \/ ∃ k,k < l.length /\ p.2 ∈ anc an k /\ k ∈ anc an q.2
theorem mkTail_rel {l:List AItem} {an:List (List Nat)} {i:Nat} {x:AItem} (hx:l[i]?=some x):∀ {R:List (Bool × Nat)} {pl:List (Bool × AItem)},look l R=some pl -> Good l an R -> mkTail x pl=true ->
  (∀ p ∈ R,i ∈ anc an p.2 \/ ∃ jt,l[p.2]?=some jt /\ x.apart jt=true) -> ∀ p ∈ R,MkRel l an (true,i) p
 | [],pl,_,_,_,_=>by simp
 | (b,j) :: R,pl,hl,hg,hm,ha=>by
  simp only [look,mapM'] at hl
  split at hl
  .rename_i z zs h1 h2
   simp only [Option.some.injEq] at hl; subst hl
   simp only [Option.map_eq_some_iff] at h1
   obtain ⟨y,hy,rfl⟩:=h1
   obtain ⟨⟨it,g1,g2,g3⟩,g4⟩:=hg
   have hjl:=(List.getElem?_eq_some_iff.1 hy).1
   have hj:=ha (b,j) (by simp)
   simp only [mkTail] at hm
   split at hm
   .rename_i hc
    obtain ⟨rfl,hc⟩:=hc
    have hji:i ∈ anc an j:=by
     rcases hj with hj | ⟨jt,h3,h4⟩
     .exact hj
     .simp only at h3; rw [hy] at h3; cases h3; rw [hc] at h4; cases h4
    intro p hp
    rcases List.mem_cons.1 hp with rfl | hp
    .intro _ _ _ _ _ _ _ _; exact .inl hji
    .intro _ _ _ _ _ _ _ _
     rcases (g3 p hp).2 with h5 | ⟨h5,_⟩
     .exact .inr ⟨j,hjl,hji,h5⟩
     .cases h5
   .split at hm
    .cases hm
    .rename_i hc
     intro p hp
     rcases List.mem_cons.1 hp with rfl | hp
     .intro x' y' _ hy' _ _ hb hk
      simp only at hy' hb
      rw [hy] at hy'; cases hy'
      exact (hc ⟨hb,hk⟩).elim
     .exact mkTail_rel hx (show look l R=some zs from h2) g4 hm (fun p hp=>ha p (by simp [hp])) p hp
  .cases hl
theorem mkOk_rel {l:List AItem} {an:List (List Nat)}:∀ {R:List (Bool × Nat)} {pl:List (Bool × AItem)},look l R=some pl -> Good l an R -> mkOk pl=true -> R.Pairwise (MkRel l an)
 | [],pl,_,_,_=>.nil
 | (b,i) :: R,pl,hl,hg,hm=>by
  simp only [look,mapM'] at hl
  split at hl
  .rename_i z zs h1 h2
   simp only [Option.some.injEq] at hl; subst hl
   simp only [Option.map_eq_some_iff] at h1
   obtain ⟨x,hx,rfl⟩:=h1
   simp only [mkOk,Bool.and_eq_true,Bool.or_eq_true,Bool.not_eq_true',Bool.and_eq_false_iff] at hm
   obtain ⟨hm1,hm2⟩:=hm
   obtain ⟨⟨it,g1,g2,g3⟩,g4⟩:=hg
   rw [hx] at g1; cases g1
   refine .cons (fun p hp=>?_) (mkOk_rel (show look l R=some zs from h2) g4 hm2)
   intro x' y' hx' hy' hb hk
   simp only at hx' hb
   rw [hx] at hx'; cases hx'
   subst hb
   rcases hm1 with (h3 | h3) | h3
   .cases h3
   .rw [hk] at h3; cases h3
   .exact mkTail_rel hx (show look l R=some zs from h2) g4 h3 (fun p hp=>(g3 p hp).2.imp id fun h=>h.2) p hp x y' hx hy' rfl hk
  .cases hl
section
variable {C:Cx} {rc:Option Nat} {I0:Imm} {m0:aQ} {w0:World} {ops:Array Oper} {l:List AItem} {an:List (List Nat)} {Q:APost} {o:Oper} {it:AItem} {a:Act} {w:World} {env:Env} {h:AHeap} {I:Imm} {m:aQ} {K:Env -> AHeap -> Prop} {next:Act -> World -> Prop}
theorem ghostItem_sound {i q n:Nat} {rcp:RCap} {cs:List AV} (ho:ops[i]?=some o) (hc:bd C.P C.ann C.N ops o=some it) (hr:Rel C.G C.N (C.ro,rc) w0.heap.size I m env h a w) (ht:Trans C.k I0 m0 w0 I m w) (hk:C.k <= m.length)
  (hmk:mkG C it env=some (n,rcp,cs)) (hq:h[q]?=some (.cells 0 [])) (hK:K (aY env it.dst (.rf q 1 0 n rcp)) (h.set q (.cells 1 cs))) (hn:Goes C rc I0 m0 w0 K next):wpOpIn (fen rc) 0 C.P ops (CPost C rc I0 m0 w0 Q) i next a w:=by
 obtain ⟨hcomp,hdst,hlt,hguard,_⟩:=bn hc
 simp only [wpOpIn,ho]
 unfold mkG at hmk
 split at hmk
 .rename_i k b z len cap hop hg
  split at hmk
  .rename_i lv cv hl1 hc1
   split at hmk
   .rename_i hb3
    simp only [Option.some.injEq,Prod.mk.injEq] at hmk
    obtain ⟨rfl,rfl,rfl⟩:=hmk
    have hg1:o.guard=none:=by
     rcases hguard with ⟨hg1,_⟩ | ⟨j,want,d,_,_,hg2,_⟩
     .exact hg1
     .rw [hg] at hg2; cases hg2
    have:Region.wanted o (yielded ops a.tmps)=true:=by simp [Region.wanted,hg1]
    rw [if_pos this]
    rw [hop] at hcomp
    have hdoes:Does C.P C.G C.k o a I m w (.rf q 1 0 lv.toNat (if lv=cv then .full else .any)) (h.set q (.cells 1 (List.replicate cv.toNat z).flatten)):=by
     cases hoo:o.op with
     | makeSlice t x y =>
      simp only [aR,hoo] at hcomp
      split at hcomp
      .rename_i elem htt
       split at hcomp
       .split at hcomp
        .rename_i hcond
         obtain ⟨h1,h2,h3⟩:=hcond
         simp only [Option.some.injEq,AOp.mkSlice.injEq] at hcomp
         obtain ⟨rfl,rfl,rfl,rfl,rfl⟩:=hcomp
         exact snd_mkInto hoo htt (by assumption) (by assumption) (by assumption) h1 h2 h3 (by assumption) (by assumption) hr hl1 hc1 hb3 hq
        .cases hcomp
       .cases hcomp
      .cases hcomp
     | makeMap t r=>cases r <;> simp [aR,hoo] at hcomp
     | _=>simp only [aR,hoo,compBin] at hcomp <;> first | (simp at hcomp; done) | ((repeat' split at hcomp) <;> simp at hcomp; done)
    obtain ⟨x,w',I',m',hgv,hv,hi,htr,hm⟩:=hdoes
    refine wp_gives (not_defer hcomp fun f args e=>by cases e) hgv (hn _ _ I' m' _ _ hK ?_ (ht.trans htr) (htr.len hk))
    have:=put_rel (dst:=o.dst) hr hi htr hm hv hlt
    rw [hdst]
    exact this
   .cases hmk
  .cases hmk
 .cases hmk
theorem ready_iff {C:Cx} {ops:Array Oper} {l:List AItem} (hl:mapM' (bd C.P C.ann C.N ops) ops.toList=some l):∀ (R:List (Bool × Nat)) (listed:Array Bool),listed.size=ops.size -> (∀ i,i < ops.size -> (listed[i]?=some true ↔ i ∉ R.map (·.2))) ->
   ∀ i,i ∈ Region.ready .any ops listed ↔ i < ops.size /\ i ∈ R.map (·.2) /\ ∃ it,l[i]?=some it /\ ∀ x ∈ it.after,x < ops.size /\ x ∉ R.map (·.2):=by
  obtain ⟨hlen,hcomp⟩:=mapM'_some hl
  have hlen':ops.size=l.length:=by simpa using hlen
  have hitem:∀ i it,l[i]?=some it -> ∃ o,ops[i]?=some o /\ bd C.P C.ann C.N ops o=some it:=fun i it hi=>by
   obtain ⟨o,ho⟩:=get_of_lt hlen hi
   exact ⟨o,by rw [<- Array.getElem?_toList]; exact ho,hcomp i o it ho hi⟩
  intro R listed hsz hls i
  have hb:∀ x,listed.getD x false=true ↔ x < ops.size /\ x ∉ R.map (·.2):=by
   intro x
   rw [Array.getD_eq_getD_getElem?]
   by_cases hx:x < ops.size
   .rw [<- hls x hx,Array.getElem?_eq_getElem (by omega)]
    simp [hx]
   .rw [Array.getElem?_eq_none (by omega)]
    simp [hx]
  unfold Region.ready
  simp only [List.mem_filter,List.mem_range,Bool.and_eq_true,Bool.not_eq_true']
  constructor
  .rintro ⟨h1,h2,h3⟩
   have hi:i ∈ R.map (·.2):=by
    apply Classical.byContradiction
    intro hn
    have:=(hls i h1).2 hn
    rw [Array.getD_eq_getD_getElem?,this] at h2
    cases h2
   refine ⟨h1,hi,?_⟩
   obtain ⟨it,hit⟩:∃ it,l[i]?=some it:=⟨l[i]'(by omega),by simp [show i < l.length by omega]⟩
   obtain ⟨o,ho,hc⟩:=hitem i it hit
   obtain ⟨_,_,_,_,haft⟩:=bn hc
   refine ⟨it,hit,fun x hx=>?_⟩
   rw [haft,List.mem_map] at hx
   obtain ⟨e,he,rfl⟩:=hx
   rw [List.mem_filter] at he
   rw [ho] at h3
   simp only [Option.map_some,Option.getD_some,Array.all_eq_true_iff_forall_mem] at h3
   have:=h3 e (by simpa using he.1)
   rw [he.2] at this
   exact (hb e.on).1 (by simpa using this)
  .rintro ⟨h1,h2,it,hit,h3⟩
   obtain ⟨o,ho,hc⟩:=hitem i it hit
   obtain ⟨_,_,_,_,haft⟩:=bn hc
   refine ⟨h1,?_,?_⟩
   .rw [Array.getD_eq_getD_getElem?,Array.getElem?_eq_getElem (by omega)]
    have:=mt (hls i h1).1 (fun h=>h h2)
    rw [Array.getElem?_eq_getElem (by omega)] at this
    simpa using this
   .rw [ho]
    simp only [Option.map_some,Option.getD_some,Array.all_eq_true_iff_forall_mem]
    intro e he
    by_cases hbd:Region.binds .any e=true
    .have:=h3 e.on (by rw [haft]; exact List.mem_map_of_mem (List.mem_filter.2 ⟨by simpa using he,hbd⟩))
     simp [(hb e.on).2 this]
    .simp [hbd]
theorem anyG_sound (hl:mapM' (bd C.P C.ann C.N ops) ops.toList=some l) (han:ancOk l an=true):∀ (n:Nat) (R:List (Bool × Nat)) (pl:List (Bool × AItem)),R.length=n -> look l R=some pl -> Good l an R -> R.Pairwise (MkRel l an) ->
  ∀ (listed:Array Bool),listed.size=ops.size -> (∀ i,i < ops.size -> (listed[i]?=some true ↔ i ∉ R.map (·.2))) -> (∀ i,i < ops.size -> i ∉ R.map (·.2) -> ∀ x ∈ anc an i,x ∉ R.map (·.2)) ->
  ∀ (env:Env) (h:AHeap) (I:Imm) (m:aQ) (a:Act) (w:World),drawG C pl (upEq Q) env h -> Rel C.G C.N (C.ro,rc) w0.heap.size I m env h a w -> Trans C.k I0 m0 w0 I m w -> C.k <= m.length ->
  wpAnyIn (fen rc) 0 C.P .any ops (CPost C rc I0 m0 w0 (upEq Q)) n listed a w:=by
 obtain ⟨hlen,hcomp⟩:=mapM'_some hl
 have hlen':ops.size=l.length:=by simpa using hlen
 have hitem:∀ i it,l[i]?=some it -> ∃ o,ops[i]?=some o /\ bd C.P C.ann C.N ops o=some it:=fun i it hi=>by
  obtain ⟨o,ho⟩:=get_of_lt hlen hi
  exact ⟨o,by rw [<- Array.getElem?_toList]; exact ho,hcomp i o it ho hi⟩
 have hready:∀ (R:List (Bool × Nat)) (listed:Array Bool),listed.size=ops.size -> (∀ i,i < ops.size -> (listed[i]?=some true ↔ i ∉ R.map (·.2))) ->
   ∀ i,i ∈ Region.ready .any ops listed ↔ i < ops.size /\ i ∈ R.map (·.2) /\ ∃ it,l[i]?=some it /\ ∀ x ∈ it.after,x < ops.size /\ x ∉ R.map (·.2):=ready_iff hl
 intro n
 induction n with
 | zero =>
  intro R pl hRl hpl hgood hpw listed hsz hls hcl env h I m a w hw hr ht hk
  have:R=[]:=List.eq_nil_of_length_eq_zero hRl
  subst this
  simp [look,mapM'] at hpl; subst hpl
  refine ⟨?_,.normal,env,h,I,m,hw,trivial,hr,ht,hk⟩
  apply List.eq_nil_iff_forall_not_mem.2
  intro i hi
  have:=((hready [] listed hsz hls i).1 hi).2.1
  simp at this
 | succ n ih =>
  intro R pl hRl hpl hgood hpw listed hsz hls hcl env h I m a w hw hr ht hk
  refine ⟨fun hemp=>?_,fun i hi=>?_⟩
  .exfalso
   cases R with
   | nil=>simp at hRl
   | cons q R =>
    obtain ⟨b,i⟩:=q
    obtain ⟨⟨it,h1,h2,h3⟩,h4⟩:=hgood
    have:i ∈ Region.ready .any ops listed:=(hready _ listed hsz hls i).2 ⟨by rw [hlen']; exact (List.getElem?_eq_some_iff.1 h1).1,by simp,it,h1,fun x hx=>by
     obtain ⟨g1,g2,g3⟩:=h2 x hx
     exact ⟨by omega,by simp only [List.map_cons,List.mem_cons,not_or]; exact ⟨g2,g3⟩⟩⟩
    rw [hemp] at this
    cases this
  .obtain ⟨hi1,hi2,it,hit,haft⟩:=(hready R listed hsz hls i).1 hi
   obtain ⟨o,ho,hc⟩:=hitem i it hit
   rw [List.mem_map] at hi2
   obtain ⟨⟨b,i'⟩,hmem,e⟩:=hi2
   simp only at e; subst e
   obtain ⟨L1,L2,rfl⟩:=List.append_of_mem hmem
   have hnot:=hgood.nodup
   have hanc:∀ x ∈ anc an i',x ∉ (L1++(b,i') :: L2).map (·.2):=by
    intro x hx
    obtain ⟨it',hit',j,hj,hjx⟩:=anc_spec han (by omega) hx
    rw [hit] at hit'; cases hit'
    obtain ⟨g1,g2⟩:=haft j hj
    rcases hjx with rfl | hjx
    .exact g2
    .exact hcl j g1 g2 x hjx
   obtain ⟨p1,p2,hp1,hp2,rfl⟩:=mapM'_app hpl
   simp only [mapM',hit,Option.map_some] at hp2
   split at hp2
   .rename_i y p3 hy hp3
    simp only [Option.some.injEq] at hy hp2
    subst hy hp2
    have hov:∀ p ∈ p1,p.1=true /\ p.2.apart it=true /\ (isMk p.2.op=true -> b=true \/ isMk it.op=true):=by
     intro p hp
     obtain ⟨q,hq,hq1,hq2⟩:=look_mem (l:=l) hp1 p hp
     rcases hgood.front q hq with hin | ⟨h1,xt,jt,h2,h3,h4⟩
     .exact (hanc _ hin (by simp only [List.map_append,List.mem_append]; exact .inl (List.mem_map_of_mem hq))).elim
     .rw [hq2] at h2; cases h2
      rw [hit] at h3; cases h3
      refine ⟨hq1 ▸ h1,h4,fun hk2=>?_⟩
      cases hb:b with
      | true=>exact .inl rfl
      | false =>
       right
       cases hy2:isMk it.op with
       | true=>rfl
       | false =>
        exfalso
        have hrel:=(List.pairwise_append.1 hpw).2.2 q hq (b,i') (by simp)
        have hqR:q.2 ∈ (L1++(b,i') :: L2).map (·.2):=by simp only [List.map_append,List.mem_append]; exact .inl (List.mem_map_of_mem hq)
        rcases hrel p.2 it hq2 hit h1 hk2 hb hy2 with hin | ⟨k,k1,k2,k3⟩
        .exact hanc _ hin hqR
        .exact hcl k (by omega) (hanc _ k3) _ k2 hqR
    have hw':=drawG_bubble hov hw
    have hlook:look l (L1++L2)=some (p1++p3):=mapM'_app_of hp1 hp3
    have hrest:Goes C rc I0 m0 w0 (fun env h=>drawG C (p1++p3) (upEq Q) env h) (wpAnyIn (fen rc) 0 C.P .any ops (CPost C rc I0 m0 w0 (upEq Q)) n (listed.setIfInBounds i' true)):=by
     intro env' h' I' m' a' w' hK hr' ht' hk'
     refine ih (L1++L2) (p1++p3) (by simp at hRl ⊢; omega) hlook hgood.drop (hpw.sublist ((List.Sublist.refl L1).append (List.sublist_cons_self _ _))) _ (by simpa using hsz) ?_ ?_ env' h' I' m' a' w' hK hr' ht' hk'
     .intro j hj
      by_cases hji:i'=j
      .subst hji
       rw [Array.getElem?_setIfInBounds_self_of_lt (by omega)]
       simp only [true_iff]
       exact hnot
      .rw [Array.getElem?_setIfInBounds_ne hji,hls j hj]
       simp only [List.map_append,List.map_cons,List.mem_append,List.mem_cons,not_or]
       exact ⟨fun ⟨x1,_,x3⟩=>⟨x1,x3⟩,fun ⟨x1,x3⟩=>⟨x1,Ne.symm hji,x3⟩⟩
     .intro j hj hjn x hx hxm
      have hxm':x ∈ (L1++(b,i') :: L2).map (·.2):=by
       simp only [List.map_append,List.map_cons,List.mem_append,List.mem_cons] at hxm ⊢
       exact hxm.elim .inl (fun h=>.inr (.inr h))
      by_cases hji:j=i'
      .subst hji; exact hanc x hx hxm'
      .refine hcl j hj ?_ x hx hxm'
       simp only [List.map_append,List.map_cons,List.mem_append,List.mem_cons,not_or] at hjn ⊢
       exact ⟨hjn.1,hji,hjn.2⟩
    rw [drawG] at hw'
    split at hw'
    .rename_i d v hq
     exact itemWp_sound ho hc hr ht hk (quietItem_wp hq hw') hrest
    .split at hw'
     .obtain ⟨q,n',rcp,cs,g1,g2,g3⟩:=hw'
      exact ghostItem_sound ho hc hr ht hk g1 g2 g3 hrest
     .exact itemWp_sound ho hc hr ht hk (bq (fun e h he=>he) (fun v e h he=>he e) hw'.2) hrest
   .cases hp2
end
theorem AWp.dregG {C:Cx} {pl:List (Bool × AItem)} {Q:APost} {env:Env} {h:AHeap} (hm:C.P.follows .mixedOrders=true) (hmo:mkOk pl=true) (hw:drawG C pl Q env h):AWp C (.dreg pl) Q env h:=by
 intro c hc rc I0 m0 w0 I m a w ht hk hr
 cases c with
 | region id ops draw =>
  obtain ⟨l,hl,he⟩:=region_comp hc
  cases draw with
  | false=>cases he
  | true =>
   obtain ⟨pl',hpl,e⟩:=he
   cases e
   unfold planOf at hpl
   simp only at hpl
   split at hpl
   .rename_i hc'
    obtain ⟨h1,h2,h3,h4⟩:=hc'
    have hall:∀ i,i < l.length -> i ∈ bT l:=by simpa using h4
    have hgood:=good_of_plan (bT l) [] h3 (fun x hx=>by cases hx)
    have hmarks:(bX l (ancs l []) (bT l)).map (·.2)=bT l:=by
     generalize bT l=r
     induction r with
     | nil=>rfl
     | cons x r ih=>simp [bX,ih]
    have hsize:ops.size=l.length:=by simpa using (mapM'_some hl).1
    have hlen:(bX l (ancs l []) (bT l)).length=ops.size:=by
     have:=congrArg List.length hmarks
     rw [List.length_map] at this
     omega
    refine wpIn_mono (wpIn_region_any hm ?_) fun e a w=>upEq_post
    have hi:Inv C.G I m h { w with drawn:=w.drawn+1 }:={ len:=hr.inv.len,obj:=hr.inv.obj,imm:=hr.inv.imm,disj:=hr.inv.disj,immd:=hr.inv.immd,lt:=hr.inv.lt,glob:=hr.inv.glob }
    have ht':Trans C.k I0 m0 w0 I m { w with drawn:=w.drawn+1 }:={ os:=ht.os,tape:=ht.tape,output:=ht.output,size:=ht.size,cell:=ht.cell,froz:=ht.froz,blk:=ht.blk,imm:=ht.imm,own:=ht.own,immNew:=ht.immNew,loc:=ht.loc }
    have hr':Rel C.G C.N (C.ro,rc) w0.heap.size I m env h a { w with drawn:=w.drawn+1 }:=⟨hi,⟨hr.env.get,hr.env.apart⟩,hr.size,hr.defers,hr.ro⟩
    refine anyG_sound (an:=ancs l []) hl h2 ops.size _ pl hlen hpl hgood (mkOk_rel hpl hgood hmo) _ (by simp) ?_ ?_ env h I m a _ (drawG_up hw) hr' ht' hk
    .intro i hi
     rw [hmarks]
     simp [hi,hall i (by omega)]
    .intro i hi hn
     rw [hmarks] at hn
     exact (hn (hall i (by omega))).elim
   .cases hpl
 | _=>simp only [aE] at hc <;> first | (simp at hc; done) | ((repeat' split at hc) <;> simp at hc; done)
end Go.Apx
end
section
namespace Go.Apx
def Value.eqb':Value -> Value -> Bool
 | .int k a,.int k' b=>decide (k=k') && decide (a=b)
 | .bool a,.bool b=>a == b
 | .string a,.string b=>decide (a.data.toList=b.data.toList)
 | .nilFunc,.nilFunc=>true
 | .nilIface,.nilIface=>true
 | .pointer none,.pointer none=>true
 | .map none,.map none=>true
 | _,_=>false
theorem Value.eqb'_eq {a b:Value} (h:Value.eqb' a b=true):a=b:=by
 unfold Value.eqb' at h
 split at h
 .simp only [Bool.and_eq_true,decide_eq_true_eq] at h; rw [h.1,h.2]
 .simp at h; rw [h]
 .rename_i x y
  simp only [decide_eq_true_eq] at h
  cases x; cases y; simp at h; rw [h]
 .rfl
 .rfl
 .rfl
 .rfl
 .cases h
mutual
def AV.eqb:AV -> AV -> Bool
 | .sc v,.sc u=>Value.eqb' v u
 | .agg a,.agg b=>AV.eqbL a b
 | .tup a,.tup b=>AV.eqbL a b
 | .sl k a c,.sl k' b c'=>decide (k=k') && decide (c=c') && AV.eqbL a b
 | .ip v,.ip u=>v.eqb u
 | .ptr o g i,.ptr o' g' i'=>decide (o=o') && decide (g=g') && decide (i=i')
 | .rf o g i n c,.rf o' g' i' n' c'=>decide (o=o') && decide (g=g') && decide (i=i') && decide (n=n') && decide (c=c')
 | .mp o,.mp o'=>decide (o=o')
 | .it o,.it o'=>decide (o=o')
 | .yld o,.yld o'=>decide (o=o')
 | .fn (.func f) a b,.fn (.func f') a' b'=>decide (f=f') && AV.eqbL a a' && AV.eqbL b b'
 | .ifc t v,.ifc t' v'=>decide (t=t') && v.eqb v'
 | _,_=>false
def AV.eqbL:List AV -> List AV -> Bool
 | [],[]=>true
 | v :: r,u :: s=>v.eqb u && AV.eqbL r s
 | _,_=>false
end
mutual
theorem AV.eqb_eq:∀ {a b:AV},a.eqb b=true -> a=b:=by
 intro a b h
 cases a <;> cases b
 case sc.sc=>rw [AV.eqb] at h; rw [Value.eqb'_eq h]
 case agg.agg=>rw [AV.eqb] at h; rw [AV.eqbL_eq h]
 case tup.tup=>rw [AV.eqb] at h; rw [AV.eqbL_eq h]
 case ifc.ifc=>rw [AV.eqb] at h; simp only [Bool.and_eq_true,decide_eq_true_eq] at h; rw [h.1,AV.eqb_eq h.2]
 case sl.sl=>rw [AV.eqb] at h; simp only [Bool.and_eq_true,decide_eq_true_eq] at h; rw [h.1.1,h.1.2,AV.eqbL_eq h.2]
 case ip.ip=>rw [AV.eqb] at h; rw [AV.eqb_eq h]
 case ptr.ptr=>rw [AV.eqb] at h; simp only [Bool.and_eq_true,decide_eq_true_eq] at h; simp [h]
 case rf.rf=>rw [AV.eqb] at h; simp only [Bool.and_eq_true,decide_eq_true_eq] at h; simp [h]
 case mp.mp=>rw [AV.eqb] at h; simp only [decide_eq_true_eq] at h; rw [h]
 case it.it=>rw [AV.eqb] at h; simp only [decide_eq_true_eq] at h; rw [h]
 case yld.yld=>rw [AV.eqb] at h; simp only [decide_eq_true_eq] at h; rw [h]
 case fn.fn f a b f' a' b' =>
  cases f <;> cases f' <;> simp only [AV.eqb,Bool.and_eq_true,decide_eq_true_eq,reduceCtorEq] at h
  rw [h.1.1,AV.eqbL_eq h.1.2,AV.eqbL_eq h.2]
 all_goals (simp [AV.eqb] at h)
theorem AV.eqbL_eq:∀ {a b:List AV},AV.eqbL a b=true -> a=b:=by
 intro a b h
 cases a with
 | nil=>cases b with
  | nil=>rfl
  | cons=>simp [AV.eqbL] at h
 | cons v r=>cases b with
  | nil=>simp [AV.eqbL] at h
  | cons u s =>
   simp only [AV.eqbL,Bool.and_eq_true] at h
   rw [AV.eqb_eq h.1,AV.eqbL_eq h.2]
end
theorem still_heap {G:Globs} {env:Env} {h h':AHeap} {op:AOp} {v:AV} (hs:op.still=true) (he:aA G env h op=some (v,h')):h'=h:=by
 cases op <;> simp only [AOp.still,Bool.false_eq_true] at hs
 all_goals simp only [aA] at he
 all_goals (repeat' split at he)
 all_goals simp only [Option.map_eq_some_iff,Prod.mk.injEq,Option.some.injEq,reduceCtorEq,exists_and_left,exists_eq_right_right,false_and,and_false,exists_const] at he
 all_goals first
  | (cases he; done)
  | (obtain ⟨_,rfl⟩:=he; rfl)
  | (obtain ⟨_,_,rfl⟩:=he; rfl)
  | (obtain ⟨_,_,_,rfl⟩:=he; rfl)
structure FnI where
 n:Nat
 ann:List Nat
 code:ACode
 res:List ResA
structure LpI where
 o:Nat
 n:Nat
 ann:List Nat
 ps:List Nat
 x:ACode
 y:ACode
abbrev CallI:=List LpI -> FuncId -> List AV -> AHeap -> Option (AV × AHeap)
abbrev YieldI:=List LpI -> Nat -> List AV -> AHeap -> Option (AV × AHeap)
def getF:Env -> Nat -> Option AV
 | [],_=>none
 | (k,v) :: r,t=>match Nat.beq t k with
  | true=>some v
  | false=>getF r t
theorem getF_eq:∀ (e:Env) (t:Nat),getF e t=e.get t
 | [],t=>rfl
 | (k,v) :: r,t=>by
  simp only [getF,Env.get]
  by_cases h:t=k
  .rw [if_pos h,h,Nat.beq_refl]
  .rw [if_neg h,show Nat.beq t k=false by
    cases hb:Nat.beq t k with
    | false=>rfl
    | true=>exact (h (Nat.eq_of_beq_eq_true hb)).elim]
   exact getF_eq r t
def putF:Env -> Nat -> AV -> Env
 | [],t,v=>[(t,v)]
 | (k,u) :: r,t,v=>match Nat.beq t k with
  | true=>(k,v) :: r
  | false=>(k,u) :: putF r t v
theorem putF_eq:∀ (e:Env) (t:Nat) (v:AV),putF e t v=e.put t v
 | [],t,v=>rfl
 | (k,u) :: r,t,v=>by
  simp only [putF,Env.put]
  by_cases h:t=k
  .rw [if_pos h,h,Nat.beq_refl]
  .rw [if_neg h,show Nat.beq t k=false by
    cases hb:Nat.beq t k with
    | false=>rfl
    | true=>exact (h (Nat.eq_of_beq_eq_true hb)).elim]
   simp only
   rw [putF_eq r t v]
def putDF (env:Env):Option Nat -> AV -> Env
 | some d,v=>putF env d v
 | none,_=>env
theorem putDF_eq (env:Env) (d:Option Nat) (v:AV):putDF env d v=aY env d v:=by cases d <;> simp [putDF,aY,putF_eq]
def pickF (env:Env):List Nat -> Env
 | []=>[]
 | t :: r=>match getF env t with
  | some v=>(t,v) :: pickF env r
  | none=>pickF env r
theorem pickF_get (env:Env):∀ (ts:List Nat) (t:Nat),t ∈ ts -> (pickF env ts).get t=env.get t
 | [],t,h=>by cases h
 | u :: ts,t,h=>by
  have ih:=pickF_get env ts
  simp only [pickF,getF_eq]
  cases hu:env.get u with
  | none =>
   simp only
   rcases List.mem_cons.1 h with rfl | h
   .by_cases hm:t ∈ ts
    .exact ih t hm
    .have:∀ (ts:List Nat),t ∉ ts -> (pickF env ts).get t=none:=by
      intro ts
      induction ts with
      | nil=>intro _; rfl
      | cons x xs ihx =>
       intro hx
       simp only [List.mem_cons,not_or] at hx
       simp only [pickF,getF_eq]
       split
       .simp only [Env.get,if_neg hx.1]; exact ihx hx.2
       .exact ihx hx.2
     rw [this ts hm,hu]
   .exact ih t h
  | some v =>
   simp only [Env.get]
   by_cases e:t=u
   .rw [if_pos e,e,hu]
   .rw [if_neg e]
    rcases List.mem_cons.1 h with e' | h
    .exact (e e').elim
    .exact ih t h
def eqBy:List UInt8 -> List UInt8 -> Bool
 | [],[]=>true
 | a :: r,b :: s=>Nat.beq a.toNat b.toNat && eqBy r s
 | _,_=>false
theorem eqBy_eq:∀ (a b:List UInt8),eqBy a b=decide (a=b)
 | [],[]=>by simp [eqBy]
 | [],_ :: _=>by simp [eqBy]
 | _ :: _,[]=>by simp [eqBy]
 | a :: r,b :: s=>by
  simp only [eqBy,eqBy_eq r s]
  have:Nat.beq a.toNat b.toNat=decide (a=b):=by
   rw [Bool.eq_iff_iff,Nat.beq_eq,decide_eq_true_eq]
   exact UInt8.toNat_inj
  rw [this]
  by_cases h:a=b <;> simp [h]
def strF (op:BinOp) (a b:ByteArray):Option Value :=
 match op with
 | .eql=>some (.bool (eqBy a.data.toList b.data.toList))
 | .neq=>some (.bool !(eqBy a.data.toList b.data.toList))
 | .lss=>some (.bool (Op.bytesLess a.data.toList b.data.toList))
 | op=>strV op a b
theorem strF_eq (op:BinOp) (a b:ByteArray):strF op a b=strV op a b:=by
 have key:eqBy a.data.toList b.data.toList=decide (a=b):=by
  rw [eqBy_eq]
  cases a; cases b; simp
 cases op <;> first
  | rfl
  | (simp only [strF,strV_eql,strV_neq,key]; done)
  | (simp only [strF,strV_lss,ByteArray.toList_eq]; done)
def evalOpF (G:Globs) (env:Env) (h:AHeap) (op:AOp):Option (AV × AHeap) :=
 match op with
 | .bin op x y=>match aD G env x,aD G env y with
  | some (.sc (.string a)),some (.sc (.string b))=>(strF op a b).map fun v=>(.sc v,h)
  | some (.sc a),some (.sc b)=>(binV op a b).map fun v=>(.sc v,h)
  | _,_=>none
 | op=>aA G env h op
theorem evalOpF_eq (G:Globs) (env:Env) (h:AHeap) (op:AOp):evalOpF G env h op=aA G env h op:=by
 cases op <;> try rfl
 simp only [evalOpF,aA]
 split
 .rename_i a b hx hy
  rw [hx,hy,strF_eq]
  rfl
 .rename_i a b _ hx hy
  rw [hx,hy]
 .rename_i hn1 hn2
  split
  .rename_i a b hx hy
   first
    | exact (hn2 _ _ hx hy).elim
    | exact (hn1 _ _ hx hy).elim
  .rfl
def runItem (cl:CallI) (yl:YieldI) (L:List LpI) (G:Globs) (it:AItem) (env:Env) (h:AHeap):Option (Env × AHeap) :=
 match guardOf env it.guard with
 | none=>none
 | some false=>some (aY env it.dst (.tup []),h)
 | some true=>match it.op with
  | .pnew n=>match it.dst with
   | some d=>some (env.put d (.pend n),h)
   | none=>none
  | .pstore n d x=>match env.get d,oneOpd G env x with
   | some (.pend n'),some v=>if n'=n /\ v.cells.length=n /\ it.dst=none then some (env.put d (.ip v),h) else none
   | _,_=>none
  | .call f args=>match aD G env f,mapM' (aD G env) args with
   | some (.fn (.func fid) a b),some vs=>(cl L fid (a++vs++b) h).map fun p=>(aY env it.dst p.1,p.2)
   | some (.yld o),some vs=>if isLoop h o=true then (yl L o vs h).map fun p=>(aY env it.dst p.1,p.2) else none
   | _,_=>none
  | .defer _ _=>none
  | .panic _=>none
  | op=>(aA G env h op).map fun p=>(aY env it.dst p.1,p.2)
def runItemF (cl:CallI) (yl:YieldI) (L:List LpI) (G:Globs) (it:AItem) (env:Env) (h:AHeap):Option (Env × AHeap) :=
 match guardOf (pickF env it.reads) it.guard with
 | none=>none
 | some false=>some (putDF env it.dst (.tup []),h)
 | some true=>match it.op with
  | .pnew n=>match it.dst with
   | some d=>some (env.put d (.pend n),h)
   | none=>none
  | .pstore n d x=>match env.get d,oneOpd G env x with
   | some (.pend n'),some v=>if n'=n /\ v.cells.length=n /\ it.dst=none then some (env.put d (.ip v),h) else none
   | _,_=>none
  | .call f args=>match aD G (pickF env it.reads) f,mapM' (aD G (pickF env it.reads)) args with
   | some (.fn (.func fid) a b),some vs=>(cl L fid (a++vs++b) h).map fun p=>(putDF env it.dst p.1,p.2)
   | some (.yld o),some vs=>if isLoop h o=true then (yl L o vs h).map fun p=>(putDF env it.dst p.1,p.2) else none
   | _,_=>none
  | .defer _ _=>none
  | .panic _=>none
  | op=>(evalOpF G (pickF env it.reads) h op).map fun p=>(putDF env it.dst p.1,p.2)
theorem runItemF_eq (cl:CallI) (yl:YieldI) (L:List LpI) (G:Globs) (it:AItem) (env:Env) (h:AHeap):runItemF cl yl L G it env h=runItem cl yl L G it env h:=by
 have ha:Agree it.reads (pickF env it.reads) env:=fun t ht=>pickF_get env _ t ht
 unfold runItemF runItem
 rw [ha.guard]
 have ho:=ha.opds (G:=G)
 split
 .rfl
 .rw [putDF_eq]
 .have key:(evalOpF G (pickF env it.reads) h it.op).map (fun p=>(putDF env it.dst p.1,p.2))=(aA G env h it.op).map (fun p=>(aY env it.dst p.1,p.2)):=by
   rw [evalOpF_eq,bm ho]
   simp only [putDF_eq]
  cases hop:it.op
  case call f args =>
   rw [hop] at ho
   simp only [ho f (by simp [AOp.opds]),mapM'_congr args (fun x hx=>ho x (by simp [AOp.opds,hx])),putDF_eq]
  all_goals first
   | rfl
   | (rw [hop] at key; exact key)
def runOps (cl:CallI) (yl:YieldI) (L:List LpI) (G:Globs):List AItem -> Env -> AHeap -> Option (Env × AHeap)
 | [],env,h=>some (env,h)
 | it :: r,env,h=>match runItemF cl yl L G it env h with
  | some (env',h')=>runOps cl yl L G r env' h'
  | none=>none
def claimOk (G:Globs) (it:AItem) (h:AHeap) (c:Claim):Bool :=
 c.touch it || (c.it.op.still && match aA G c.env h c.it.op with
  | some (v,_)=>v.eqb c.v
  | none=>false)
def runDraw (cl:CallI) (yl:YieldI) (L:List LpI) (C:Cx):List Claim -> List (Bool × AItem) -> Env -> AHeap -> Option (Env × AHeap)
 | _,[],env,h=>some (env,h)
 | T,(true,it) :: r,env,h=>match bW C it env with
  | some (d,v)=>runDraw cl yl L C (T.map (Claim.step it)) r (aY env d v) h
  | none=>match it.op.still,guardOf env it.guard,aA C.G env h it.op with
   | true,some true,some (v,_)=>runDraw cl yl L C (⟨it,env,v,it.writes⟩ :: T.map (Claim.step it)) r (aY env it.dst v) h
   | _,_,_=>none
 | T,(false,it) :: r,env,h=>match runItemF cl yl L C.G it env h with
  | some (env',h')=>if T.all (claimOk C.G it h')=true then runDraw cl yl L C (T.filter fun c=>!c.touch it) r env' h' else none
  | none=>none
def runG (cl:CallI) (yl:YieldI) (L:List LpI) (C:Cx):List (Bool × AItem) -> Env -> AHeap -> Nat -> Option (Env × AHeap)
 | [],env,h,_=>some (env,h)
 | (b,it) :: r,env,h,q=>match bW C it env with
  | some (d,v)=>runG cl yl L C r (aY env d v) h q
  | none=>if isMk it.op=true then match mkG C it env,h[q]? with
    | some (n,rc,cs),some (.cells 0 [])=>runG cl yl L C r (aY env it.dst (.rf q 1 0 n rc)) (h.set q (.cells 1 cs)) (q+1)
    | _,_=>none
   else match b,runItemF cl yl L C.G it env h with
    | false,some (env',h')=>runG cl yl L C r env' h' q
    | _,_=>none
def AExit.quits:AExit -> Bool
 | .normal=>true
 | .ret=>true
 | _=>false
def iterI (body:Env -> AHeap -> Option (AExit × Env × AHeap)):Nat -> Env -> AHeap -> Option (AExit × Env × AHeap)
 | 0,_,_=>none
 | n+1,env,h=>match body env h with
  | some (.normal,env',h')=>iterI body n env' h'
  | r=>r
def rangeEndI (env:Env) (ol:Nat) (h:AHeap):Option (AExit × Env × AHeap) :=
 match h[ol]? with
 | some (.loop _ _ .busy _)=>none
 | some (.loop _ _ _ none)=>some (.normal,env,h.set ol .dead)
 | some (.loop _ _ _ (some .ret))=>some (.ret,env,h.set ol .dead)
 | some (.loop _ _ _ (some (.exit id)))=>some (.exit id,env,h.set ol .dead)
 | _=>none
def jumpsI (l:Nat) (body:Env -> AHeap -> Option (AExit × Env × AHeap)):Nat -> Env -> AHeap -> Option (AExit × Env × AHeap)
 | 0,_,_=>none
 | n+1,env,h=>match body env h with
  | some (.goto l',env',h')=>if l'=l then jumpsI l body n env' h' else none
  | r=>r
def runSets (G:Globs):List ESet -> Env -> AHeap -> Option AHeap
 | [],_,h=>some h
 | x :: r,env,h=>if (env.get x.e).isNone=true /\ (env.get x.s).isNone=true then
   match aA G env h (.mapUpd x.ks x.m x.k x.v) with
   | some (_,h')=>runSets G r env h'
   | none=>none
  else none
mutual
def bI (cl:CallI) (yl:YieldI) (L:List LpI) (C:Cx) (fuel:Nat):ACode -> Env -> AHeap -> Option (AExit × Env × AHeap)
 | .skip,env,h=>some (.normal,env,h)
 | .reg l,env,h=>(runOps cl yl L C.G l env h).map fun p=>(.normal,p.1,p.2)
 | .dreg l,env,h=>(if l.any (fun p=>p.1 && isMk p.2.op)=true /\ mkOk l=true then
   runG cl yl L C l env (h++List.replicate (l.filter fun p=>isMk p.2.op).length (.cells 0 [])) h.length
  else runDraw cl yl L C [] l env h).map fun p=>(.normal,p.1,p.2)
 | .ereg l es,env,h=>if C.ro=none then
   match runDraw cl yl L C [] l env h with
   | some (env',h')=>(runSets C.G es env' h').map fun h2=>(.normal,env',h2)
   | none=>none
  else none
 | .seq a b,env,h=>match bI cl yl L C fuel a env h with
  | some (.normal,env',h')=>bI cl yl L C fuel b env' h'
  | r=>r
 | .cond c a b,env,h=>match aD C.G (pickF env c.slots) c with
  | some (.sc (.bool true))=>bI cl yl L C fuel a env h
  | some (.sc (.bool false))=>bI cl yl L C fuel b env h
  | _=>none
 | .block id a,env,h=>match bI cl yl L C fuel a env h with
  | some (.exit i,env',h')=>if i=id then some (.normal,env',h') else some (.exit i,env',h')
  | r=>r
 | .scope a,env,h=>match bI cl yl L C fuel a env h with
  | some (.goto l,env',h')=>if (findA a l).isSome=true then jumpsI l (runFrom cl yl L C fuel l a) fuel env' h' else none
  | r=>r
 | .loop a,env,h=>iterI (bI cl yl L C fuel a) fuel env h
 | .rangeF g ps a b,env,h=>match aD C.G env g,noPend env,C.ro with
  | some (.fn (.func gf) fa fb),true,none=>match deferred env with
   | some dl=>match cl (⟨h.length+1,C.N,C.ann,ps,a,b⟩ :: L) gf (fa++[.yld (h.length+1)]++fb) (h++[.queue]++[.loop (env.del dslot) X0 .ready none]) with
    | some (_,h')=>rangeEndI (env.put dslot (.tup (.it h.length :: dl))) (h.length+1) h'
    | none=>none
   | none=>none
  | some (.fn (.func gf) fa fb),true,some o0=>if isLoop h o0=true then
    match cl (⟨h.length,C.N,C.ann,ps,a,b⟩ :: L) gf (fa++[.yld h.length]++fb) (h++[.loop (env.del dslot) X0 .ready none]) with
    | some (_,h')=>rangeEndI env h.length h'
    | none=>none
   else none
  | _,_,_=>none
 | .exit id,env,h=>some (.exit id,env,h)
 | .ret,env,h=>some (.ret,env,h)
 | .label l,env,h=>some (.normal,env,h)
 | .goto l,env,h=>some (.goto l,env,h)
def runFrom (cl:CallI) (yl:YieldI) (L:List LpI) (C:Cx) (fuel:Nat) (l:Nat):ACode -> Env -> AHeap -> Option (AExit × Env × AHeap)
 | .seq a b,env,h=>if (findA a l).isSome=true then
   match runFrom cl yl L C fuel l a env h with
   | some (.normal,env',h')=>bI cl yl L C fuel b env' h'
   | r=>r
  else runFrom cl yl L C fuel l b env h
 | .label l',env,h=>if l'=l then some (.normal,env,h) else none
 | _,_,_=>none
end
def leaveI:List AV -> AHeap -> Option AHeap
 | [],h=>some h
 | .it o :: l,h=>if isQueue h o=true then leaveI l (h.set o .dead) else none
 | _,_=>none
def forgetI (n:Nat) (v:AV) (h:AHeap):AV × AHeap :=
 if n+4 <= h.length /\ v.inb n=true /\ v.strip.eqb v=true /\ (h.take n).all (fun o=>o.inb n)=true then (v,h.take n) else (v,h)
def findL:List LpI -> Nat -> Option LpI
 | [],_=>none
 | l :: r,o=>if l.o=o then some l else findL r o
def roundI (o:Nat):AExit -> AHeap -> Option (AV × AHeap)
 | .normal,h=>match h[o]? with
  | some (.loop en X _ _)=>some (.sc (.bool true),h.set o (.loop en X .ready none))
  | _=>none
 | .ret,h=>match h[o]? with
  | some (.loop en X _ _)=>some (.sc (.bool false),h.set o (.loop en X .done (some .ret)))
  | _=>none
 | .exit id,h=>match h[o]? with
  | some (.loop en X _ _)=>some (.sc (.bool false),h.set o (.loop en X .done (some (.exit id))))
  | _=>none
 | .pan _,_ | .goto _,_=>none
structure KI where
 f:FuncId
 args:List AV
 h:AHeap
 v:AV
 h':AHeap
def AObj.eqb:AObj -> AObj -> Bool
 | .dead,.dead=>true
 | .cells g a,.cells g' b=>Nat.beq g g' && AV.eqbL a b
 | .tok n,.tok n'=>Nat.beq n n'
 | .amap a,.amap b=>AV.eqbL (a.map (·.1)) (b.map (·.1)) && AV.eqbL (a.map (·.2)) (b.map (·.2))
 | .queue,.queue=>true
 | _,_=>false
def eqbH:AHeap -> AHeap -> Bool
 | [],[]=>true
 | a :: r,b :: s=>a.eqb b && eqbH r s
 | _,_=>false
theorem AObj.eqb_eq {a b:AObj} (h:a.eqb b=true):a=b:=by
 unfold AObj.eqb at h
 split at h
 .rfl
 .simp only [Bool.and_eq_true,Nat.beq_eq] at h; rw [h.1,AV.eqbL_eq h.2]
 .simp only [Nat.beq_eq] at h; rw [h]
 .rename_i a b
  simp only [Bool.and_eq_true] at h
  have h1:=AV.eqbL_eq h.1
  have h2:=AV.eqbL_eq h.2
  congr 1
  clear h
  induction a generalizing b with
  | nil=>cases b with
   | nil=>rfl
   | cons=>simp at h1
  | cons x xs ih=>cases b with
   | nil=>simp at h1
   | cons y ys =>
    simp only [List.map_cons,List.cons.injEq] at h1 h2
    rw [ih _ h1.2 h2.2,Prod.ext h1.1 h2.1]
 .rfl
 .cases h
theorem eqbH_eq:∀ {a b:AHeap},eqbH a b=true -> a=b
 | [],[],_=>rfl
 | [],_ :: _,h=>by simp [eqbH] at h
 | _ :: _,[],h=>by simp [eqbH] at h
 | x :: a,y :: b,h=>by
  simp only [eqbH,Bool.and_eq_true] at h
  rw [AObj.eqb_eq h.1,eqbH_eq h.2]
def findK:List KI -> FuncId -> List AV -> AHeap -> Option (AV × AHeap)
 | [],_,_,_=>none
 | k :: r,f,args,h=>match Nat.beq k.f f with
  | true=>match AV.eqbL k.args args && eqbH k.h h with
   | true=>some (k.v,k.h')
   | false=>findK r f args h
  | false=>findK r f args h
mutual
def callI (P:Program) (G:Globs) (T:FuncId -> Option FnI) (K:List KI):Nat -> CallI
 | 0,_,_,_,_=>none
 | n+1,L,f,args,h=>match findK K f args h with
  | some r=>some r
  | none=>match T f with
  | none=>none
  | some i=>if args.length <= i.n /\ args.length <= dslot then
    match bI (callI P G T K n) (yieldI P G T K n) L ⟨P,G,i.n,i.ann,h.length,none⟩ n i.code (initEnv args) h with
    | some (e,env,h')=>if e.quits=true then
      match deferred env with
      | some l=>match leaveI l h' with
       | some h2=>(aN G env h2 i.res).map fun v=>forgetI h.length v h2
       | none=>none
      | none=>none
     else none
    | none=>none
   else none
def yieldI (P:Program) (G:Globs) (T:FuncId -> Option FnI) (K:List KI):Nat -> YieldI
 | 0,_,_,_,_=>none
 | n+1,L,o,vs,h=>match findL L o with
  | none=>none
  | some l=>match h[o]? with
   | some (.loop en _ _ _)=>if vs.length=l.ps.length /\ (en.get dslot).isNone=true then
     match bI (callI P G T K n) (yieldI P G T K n) L ⟨P,G,l.n,l.ann,h.length,some o⟩ n l.x (putAll en l.ps vs) h with
     | some (.normal,env1,h1)=>match h1[o]? with
      | some (.loop en' X' .ready pd)=>match bI (callI P G T K n) (yieldI P G T K n) L ⟨P,G,l.n,l.ann,h.length,some o⟩ n l.y env1 (h1.set o (.loop en' X' .busy pd)) with
       | some (e,_,h2)=>roundI o e h2
       | none=>none
      | _=>none
     | _=>none
    else none
   | _=>none
end
end Go.Apx
end
section
namespace Go.Apx
def FOk (P:Program) (f:FuncId) (i:FnI):Prop :=
 ∃ fn,P.funcs[f]?=some fn /\ aJ P f=true /\ fn.ntmps=i.n /\ fn.body.bind (aE P i.ann i.n)=some i.code /\ mapM' (aL P) fn.results.toList=some i.res
def KeepX (h h':AHeap):Prop :=
 h.length <= h'.length /\ ∀ (i:Nat) (en:Env) (X:LoopX) (st:LoopState) (pd:Option Code),h[i]?=some (.loop en X st pd) -> ∃ st' pd',h'[i]?=some (.loop en X st' pd')
theorem KeepX.refl (h:AHeap):KeepX h h:=⟨Nat.le_refl _,fun i en X st pd hi=>⟨st,pd,hi⟩⟩
theorem KeepX.trans {a b c:AHeap} (h:KeepX a b) (h':KeepX b c):KeepX a c :=
 ⟨Nat.le_trans h.1 h'.1,fun i en X st pd hi=>by
  obtain ⟨st',pd',h1⟩:=h.2 i en X st pd hi
  exact h'.2 i en X st' pd' h1⟩
theorem KeepX.add (h x:AHeap):KeepX h (h++x):=⟨by simp,fun i en X st pd hi=>⟨st,pd,by rw [List.getElem?_append_left (List.getElem?_eq_some_iff.1 hi).1]; exact hi⟩⟩
theorem KeepX.set {h:AHeap} {i:Nat} {a:AObj} (ha:h[i]?=some a) (hn:∀ en x st pd,a ≠ .loop en x st pd) (b:AObj):KeepX h (h.set i b):=by
 refine ⟨by simp,fun j en X st pd hj=>⟨st,pd,?_⟩⟩
 rw [List.getElem?_set]
 split
 .rename_i e; subst e
  rw [ha] at hj; exact absurd (Option.some.inj hj) (hn _ _ _ _)
 .exact hj
theorem KeepX.setFar {h h':AHeap} (hk:KeepX h h') {i:Nat} (hi:h.length <= i) (b:AObj):KeepX h (h'.set i b):=by
 refine ⟨by simpa using hk.1,fun j en X st pd hj=>?_⟩
 have hlt:=(List.getElem?_eq_some_iff.1 hj).1
 rw [List.getElem?_set,if_neg (by omega)]
 exact hk.2 j en X st pd hj
theorem KeepX.setLoop {h:AHeap} {i:Nat} {en:Env} {X:LoopX} {st:LoopState} {pd:Option Code} (hi:h[i]?=some (.loop en X st pd)) (st':LoopState) (pd':Option Code):KeepX h (h.set i (.loop en X st' pd')):=by
 refine ⟨by simp,fun j en2 X2 st2 pd2 hj=>?_⟩
 rw [List.getElem?_set]
 split
 .rename_i e; subst e
  rw [hi] at hj
  cases hj
  exact ⟨st',pd',by simp [(List.getElem?_eq_some_iff.1 hi).1]⟩
 .exact ⟨st2,pd2,hj⟩
theorem KeepX.take {h h':AHeap} (hk:KeepX h h'):KeepX h (h'.take h.length):=by
 refine ⟨by rw [List.length_take]; exact Nat.le_min.2 ⟨Nat.le_refl _,hk.1⟩,fun j en X st pd hj=>?_⟩
 have hlt:=(List.getElem?_eq_some_iff.1 hj).1
 rw [List.getElem?_take,if_pos hlt]
 exact hk.2 j en X st pd hj
theorem KeepX.step {h h':AHeap} (hs:HStep h h'):KeepX h h':=by
 cases hs with
 | same=>exact .refl _
 | add o=>exact .add _ _
 | set i a b ha hn=>exact .set ha hn b
def LValid (P:Program) (G:Globs) (L:List LpI) (h:AHeap):Prop :=
 ∀ l ∈ L,∃ en X st pd,h[l.o]?=some (.loop en X st pd) /\ XOk ⟨P,G,l.n,l.ann,0,none⟩ l.ps l.x l.y X
theorem LValid.keep {P:Program} {G:Globs} {L:List LpI} {h h':AHeap} (hv:LValid P G L h) (hk:KeepX h h'):LValid P G L h':=fun l hl=>by
 obtain ⟨en,X,st,pd,h1,h2⟩:=hv l hl
 obtain ⟨st',pd',h3⟩:=hk.2 _ _ _ _ _ h1
 exact ⟨en,X,st',pd',h3,h2⟩
theorem er_loop {x:Option AObj} {en:Env} {X:LoopX} {st:LoopState} {pd:Option Code} (h:x.map AObj.er=some (.loop en X st pd)):∃ X',x=some (.loop en X' st pd):=by
 rcases x with _ | (_ | _ | _ | _ | _ | _ | _) <;> simp [AObj.er] at h
 obtain ⟨rfl,_,rfl,rfl⟩:=h
 exact ⟨_,rfl⟩
theorem isLoop_er (h:AHeap) (o:Nat):isLoop (er h) o=isLoop h o:=by
 unfold isLoop
 rw [er_get]
 rcases h[o]? with _ | (_ | _ | _ | _ | _ | _ | _) <;> rfl
theorem isQueue_er (h:AHeap) (o:Nat):isQueue (er h) o=isQueue h o:=by
 unfold isQueue
 rw [er_get]
 rcases h[o]? with _ | (_ | _ | _ | _ | _ | _ | _) <;> rfl
theorem inb_er (n:Nat) (o:AObj):o.er.inb n=o.inb n:=by cases o <;> rfl
theorem evalRes_er (G:Globs) (env:Env) (h:AHeap) (rs:List ResA):aN G env (er h) rs=aN G env h rs:=by
 have h1:∀ r,aK G env (er h) r=aK G env h r:=fun r=>by
  cases r with
  | t n=>rfl
  | cell a ty =>
   simp only [aK,evalOp_er,Option.map_map]
   rfl
 have h2:mapM' (aK G env (er h)) rs=mapM' (aK G env h) rs:=by
  congr 1
  exact funext h1
 unfold aN
 rw [h2]
def CallOk (P:Program) (G:Globs) (cl:CallI):Prop:=∀ (L:List LpI) (f:FuncId) (args:List AV) (h:AHeap) (v:AV) (he:AHeap),cl L f args (er h)=some (v,he) -> LValid P G L h ->
 ACalls P G f args h (fun r h'=>r=.ret v /\ er h'=he /\ KeepX h h')
def YieldOk (P:Program) (G:Globs) (yl:YieldI):Prop:=∀ (L:List LpI) (o:Nat) (args:List AV) (h:AHeap) (v:AV) (he:AHeap),yl L o args (er h)=some (v,he) -> LValid P G L h ->
 AYields P G o args h (fun r h'=>r=.ret v /\ er h'=he /\ KeepX h h')
section
variable {cl:CallI} {yl:YieldI} {L:List LpI} {C:Cx}
theorem runItem_sound (hcl:CallOk C.P C.G cl) (hyl:YieldOk C.P C.G yl) {it:AItem} {env env':Env} {h he:AHeap} {K:Env -> AHeap -> Prop} {Q:APost}
  (hr:runItem cl yl L C.G it env (er h)=some (env',he)) (hL:LValid C.P C.G L h) (hK:∀ h',er h'=he -> KeepX h h' -> K env' h'):bG C it env h K Q:=by
 unfold runItem at hr
 unfold bG
 split at hr
 .cases hr
 .rename_i hg
  rw [hg]
  simp only [Option.some.injEq,Prod.mk.injEq] at hr
  obtain ⟨rfl,rfl⟩:=hr
  exact hK h rfl (.refl h)
 .rename_i hg
  rw [hg]
  have key:∀ op,(aA C.G env (er h) op).map (fun p=>(aY env it.dst p.1,p.2))=some (env',he) -> (match aA C.G env h op with
    | some (v,h')=>K (aY env it.dst v) h'
    | none=>False):=by
   intro op ho
   rw [evalOp_er] at ho
   cases hv:aA C.G env h op with
   | none=>rw [hv] at ho; cases ho
   | some p =>
    rw [hv] at ho
    simp only [Option.map_some,Option.some.injEq,Prod.mk.injEq] at ho
    obtain ⟨rfl,rfl⟩:=ho
    exact hK p.2 rfl (.step (evalOp_step hv))
  unfold bJ
  cases hop:it.op
  case pnew n =>
   simp only [hop] at hr ⊢
   split at hr
   .rename_i d hd
    rw [hd]
    simp only [Option.some.injEq,Prod.mk.injEq] at hr
    obtain ⟨rfl,rfl⟩:=hr
    exact hK h rfl (.refl h)
   .cases hr
  case pstore n d x =>
   simp only [hop] at hr ⊢
   split at hr
   .rename_i n' v g1 g2
    rw [g1,g2]
    split at hr
    .rename_i hc
     simp only [Option.some.injEq,Prod.mk.injEq] at hr
     obtain ⟨rfl,rfl⟩:=hr
     exact ⟨hc.1,hc.2.1,hc.2.2,hK h rfl (.refl h)⟩
    .cases hr
   .cases hr
  case call f args =>
   simp only [hop] at hr ⊢
   split at hr
   .rename_i fid a b vs hf hv
    rw [hf,hv]
    simp only [Option.map_eq_some_iff] at hr
    obtain ⟨⟨v,h2⟩,hc,he2⟩:=hr
    simp only [Prod.mk.injEq] at he2
    obtain ⟨rfl,rfl⟩:=he2
    refine ⟨_,hcl L fid _ h v h2 hc hL,?_⟩
    rintro r h' ⟨rfl,rfl,hk⟩
    exact hK h' rfl hk
   .rename_i o vs hf hv
    rw [hf,hv]
    split at hr
    .rename_i hlo
     rw [isLoop_er] at hlo
     simp only [Option.map_eq_some_iff] at hr
     obtain ⟨⟨v,h2⟩,hc,he2⟩:=hr
     simp only [Prod.mk.injEq] at he2
     obtain ⟨rfl,rfl⟩:=he2
     refine ⟨hlo,_,hyl L o _ h v h2 hc hL,?_⟩
     rintro r h' ⟨rfl,rfl,hk⟩
     exact hK h' rfl hk
    .cases hr
   .cases hr
  case defer f args=>simp only [hop] at hr; cases hr
  case panic x=>simp only [hop] at hr; cases hr
  case happend k b x y=>simp only [hop,aA,Option.map_none] at hr; cases hr
  case kslice k x lo hi mx=>simp only [hop,aA,Option.map_none] at hr; cases hr
  case rangeM x=>simp only [hop,aA,Option.map_none] at hr; cases hr
  case nextM x=>simp only [hop,aA,Option.map_none] at hr; cases hr
  all_goals
   simp only [hop] at hr ⊢
   exact key _ hr
theorem condF_eq (G:Globs) (env:Env) (c:Opd):aD G (pickF env c.slots) c=aD G env c:=opd_congr fun t ht=>pickF_get env _ t ht
theorem runOps_sound (hcl:CallOk C.P C.G cl) (hyl:YieldOk C.P C.G yl):∀ {l:List AItem} {env env':Env} {h he:AHeap} {Q:APost},runOps cl yl L C.G l env (er h)=some (env',he) -> LValid C.P C.G L h ->
  (∀ h',er h'=he -> KeepX h h' -> Q .normal env' h') -> opsWp C l Q env h
 | [],env,env',h,he,Q,hr,hL,hQ=>by
  simp only [runOps,Option.some.injEq,Prod.mk.injEq] at hr
  obtain ⟨rfl,rfl⟩:=hr
  exact hQ h rfl (.refl h)
 | it :: r,env,env',h,he,Q,hr,hL,hQ=>by
  simp only [runOps,runItemF_eq] at hr
  split at hr
  .rename_i env1 h1 hi
   refine runItem_sound hcl hyl hi hL fun h' e hk=>?_
   subst e
   exact runOps_sound hcl hyl hr (hL.keep hk) fun h2 e2 hk2=>hQ h2 e2 (hk.trans hk2)
  .cases hr
theorem claimOk_sound {it:AItem} {h:AHeap} {c:Claim} (hc:claimOk C.G it (er h) c=true) (ht:c.touch it=false):aA C.G c.env h c.it.op=some (c.v,h):=by
 unfold claimOk at hc
 rw [ht] at hc
 simp only [Bool.false_or,Bool.and_eq_true] at hc
 obtain ⟨hs,hc⟩:=hc
 rw [evalOp_er] at hc
 cases hv:aA C.G c.env h c.it.op with
 | none=>rw [hv] at hc; cases hc
 | some p =>
  rw [hv] at hc
  simp only [Option.map_some] at hc
  have:=AV.eqb_eq hc
  have h2:=still_heap hs hv
  obtain ⟨v,h'⟩:=p
  simp at this h2
  rw [this,h2]
theorem runDraw_sound (hcl:CallOk C.P C.G cl) (hyl:YieldOk C.P C.G yl):∀ {l:List (Bool × AItem)} {T:List Claim} {env env':Env} {h he:AHeap} {Q:APost},runDraw cl yl L C T l env (er h)=some (env',he) -> LValid C.P C.G L h ->
  (∀ h',er h'=he -> KeepX h h' -> Q .normal env' h') -> aq C T l Q env h
 | [],T,env,env',h,he,Q,hr,hL,hQ=>by
  simp only [runDraw,Option.some.injEq,Prod.mk.injEq] at hr
  obtain ⟨rfl,rfl⟩:=hr
  exact hQ h rfl (.refl h)
 | (true,it) :: r,T,env,env',h,he,Q,hr,hL,hQ=>by
  simp only [runDraw,runItemF_eq] at hr
  simp only [aq]
  split at hr
  .rename_i d v hq
   try rw [hq]
   exact runDraw_sound hcl hyl hr hL hQ
  .rename_i hq
   try rw [hq]
   split at hr
   .rename_i v h2 hs hg hv
    rw [evalOp_er] at hv
    cases hv':aA C.G env h it.op with
    | none=>rw [hv'] at hv; cases hv
    | some p =>
     rw [hv'] at hv
     obtain ⟨v',h'⟩:=p
     simp only [Option.map_some,Option.some.injEq,Prod.mk.injEq] at hv
     obtain ⟨rfl,rfl⟩:=hv
     obtain rfl:=still_heap hs hv'
     exact ⟨hs,hg,v',rfl,runDraw_sound hcl hyl hr hL hQ⟩
   .cases hr
 | (false,it) :: r,T,env,env',h,he,Q,hr,hL,hQ=>by
  simp only [runDraw,runItemF_eq] at hr
  simp only [aq]
  split at hr
  .rename_i env1 h1 hi
   split at hr
   .rename_i hall
    refine runItem_sound hcl hyl hi hL fun h' e hk=>?_
    subst e
    refine ⟨fun c hc ht=>claimOk_sound (List.all_eq_true.1 hall c hc) ht,?_⟩
    exact runDraw_sound hcl hyl hr (hL.keep hk) fun h2 e2 hk2=>hQ h2 e2 (hk.trans hk2)
   .cases hr
  .cases hr
theorem er_ghosts (n:Nat):er (List.replicate n (.cells 0 []))=List.replicate n (.cells 0 []):=by simp [er,AObj.er]
theorem runG_sound (hcl:CallOk C.P C.G cl) (hyl:YieldOk C.P C.G yl):∀ {l:List (Bool × AItem)} {env env':Env} {h he:AHeap} {q:Nat} {Q:APost},runG cl yl L C l env (er h) q=some (env',he) -> LValid C.P C.G L h ->
  (∀ h',er h'=he -> KeepX h h' -> Q .normal env' h') -> drawG C l Q env h
 | [],env,env',h,he,q,Q,hr,hL,hQ=>by
  simp only [runG,Option.some.injEq,Prod.mk.injEq] at hr
  obtain ⟨rfl,rfl⟩:=hr
  exact hQ h rfl (.refl h)
 | (b,it) :: r,env,env',h,he,q,Q,hr,hL,hQ=>by
  simp only [runG,er_get,runItemF_eq] at hr
  simp only [drawG]
  split at hr
  .rename_i d v hq
   try rw [hq]
   exact runG_sound hcl hyl hr hL hQ
  .rename_i hq
   try rw [hq]
   try simp only
   split at hr
   .rename_i hkk
    rw [if_pos hkk]
    split at hr
    .rename_i n rc cs hmk hob
     rw [er_cells] at hob
     have hk:KeepX h (h.set q (.cells 1 cs)):=.set hob (by simp) _
     exact ⟨q,n,rc,cs,hmk,hob,runG_sound hcl hyl (by rw [er_set]; exact hr) (hL.keep hk) fun h' e hk'=>hQ h' e (hk.trans hk')⟩
    .cases hr
   .rename_i hkk
    rw [if_neg hkk]
    split at hr
    .rename_i env1 h1 hi
     refine ⟨rfl,runItem_sound hcl hyl hi hL fun h' e hk=>?_⟩
     subst e
     exact runG_sound hcl hyl hr (hL.keep hk) fun h2 e2 hk2=>hQ h2 e2 (hk.trans hk2)
    .cases hr
theorem rangeEnd_of {Q:APost} {env env':Env} {ol:Nat} {h he:AHeap} {e:AExit} {v:AV} (hr:rangeEndI env ol (er h)=some (e,env',he)) (hQ:∀ h',er h'=he -> h'=h.set ol .dead -> Q e env' h'):rangeEnd Q env ol (.ret v) h:=by
 unfold rangeEndI at hr
 rw [er_get] at hr
 unfold rangeEnd
 rcases hg:h[ol]? with _ | (_ | _ | _ | _ | ⟨en,X,st,pd⟩ | _) <;> rw [hg] at hr <;> simp only [Option.map,AObj.er] at hr <;> try (cases hr; done)
 cases st
 case busy=>cases hr
 all_goals
  simp only [hg]
  refine ⟨by simp,?_⟩
  cases pd with
  | none =>
   simp only [Option.some.injEq,Prod.mk.injEq] at hr
   obtain ⟨rfl,rfl,rfl⟩:=hr
   exact hQ _ (by rw [er_set]; rfl) rfl
  | some p =>
   cases p <;> first
    | (cases hr; done)
    | (
      simp only [Option.some.injEq,Prod.mk.injEq] at hr
      obtain ⟨rfl,rfl,rfl⟩:=hr
      exact hQ _ (by rw [er_set]; rfl) rfl)
mutual
theorem runSets_sound:∀ {es:List ESet} {env:Env} {h he:AHeap} {Q:APost},runSets C.G es env (er h)=some he -> (∀ h',er h'=he -> KeepX h h' -> Q .normal env h') -> setsWp C es Q env h
 | [],env,h,he,Q,hr,hQ=>by
  simp only [runSets,Option.some.injEq] at hr
  exact hQ h hr (.refl h)
 | x :: es,env,h,he,Q,hr,hQ=>by
  simp only [runSets] at hr
  split at hr
  .rename_i hc
   refine ⟨by simpa using hc.1,by simpa using hc.2,?_⟩
   rw [evalOp_er] at hr
   cases hv:aA C.G env h (.mapUpd x.ks x.m x.k x.v) with
   | none=>rw [hv] at hr; cases hr
   | some p =>
    rw [hv] at hr
    exact runSets_sound hr fun h' e hk=>hQ h' e ((KeepX.step (evalOp_step hv)).trans hk)
  .cases hr
theorem au (hm:C.P.follows .mixedOrders=true) (hcl:CallOk C.P C.G cl) (hyl:YieldOk C.P C.G yl) (fuel:Nat):∀ {ac:ACode} {e:AExit} {env env':Env} {h he:AHeap} {Q:APost},bI cl yl L C fuel ac env (er h)=some (e,env',he) -> LValid C.P C.G L h ->
  (∀ h',er h'=he -> KeepX h h' -> Q e env' h') -> AWp C ac Q env h
 | .skip,e,env,env',h,he,Q,hr,hL,hQ=>by
  simp only [bI,Option.some.injEq,Prod.mk.injEq] at hr
  obtain ⟨rfl,rfl,rfl⟩:=hr
  exact .skip (hQ h rfl (.refl h))
 | .reg l,e,env,env',h,he,Q,hr,hL,hQ=>by
  simp only [bI,Option.map_eq_some_iff,Prod.mk.injEq] at hr
  obtain ⟨⟨a,b⟩,h1,rfl,rfl,rfl⟩:=hr
  exact .reg (runOps_sound hcl hyl h1 hL hQ)
 | .dreg l,e,env,env',h,he,Q,hr,hL,hQ=>by
  simp only [bI,Option.map_eq_some_iff,Prod.mk.injEq] at hr
  obtain ⟨⟨a,b⟩,h1,rfl,rfl,rfl⟩:=hr
  split at h1
  .rename_i hmo
   refine AWp.ghosts (l.filter fun p=>isMk p.2.op).length (.dregG hm hmo.2 ?_)
   have hk:=KeepX.add h (List.replicate (l.filter fun p=>isMk p.2.op).length (.cells 0 []))
   exact runG_sound hcl hyl (by rw [er_append,er_ghosts]; exact h1) (hL.keep hk) fun h' e hk'=>hQ h' e (hk.trans hk')
  .exact .dreg hm (runDraw_sound hcl hyl h1 hL hQ)
 | .ereg l es,e,env,env',h,he,Q,hr,hL,hQ=>by
  simp only [bI] at hr
  split at hr
  .rename_i hro
   split at hr
   .rename_i env1 h1 hd
    simp only [Option.map_eq_some_iff,Prod.mk.injEq] at hr
    obtain ⟨h2,hs,rfl,rfl,rfl⟩:=hr
    refine .ereg hm hro (runDraw_sound hcl hyl hd hL fun h' e hk=>?_)
    subst e
    exact runSets_sound hs fun h3 e3 hk3=>hQ h3 e3 (hk.trans hk3)
   .cases hr
  .cases hr
 | .seq a b,e,env,env',h,he,Q,hr,hL,hQ=>by
  simp only [bI] at hr
  refine .seq ?_
  split at hr
  .rename_i env1 h1 ha
   refine au hm hcl hyl fuel ha hL fun h' e1 hk=>?_
   subst e1
   exact au hm hcl hyl fuel hr (hL.keep hk) fun h2 e2 hk2=>hQ h2 e2 (hk.trans hk2)
  .rename_i hne
   refine au hm hcl hyl fuel hr hL fun h' e1 hk=>?_
   cases e with
   | normal=>exact absurd hr (hne _ _)
   | _=>exact hQ h' e1 hk
 | .cond c a b,e,env,env',h,he,Q,hr,hL,hQ=>by
  simp only [bI,condF_eq] at hr
  split at hr
  .rename_i hc
   exact .cond hc (fun _=>au hm hcl hyl fuel hr hL hQ) (fun hf=>by cases hf)
  .rename_i hc
   exact .cond hc (fun hf=>by cases hf) (fun _=>au hm hcl hyl fuel hr hL hQ)
  .cases hr
 | .block id a,e,env,env',h,he,Q,hr,hL,hQ=>by
  simp only [bI] at hr
  refine .block ?_
  split at hr
  .rename_i i env1 h1 ha
   refine au hm hcl hyl fuel ha hL fun h' e1 hk=>?_
   simp only [blockP]
   split at hr
   .rename_i hi
    simp only [Option.some.injEq,Prod.mk.injEq] at hr
    obtain ⟨rfl,rfl,rfl⟩:=hr
    rw [if_pos hi]
    exact hQ h' e1 hk
   .rename_i hi
    simp only [Option.some.injEq,Prod.mk.injEq] at hr
    obtain ⟨rfl,rfl,rfl⟩:=hr
    rw [if_neg hi]
    exact hQ h' e1 hk
  .rename_i hne
   refine au hm hcl hyl fuel hr hL fun h' e1 hk=>?_
   cases e with
   | exit i=>exact absurd hr (hne _ _ _)
   | _=>exact hQ h' e1 hk
 | .scope a,e,env,env',h,he,Q,hr,hL,hQ=>by
  have ha:=fun {e:AExit} {env env':Env} {h he:AHeap} {Q:APost}=>@au hm hcl hyl fuel a e env env' h he Q
  have hf:=fun {l:Nat} {y:ACode} {e:AExit} {env env':Env} {h he:AHeap} {Q:APost}=>@runFrom_sound hm hcl hyl fuel a l y e env env' h he Q
  simp only [bI] at hr
  split at hr
  .rename_i l env1 h1 h2
   split at hr
   .rename_i hsome
    obtain ⟨y,hy⟩:=Option.isSome_iff_exists.1 hsome
    refine .scopeJ l hy (fun n env1 h1=>jumpsI l (runFrom cl yl L C fuel l a) n env1 (er h1)=some (e,env',he) /\ KeepX h h1) ?_ ?_
    .refine ha h2 hL fun h' e1 hk=>?_
     subst e1
     exact ⟨rfl,fuel,hr,hk⟩
    .rintro n env1 h1 ⟨hi,hk1⟩
     cases n with
     | zero=>cases hi
     | succ n =>
      simp only [jumpsI] at hi
      split at hi
      .rename_i l' env2 h2 hb
       split at hi
       .rename_i hl
        refine hf hy hb (hL.keep hk1) fun h' e1 hk=>?_
        subst e1
        exact ⟨hl,n,by omega,hi,hk1.trans hk⟩
       .cases hi
      .rename_i hne
       refine hf hy hi (hL.keep hk1) fun h' e1 hk=>?_
       cases e with
       | goto l'=>exact absurd hi (hne _ _ _)
       | _=>exact hQ h' e1 (hk1.trans hk)
   .cases hr
  .rename_i hne
   refine .scope (ha hr hL fun h' e1 hk=>?_)
   cases e with
   | goto l'=>exact absurd hr (hne _ _ _)
   | _=>exact hQ h' e1 hk
 | .label l,e,env,env',h,he,Q,hr,hL,hQ=>by
  simp only [bI,Option.some.injEq,Prod.mk.injEq] at hr
  obtain ⟨rfl,rfl,rfl⟩:=hr
  exact .label (hQ h rfl (.refl h))
 | .goto l,e,env,env',h,he,Q,hr,hL,hQ=>by
  simp only [bI,Option.some.injEq,Prod.mk.injEq] at hr
  obtain ⟨rfl,rfl,rfl⟩:=hr
  exact .goto (hQ h rfl (.refl h))
 | .loop a,e,env,env',h,he,Q,hr,hL,hQ=>by
  have ha:=fun {e:AExit} {env env':Env} {h he:AHeap} {Q:APost}=>@au hm hcl hyl fuel a e env env' h he Q
  simp only [bI] at hr
  refine .loop (fun n env1 h1=>iterI (bI cl yl L C fuel a) n env1 (er h1)=some (e,env',he) /\ KeepX h h1) (n0:=fuel) ⟨hr,.refl h⟩ ?_
  rintro n env1 h1 ⟨hi,hk1⟩
  cases n with
  | zero=>cases hi
  | succ n =>
   simp only [iterI] at hi
   split at hi
   .rename_i env2 h2 hb
    refine ha hb (hL.keep hk1) fun h' e1 hk=>?_
    subst e1
    exact ⟨n,by omega,hi,hk1.trans hk⟩
   .rename_i hne
    refine ha hi (hL.keep hk1) fun h' e1 hk=>?_
    cases e with
    | normal=>exact absurd hi (hne _ _)
    | _=>exact hQ h' e1 (hk1.trans hk)
 | .rangeF g ps a b,e,env,env',h,he,Q,hr,hL,hQ=>by
  simp only [bI,er_length,isLoop_er] at hr
  split at hr
  .rename_i gf fa fb hg hp hro
   split at hr
   .rename_i dl hdl
    refine .rangeF hro hg hp hdl fun X hX=>?_
    split at hr
    .rename_i v h' hc
     refine ⟨_,hcl _ gf _ (h++[.queue]++[.loop (env.del dslot) X .ready none]) v h' (by simpa [AObj.er] using hc) ?_,?_⟩
     .intro l hl
      rcases List.mem_cons.1 hl with rfl | hl
      .exact ⟨env.del dslot,X,.ready,none,by rw [List.getElem?_append_right (by simp)]; simp,hX⟩
      .exact (hL.keep (by rw [List.append_assoc]; exact .add h _)) l hl
     .rintro r h2 ⟨rfl,rfl,hk⟩
      refine rangeEnd_of hr fun h3 e3 e4=>hQ h3 e3 ?_
      subst e4
      exact KeepX.setFar (KeepX.trans (by rw [List.append_assoc]; exact .add h _) hk) (by omega) _
    .cases hr
   .cases hr
  .rename_i gf fa fb o0 hg hp hro
   split at hr
   .rename_i hlo
    refine .rangeFIn hro hlo hg hp fun X hX=>?_
    split at hr
    .rename_i v h' hc
     refine ⟨_,hcl _ gf _ (h++[.loop (env.del dslot) X .ready none]) v h' (by simpa [AObj.er] using hc) ?_,?_⟩
     .intro l hl
      rcases List.mem_cons.1 hl with rfl | hl
      .exact ⟨env.del dslot,X,.ready,none,by simp,hX⟩
      .exact (hL.keep (.add h _)) l hl
     .rintro r h2 ⟨rfl,rfl,hk⟩
      refine rangeEnd_of hr fun h3 e3 e4=>hQ h3 e3 ?_
      subst e4
      exact KeepX.setFar (KeepX.trans (.add h _) hk) (by omega) _
    .cases hr
   .cases hr
  .cases hr
 | .exit id,e,env,env',h,he,Q,hr,hL,hQ=>by
  simp only [bI,Option.some.injEq,Prod.mk.injEq] at hr
  obtain ⟨rfl,rfl,rfl⟩:=hr
  exact .exit (hQ h rfl (.refl h))
 | .ret,e,env,env',h,he,Q,hr,hL,hQ=>by
  simp only [bI,Option.some.injEq,Prod.mk.injEq] at hr
  obtain ⟨rfl,rfl,rfl⟩:=hr
  exact .ret (hQ h rfl (.refl h))
theorem runFrom_sound (hm:C.P.follows .mixedOrders=true) (hcl:CallOk C.P C.G cl) (hyl:YieldOk C.P C.G yl) (fuel:Nat):∀ {ac:ACode} {l:Nat} {y:ACode} {e:AExit} {env env':Env} {h he:AHeap} {Q:APost},findA ac l=some y -> runFrom cl yl L C fuel l ac env (er h)=some (e,env',he) -> LValid C.P C.G L h ->
  (∀ h',er h'=he -> KeepX h h' -> Q e env' h') -> AWp C y Q env h
 | .seq a b,l,y,e,env,env',h,he,Q,hy,hr,hL,hQ=>by
  have ha:=fun {y:ACode} {e:AExit} {env env':Env} {h he:AHeap} {Q:APost}=>@runFrom_sound hm hcl hyl fuel a l y e env env' h he Q
  have hb:=fun {y:ACode} {e:AExit} {env env':Env} {h he:AHeap} {Q:APost}=>@runFrom_sound hm hcl hyl fuel b l y e env env' h he Q
  have hb':=fun {e:AExit} {env env':Env} {h he:AHeap} {Q:APost}=>@au hm hcl hyl fuel b e env env' h he Q
  simp only [runFrom] at hr
  simp only [findA] at hy
  split at hr
  .rename_i hsome
   obtain ⟨y1,hy1⟩:=Option.isSome_iff_exists.1 hsome
   rw [hy1] at hy
   simp only [Option.some.injEq] at hy
   subst hy
   refine .seq ?_
   split at hr
   .rename_i env1 h1 h2
    refine ha hy1 h2 hL fun h' e1 hk=>?_
    subst e1
    exact hb' hr (hL.keep hk) fun h2 e2 hk2=>hQ h2 e2 (hk.trans hk2)
   .rename_i hne
    refine ha hy1 hr hL fun h' e1 hk=>?_
    cases e with
    | normal=>exact absurd hr (hne _ _)
    | _=>exact hQ h' e1 hk
  .rename_i hsome
   have hn:findA a l=none:=by
    cases hx:findA a l with
    | none=>rfl
    | some r=>rw [hx] at hsome; exact absurd rfl hsome
   rw [hn] at hy
   exact hb hy hr hL hQ
 | .label l',l,y,e,env,env',h,he,Q,hy,hr,hL,hQ=>by
  simp only [runFrom] at hr
  simp only [findA] at hy
  split at hr
  .rename_i hl
   simp only [hl,beq_self_eq_true,if_true,Option.some.injEq] at hy
   subst hy
   simp only [Option.some.injEq,Prod.mk.injEq] at hr
   obtain ⟨rfl,rfl,rfl⟩:=hr
   exact .skip (hQ h rfl (.refl h))
  .cases hr
 | .skip,l,y,e,env,env',h,he,Q,hy,hr,hL,hQ | .reg _,l,y,e,env,env',h,he,Q,hy,hr,hL,hQ | .dreg _,l,y,e,env,env',h,he,Q,hy,hr,hL,hQ | .ereg _ _,l,y,e,env,env',h,he,Q,hy,hr,hL,hQ | .cond _ _ _,l,y,e,env,env',h,he,Q,hy,hr,hL,hQ
 | .block _ _,l,y,e,env,env',h,he,Q,hy,hr,hL,hQ | .loop _,l,y,e,env,env',h,he,Q,hy,hr,hL,hQ | .scope _,l,y,e,env,env',h,he,Q,hy,hr,hL,hQ | .rangeF _ _ _ _,l,y,e,env,env',h,he,Q,hy,hr,hL,hQ
 | .exit _,l,y,e,env,env',h,he,Q,hy,hr,hL,hQ | .ret,l,y,e,env,env',h,he,Q,hy,hr,hL,hQ | .goto _,l,y,e,env,env',h,he,Q,hy,hr,hL,hQ=>by cases hy
end
end
theorem leave_of {P:Program} {G:Globs} {h0:AHeap} {rs:List ResA} {R:AEnd -> AHeap -> Prop} {env:Env}:∀ {l:List AV} {h he:AHeap},leaveI l (er h)=some he ->
  (∀ h',er h'=he -> KeepX h h' -> ∃ v,aN G env h' rs=some v /\ endP h0 R (.ret v) h') -> leaveP P G h0 rs R env l .ret h
 | [],h,he,hl,hQ=>by
  simp only [leaveI,Option.some.injEq] at hl
  exact hQ h hl (.refl h)
 | v :: l,h,he,hl,hQ=>by
  cases v <;> simp only [leaveI,reduceCtorEq] at hl
  rename_i o
  split at hl
  .rename_i hq
   rw [isQueue_er] at hq
   refine ⟨hq,leave_of (he:=he) (by rw [er_set]; exact hl) fun h' e hk=>hQ h' e (KeepX.trans ?_ hk)⟩
   unfold isQueue at hq
   split at hq
   .rename_i ho
    exact .set ho (by simp) _
   .cases hq
  .cases hl
theorem findL_some {o:Nat}:∀ {L:List LpI} {l:LpI},findL L o=some l -> l ∈ L /\ l.o=o
 | [],l,h=>by cases h
 | x :: r,l,h=>by
  simp only [findL] at h
  split at h
  .rename_i e; cases h; exact ⟨by simp,e⟩
  .have:=findL_some h; exact ⟨by simp [this.1],this.2⟩
def KOk (P:Program) (G:Globs) (k:KI):Prop:=∀ h,er h=k.h -> ACalls P G k.f k.args h (fun r h'=>r=.ret k.v /\ er h'=k.h' /\ KeepX h h')
theorem findK_ok {P:Program} {G:Globs}:∀ {K:List KI} {f:FuncId} {args:List AV} {h:AHeap} {v:AV} {he:AHeap},(∀ k ∈ K,KOk P G k) -> findK K f args (er h)=some (v,he) -> ACalls P G f args h (fun r h'=>r=.ret v /\ er h'=he /\ KeepX h h')
 | [],f,args,h,v,he,hK,hf=>by cases hf
 | k :: r,f,args,h,v,he,hK,hf=>by
  have ih:=fun hf=>findK_ok (K:=r) (f:=f) (args:=args) (h:=h) (v:=v) (he:=he) (fun k hk=>hK k (by simp [hk])) hf
  simp only [findK] at hf
  split at hf
  .rename_i e1
   split at hf
   .rename_i e2
    simp only [Bool.and_eq_true] at e2
    simp only [Option.some.injEq,Prod.mk.injEq] at hf
    have:=hK k (by simp) h (eqbH_eq e2.2).symm
    rw [hf.1,hf.2,AV.eqbL_eq e2.1,Nat.eq_of_beq_eq_true e1] at this
    exact this
   .exact ih hf
  .exact ih hf
theorem interp_sound {P:Program} {G:Globs} {T:FuncId -> Option FnI} {K:List KI} (hm:P.follows .mixedOrders=true) (hT:∀ f i,T f=some i -> FOk P f i) (hK:∀ k ∈ K,KOk P G k):∀ n,CallOk P G (callI P G T K n) /\ YieldOk P G (yieldI P G T K n)
 | 0=>⟨fun L f args h v he hc=>by simp [callI] at hc,fun L o args h v he hc=>by simp [yieldI] at hc⟩
 | n+1=>by
  obtain ⟨hcl,hyl⟩:=interp_sound (G:=G) hm hT hK n
  constructor
  .intro L f args h v he hc hL
   simp only [callI,er_length] at hc
   split at hc
   .rename_i r hf
    simp only [Option.some.injEq] at hc
    subst hc
    exact findK_ok hK hf
   split at hc
   .cases hc
   .rename_i i hi
    obtain ⟨fn,hf,hb,hn,hcode,hres⟩:=hT f i hi
    split at hc
    .rename_i hlen
     split at hc
     .rename_i e env h' hrun
      split at hc
      .rename_i hpl
       split at hc
       .rename_i l hdl
        split at hc
        .rename_i h2 hlv
         simp only [Option.map_eq_some_iff] at hc
         obtain ⟨v',hv',hfg⟩:=hc
         refine aC (ann:=i.ann) (ac:=i.code) (rs:=i.res) hf hb (by rw [hn]; exact hcode) hres (by rw [hn]; exact hlen.1) hlen.2 ?_
         rw [hn]
         refine au (C:=⟨P,G,i.n,i.ann,h.length,none⟩) hm hcl hyl n hrun hL fun h1 e1 hk1=>?_
         subst e1
         have hlp:leaveP P G h i.res (fun r h'=>r=.ret v /\ er h'=he /\ KeepX h h') env l .ret h1:=by
          refine leave_of hlv fun h3 e3 hk3=>?_
          subst e3
          rw [evalRes_er] at hv'
          refine ⟨v',hv',?_⟩
          unfold forgetI at hfg
          split at hfg
          .rename_i hcond
           obtain ⟨c1,c2,c3,c4⟩:=hcond
           simp only [Prod.mk.injEq] at hfg
           obtain ⟨rfl,rfl⟩:=hfg
           have hs:=AV.eqb_eq c3
           refine .inr ⟨h.length,Nat.le_refl _,(hk1.trans hk3).1,by rw [hs]; exact c2,?_,?_⟩
           .intro j o hj ho
            right
            rw [<- er_take] at c4
            have hm:o.er ∈ er (h3.take h.length):=by
             refine List.mem_map.2 ⟨o,?_,rfl⟩
             refine List.mem_of_getElem? (i:=j) ?_
             rw [List.getElem?_take,if_pos hj]; exact ho
            have:=List.all_eq_true.1 c4 _ hm
            rwa [inb_er] at this
           .exact ⟨by rw [hs],er_take _ _,(hk1.trans hk3).take⟩
          .simp only [Prod.mk.injEq] at hfg
           obtain ⟨rfl,rfl⟩:=hfg
           exact .inl ⟨rfl,rfl,hk1.trans hk3⟩
         cases e <;> first
          | (simp [AExit.quits] at hpl; done)
          | (simp only [bw,hdl]; exact hlp)
        .cases hc
       .cases hc
      .cases hc
     .cases hc
    .cases hc
  .intro L o args h v he hc hL
   simp only [yieldI,er_length,er_get] at hc
   split at hc
   .cases hc
   .rename_i l hl
    obtain ⟨hmem,rfl⟩:=findL_some hl
    obtain ⟨en,X,st,pd,hob,hX⟩:=hL l hmem
    split at hc
    .rename_i en' X' st' pd' hob'
     rw [hob] at hob'
     simp only [Option.map,AObj.er,Option.some.injEq,AObj.loop.injEq] at hob'
     obtain ⟨rfl,_,rfl,rfl⟩:=hob'
     split at hc
     .rename_i hcond
      split at hc
      .rename_i env1 h1 hx
       split at hc
       .rename_i en2 X2 pd2 hob2
        split at hc
        .rename_i e env2 h2 hy
         refine ayields_of_code (C:=⟨P,G,l.n,l.ann,h.length,some l.o⟩) hob hX hcond.1 (by simpa using hcond.2) rfl rfl ?_
         refine au (C:=⟨P,G,l.n,l.ann,h.length,some l.o⟩) hm hcl hyl n hx hL fun h3 e3 hk3=>?_
         subst e3
         rw [er_get] at hob2
         obtain ⟨X3,hob3⟩:=er_loop hob2
         simp only [beginP,hob3,true_and]
         have hkb:KeepX h3 (h3.set l.o (.loop en2 X3 .busy pd2)):=.setLoop hob3 _ _
         have hX0:X2=X0:=by
          rw [hob3] at hob2
          simp only [Option.map,AObj.er,Option.some.injEq,AObj.loop.injEq] at hob2
          exact hob2.2.1.symm
         refine au (C:=⟨P,G,l.n,l.ann,h.length,some l.o⟩) hm hcl hyl n (h:=h3.set l.o (.loop en2 X3 .busy pd2)) (by rw [er_set]; rw [hX0] at hy; exact hy) ((hL.keep hk3).keep hkb) fun h4 e4 hk4=>?_
         subst e4
         have hk:=(hk3.trans hkb).trans hk4
         unfold roundI at hc
         cases e
         case pan=>cases hc
         case goto=>cases hc
         all_goals
          simp only [er_get] at hc
          simp only [roundP]
          split at hc
          .rename_i en5 X5 st5 pd5 hob5
           obtain ⟨X6,hob6⟩:=er_loop hob5
           have hX5:X5=X0:=by
            rw [hob6] at hob5
            simp only [Option.map,AObj.er,Option.some.injEq,AObj.loop.injEq] at hob5
            exact hob5.2.1.symm
           simp only [Option.some.injEq,Prod.mk.injEq] at hc
           obtain ⟨rfl,rfl⟩:=hc
           simp only [hob6]
           refine ⟨by simp,?_,hk.trans (.setLoop hob6 _ _)⟩
           rw [er_set,hX5]; rfl
          .cases hc
        .cases hc
       .cases hc
      .cases hc
     .cases hc
    .cases hc
theorem KOk.interp {P:Program} {G:Globs} {T:FuncId -> Option FnI} {K:List KI} (hm:P.follows .mixedOrders=true) (hT:∀ f i,T f=some i -> FOk P f i) (hK:∀ k ∈ K,KOk P G k) (n:Nat) {k:KI}
  (hr:(match callI P G T K n [] k.f k.args k.h with
   | some (v,h')=>v.eqb k.v && eqbH h' k.h'
   | none=>false)=true):KOk P G k:=by
 intro h he
 split at hr
 .rename_i v h' hc
  simp only [Bool.and_eq_true] at hr
  rw [AV.eqb_eq hr.1,eqbH_eq hr.2,<- he] at hc
  exact (interp_sound hm hT hK n).1 [] k.f k.args h k.v k.h' hc fun l hl=>by simp at hl
 .cases hr
def findT:List (Nat × FnI) -> Nat -> Option FnI
 | [],_=>none
 | p :: r,f=>if Nat.beq p.1 f=true then some p.2 else findT r f
theorem findT_ok {P:Program} {l:List (Nat × FnI)} (h:∀ p ∈ l,FOk P p.1 p.2):∀ f i,findT l f=some i -> FOk P f i:=by
 induction l with
 | nil=>intro f i hf; cases hf
 | cons p r ih =>
  intro f i hf
  simp only [findT] at hf
  split at hf
  .rename_i e
   cases hf
   have:=Nat.eq_of_beq_eq_true e
   subst this
   exact h p (by simp)
  .exact ih (fun q hq=>h q (by simp [hq])) f i hf
end Go.Apx
end
