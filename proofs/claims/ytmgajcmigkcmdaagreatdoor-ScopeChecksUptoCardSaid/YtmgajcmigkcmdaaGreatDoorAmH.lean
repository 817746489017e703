/- ABSTRACT MACHINE, part 42: contracts of the library that take a function value: the function's own contract pays what they ask. slices.SortFunc at structures. -/
import Derived.Test.YtmgajcmigkcmdaaGreatDoorAmD
import Derived.Test.YtmgajcmigkcmdaaGreatDoorAmG
import Derived.Test.YtmgajcmigkcmdaaGreatDoorAmC
import Derived.Lib.QuietBelow
import Derived.Shelf.SlSortCmp.NoneTotal
set_option linter.unusedVariables false
set_option linter.unusedSimpArgs false
set_option linter.unnecessarySimpa false
namespace Go.Apx
open Go.Proofs Go.Sort Go.Shelf
theorem enter_of_body {P:Program} {f:FuncId} (h:hasBody P f=true) (args:Array Value) (w:World):(callFunc f args).run P w=.ok (.enter f args) w:=by
 unfold hasBody at h
 split at h
 .rename_i fn hfn
  simp only [Bool.and_eq_true,Bool.not_eq_true'] at h
  obtain ⟨h1,h2⟩:=h
  have h3:fn.body.isNone=false:=by cases hb:fn.body <;> simp_all
  simp only [callFunc,Sem.run_bind,run_program,Result.andThen_ok,hfn,h2,h3]
  simp
 .cases h
theorem grown_of_trans {k:Nat} {I I':Imm} {m':Locs} {w w':World} (h:Trans k I [] w I' m' w'):∃ q os,w'=grow (w.drewN q) os:=by
 obtain ⟨⟨d,os⟩,hp⟩:=regrown_of_below (below_of_trans h)
 have hd:w.drawn <= d:=by have:=h.drn; rw [hp] at this; exact this
 refine ⟨d - w.drawn,os,?_⟩
 rw [hp]
 simp only [World.drewN,redrawn]
 rw [show w.drawn+(d - w.drawn)=d by omega]
theorem pure_calls {P:Program} {G:Globs} {f:FuncId} {args:List AV} {v:Value} (hc:AEx P G f args [] (.ret (.sc v)) []) {I:Imm} {m:Locs} {h:AHeap} {w:World} (hi:Inv G I m h w) {xs:List Value} (ha:AVRels (I0 w) [] args xs) :
  Calls P f xs.toArray w fun e w'=>e=.returned v /\ ∃ q os,w'=grow (w.drewN q) os:=by
 have hle:ImmLe I (I0 w):=fun b o y hy=>hi.imm b o y hy
 have hg:∀ g u,G g=some u -> ∀ m',AVRel (I0 w) m' u (.pointer (some ⟨g,0,none⟩)):=fun g u h m'=>(hi.glob g u h m').mono hle (.refl m')
 refine (hc.2 (I0 w) [] w xs (inv0 hg) ha).mono fun e w' hx=>?_
 obtain ⟨r,h',I',m',⟨rfl,rfl⟩,he,hi',ht⟩:=hx
 refine ⟨?_,grown_of_trans ht⟩
 cases e with
 | returned x =>
  have he':AVRel I' m' (.sc v) x:=he
  cases he'
  rfl
 | _=>exact he.elim
section
variable {G:Globs} {I:Imm} {m:Locs} {h:AHeap} {w:World}
theorem row_id (hv:Inv G I m h w) {i g b lo n:Nat} {cs rest:List AV} {us:List Value} (ho:h[i]?=some (.cells g (cs++rest))) (hl:m[i]?=some (.cells g b lo n)) (hne:cs ≠ [])
  (hinv:∀ vs,AVRels I m cs vs -> vs=us):Holds id w b lo us.toArray /\ b < w.heap.size:=by
 obtain ⟨b0,lo0,n0,vs,e,hle,hvs,hone,hcv,hall⟩:=hv.obj i _ _ ho hl
 cases e
 have hvl:vs.take cs.length=us:=hinv _ (by have:=hvs.take cs.length; rwa [List.take_left' rfl] at this)
 have hcl:=hvs.1
 have hpos:0 < cs.length:=List.length_pos_iff.2 hne
 simp at hle hcl
 refine ⟨fun j hj=>?_,hv.lt i _ b lo hl ⟨rfl,Nat.le_refl _,by omega⟩⟩
 have hj':j < us.length:=by simpa using hj
 have hul:us.length=cs.length:=by rw [<- hvl,List.length_take]; omega
 obtain ⟨x,hx⟩:∃ x,us[j]?=some x:=⟨us[j],by simp [hj']⟩
 have h2:vs[j]?=some x:=by
  rw [<- hvl,List.getElem?_take,if_pos (by omega)] at hx
  exact hx
 refine ⟨?_,(hall j (by omega)).2⟩
 rw [hcv j _ h2,getElem!_pos _ j hj]
 have:=(List.getElem?_eq_some_iff.1 hx).2
 simp [this]
theorem row_into (hv:Inv G I m h w) {i g b lo n:Nat} {cs cs' rest:List AV} {us us':List Value} (ho:h[i]?=some (.cells g (cs++rest))) (hl:m[i]?=some (.cells g b lo n)) (hne:cs ≠ [])
  (hinv:∀ vs,AVRels I m cs vs -> vs=us) (hrel:AVRels I m cs' us') (h1:∀ c ∈ cs',c.one=true) (hlen:us'.length=us.length) (N:Nat) (os:Array Obj) :
  Inv G I m (h.set i (.cells g (cs'++rest))) (grow (putRow id (Go.Sort.ahead w N) b lo us'.toArray) os) /\ (∀ k,Trans k I m w I m (grow (putRow id (Go.Sort.ahead w N) b lo us'.toArray) os)):=by
 obtain ⟨hH,hbs⟩:=row_id hv ho hl hne hinv
 obtain ⟨b0,lo0,n0,vs,e,hle,hvs,hone,hcv,hall⟩:=hv.obj i _ _ ho hl
 cases e
 have hvl:vs.take cs.length=us:=hinv _ (by have:=hvs.take cs.length; rwa [List.take_left' rfl] at this)
 have hcl:=hvs.1
 have hpos:0 < cs.length:=List.length_pos_iff.2 hne
 simp at hle hcl
 have hul:us.length=cs.length:=by rw [<- hvl,List.length_take]; omega
 have hsz:(putRow id (Go.Sort.ahead w N) b lo us'.toArray).heap.size=w.heap.size:=by rw [Sort.size_putRow]; rfl
 have hH':Holds id (Go.Sort.ahead w N) b lo us.toArray:=hH
 have hz:=hv.into (us':=cs') (us:=us') (w':=grow (putRow id (Go.Sort.ahead w N) b lo us'.toArray) os) ho hl (by simp; omega) (by rintro rfl; simp at hlen; omega) hrel h1 rfl rfl rfl (Nat.le_add_right _ _) (by rw [size_grow,hsz]; omega)
  (fun q x hx=>by
   have hq':=lt_of hx
   rw [cell?_grow _ _ _ (by rw [hsz]; exact hbs),cell?_putRow _ _ _ _ _ _ hH' (by simp [hlen]) q (by simpa using hq'),getElem!_pos _ q (by simpa using hq')]
   have e2:us'[q]=x:=(List.getElem?_eq_some_iff.1 hx).2
   simp [e2])
  (fun b' o hb' hno=>by
   rw [cell?_grow _ _ _ (by rw [hsz]; exact hb'),cell?_putRow_other]
   .rfl
   .simp only [List.size_toArray]
    omega)
  (fun a ha=>by rw [frozen?_grow _ _ _ (by rw [hsz]; exact ha),frozen?_putRow]; rfl)
  (fun b' hb' hne2=>by rw [heap_grow_old _ _ (by rw [hsz]; exact hb')]; exact heap_putRow_other _ _ _ _ _ hne2)
 have hd:(cs++rest).drop us'.length=rest:=by rw [hlen,hul,List.drop_left]
 rwa [hd] at hz
end
theorem flatGet {α:Type} {f:α -> List Value} {k:Nat} (hk:∀ x,(f x).length=k) (hk0:0 < k):∀ (l:List α) (t:Nat),(l.flatMap f)[t]?=(l[t / k]?).bind fun x=>(f x)[t % k]?
 | [],t=>by simp
 | a :: l,t=>by
  rw [List.flatMap_cons,List.getElem?_append,hk]
  split
  .rename_i h
   rw [Nat.div_eq_of_lt h,Nat.mod_eq_of_lt h]; rfl
  .rename_i h
   have h':k <= t:=by omega
   rw [flatGet hk hk0 l (t - k),Nat.div_eq_sub_div hk0 h',Nat.mod_eq_sub_mod h']; rfl
theorem flatK_list {α:Type} [Inhabited α] {f:α -> List Value} {k:Nat} (hk:∀ x,(f x).length=k) (hk0:0 < k) (l:List α):flatK f k l.toArray=(l.flatMap f).toArray:=by
 have hlen:∀ l:List α,(l.flatMap f).length=l.length * k:=by
  intro l
  induction l with
  | nil=>simp
  | cons a l ih=>rw [List.flatMap_cons,List.length_append,hk,ih,List.length_cons,Nat.add_mul]; omega
 apply Array.ext'
 refine List.ext_getElem? fun t=>?_
 simp only [flatK,List.size_toArray,Array.toList_map,Array.toList_range,List.getElem?_map]
 rw [flatGet hk hk0]
 by_cases ht:t < l.length * k
 .have hd:t / k < l.length:=(Nat.div_lt_iff_lt_mul hk0).2 ht
  have hm:t % k < k:=Nat.mod_lt _ hk0
  have e1:l.toArray[t / k]! = l[t / k]:=by rw [getElem!_pos _ _ (by simpa using hd)]; simp
  rw [List.getElem?_range ht,List.getElem?_eq_getElem hd]
  simp only [Option.map_some,Option.bind_some,e1]
  rw [getElem!_pos _ _ (by rw [hk]; exact hm),List.getElem?_eq_getElem (by rw [hk]; exact hm)]
 .have hd:¬ t / k < l.length:=fun h=>ht ((Nat.div_lt_iff_lt_mul hk0).1 h)
  rw [List.getElem?_eq_none (by simpa using ht),List.getElem?_eq_none (by simpa using hd)]; rfl
section
variable {P:Program} {G:Globs} {ρ:Ren} {α:Type} [Inhabited α] {o g:Nat} {rc:RCap} {h:AHeap} {l:List α} {rest:List AV}
theorem sortFunc_lib (L:SlLaysF0.n6 P ρ) (k:Nat) (hk0:0 < k) (aE:∀ w,(isAgg (ρ.t 24)).run P w=.ok true w) (zE:∀ w,(Go.sizeOf (ρ.t 24)).run P w=.ok k w) (encA:α -> List AV) (encV:α -> List Value) (hk:∀ x,(encV x).length=k)
  (h1:∀ x,∀ v ∈ encV x,v.oneCell'=true) (hA:∀ x,encA x=(encV x).map AV.sc) (cf:α -> α -> Int) (hO:SWO (ltOf cf)) (hT:∀ x y,(ltOf cf) x y=false -> (ltOf cf) y x=false -> x=y)
  {c f:FuncId} (hc:∀ x y,AEx P G c [.agg (encA x),.agg (encA y)] [] (.ret (.sc (.int .i64 (cf x y)))) []) (hf:ρ.f 6=f) (hb:hasBody P f=true) (ho:h[o]?=some (.cells g (l.flatMap encA++rest))) (hne:l ≠ []) (hsz:l.length < 4611686018427387904) :
  AEx P G f [.rf o g 0 l.length rc,.fn (.func c) [] []] h (.ret (.tup [])) (h.set o (.cells g ((l.mergeSort fun x y=>!(ltOf cf) y x).flatMap encA++rest))):=by
 subst hf
 have flatA:∀ l:List α,l.flatMap encA=(l.flatMap encV).map AV.sc:=fun l=>by
  induction l with
  | nil=>rfl
  | cons a l ih=>rw [List.flatMap_cons,List.flatMap_cons,List.map_append,ih,hA]
 have hinv:∀ (I:Imm) (m:Locs) (us vs:List Value),AVRels I m (us.map AV.sc) vs -> vs=us:=by
  intro I m us
  induction us with
  | nil=>intro vs hv; exact AVRels.nil_iff.1 hv
  | cons u us ih =>
   intro vs hv
   obtain ⟨v,vs',rfl,hv1,hv2⟩:=AVRels.cons_iff.1 hv
   cases hv1
   rw [ih _ hv2]
 have hrel:∀ (I:Imm) (m:Locs) (us:List Value),AVRels I m (us.map AV.sc) us:=by
  intro I m us
  induction us with
  | nil=>exact .nil
  | cons u us ih=>exact .cons (.sc _) ih
 have hflen:∀ l:List α,(l.flatMap encV).length=l.length * k:=by
  intro l
  induction l with
  | nil=>simp
  | cons a l ih=>rw [List.flatMap_cons,List.length_append,hk,ih,List.length_cons,Nat.add_mul]; omega
 have hones:∀ l:List α,∀ x ∈ (l.flatMap encV).map AV.sc,x.one=true:=by
  intro l x hx
  obtain ⟨v,hv,rfl⟩:=List.mem_map.1 hx
  obtain ⟨a,_,ha⟩:=List.mem_flatMap.1 hv
  exact h1 a v ha
 have hcne:(l.flatMap encV).map AV.sc ≠ []:=by
  intro e
  have:=congrArg List.length e
  rw [List.length_map,hflen] at this
  have hl0:=List.length_pos_iff.2 hne
  have hp:0 < l.length * k:=Nat.mul_pos hl0 hk0
  rw [List.length_nil] at this
  omega
 rw [flatA] at ho
 refine ⟨hb,fun I m w vs hi ha=>?_⟩
 obtain ⟨x,xs,rfl,hx,hxs⟩:=AVRels.cons_iff.1 ha
 obtain ⟨y,ys,rfl,hy,hys⟩:=AVRels.cons_iff.1 hxs
 obtain rfl:=AVRels.nil_iff.1 hys
 obtain ⟨b,lo,n,cap,hm,rfl,hcap⟩:=rf_row hi ho hx (by have:=List.length_pos_iff.2 hne; omega)
 cases hy with
 | fn _ _ _ fs cs hl hl' h' h'' =>
  obtain rfl:fs=[]:=by cases fs with | nil=>rfl | cons _ _=>simp at hl
  obtain rfl:cs=[]:=by cases cs with | nil=>rfl | cons _ _=>simp at hl'
  obtain ⟨hH,hbs⟩:=row_id hi ho hm hcne (hinv I m (l.flatMap encV))
  have hHK:HoldsK encV k w b lo l.toArray:=by unfold HoldsK; rw [flatK_list hk hk0]; exact hH
  have hcmp:CmpLays P c #[] encV k cf b lo l.toArray.size w:=by
   intro N os dk hdk x y
   have hdl:dk=dk.toList.toArray:=by simp
   have hW:sortWorldK encV k w b lo N dk os=grow (putRow id (Go.Sort.ahead w N) b lo (dk.toList.flatMap encV).toArray) os:=by
    unfold sortWorldK putRowK
    rw [hdl,flatK_list hk hk0]
   have hin:=row_into hi ho hm hcne (hinv I m (l.flatMap encV)) (hrel I m (dk.toList.flatMap encV)) (hones _) (by rw [hflen,hflen]; simp at hdk; simp [hdk]) N os
   rw [hW]
   have:=pure_calls (hc x y) hin.1 (xs:=[.agg (encV x).toArray,.agg (encV y).toArray]) (.cons ?_ (.cons ?_ .nil))
   .simpa using this
   .rw [hA]; exact .agg _ _ (by simp) (by intro c hc; obtain ⟨v,hv,rfl⟩:=List.mem_map.1 hc; exact h1 x v hv) (hrel _ _ _).2
   .rw [hA]; exact .agg _ _ (by simp) (by intro c hc; obtain ⟨v,hv,rfl⟩:=List.mem_map.1 hc; exact h1 y v hv) (hrel _ _ _).2
  have hcl:=AnyQ.slices_SortFunc_total L k aE zE encV hk h1 cf hO c #[] b lo cap l.toArray w (fun args w=>enter_of_body (hc l.toArray[0]! l.toArray[0]!).1 args w) hcmp hHK hbs (by simpa using hsz) hT
  refine hcl.mono ?_
  rintro e w' ⟨rfl,N,os,rfl⟩
  have hW:sortWorldK encV k w b lo N (l.toArray.toList.mergeSort fun x y=>!(ltOf cf) y x).toArray os=grow (putRow id (Go.Sort.ahead w N) b lo ((l.mergeSort fun x y=>!(ltOf cf) y x).flatMap encV).toArray) os:=by
   unfold sortWorldK putRowK
   rw [flatK_list hk hk0]
  rw [hW,flatA]
  obtain ⟨q1,q2⟩:=row_into hi ho hm hcne (hinv I m (l.flatMap encV)) (hrel I m ((l.mergeSort fun x y=>!(ltOf cf) y x).flatMap encV)) (hones _) (by rw [hflen,hflen,List.length_mergeSort]) N os
  exact ⟨_,_,I,m,⟨rfl,rfl⟩,.tup [] [] rfl (fun i a x ha=>by simp at ha),q1,q2 _⟩
end
end Go.Apx
