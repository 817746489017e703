/- ABSTRACT MACHINE, part 33: the library's own contracts of slices.Sort and slices.Compact at strings, as contracts of calls on mutable slices. -/
import Derived.Test.YtdiemjjfkoccfaaGreatDoorAmC
import Derived.Shelf.Sort.Plain
import Derived.Shelf.Slices.In.CompactS
import Derived.Shelf.Slices.In.SortNone
import Derived.Test.YtdiemjjfkoccfaaGreatDoorAmD
set_option linter.unusedVariables false
set_option linter.unusedSimpArgs false
set_option linter.unnecessarySimpa false
section
namespace Go.Apx
open Go.Proofs Go.Sort Go.Shelf
section
variable {G:Globs} {I:Imm} {m:aQ} {h:AHeap} {w:World}
theorem Inv.into (hv:Inv G I m h w) {i g b lo n:Nat} {cs us':List AV} {us:List Value} {w':World} (ho:h[i]?=some (.cells g cs)) (hl:m[i]?=some (.cells g b lo n))
  (hn:us.length <= cs.length) (hne:us ≠ []) (hu:AVRels I m us' us) (h1:∀ c ∈ us',c.one=true) (e1:w'.os=w.os) (e2:w'.tape=w.tape) (e3:w'.output=w.output) (e4:w.drawn <= w'.drawn) (hs:w.heap.size <= w'.heap.size)
  (hin:∀ (q:Nat) (x:Value),us[q]?=some x -> w'.cell? ⟨b,lo+q,none⟩=some x)
  (hcell:∀ b' o:Nat,b' < w.heap.size -> ¬(b'=b /\ lo <= o /\ o < lo+us.length) -> w'.cell? ⟨b',o,none⟩=w.cell? ⟨b',o,none⟩)
  (hfr:∀ a:Addr,a.block < w.heap.size -> w'.frozen? a=w.frozen? a) (hblk:∀ b',b' < w.heap.size -> b' ≠ b -> w'.heap[b']?=w.heap[b']?) :
  Inv G I m (h.set i (.cells g (us'++cs.drop us.length))) w' /\ (∀ k,Trans k I m w I m w'):=by
 obtain ⟨b0,lo0,n0,vs,e,hle,hvs,hone,hcv,hall⟩:=hv.obj i _ _ ho hl
 cases e
 have hil:i < h.length:=(List.getElem?_eq_some_iff.1 ho).1
 have hul:=hu.1
 have hpos:0 < us.length:=by cases us with | nil=>exact (hne rfl).elim | cons _ _=>simp
 have hown:∀ o,lo <= o -> o < lo+us.length -> (Loc.cells g b lo n).owns b o:=fun o h1 h2=>⟨rfl,h1,by omega⟩
 have hother:∀ (j:Nat) (l:Loc) (b' o:Nat),m[j]?=some l -> l.owns b' o -> j ≠ i -> ¬(b'=b /\ lo <= o /\ o < lo+us.length):=by
  rintro j l b' o hj hp hne2 ⟨rfl,h3,h4⟩
  exact hne2 (hv.disj j i l _ b' o hj hl hp (hown o h3 h4))
 have himm:∀ (b' o:Nat) (x:Value),I b' o=some x -> ¬(b'=b /\ lo <= o /\ o < lo+us.length):=by
  rintro b' o x hx ⟨rfl,h3,h4⟩
  have:=hv.immd i _ b' o hl (hown o h3 h4)
  rw [this] at hx; cases hx
 have hbs:b < w.heap.size:=hv.lt i _ b lo hl (hown lo (Nat.le_refl _) (by omega))
 refine ⟨?_,fun k=>?_⟩
 .exact
  {len:=by simp [hv.len]
   obj:=fun j o l hj hlj=>by
    rw [List.getElem?_set] at hj
    split at hj
    .rename_i he; subst he
     simp only [Option.some.injEq] at hj
     subst hj
     rw [hl] at hlj
     simp only [Option.some.injEq] at hlj
     subst hlj
     refine ⟨b,lo,n,us++vs.drop us.length,rfl,by simp; omega,hu.append (hvs.drop _),fun c hc=>?_,fun q x hx=>?_,fun q hq=>?_⟩
     .rcases List.mem_append.1 hc with hc | hc
      .exact h1 c hc
      .exact hone c (List.mem_of_mem_drop hc)
     .rw [List.getElem?_append] at hx
      split at hx
      .exact hin q x hx
      .rename_i hge
       rw [hcell _ _ hbs (by omega)]
       rw [List.getElem?_drop] at hx
       rw [show us.length+(q - us.length)=q by omega] at hx
       exact hcv q x hx
     .have hq':=hall q hq
      rw [hfr _ hbs]
      refine ⟨?_,hq'.2⟩
      by_cases hin2:q < us.length
      .rw [hin q us[q] (by simp [hin2])]; rfl
      .rw [hcell _ _ hbs (by omega)]; exact hq'.1
    .rename_i hne2
     exact (hv.obj j o l hj hlj).mono (.refl I) (.refl m)
      (fun b' p hp=>⟨hcell _ _ (hv.lt j l b' p hlj hp) (hother j l b' p hlj hp (Ne.symm hne2)),hfr _ (hv.lt j l b' p hlj hp)⟩)
      (fun b' e=>by
       subst e
       refine hblk b' (hv.lt j _ b' 0 hlj rfl) fun e=>?_
       subst e
       exact hother j (.whole b') b' lo hlj rfl (Ne.symm hne2) ⟨rfl,Nat.le_refl _,by omega⟩)
   imm:=fun b' o x hx=>by rw [hcell _ _ (hv.imm_lt hx) (himm b' o x hx)]; exact hv.imm b' o x hx
   disj:=hv.disj
   immd:=hv.immd
   lt:=fun j l b' o hj hp=>Nat.lt_of_lt_of_le (hv.lt j l b' o hj hp) hs
   glob:=hv.glob }
 .exact
  {os:=e1,tape:=e2,output:=e3,size:=hs
   cell:=fun b' o hb hn=>hcell _ _ hb fun ⟨h1,h2,h3⟩=>hn i _ hl (h1 ▸ hown o h2 h3)
   froz:=hfr
   blk:=fun b' hb hn=>hblk b' hb fun e=>by
    subst e
    exact hn i _ lo hl (hown _ (Nat.le_refl _) (by omega))
   imm:=.refl I
   own:=fun j l b' o h1 h2 _=>⟨j,l,h1,h2⟩
   immNew:=fun b' o _ hx=>.inl hx
   loc:=fun j l _ hj=>⟨l,hj,.refl l⟩ }
end
def bytesL (s:ByteArray):List UInt8:=s.data.toList
def strL (l:List UInt8):ByteArray:=⟨l.toArray⟩
theorem enc_bytesL (s:ByteArray):encStr (bytesL s)=.string s:=by cases s; simp [bytesL]
def srtS (l:List ByteArray):List ByteArray:=((l.map bytesL).mergeSort fun x y=>decide (x <= y)).map strL
theorem srtS_length (l:List ByteArray):(srtS l).length=l.length:=by simp [srtS]
theorem rels_strings {I:Imm} {m:aQ} (l:List ByteArray):AVRels I m (l.map sv) (l.map Value.string) :=
 ⟨by simp,fun i a x ha hx=>by
  rw [List.getElem?_map] at ha hx
  cases hl:l[i]? with
  | none=>rw [hl] at ha; cases ha
  | some s=>rw [hl] at ha hx; simp at ha hx; subst ha hx; exact .sc _⟩
theorem rels_strings_inv {I:Imm} {m:aQ}:∀ {l:List ByteArray} {vs:List Value},AVRels I m (l.map sv) vs -> vs=l.map Value.string
 | [],vs,h=>by simpa using AVRels.nil_iff.1 h
 | s :: l,vs,h=>by
  obtain ⟨v,vs',rfl,h1,h2⟩:=AVRels.cons_iff.1 h
  cases h1
  rw [rels_strings_inv h2]; rfl
theorem holds_of {w:World} {l:List ByteArray} {b lo:Nat} (hc:∀ (i:Nat) (s:ByteArray),l[i]?=some s -> w.cell? ⟨b,lo+i,none⟩=some (.string s)) (hf:∀ i,i < l.length -> w.frozen? ⟨b,lo+i,none⟩=false) :
  Holds encStr w b lo (l.map bytesL).toArray:=by
 intro j hj
 have hj':j < l.length:=by simpa using hj
 refine ⟨?_,hf j hj'⟩
 have e:((l.map bytesL).toArray)[j]! = bytesL l[j]:=by rw [getElem!_pos _ j hj]; simp
 rw [e,enc_bytesL]
 exact hc j _ (by simp [hj'])
theorem heap_putRow_other {α:Type} [Inhabited α] (enc:α -> Value) (w:World) (blk off:Nat) (d:Array α) {k:Nat} (h:k ≠ blk):(putRow enc w blk off d).heap[k]?=w.heap[k]?:=by
 simp only [putRow,mapBlock,Array.getElem?_modify]
 rw [if_neg (Ne.symm h)]
theorem putRow_into {G:Globs} {I:Imm} {m:aQ} {h:AHeap} {w:World} (hv:Inv G I m h w) {i g b lo n:Nat} {l l':List ByteArray} {rest:List AV} (ho:h[i]?=some (.cells g (l.map sv++rest))) (hl:m[i]?=some (.cells g b lo n))
  (hne:l ≠ []) (hlen:l'.length=l.length) (N:Nat) (os:Array Obj) :
  Inv G I m (h.set i (.cells g (l'.map sv++rest))) (grow (putRow encStr (Go.Sort.ahead w N) b lo (l'.map bytesL).toArray) os) /\ (∀ k,Trans k I m w I m (grow (putRow encStr (Go.Sort.ahead w N) b lo (l'.map bytesL).toArray) os)):=by
 obtain ⟨b0,lo0,n0,vs,e,hle,hvs,hone,hcv,hall⟩:=hv.obj i _ _ ho hl
 cases e
 have hvl:vs.take l.length=l.map Value.string:=by
  have:=hvs.take l.length
  rw [List.take_left' (by simp)] at this
  exact rels_strings_inv this
 have hlp:0 < l.length:=by cases l with | nil=>exact (hne rfl).elim | cons _ _=>simp
 have hle':l.length <= n:=by simp at hle; omega
 have hH:Holds encStr w b lo (l.map bytesL).toArray:=holds_of (fun q s hq=>hcv q _ (by
   have hq':=(List.getElem?_eq_some_iff.1 hq).1
   have:(vs.take l.length)[q]?=some (.string s):=by rw [hvl,List.getElem?_map,hq]; rfl
   rw [List.getElem?_take] at this
   simpa [hq'] using this)) (fun q hq=>(hall q (by omega)).2)
 have hbs:b < w.heap.size:=hv.lt i _ b lo hl ⟨rfl,Nat.le_refl _,by omega⟩
 have hsz:(putRow encStr (Go.Sort.ahead w N) b lo (l'.map bytesL).toArray).heap.size=w.heap.size:=by rw [size_putRow]; rfl
 have hH':Holds encStr (Go.Sort.ahead w N) b lo (l.map bytesL).toArray:=hH
 have hz:=hv.into (us':=l'.map sv) (us:=l'.map Value.string) (w':=grow (putRow encStr (Go.Sort.ahead w N) b lo (l'.map bytesL).toArray) os) ho hl (by simp; omega) (by cases l' with | nil=>simp at hlen; omega | cons _ _=>simp) (rels_strings l') (by simp) rfl rfl rfl (Nat.le_add_right _ _) (by rw [size_grow,hsz]; omega)
  (fun q x hx=>by
   rw [List.getElem?_map] at hx
   cases hq:l'[q]? with
   | none=>rw [hq] at hx; cases hx
   | some s =>
    rw [hq] at hx
    simp only [Option.map_some,Option.some.injEq] at hx
    subst hx
    have hq':=(List.getElem?_eq_some_iff.1 hq).1
    rw [cell?_grow _ _ _ (by rw [hsz]; exact hbs),cell?_putRow _ _ _ _ _ _ hH' (by simp [hlen]) q (by simpa using hq'),getElem!_pos _ q (by simpa using hq')]
    have e2:l'[q]=s:=(List.getElem?_eq_some_iff.1 hq).2
    simp only [List.getElem_toArray,List.getElem_map,e2,enc_bytesL])
  (fun b' o hb' hno=>by
   rw [cell?_grow _ _ _ (by rw [hsz]; exact hb'),cell?_putRow_other]
   .rfl
   .simp only [List.size_toArray,List.length_map]
    simp only [List.length_map] at hno
    omega)
  (fun a ha=>by rw [frozen?_grow _ _ _ (by rw [hsz]; exact ha),frozen?_putRow]; rfl)
  (fun b' hb' hne2=>by rw [heap_grow_old _ _ (by rw [hsz]; exact hb')]; exact heap_putRow_other _ _ _ _ _ hne2)
 simpa [hlen] using hz
theorem bytesL_strL (l:List UInt8):bytesL (strL l)=l:=by simp [bytesL,strL]
theorem map_bytesL_strL (l:List (List UInt8)):(l.map strL).map bytesL=l:=by
 rw [List.map_map]; exact (List.map_congr_left fun x _=>bytesL_strL x).trans (List.map_id l)
section
variable {P:Program} {G:Globs} {ρ:Ren} {o g:Nat} {rc:RCap} {h:AHeap} {l:List ByteArray} {rest:List AV}
theorem rf_row {I:Imm} {m:aQ} {w:World} {n:Nat} {cs:List AV} {x:Value} (hv:Inv G I m h w) (ho:h[o]?=some (.cells g cs)) (hx:AVRel I m (.rf o g 0 n rc) x) (hn:n ≠ 0) :
  ∃ b lo k cap,m[o]?=some (.cells g b lo k) /\ x=.slice (some ⟨b,lo,none⟩) n cap /\ n <= cap:=by
 have hlt:o < m.length:=by rw [hv.len]; exact (List.getElem?_eq_some_iff.1 ho).1
 obtain ⟨b,lo,k,vs,e,_⟩:=hv.obj o _ _ ho (List.getElem?_eq_getElem hlt)
 have hm:m[o]?=some (.cells g b lo k):=by rw [List.getElem?_eq_getElem hlt,e]
 cases hx with
 | rf _ _ _ _ _ a cap ho' hle hf hp =>
  have:=(hp hn _ _ _ _ hm).2 rfl
  subst this
  exact ⟨b,lo,k,cap,hm,rfl,hle⟩
theorem row_holds {I:Imm} {m:aQ} {w:World} {b lo k:Nat} (hv:Inv G I m h w) (ho:h[o]?=some (.cells g (l.map sv++rest))) (hm:m[o]?=some (.cells g b lo k)) (hne:l ≠ []) :
  Holds encStr w b lo (l.map bytesL).toArray /\ b < w.heap.size:=by
 obtain ⟨b0,lo0,n0,vs,e,hle,hvs,hone,hcv,hall⟩:=hv.obj o _ _ ho hm
 cases e
 have hlp:0 < l.length:=by cases l with | nil=>exact (hne rfl).elim | cons _ _=>simp
 have hle':l.length <= k:=by simp at hle; omega
 have hvl:vs.take l.length=l.map Value.string:=by
  have:=hvs.take l.length
  rw [List.take_left' (by simp)] at this
  exact rels_strings_inv this
 exact ⟨holds_of (fun q s hq=>hcv q _ (by
   have hq':=(List.getElem?_eq_some_iff.1 hq).1
   have:(vs.take l.length)[q]?=some (.string s):=by rw [hvl,List.getElem?_map,hq]; rfl
   rw [List.getElem?_take] at this
   simpa [hq'] using this)) (fun q hq=>(hall q (by omega)).2),hv.lt o _ b lo hm ⟨rfl,Nat.le_refl _,by omega⟩⟩
theorem sort_lib (L:Lays.n190 P ρ) {f:FuncId} (hf:ρ.f 190=f) (hb:aJ P f=true) (ho:h[o]?=some (.cells g (l.map sv++rest))) (hne:l ≠ []) (hsz:l.length < 4611686018427387904) :
  AEx P G f [.rf o g 0 l.length rc] h (.ret (.tup [])) (h.set o (.cells g ((srtS l).map sv++rest))):=by
 subst hf
 refine ⟨hb,fun I m w vs hi ha=>?_⟩
 obtain ⟨x,xs,rfl,hx,hxs⟩:=AVRels.cons_iff.1 ha
 obtain rfl:=AVRels.nil_iff.1 hxs
 obtain ⟨b,lo,k,cap,hm,rfl,hcap⟩:=rf_row hi ho hx (by cases l with | nil=>exact (hne rfl).elim | cons _ _=>simp)
 obtain ⟨hH,hbs⟩:=row_holds hi ho hm hne
 have hc:=Any.slices_Sort_string L b lo cap (l.map bytesL) w hH hbs (by simpa using hsz)
 rw [List.length_map] at hc
 refine hc.mono ?_
 rintro e w' ⟨rfl,n,os,rfl⟩
 have e1:(l.map bytesL).mergeSort (fun x y=>decide (x <= y))=(srtS l).map bytesL:=(map_bytesL_strL _).symm
 rw [e1]
 obtain ⟨h1,h2⟩:=putRow_into hi ho hm hne (srtS_length l) n os
 exact ⟨_,_,I,m,⟨rfl,rfl⟩,.tup [] [] rfl (fun i a x ha=>by simp at ha),h1,h2 _⟩
end
end Go.Apx
end
section
namespace Go.Apx
def DA (C:Cx) (Q:APost):Nat -> List (Bool × AItem) -> Env -> AHeap -> Prop
 | 0,_,env,h=>upEq Q .normal env h
 | n+1,pl,env,h=>∀ (l:List (Bool × AItem)) (b:Bool) (y:AItem) (r:List (Bool × AItem)),pl=l++(b,y) :: r -> (∀ p ∈ l,p.1=true /\ p.2.apart y=true) -> bG C y env h (fun e h=>DA C Q n (l++r) e h) (upEq Q)
section
variable {C:Cx} {Q:APost} {x:AItem} {J:AHeap -> Prop}
theorem DA.eq:∀ {n:Nat} {pl:List (Bool × AItem)} {env env':Env} {h:AHeap},EnvEq env env' -> DA C Q n pl env h -> DA C Q n pl env' h
 | 0,_,_,_,_,he,⟨env0,h1,h2⟩=>⟨env0,h1.trans he,h2⟩
 | n+1,pl,env,env',h,he,hw=>fun l b y r e hl=>by
  refine bq ?_ (fun v e h he=>he) (itemWp_agree (env:=env') (env':=env) (fun t _=>(he t).symm) (fun v h hv=>hv) (hw l b y r e hl))
  rintro e h1 ⟨d,v,rfl,_,hK⟩
  exact DA.eq (he.put d v) hK
theorem agree_put {x y:AItem} {env:Env} {d:Option Nat} {v:AV} (ha:x.apart y=true) (hd:∀ t,d=some t -> t ∈ x.writes):Agree y.reads env (aY env d v):=fun t ht=>by
 rw [putD_get,if_neg]
 intro e
 exact ((AItem.apart_spec ha).1 t (hd t e)).1 ht
theorem agree_put' {x y:AItem} {env:Env} {d:Option Nat} {v:AV} (ha:x.apart y=true) (hd:∀ t,d=some t -> t ∈ y.writes):Agree x.reads env (aY env d v):=fun t ht=>by
 rw [putD_get,if_neg]
 intro e
 exact (AItem.apart_spec ha).2 t (hd t e) ht
theorem apart_put {x y:AItem} {env:Env} {d d':Option Nat} {v v':AV} (ha:x.apart y=true) (hd:∀ t,d=some t -> t ∈ x.writes) (hd':∀ t,d'=some t -> t ∈ y.writes):EnvEq (aY (aY env d v) d' v') (aY (aY env d' v') d v) :=
 EnvEq.comm fun t e e'=>((AItem.apart_spec ha).1 t (hd t e)).2 (hd' t e')
theorem DA.quiet {z:AItem} {b:Bool} {d:Option Nat} {v:AV}:∀ {n:Nat} {r:List (Bool × AItem)} {env:Env} {h:AHeap},r.length=n -> bW C z env=some (d,v) -> DA C Q n r (aY env d v) h -> DA C Q (n+1) ((b,z) :: r) env h:=by
 intro n
 induction n with
 | zero =>
  intro r env h hr hq hD l b' y r' he hl
  obtain rfl:=List.eq_nil_of_length_eq_zero hr
  cases l with
  | nil=>simp only [List.nil_append,List.cons.injEq,Prod.mk.injEq] at he; obtain ⟨⟨rfl,rfl⟩,rfl⟩:=he; exact quietItem_wp hq hD
  | cons p l=>simp at he
 | succ m ih =>
  intro r env h hr hq hD l b' y r' he hl
  cases l with
  | nil=>simp only [List.nil_append,List.cons.injEq,Prod.mk.injEq] at he; obtain ⟨⟨rfl,rfl⟩,rfl⟩:=he; exact quietItem_wp hq hD
  | cons p l =>
   simp only [List.cons_append,List.cons.injEq] at he
   obtain ⟨rfl,rfl⟩:=he
   have hap:=(hl _ List.mem_cons_self).2
   have hw:=bf hq
   refine bq ?_ (fun v e h he=>he) (itemWp_agree (agree_put hap hw) (fun v h hv=>hv) (hD l b' y r' rfl fun p hp=>hl p (List.mem_cons_of_mem _ hp)))
   rintro e h1 ⟨d',v',rfl,hd',hK⟩
   exact ih (by simp at hr ⊢; omega) (by rw [<- hq]; exact (aa (agree_put' hap hd')).symm) (DA.eq (apart_put hap hw hd') hK)
theorem DA.loud {y:AItem} {n:Nat} {r:List (Bool × AItem)} {env:Env} {h:AHeap} (hw:bG C y env h (fun e h=>DA C Q n r e h) (upEq Q)):DA C Q (n+1) ((false,y) :: r) env h:=fun l b' y' r' he hl=>by
 cases l with
 | nil=>simp only [List.nil_append,List.cons.injEq,Prod.mk.injEq] at he; obtain ⟨⟨rfl,rfl⟩,rfl⟩:=he; exact hw
 | cons p l =>
  simp only [List.cons_append,List.cons.injEq] at he
  obtain ⟨rfl,rfl⟩:=he
  have:=(hl _ List.mem_cons_self).1; cases this
end
section
variable {C:Cx} {rc:Option Nat} {I0:Imm} {m0:aQ} {w0:World} {ops:Array Oper} {l:List AItem} {an:List (List Nat)} {Q:APost}
theorem anyA_sound (hl:mapM' (bd C.P C.ann C.N ops) ops.toList=some l) (han:ancOk l an=true):∀ (n:Nat) (R:List (Bool × Nat)) (pl:List (Bool × AItem)),R.length=n -> look l R=some pl -> Good l an R ->
  ∀ (listed:Array Bool),listed.size=ops.size -> (∀ i,i < ops.size -> (listed[i]?=some true ↔ i ∉ R.map (·.2))) -> (∀ i,i < ops.size -> i ∉ R.map (·.2) -> ∀ x ∈ anc an i,x ∉ R.map (·.2)) ->
  ∀ (env:Env) (h:AHeap) (I:Imm) (m:aQ) (a:Act) (w:World),DA C Q n pl env h -> Rel C.G C.N (C.ro,rc) w0.heap.size I m env h a w -> Trans C.k I0 m0 w0 I m w -> C.k <= m.length ->
  wpAnyIn (fen rc) 0 C.P .any ops (CPost C rc I0 m0 w0 (upEq Q)) n listed a w:=by
 obtain ⟨hlen,hcomp⟩:=mapM'_some hl
 have hlen':ops.size=l.length:=by simpa using hlen
 have hitem:∀ i it,l[i]?=some it -> ∃ o,ops[i]?=some o /\ bd C.P C.ann C.N ops o=some it:=fun i it hi=>by
  obtain ⟨o,ho⟩:=get_of_lt hlen hi
  exact ⟨o,by rw [<- Array.getElem?_toList]; exact ho,hcomp i o it ho hi⟩
 have hready:∀ (R:List (Bool × Nat)) (listed:Array Bool),listed.size=ops.size -> (∀ i,i < ops.size -> (listed[i]?=some true ↔ i ∉ R.map (·.2))) ->
   ∀ i,i ∈ Region.ready .any ops listed ↔ i < ops.size /\ i ∈ R.map (·.2) /\ ∃ it,l[i]?=some it /\ ∀ x ∈ it.after,x < ops.size /\ x ∉ R.map (·.2):=ready_iff hl
 intro n
 induction n with
 | zero =>
  intro R pl hRl hpl hgood listed hsz hls hcl env h I m a w hw hr ht hk
  have:R=[]:=List.eq_nil_of_length_eq_zero hRl
  subst this
  simp [look,mapM'] at hpl; subst hpl
  refine ⟨?_,.normal,env,h,I,m,hw,trivial,hr,ht,hk⟩
  apply List.eq_nil_iff_forall_not_mem.2
  intro i hi
  have:=((hready [] listed hsz hls i).1 hi).2.1
  simp at this
 | succ n ih =>
  intro R pl hRl hpl hgood listed hsz hls hcl env h I m a w hw hr ht hk
  refine ⟨fun hemp=>?_,fun i hi=>?_⟩
  .exfalso
   cases R with
   | nil=>simp at hRl
   | cons q R =>
    obtain ⟨b,i⟩:=q
    obtain ⟨⟨it,h1,h2,h3⟩,h4⟩:=hgood
    have:i ∈ Region.ready .any ops listed:=(hready _ listed hsz hls i).2 ⟨by rw [hlen']; exact (List.getElem?_eq_some_iff.1 h1).1,by simp,it,h1,fun x hx=>by
     obtain ⟨g1,g2,g3⟩:=h2 x hx
     exact ⟨by omega,by simp only [List.map_cons,List.mem_cons,not_or]; exact ⟨g2,g3⟩⟩⟩
    rw [hemp] at this
    cases this
  .obtain ⟨hi1,hi2,it,hit,haft⟩:=(hready R listed hsz hls i).1 hi
   obtain ⟨o,ho,hc⟩:=hitem i it hit
   rw [List.mem_map] at hi2
   obtain ⟨⟨b,i'⟩,hmem,e⟩:=hi2
   simp only at e; subst e
   obtain ⟨L1,L2,rfl⟩:=List.append_of_mem hmem
   have hnot:=hgood.nodup
   have hanc:∀ x ∈ anc an i',x ∉ (L1++(b,i') :: L2).map (·.2):=by
    intro x hx
    obtain ⟨it',hit',j,hj,hjx⟩:=anc_spec han (by omega) hx
    rw [hit] at hit'; cases hit'
    obtain ⟨g1,g2⟩:=haft j hj
    rcases hjx with rfl | hjx
    .exact g2
    .exact hcl j g1 g2 x hjx
   obtain ⟨p1,p2,hp1,hp2,rfl⟩:=mapM'_app hpl
   simp only [mapM',hit,Option.map_some] at hp2
   split at hp2
   .rename_i y p3 hy hp3
    simp only [Option.some.injEq] at hy hp2
    subst hy hp2
    have hov:∀ p ∈ p1,p.1=true /\ p.2.apart it=true:=by
     intro p hp
     obtain ⟨q,hq,hq1,hq2⟩:=look_mem (l:=l) hp1 p hp
     rcases hgood.front q hq with hin | ⟨h1,xt,jt,h2,h3,h4⟩
     .exact (hanc _ hin (by simp only [List.map_append,List.mem_append]; exact .inl (List.mem_map_of_mem hq))).elim
     .rw [hq2] at h2; cases h2
      rw [hit] at h3; cases h3
      exact ⟨hq1 ▸ h1,h4⟩
    have hw':=hw p1 b it p3 rfl hov
    have hlook:look l (L1++L2)=some (p1++p3):=mapM'_app_of hp1 hp3
    have hrest:Goes C rc I0 m0 w0 (fun env h=>DA C Q n (p1++p3) env h) (wpAnyIn (fen rc) 0 C.P .any ops (CPost C rc I0 m0 w0 (upEq Q)) n (listed.setIfInBounds i' true)):=by
     intro env' h' I' m' a' w' hK hr' ht' hk'
     refine ih (L1++L2) (p1++p3) (by simp at hRl ⊢; omega) hlook hgood.drop _ (by simpa using hsz) ?_ ?_ env' h' I' m' a' w' hK hr' ht' hk'
     .intro j hj
      by_cases hji:i'=j
      .subst hji
       rw [Array.getElem?_setIfInBounds_self_of_lt (by omega)]
       simp only [true_iff]
       exact hnot
      .rw [Array.getElem?_setIfInBounds_ne hji,hls j hj]
       simp only [List.map_append,List.map_cons,List.mem_append,List.mem_cons,not_or]
       exact ⟨fun ⟨x1,_,x3⟩=>⟨x1,x3⟩,fun ⟨x1,x3⟩=>⟨x1,Ne.symm hji,x3⟩⟩
     .intro j hj hjn x hx hxm
      have hxm':x ∈ (L1++(b,i') :: L2).map (·.2):=by
       simp only [List.map_append,List.map_cons,List.mem_append,List.mem_cons] at hxm ⊢
       exact hxm.elim .inl (fun h=>.inr (.inr h))
      by_cases hji:j=i'
      .subst hji; exact hanc x hx hxm'
      .refine hcl j hj ?_ x hx hxm'
       simp only [List.map_append,List.map_cons,List.mem_append,List.mem_cons,not_or] at hjn ⊢
       exact ⟨hjn.1,hji,hjn.2⟩
    exact itemWp_sound ho hc hr ht hk hw' hrest
   .cases hp2
end
theorem AWp.dregA {C:Cx} {pl:List (Bool × AItem)} {Q:APost} {env:Env} {h:AHeap} (hm:C.P.follows .mixedOrders=true) (hw:DA C Q pl.length pl env h):AWp C (.dreg pl) Q env h:=by
 intro c hc rc I0 m0 w0 I m a w ht hk hr
 cases c with
 | region id ops draw =>
  obtain ⟨l,hl,he⟩:=region_comp hc
  cases draw with
  | false=>cases he
  | true =>
   obtain ⟨pl',hpl,e⟩:=he
   cases e
   unfold planOf at hpl
   simp only at hpl
   split at hpl
   .rename_i hc'
    obtain ⟨h1,h2,h3,h4⟩:=hc'
    have hall:∀ i,i < l.length -> i ∈ bT l:=by simpa using h4
    have hgood:=good_of_plan (bT l) [] h3 (fun x hx=>by cases hx)
    have hmarks:(bX l (ancs l []) (bT l)).map (·.2)=bT l:=by
     generalize bT l=r
     induction r with
     | nil=>rfl
     | cons x r ih=>simp [bX,ih]
    have hsize:ops.size=l.length:=by simpa using (mapM'_some hl).1
    have hlen:(bX l (ancs l []) (bT l)).length=ops.size:=by
     have:=congrArg List.length hmarks
     rw [List.length_map] at this
     omega
    refine wpIn_mono (wpIn_region_any hm ?_) fun e a w=>upEq_post
    have hi:Inv C.G I m h { w with drawn:=w.drawn+1 }:={ len:=hr.inv.len,obj:=hr.inv.obj,imm:=hr.inv.imm,disj:=hr.inv.disj,immd:=hr.inv.immd,lt:=hr.inv.lt,glob:=hr.inv.glob }
    have ht':Trans C.k I0 m0 w0 I m { w with drawn:=w.drawn+1 }:={ os:=ht.os,tape:=ht.tape,output:=ht.output,size:=ht.size,cell:=ht.cell,froz:=ht.froz,blk:=ht.blk,imm:=ht.imm,own:=ht.own,immNew:=ht.immNew,loc:=ht.loc }
    have hr':Rel C.G C.N (C.ro,rc) w0.heap.size I m env h a { w with drawn:=w.drawn+1 }:=⟨hi,⟨hr.env.get,hr.env.apart⟩,hr.size,hr.defers,hr.ro⟩
    have hpll:pl.length=ops.size:=by rw [<- hlen]; exact (mapM'_some hpl).1.symm
    rw [hpll] at hw
    refine anyA_sound (an:=ancs l []) hl h2 ops.size _ pl hlen hpl hgood _ (by simp) ?_ ?_ env h I m a _ hw hr' ht' hk
    .intro i hi
     rw [hmarks]
     simp [hi,hall i (by omega)]
    .intro i hi hn
     rw [hmarks] at hn
     exact (hn (hall i (by omega))).elim
   .cases hpl
 | _=>simp only [aE] at hc <;> first | (simp at hc; done) | ((repeat' split at hc) <;> simp at hc; done)
end Go.Apx
end
