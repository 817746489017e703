/- ABSTRACT MACHINE, part 1: abstract values, locations, the relation between abstract and concrete values, worlds. Generic: no program in sight. -/
import Derived.Calls
import Derived.Laws.World
import Derived.Laws.Sem
import Derived.Orders
import Derived.Laws.Cells
import Derived.Laws.IdiomCopy
import Derived.Laws.StructEq
import Derived.ChangeKeysEq
import Derived.IntWalk
set_option linter.unusedVariables false
set_option linter.unusedSimpArgs false
set_option linter.unnecessarySimpa false
section
namespace Go.Apx
inductive Cap where
 | nil
 | any
 | full
 | tok (t:Nat)
 deriving DecidableEq,Repr
inductive RCap where
 | any
 | full
 | own (k:Nat)
 deriving DecidableEq,Repr
inductive AV where
 | sc (v:Value)
 | agg (cs:List AV)
 | tup (vs:List AV)
 | sl (k:Nat) (es:List AV) (c:Cap)
 | ip (v:AV)
 | ptr (o g off:Nat)
 | rf (o g off len:Nat) (rc:RCap)
 | mp (o:Nat)
 | it (o:Nat)
 | yld (o:Nat)
 | fn (f:Fn) (first captured:List AV)
 | ifc (t:TypeId) (v:AV)
 | pend (n:Nat)
def AV.cells:AV -> List AV
 | .agg cs=>cs
 | v=>[v]
def AV.one:AV -> Bool
 | .sc v=>v.oneCell'
 | .agg _ | .tup _ | .pend _=>false
 | _=>true
def AV.isPend:AV -> Bool
 | .pend _=>true
 | _=>false
inductive Loc where
 | dead
 | cells (g b lo n:Nat)
 | tok (n b s e:Nat)
 | whole (b:Nat)
def Loc.owns:Loc -> Nat -> Nat -> Prop
 | .dead,_,_=>False
 | .cells _ b lo n,b',o=>b'=b /\ lo <= o /\ o < lo+n
 | .tok _ b s e,b',o=>b'=b /\ s <= o /\ o < e
 | .whole b,b',_=>b'=b
inductive LocLe:Loc -> Loc -> Prop
 | refl (l:Loc):LocLe l l
 | dead (l:Loc):LocLe l .dead
 | tok {n n' b s e b' s' e':Nat} (h:n < n'):LocLe (.tok n b s e) (.tok n' b' s' e')
 | cells {g g' b lo n b' lo' n':Nat} (h:g < g'):LocLe (.cells g b lo n) (.cells g' b' lo' n')
theorem LocLe.trans {a b c:Loc} (h:LocLe a b) (h':LocLe b c):LocLe a c:=by
 cases h with
 | refl=>exact h'
 | dead=>cases h' <;> exact .dead _
 | tok h1 =>
  cases h' with
  | refl=>exact .tok h1
  | dead=>exact .dead _
  | tok h2=>exact .tok (Nat.lt_trans h1 h2)
 | cells h1 =>
  cases h' with
  | refl=>exact .cells h1
  | dead=>exact .dead _
  | cells h2=>exact .cells (Nat.lt_trans h1 h2)
abbrev Imm:=Nat -> Nat -> Option Value
abbrev aQ:=List Loc
def Lies (I:Imm) (b off:Nat) (vs:List Value):Prop:=∀ (i:Nat) (x:Value),vs[i]?=some x -> I b (off+i)=some x
def CapRel (m:aQ) (a:Addr) (len k cap:Nat):Cap -> Prop
 | .nil=>False
 | .any=>True
 | .full=>cap=len
 | .tok t=>t < m.length /\ ∀ n b s e,m[t]?=some (.tok n b s e) -> len <= n /\ (n=len -> a=⟨b,a.off,none⟩ /\ a.off+len * k=s /\ a.off+cap * k=e)
def PtrRel (m:aQ) (o g off:Nat) (a:Addr):Prop :=
 ∀ g' b lo n,m[o]?=some (.cells g' b lo n) -> g <= g' /\ (g=g' -> a=⟨b,lo+off,none⟩)
def RCapRel (m:aQ) (o g off len:Nat) (a:Addr) (cap:Nat):RCap -> Prop
 | .any=>True
 | .full=>cap=len
 | .own k=>PtrRel m o g off a /\ ∀ b lo n,m[o]?=some (.cells g b lo n) -> off+cap * k=n
inductive AVRel (I:Imm) (m:aQ):AV -> Value -> Prop
 | sc (x:Value):AVRel I m (.sc x) x
 | agg (cs:List AV) (vs:List Value) (hl:cs.length=vs.length) (h1:∀ c ∈ cs,c.one=true)
   (h:∀ (i:Nat) (a:AV) (x:Value),cs[i]?=some a -> vs[i]?=some x -> AVRel I m a x):AVRel I m (.agg cs) (.agg vs.toArray)
 | tup (cs:List AV) (vs:List Value) (hl:cs.length=vs.length)
   (h:∀ (i:Nat) (a:AV) (x:Value),cs[i]?=some a -> vs[i]?=some x -> AVRel I m a x):AVRel I m (.tup cs) (.tuple vs.toArray)
 | slnil (k:Nat):AVRel I m (.sl k [] .nil) (.slice none 0 0)
 | sl (k:Nat) (es:List AV) (c:Cap) (a:Addr) (cap:Nat) (vs:List Value) (hc:c ≠ .nil) (hle:es.length <= cap) (hk:0 < k)
   (hw:∀ e ∈ es,e.cells.length=k) (h1:∀ c ∈ es.flatMap AV.cells,c.one=true)
   (hl:(es.flatMap AV.cells).length=vs.length)
   (h:∀ (i:Nat) (a:AV) (x:Value),(es.flatMap AV.cells)[i]?=some a -> vs[i]?=some x -> AVRel I m a x)
   (hI:Lies I a.block a.off vs) (hs:es ≠ [] -> a.spot=none) (hcap:CapRel m a es.length k cap c) :
   AVRel I m (.sl k es c) (.slice (some a) es.length cap)
 | ip (v:AV) (a:Addr) (vs:List Value) (h1:∀ c ∈ v.cells,c.one=true) (hl:v.cells.length=vs.length)
   (h:∀ (i:Nat) (a:AV) (x:Value),v.cells[i]?=some a -> vs[i]?=some x -> AVRel I m a x)
   (hI:Lies I a.block a.off vs) (hs:a.spot=none):AVRel I m (.ip v) (.pointer (some a))
 | ptr (o g off:Nat) (a:Addr) (ho:o < m.length) (h:PtrRel m o g off a) :
   AVRel I m (.ptr o g off) (.pointer (some a))
 | rf (o g off len:Nat) (rc:RCap) (a:Addr) (cap:Nat) (ho:o < m.length) (hle:len <= cap) (hf:RCapRel m o g off len a cap rc)
   (h:len ≠ 0 -> PtrRel m o g off a) :
   AVRel I m (.rf o g off len rc) (.slice (some a) len cap)
 | mp (o r:Nat) (ho:o < m.length) (h:∀ b,m[o]?=some (.whole b) -> r=b):AVRel I m (.mp o) (.map (some r))
 | it (o r:Nat) (ho:o < m.length) (h:∀ b,m[o]?=some (.whole b) -> r=b):AVRel I m (.it o) (.pointer (some ⟨r,0,none⟩))
 | yld (o l:Nat) (ho:o < m.length) (h:∀ b,m[o]?=some (.whole b) -> l=b):AVRel I m (.yld o) (.func (.yield l) #[] #[])
 | fn (f:Fn) (first captured:List AV) (fs cs:List Value) (hl:first.length=fs.length) (hl':captured.length=cs.length)
   (h:∀ (i:Nat) (a:AV) (x:Value),first[i]?=some a -> fs[i]?=some x -> AVRel I m a x)
   (h':∀ (i:Nat) (a:AV) (x:Value),captured[i]?=some a -> cs[i]?=some x -> AVRel I m a x) :
   AVRel I m (.fn f first captured) (.func f fs.toArray cs.toArray)
 | ifc (t:TypeId) (v:AV) (x:Value) (h:AVRel I m v x):AVRel I m (.ifc t v) (.iface t x)
def AVRels (I:Imm) (m:aQ) (cs:List AV) (vs:List Value):Prop :=
 cs.length=vs.length /\ ∀ (i:Nat) (a:AV) (x:Value),cs[i]?=some a -> vs[i]?=some x -> AVRel I m a x
def ImmLe (I I':Imm):Prop:=∀ b o y,I b o=some y -> I' b o=some y
def LocsLe (m m':aQ):Prop:=∀ (i:Nat) (l:Loc),m[i]?=some l -> ∃ l',m'[i]?=some l' /\ LocLe l l'
theorem ImmLe.refl (I:Imm):ImmLe I I:=fun _ _ _ h=>h
theorem ImmLe.trans {I I' I'':Imm} (h:ImmLe I I') (h':ImmLe I' I''):ImmLe I I'':=fun _ _ _ x=>h' _ _ _ (h _ _ _ x)
theorem LocsLe.refl (m:aQ):LocsLe m m:=fun i l h=>⟨l,h,.refl l⟩
theorem LocsLe.trans {m m' m'':aQ} (h:LocsLe m m') (h':LocsLe m' m''):LocsLe m m'':=fun i l hl =>
 let ⟨l',h1,h2⟩:=h i l hl
 let ⟨l'',h3,h4⟩:=h' i l' h1
 ⟨l'',h3,h2.trans h4⟩
theorem LocsLe.lt {m m':aQ} (h:LocsLe m m') {o:Nat} (ho:o < m.length):o < m'.length:=by
 obtain ⟨l',h1,_⟩:=h o m[o] (by simp [ho])
 exact (List.getElem?_eq_some_iff.1 h1).1
theorem LocsLe.append (m x:aQ):LocsLe m (m++x):=fun i l h=>by
 have hi:=(List.getElem?_eq_some_iff.1 h).1
 exact ⟨l,by rw [List.getElem?_append_left hi]; exact h,.refl l⟩
theorem LocsLe.cells {m m':aQ} (h:LocsLe m m') {o g b lo n:Nat} (ho:o < m.length) (h':m'[o]?=some (.cells g b lo n)) :
  m[o]?=some (.cells g b lo n) \/ ∃ g' b' lo' n',m[o]?=some (.cells g' b' lo' n') /\ g' < g:=by
 obtain ⟨l',h1,h2⟩:=h o m[o] (by simp [ho])
 rw [h'] at h1
 obtain rfl:=Option.some.inj h1
 have e:m[o]?=some m[o]:=by simp [ho]
 rw [e]
 generalize m[o]=l at h2
 cases h2 with
 | refl=>exact .inl rfl
 | cells hg=>exact .inr ⟨_,_,_,_,rfl,hg⟩
theorem LocsLe.tok {m m':aQ} (h:LocsLe m m') {o n b s e:Nat} (ho:o < m.length) (h':m'[o]?=some (.tok n b s e)) :
  m[o]?=some (.tok n b s e) \/ ∃ n' b' s' e',m[o]?=some (.tok n' b' s' e') /\ n' < n:=by
 obtain ⟨l',h1,h2⟩:=h o m[o] (by simp [ho])
 rw [h'] at h1
 obtain rfl:=Option.some.inj h1
 have e:m[o]?=some m[o]:=by simp [ho]
 rw [e]
 generalize m[o]=l at h2
 cases h2 with
 | refl=>exact .inl rfl
 | tok hg=>exact .inr ⟨_,_,_,_,rfl,hg⟩
theorem LocsLe.whole {m m':aQ} (h:LocsLe m m') {o b:Nat} (ho:o < m.length) (h':m'[o]?=some (.whole b)) :
  m[o]?=some (.whole b):=by
 obtain ⟨l',h1,h2⟩:=h o m[o] (by simp [ho])
 rw [h'] at h1
 obtain rfl:=Option.some.inj h1
 have e:m[o]?=some m[o]:=by simp [ho]
 rw [e]
 generalize m[o]=l at h2
 cases h2
 rfl
end Go.Apx
end
section
namespace Go.Apx
theorem CapRel.mono {m m':aQ} (hm:LocsLe m m') {a:Addr} {len k cap:Nat} {c:Cap} (h:CapRel m a len k cap c):CapRel m' a len k cap c:=by
 cases c with
 | nil=>exact h
 | any=>exact h
 | full=>exact h
 | tok t =>
  obtain ⟨ht,h⟩:=h
  refine ⟨hm.lt ht,fun n b s e h'=>?_⟩
  rcases hm.tok ht h' with h1 | ⟨n',b',s',e',h1,hlt⟩
  .exact h _ _ _ _ h1
  .have:=(h _ _ _ _ h1).1
   exact ⟨by omega,fun hn=>by omega⟩
theorem PtrRel.mono {m m':aQ} (hm:LocsLe m m') {o g off:Nat} {a:Addr} (ho:o < m.length) (h:PtrRel m o g off a):PtrRel m' o g off a:=by
 intro g' b lo n h'
 rcases hm.cells ho h' with h1 | ⟨g'',b',lo',n',h1,hlt⟩
 .exact h _ _ _ _ h1
 .have:=(h _ _ _ _ h1).1
  exact ⟨by omega,fun hn=>by omega⟩
theorem RCapRel.mono {m m':aQ} (hm:LocsLe m m') {o g off len:Nat} {a:Addr} {cap:Nat} {c:RCap} (ho:o < m.length) (h:RCapRel m o g off len a cap c):RCapRel m' o g off len a cap c:=by
 cases c with
 | any=>exact h
 | full=>exact h
 | own k =>
  refine ⟨h.1.mono hm ho,fun b lo n h'=>?_⟩
  rcases hm.cells ho h' with h1 | ⟨g'',b',lo',n',h1,hlt⟩
  .exact h.2 _ _ _ h1
  .have:=(h.1 _ _ _ _ h1).1
   omega
theorem Lies.mono {I I':Imm} (hI:ImmLe I I') {b off:Nat} {vs:List Value} (h:Lies I b off vs):Lies I' b off vs :=
 fun i x hx=>hI _ _ _ (h i x hx)
theorem AVRel.mono {I I':Imm} {m m':aQ} (hI:ImmLe I I') (hm:LocsLe m m') {v:AV} {x:Value} (h:AVRel I m v x):AVRel I' m' v x:=by
 induction h with
 | sc x=>exact .sc x
 | agg cs vs hl h1 h ih=>exact .agg cs vs hl h1 ih
 | tup cs vs hl h ih=>exact .tup cs vs hl ih
 | slnil k=>exact .slnil k
 | sl k es c a cap vs hc hle hk hw h1 hl h hI' hs hcap ih=>exact .sl k es c a cap vs hc hle hk hw h1 hl ih (hI'.mono hI) hs (hcap.mono hm)
 | ip v a vs h1 hl h hI' hs ih=>exact .ip v a vs h1 hl ih (hI'.mono hI) hs
 | ptr o g off a ho h=>exact .ptr o g off a (hm.lt ho) (h.mono hm ho)
 | rf o g off len rc a cap ho hle hf h=>exact .rf o g off len rc a cap (hm.lt ho) hle (hf.mono hm ho) (fun hn=>(h hn).mono hm ho)
 | mp o r ho h=>exact .mp o r (hm.lt ho) fun b hb=>h b (hm.whole ho hb)
 | it o r ho h=>exact .it o r (hm.lt ho) fun b hb=>h b (hm.whole ho hb)
 | yld o r ho h=>exact .yld o r (hm.lt ho) fun b hb=>h b (hm.whole ho hb)
 | fn f first captured fs cs hl hl' h h' ih ih'=>exact .fn f first captured fs cs hl hl' ih ih'
 | ifc t v x h ih=>exact .ifc t v x ih
theorem AVRels.mono {I I':Imm} {m m':aQ} (hI:ImmLe I I') (hm:LocsLe m m') {cs:List AV} {vs:List Value} (h:AVRels I m cs vs):AVRels I' m' cs vs :=
 ⟨h.1,fun i a x ha hx=>(h.2 i a x ha hx).mono hI hm⟩
theorem AVRels.nil {I:Imm} {m:aQ}:AVRels I m [] []:=⟨rfl,fun i a x ha=>by simp at ha⟩
theorem AVRels.cons {I:Imm} {m:aQ} {c:AV} {v:Value} {cs:List AV} {vs:List Value} (h:AVRel I m c v) (hs:AVRels I m cs vs):AVRels I m (c :: cs) (v :: vs):=by
 refine ⟨by simp [hs.1],fun i a x ha hx=>?_⟩
 cases i with
 | zero=>simp at ha hx; subst ha hx; exact h
 | succ i=>exact hs.2 i a x (by simpa using ha) (by simpa using hx)
theorem AVRels.cons_iff {I:Imm} {m:aQ} {c:AV} {cs:List AV} {vs:List Value} :
  AVRels I m (c :: cs) vs ↔ ∃ v vs',vs=v :: vs' /\ AVRel I m c v /\ AVRels I m cs vs':=by
 constructor
 .rintro ⟨hl,h⟩
  cases vs with
  | nil=>simp at hl
  | cons v vs' =>
   exact ⟨v,vs',rfl,h 0 c v rfl rfl,by simpa using hl,fun i a x ha hx=>h (i+1) a x (by simpa using ha) (by simpa using hx)⟩
 .rintro ⟨v,vs',rfl,h,hs⟩; exact .cons h hs
theorem AVRels.nil_iff {I:Imm} {m:aQ} {vs:List Value}:AVRels I m [] vs ↔ vs=[] :=
 ⟨fun h=>List.length_eq_zero_iff.1 h.1.symm,fun h=>h ▸ .nil⟩
theorem AVRels.append {I:Imm} {m:aQ} {cs ds:List AV} {vs us:List Value} (h:AVRels I m cs vs) (h':AVRels I m ds us):AVRels I m (cs++ds) (vs++us):=by
 induction cs generalizing vs with
 | nil=>obtain rfl:=AVRels.nil_iff.1 h; exact h'
 | cons c cs ih =>
  obtain ⟨v,vs',rfl,h1,h2⟩:=AVRels.cons_iff.1 h
  exact .cons h1 (ih h2)
theorem AVRels.take {I:Imm} {m:aQ} {cs:List AV} {vs:List Value} (h:AVRels I m cs vs) (n:Nat):AVRels I m (cs.take n) (vs.take n):=by
 refine ⟨by simp [h.1],fun i a x ha hx=>?_⟩
 simp only [List.getElem?_take] at ha hx
 split at ha <;> simp_all
 exact h.2 i a x ha hx
theorem AVRels.drop {I:Imm} {m:aQ} {cs:List AV} {vs:List Value} (h:AVRels I m cs vs) (n:Nat):AVRels I m (cs.drop n) (vs.drop n):=by
 refine ⟨by simp [h.1],fun i a x ha hx=>?_⟩
 simp only [List.getElem?_drop] at ha hx
 exact h.2 _ a x ha hx
theorem AVRels.get {I:Imm} {m:aQ} {cs:List AV} {vs:List Value} (h:AVRels I m cs vs) {i:Nat} {c:AV} (hc:cs[i]?=some c) :
  ∃ v,vs[i]?=some v /\ AVRel I m c v:=by
 have hi:=(List.getElem?_eq_some_iff.1 hc).1
 have hi':i < vs.length:=h.1 ▸ hi
 exact ⟨vs[i],by simp [hi'],h.2 i c vs[i] hc (by simp [hi'])⟩
theorem AVRel.oneCell {I:Imm} {m:aQ} {c:AV} {v:Value} (h:AVRel I m c v) (h1:c.one=true):v.oneCell'=true:=by
 cases h <;> first | exact h1 | rfl | exact absurd h1 (by simp [AV.one])
abbrev Env:=List (Nat × AV)
def Env.get:Env -> Nat -> Option AV
 | [],_=>none
 | (k,v) :: r,t=>if t=k then some v else Env.get r t
def Env.put:Env -> Nat -> AV -> Env
 | [],t,v=>[(t,v)]
 | (k,u) :: r,t,v=>if t=k then (k,v) :: r else (k,u) :: Env.put r t v
def Env.del:Env -> Nat -> Env
 | [],_=>[]
 | (k,u) :: r,t=>if t=k then Env.del r t else (k,u) :: Env.del r t
theorem Env.get_put (e:Env) (t u:Nat) (v:AV):(e.put t v).get u=if u=t then some v else e.get u:=by
 induction e with
 | nil=>rfl
 | cons p r ih =>
  obtain ⟨k,x⟩:=p
  simp only [Env.put]
  split
  .rename_i h; subst h; simp only [Env.get]; split <;> rfl
  .rename_i h
   simp only [Env.get,ih]
   split
   .rename_i h'; subst h'; rw [if_neg (Ne.symm h)]
   .rfl
theorem Env.get_del (e:Env) (t u:Nat):(e.del t).get u=if u=t then none else e.get u:=by
 induction e with
 | nil=>simp [Env.del,Env.get]
 | cons p r ih =>
  obtain ⟨k,x⟩:=p
  simp only [Env.del]
  split
  .rename_i h; subst h; rw [ih]; simp only [Env.get]; split <;> rfl
  .rename_i h
   simp only [Env.get,ih]
   split
   .rename_i h'; subst h'; rw [if_neg (Ne.symm h)]
   .rfl
def dslot:Nat:=1000000
structure LoopX where
 fn:FuncId
 tmps:Array Value
 params:Array Tmp
 assign:Code
 body:Code
inductive AObj where
 | dead
 | cells (g:Nat) (cs:List AV)
 | tok (n:Nat)
 | amap (es:List (AV × AV))
 | loop (env:Env) (x:LoopX) (st:LoopState) (pd:Option Code)
 | queue
 | siter (s:ByteArray) (pos:Nat)
 | bmap (es:List (AV × AV)) (bs:List Nat) (clock:Nat)
 | miter (mo:Option Nat) (since c0:Nat) (seen:List Nat)
abbrev AHeap:=List AObj
def MapRel (I:Imm) (m:aQ) (es:List (AV × AV)) (ents:List MapEntry) (clock:Nat):Prop :=
 es.length=ents.length /\ (∀ (i:Nat) (p:AV × AV) (e:MapEntry),es[i]?=some p -> ents[i]?=some e -> AVRel I m p.1 e.key /\ AVRel I m p.2 e.val) /\
 (∀ e ∈ ents,e.born < clock) /\ ents.Pairwise (fun a b=>a.born ≠ b.born)
def ObjRel (I:Imm) (m:aQ) (w:World):AObj -> Loc -> Prop
 | .dead,l=>l=.dead
 | .cells g cs,l=>∃ b lo n vs,l=.cells g b lo n /\ cs.length <= n /\ AVRels I m cs vs /\ (∀ c ∈ cs,c.one=true) /\
   (∀ (i:Nat) (x:Value),vs[i]?=some x -> w.cell? ⟨b,lo+i,none⟩=some x) /\
   (∀ i,i < n -> (w.cell? ⟨b,lo+i,none⟩).isSome=true /\ w.frozen? ⟨b,lo+i,none⟩=false)
 | .tok n,l=>∃ b s e,l=.tok n b s e /\ s <= e /\ (∀ o,s <= o -> o < e -> (w.cell? ⟨b,o,none⟩).isSome=true /\ w.frozen? ⟨b,o,none⟩=false)
 | .amap es,l=>∃ b ents clock,l=.whole b /\ w.heap[b]?=some (.map ents clock) /\ MapRel I m es ents.toList clock
 | .loop env x st pd,l=>∃ b d,l=.whole b /\ w.heap[b]?=some (.loop { state:=st,pending:=pd,fn:=x.fn,tmps:=x.tmps,params:=x.params,assign:=x.assign,body:=x.body,defers:=d }) /\
   ∀ t v,t ≠ dslot -> env.get t=some v -> ∃ y,x.tmps[t]?=some y /\ AVRel I m v y
 | .queue,l=>∃ b,l=.whole b /\ w.heap[b]?=some (.deferred (some []))
 | .siter s p,l=>∃ b,l=.whole b /\ w.heap[b]?=some (.stringIter s p)
 | .bmap es bs clock,l=>∃ b ents,l=.whole b /\ w.heap[b]?=some (.map ents clock) /\ MapRel I m es ents.toList clock /\ bs=ents.toList.map (·.born)
 | .miter mo since c0 seen,l=>∃ b mb,l=.whole b /\ w.heap[b]?=some (.mapIter mb since seen.toArray c0) /\ ((mo=none /\ mb=none) \/ ∃ o r,mo=some o /\ mb=some r /\ AVRel I m (.mp o) (.map (some r)))
abbrev Globs:=Nat -> Option AV
structure Inv (G:Globs) (I:Imm) (m:aQ) (h:AHeap) (w:World):Prop where
 len:m.length=h.length
 obj:∀ (i:Nat) (o:AObj) (l:Loc),h[i]?=some o -> m[i]?=some l -> ObjRel I m w o l
 imm:∀ b o v,I b o=some v -> w.cell? ⟨b,o,none⟩=some v
 disj:∀ (i j:Nat) (l l':Loc) (b o:Nat),m[i]?=some l -> m[j]?=some l' -> l.owns b o -> l'.owns b o -> i=j
 immd:∀ (i:Nat) (l:Loc) (b o:Nat),m[i]?=some l -> l.owns b o -> I b o=none
 lt:∀ (i:Nat) (l:Loc) (b o:Nat),m[i]?=some l -> l.owns b o -> b < w.heap.size
 glob:∀ g v,G g=some v -> ∀ m',AVRel I m' v (.pointer (some ⟨g,0,none⟩))
structure Trans (k:Nat) (I:Imm) (m:aQ) (w:World) (I':Imm) (m':aQ) (w':World):Prop where
 os:w'.os=w.os
 tape:w'.tape=w.tape
 output:w'.output=w.output
 size:w.heap.size <= w'.heap.size
 cell:∀ b o,b < w.heap.size -> (∀ (i:Nat) (l:Loc),m[i]?=some l -> ¬ l.owns b o) -> w'.cell? ⟨b,o,none⟩=w.cell? ⟨b,o,none⟩
 froz:∀ a:Addr,a.block < w.heap.size -> w'.frozen? a=w.frozen? a
 blk:∀ b,b < w.heap.size -> (∀ (i:Nat) (l:Loc) (o:Nat),m[i]?=some l -> ¬ l.owns b o) -> w'.heap[b]?=w.heap[b]?
 imm:ImmLe I I'
 own:∀ (i:Nat) (l:Loc) (b o:Nat),m'[i]?=some l -> l.owns b o -> b < w.heap.size -> ∃ (j:Nat) (l':Loc),m[j]?=some l' /\ l'.owns b o
 immNew:∀ b o,b < w.heap.size -> I' b o ≠ none -> I b o ≠ none \/ ∃ (j:Nat) (l':Loc),m[j]?=some l' /\ l'.owns b o
 loc:∀ (i:Nat) (l:Loc),i < k -> m[i]?=some l -> ∃ l',m'[i]?=some l' /\ LocLe l l'
theorem Trans.refl (k:Nat) (I:Imm) (m:aQ) (w:World):Trans k I m w I m w :=
 {os:=rfl,tape:=rfl,output:=rfl,size:=Nat.le_refl _,cell:=fun _ _ _ _=>rfl,froz:=fun _ _=>rfl,blk:=fun _ _ _=>rfl,
  imm:=.refl I,own:=fun i l b o h h' _=>⟨i,l,h,h'⟩,immNew:=fun _ _ _ h=>.inl h,loc:=fun i l _ h=>⟨l,h,.refl l⟩ }
theorem Trans.trans {k:Nat} {I I' I'':Imm} {m m' m'':aQ} {w w' w'':World} (h:Trans k I m w I' m' w') (h':Trans k I' m' w' I'' m'' w''):Trans k I m w I'' m'' w'' where
 os:=h'.os.trans h.os
 tape:=h'.tape.trans h.tape
 output:=h'.output.trans h.output
 size:=Nat.le_trans h.size h'.size
 cell b o hb hn:=by
  have hb':=Nat.lt_of_lt_of_le hb h.size
  rw [h'.cell b o hb' fun i l hi ho=>?_,h.cell b o hb hn]
  obtain ⟨j,l',hj,ho'⟩:=h.own i l b o hi ho hb
  exact hn j l' hj ho'
 froz a ha:=(h'.froz a (Nat.lt_of_lt_of_le ha h.size)).trans (h.froz a ha)
 blk b hb hn:=by
  have hb':=Nat.lt_of_lt_of_le hb h.size
  rw [h'.blk b hb' fun i l o hi ho=>?_,h.blk b hb hn]
  obtain ⟨j,l',hj,ho'⟩:=h.own i l b o hi ho hb
  exact hn j l' o hj ho'
 imm:=h.imm.trans h'.imm
 own i l b o hi ho hb:=by
  obtain ⟨j,l',hj,ho'⟩:=h'.own i l b o hi ho (Nat.lt_of_lt_of_le hb h.size)
  exact h.own j l' b o hj ho' hb
 immNew b o hb hI:=by
  rcases h'.immNew b o (Nat.lt_of_lt_of_le hb h.size) hI with h1 | ⟨j,l',hj,ho'⟩
  .exact h.immNew b o hb h1
  .exact .inr (h.own j l' b o hj ho' hb)
 loc i l hi hl:=by
  obtain ⟨l',h1,h2⟩:=h.loc i l hi hl
  obtain ⟨l'',h3,h4⟩:=h'.loc i l' hi h1
  exact ⟨l'',h3,h2.trans h4⟩
theorem Trans.mono {k k':Nat} {I I':Imm} {m m':aQ} {w w':World} (h:Trans k I m w I' m' w') (hk:k' <= k):Trans k' I m w I' m' w' :=
 {h with loc:=fun i l hi=>h.loc i l (Nat.lt_of_lt_of_le hi hk) }
def Pend (S:Nat) (I:Imm) (m:aQ) (w:World) (B n:Nat):Prop :=
 (S <= B /\ B < w.heap.size) /\ (∀ i,i < n -> (w.cell? ⟨B,i,none⟩).isSome=true /\ w.frozen? ⟨B,i,none⟩=false) /\ (∀ o,I B o=none) /\
 (∀ (i:Nat) (l:Loc) (o:Nat),m[i]?=some l -> ¬ l.owns B o)
def SlotRel (S:Nat) (I:Imm) (m:aQ) (w:World) (v:AV) (x:Value):Prop :=
 match v with
 | .pend n=>∃ B,x=.pointer (some ⟨B,0,none⟩) /\ Pend S I m w B n
 | v=>AVRel I m v x
structure EnvRel (S:Nat) (I:Imm) (m:aQ) (w:World) (env:Env) (tmps:Array Value):Prop where
 get:∀ t v,t ≠ dslot -> env.get t=some v -> ∃ x,tmps[t]?=some x /\ SlotRel S I m w v x
 apart:∀ t t' n n' B,env.get t=some (.pend n) -> env.get t'=some (.pend n') -> tmps[t]?=some (.pointer (some ⟨B,0,none⟩)) ->
  tmps[t']?=some (.pointer (some ⟨B,0,none⟩)) -> t=t'
theorem AVRel.not_pend {I:Imm} {m:aQ} {n:Nat} {x:Value} (h:AVRel I m (.pend n) x):False:=by cases h
theorem SlotRel.of_rel {S:Nat} {I:Imm} {m:aQ} {w:World} {v:AV} {x:Value} (h:AVRel I m v x):SlotRel S I m w v x:=by
 cases v <;> first | exact h | exact h.not_pend.elim
theorem Pend.trans {S k:Nat} {I I':Imm} {m m':aQ} {w w':World} {B n:Nat} (h:Pend S I m w B n) (ht:Trans k I m w I' m' w'):Pend S I' m' w' B n:=by
 obtain ⟨⟨h0,h1⟩,h2,h3,h4⟩:=h
 refine ⟨⟨h0,Nat.lt_of_lt_of_le h1 ht.size⟩,fun i hi=>?_,fun o=>?_,fun i l o hi ho=>?_⟩
 .rw [ht.cell B i h1 fun j l hj=>h4 j l i hj,ht.froz _ h1]; exact h2 i hi
 .cases hc:I' B o with
  | none=>rfl
  | some x =>
   rcases ht.immNew B o h1 (by simp [hc]) with h | ⟨j,l',hj,ho'⟩
   .exact (h (h3 o)).elim
   .exact (h4 j l' o hj ho').elim
 .obtain ⟨j,l',hj,ho'⟩:=ht.own i l B o hi ho h1
  exact h4 j l' o hj ho'
theorem SlotRel.trans {S k:Nat} {I I':Imm} {m m':aQ} {w w':World} {v:AV} {x:Value} (h:SlotRel S I m w v x) (ht:Trans k I m w I' m' w')
  (hm:LocsLe m m'):SlotRel S I' m' w' v x:=by
 cases v with
 | pend n=>obtain ⟨B,hx,hp⟩:=h; exact ⟨B,hx,hp.trans ht⟩
 | _=>exact AVRel.mono ht.imm hm h
theorem EnvRel.trans {S k:Nat} {I I':Imm} {m m':aQ} {w w':World} {env:Env} {tmps:Array Value} (h:EnvRel S I m w env tmps) (ht:Trans k I m w I' m' w')
  (hm:LocsLe m m'):EnvRel S I' m' w' env tmps :=
 ⟨fun t v hd hv=>let ⟨x,hx,hs⟩:=h.get t v hd hv; ⟨x,hx,hs.trans ht hm⟩,h.apart⟩
theorem EnvRel.put {S:Nat} {I:Imm} {m:aQ} {w:World} {env:Env} {tmps:Array Value} (h:EnvRel S I m w env tmps) {t:Nat} {v:AV} {x:Value} (hv:AVRel I m v x)
  (ht:t < tmps.size):EnvRel S I m w (env.put t v) (tmps.setIfInBounds t x):=by
 have hg:∀ u,(tmps.setIfInBounds t x)[u]?=if u=t then some x else tmps[u]?:=by
  intro u
  rw [Array.getElem?_setIfInBounds]
  by_cases h':t=u
  .subst h'; simp [ht]
  .simp [h',Ne.symm h']
 refine ⟨fun u y hd hy=>?_,fun u u' n n' B hu hu' hx hx'=>?_⟩
 .rw [Env.get_put] at hy
  rw [hg]
  split at hy
  .rename_i e; subst e; rw [if_pos rfl]; obtain rfl:=Option.some.inj hy; exact ⟨x,rfl,.of_rel hv⟩
  .rename_i e; rw [if_neg e]; exact h.get u y hd hy
 .rw [Env.get_put] at hu hu'
  rw [hg] at hx hx'
  split at hu
  .obtain rfl:=Option.some.inj hu; exact hv.not_pend.elim
  .split at hu'
   .obtain rfl:=Option.some.inj hu'; exact hv.not_pend.elim
   .rename_i e e'
    rw [if_neg e] at hx; rw [if_neg e'] at hx'
    exact h.apart u u' n n' B hu hu' hx hx'
def EnvLe (e e':Env):Prop:=(∀ t v,e.get t=some v -> e'.get t=some v) /\ e.get dslot=e'.get dslot
theorem EnvRel.weaken {S:Nat} {I:Imm} {m:aQ} {w:World} {env env':Env} {tmps:Array Value} (h:EnvRel S I m w env tmps) (hle:EnvLe env' env):EnvRel S I m w env' tmps :=
 ⟨fun t v hd hv=>h.get t v hd (hle.1 t v hv),fun t t' n n' B ht ht'=>h.apart t t' n n' B (hle.1 _ _ ht) (hle.1 _ _ ht')⟩
def DRel (I:Imm) (m:aQ):AV -> Deferred -> Prop
 | .it o,d=>∃ r,d={ target:=.collected r,args:=#[] } /\ o < m.length /\ ∀ b,m[o]?=some (.whole b) -> r=b
 | .tup (.fn (.func f) fa fb :: args),d=>∃ fs cs as,AVRels I m fa fs /\ AVRels I m fb cs /\ AVRels I m args as /\ d={ target:=.fn (.func f) cs.toArray,args:=fs.toArray++as.toArray }
 | _,_=>False
def DefRel (I:Imm) (m:aQ):Option AV -> List Deferred -> Prop
 | none,ds=>ds=[]
 | some (.tup l),ds=>l.length=ds.length /\ ∀ (i:Nat) (e:AV) (d:Deferred),l[i]?=some e -> ds[i]?=some d -> DRel I m e d
 | some _,_=>False
theorem DRel.mono {I I':Imm} {m m':aQ} (hI:ImmLe I I') (hm:LocsLe m m') {e:AV} {d:Deferred} (h:DRel I m e d):DRel I' m' e d:=by
 unfold DRel at h ⊢
 split at h
 .obtain ⟨r,h1,h2,h3⟩:=h
  exact ⟨r,h1,hm.lt h2,fun b hb=>h3 b (hm.whole h2 hb)⟩
 .obtain ⟨fs,cs,as,h1,h2,h3,h4⟩:=h
  exact ⟨fs,cs,as,h1.mono hI hm,h2.mono hI hm,h3.mono hI hm,h4⟩
 .exact h.elim
theorem DefRel.mono {I I':Imm} {m m':aQ} (hI:ImmLe I I') (hm:LocsLe m m') {e:Option AV} {ds:List Deferred} (h:DefRel I m e ds):DefRel I' m' e ds:=by
 unfold DefRel at h ⊢
 split at h
 .exact h
 .exact ⟨h.1,fun i e d h1 h2=>(h.2 i e d h1 h2).mono hI hm⟩
 .exact h.elim
abbrev Ro:=Option Nat × Option Nat
def RoOk (m:aQ):Ro -> Prop
 | (none,none)=>True
 | (some o,some l)=>o < m.length /\ ∀ b,m[o]?=some (.whole b) -> l=b
 | _=>False
theorem RoOk.mono {m m':aQ} (hm:LocsLe m m') {r:Ro} (h:RoOk m r):RoOk m' r:=by
 unfold RoOk at h ⊢
 split at h
 .trivial
 .exact ⟨hm.lt h.1,fun b hb=>h.2 b (hm.whole h.1 hb)⟩
 .exact h.elim
structure Rel (G:Globs) (N:Nat) (D:Ro) (S:Nat) (I:Imm) (m:aQ) (en:Env) (h:AHeap) (a:Act) (w:World):Prop where
 inv:Inv G I m h w
 env:EnvRel S I m w en a.tmps
 size:a.tmps.size=N
 defers:DefRel I m (en.get dslot) a.defers
 ro:RoOk m D
end Go.Apx
end
section
namespace Go.Apx
inductive Opd where
 | t (n:Nat)
 | c (v:AV)
 | g (n:Nat)
inductive Ty where
 | one
 | agg (n:Nat)
 deriving DecidableEq
def Ty.size:Ty -> Nat
 | .one=>1
 | .agg n=>n
def Ty.isAgg:Ty -> Bool
 | .one=>false
 | .agg _=>true
inductive SlK where
 | str
 | sl (k:Nat)
 | arr (n k:Nat)
 deriving DecidableEq
inductive LenK where
 | str
 | sl
 | map
 | arr (n:Nat)
 deriving DecidableEq
inductive NilK where
 | sl | map | fn | ptr | ifc
 deriving DecidableEq
inductive KeyK where
 | int | str | flat (ks:List Nat)
inductive AOp where
 | mv (x:Opd)
 | pick (c a b:Opd)
 | new (z:List AV)
 | pnew (n:Nat)
 | box (x:Opd)
 | boxm (x:Opd)
 | build (z:List AV) (parts:List (Nat × Nat × Opd))
 | bslice (k len:Nat) (z:AV) (parts:List (Nat × Opd))
 | mslice (k len:Nat) (z:AV) (parts:List (Nat × Opd))
 | load (ty:Ty) (x:Opd)
 | store (n:Nat) (a x:Opd)
 | pstore (n d:Nat) (x:Opd)
 | bin (op:BinOp) (x y:Opd)
 | eqb (neq:Bool) (x y:Opd)
 | eqnil (k:NilK) (neq:Bool) (x y:Opd)
 | eqagg (ks:List Nat) (neq:Bool) (x y:Opd)
 | un (op:UnOp) (x:Opd)
 | conv (k:IntKind) (x:Opd)
 | same (x:Opd)
 | nilc (x:Opd)
 | rangeS (x:Opd)
 | nextS (x:Opd)
 | rangeM (x:Opd)
 | nextM (x:Opd)
 | entryM (x:Opd)
 | convRS (x:Opd)
 | clearM (x:Opd)
 | clearS (k:Nat) (z:List AV) (x:Opd)
 | delM (ks:KeyK) (m k:Opd)
 | capn (x:Opd)
 | mkIface (t:TypeId) (x:Opd)
 | mkFunc (fn:Fn) (first captured:List Opd)
 | mkMap
 | mkSlice (k bytes:Nat) (z:List AV) (len cap:Opd)
 | faddr (off:Nat) (ty:Ty) (x:Opd)
 | field (off:Nat) (ty:Ty) (x:Opd)
 | iaddr (k:Nat) (x i:Opd)
 | iaddrA (n:Nat) (ty:Ty) (x i:Opd)
 | index (n:Nat) (ty:Ty) (x i:Opd)
 | indexS (x i:Opd)
 | lookup (ks:KeyK) (z:AV) (ok:Bool) (m k:Opd)
 | mapUpd (ks:KeyK) (m k v:Opd)
 | extract (x:Opd) (i:Nat)
 | len (k:LenK) (x:Opd)
 | append (k bytes:Nat) (x y:Opd)
 | mappend (k bytes:Nat) (x y:Opd)
 | happend (k bytes:Nat) (x y:Opd)
 | zappend (k bytes:Nat) (z:List AV) (x y:Opd)
 | copy (k:Nat) (x y:Opd)
 | mx (isMax:Bool) (x y:Opd)
 | slice (k:SlK) (x:Opd) (lo hi mx:Option Opd)
 | kslice (k:Nat) (x:Opd) (lo hi mx:Option Opd)
 | tassert (t:TypeId) (z:AV) (ok:Bool) (x:Opd)
 | panic (x:Opd)
 | call (f:Opd) (args:List Opd)
 | defer (f:Opd) (args:List Opd)
 | recover
def ofCell:Value -> AV
 | .slice none 0 0=>.sl 0 [] .nil
 | v=>.sc v
def ofValue:Value -> AV
 | .agg cs=>.agg (cs.toList.map ofCell)
 | v=>ofCell v
def okConst:Value -> Bool
 | .agg cs=>cs.toList.all fun c=>c.oneCell'
 | v=>v.oneCell'
def aF:Operand -> Option Opd
 | .tmp n=>if n < dslot then some (.t n) else none
 | .const v=>if okConst v then some (.c (ofValue v)) else none
 | .global n=>some (.g n)
 | .func f=>some (.c (.fn (.func f) [] []))
def optC:Option Operand -> Option (Option Opd)
 | none=>some none
 | some x=>(aF x).map some
def bC (P:Program) (t:TypeId):Option Ty :=
 match P.underlying t,P.info? t with
 | some (.struct _),some i | some (.array _ _),some i=>some (.agg i.size)
 | some _,some i=>if i.size=1 then some .one else none
 | _,_=>none
def cB (P:Program) (t:TypeId):Option Ty :=
 match bC P t with
 | some ty=>if 0 < ty.size then some ty else none
 | none=>none
def az (P:Program) (t:TypeId):Option AV :=
 match P.info? t with
 | some i=>match i.zero with
  | some v=>if okConst v then some (ofValue v) else none
  | none=>none
 | none=>none
def mapM' {α β:Type} (f:α -> Option β):List α -> Option (List β)
 | []=>some []
 | x :: r=>match f x,mapM' f r with
  | some y,some ys=>some (y :: ys)
  | _,_=>none
inductive EqK where
 | basic | bool | nilable (k:NilK) | agg
def eqKind (P:Program):Nat -> TypeId -> Option EqK
 | 0,_=>none
 | d+1,t =>
  match P.underlying t with
  | some (.int _) | some .string=>some .basic
  | some .bool=>some .bool
  | some (.slice _)=>some (.nilable .sl)
  | some (.map _ _)=>some (.nilable .map)
  | some (.func _ _ _)=>some (.nilable .fn)
  | some (.pointer _)=>some (.nilable .ptr)
  | some (.interface _)=>some (.nilable .ifc)
  | some (.struct fs)=>if P.stoodInHeld t then none else
    if fs.toList.all fun f=>f.name != "_" && (match eqKind P d f.type with | some .basic | some .bool | some .agg=>true | _=>false) then some .agg else none
  | some (.array n e)=>(match eqKind P d e with | some .basic | some .bool | some .agg=>some .agg | _=>none)
  | _=>none
def isNilConst:Operand -> Bool
 | .const .nilIface | .const .nilFunc | .const (.pointer none) | .const (.map none) | .const (.slice none _ _)=>true
 | _=>false
def flatFs (P:Program):List Field -> Nat -> Option (List Nat)
 | [],_=>some []
 | f :: r,i=>if f.offset=i /\ f.name ≠ "_" /\ bC P f.type=some .one then
   match P.underlying f.type,flatFs P r (i+1) with
   | some (.int _),some l=>some (0 :: l)
   | some .string,some l=>some (1 :: l)
   | some .bool,some l=>some (2 :: l)
   | _,_=>none
  else none
def flatOf (P:Program) (t:TypeId):Option (List Nat) :=
 match P.underlying t with
 | some (.struct fs)=>if P.stoodInHeld t=false /\ P.eqGuardType P.depth t=false then flatFs P fs.toList 0 else none
 | _=>none
def bc (P:Program) (t:TypeId):Option KeyK :=
 match P.underlying t with
 | some .string=>some .str
 | some (.int _)=>some .int
 | some (.struct _)=>(flatOf P t).map .flat
 | some (.array n e)=>match P.underlying e with
  | some (.int _)=>if bC P e=some .one then some (.flat (List.replicate n 0)) else none
  | _=>none
 | _=>none
def compBin (P:Program) (op:BinOp) (t:TypeId) (x y:Operand):Option AOp :=
 match aF x,aF y with
 | some x',some y' =>
  match op with
  | .eql | .neq =>
   match eqKind P 10 t with
   | some .basic=>some (.bin op x' y')
   | some .bool=>some (.eqb (op matches .neq) x' y')
   | some (.nilable k)=>if isNilConst x || isNilConst y then some (.eqnil k (op matches .neq) x' y') else none
   | some .agg=>(flatOf P t).map fun n=>.eqagg n (op matches .neq) x' y'
   | none=>none
  | _=>some (.bin op x' y')
 | _,_=>none
def fieldOf (P:Program) (t:TypeId) (f:Nat):Option (Nat × Ty) :=
 match P.underlying t with
 | some (.struct fields)=>match fields[f]? with
  | some fd=>match bC P fd.type with
   | some ty=>if 0 < ty.size then some (fd.offset,ty) else none
   | none=>none
  | none=>none
 | _=>none
def Val.small (bytes:Nat):Bool:=bytes <= 4096
def aR (P:Program) (ann:List Nat) (o:Oper):Option AOp :=
 match o.op with
 | .move x | .assign x=>(aF x).map .mv
 | .nilCheck x=>(aF x).map .nilc
 | .pick c a b=>match aF c,aF a,aF b with | some c,some a,some b=>some (.pick c a b) | _,_,_=>none
 | .alloc e=>match az P e,o.dst with
  | some z,some d=>if ann.contains d then some (.pnew z.cells.length) else some (.new z.cells)
  | _,_=>none
 | .box _ x=>match aF x,o.dst with
  | some x,some d=>if ann.contains d then some (.box x) else some (.boxm x)
  | _,_=>none
 | .build t parts=>match P.underlying t,az P t with
  | some (.struct fields),some z=>if !(fields.toList.all fun f=>(P.info? f.type).isSome) then none else
   (mapM' (fun (p:Nat × Operand)=>match fieldOf P t p.1,aF p.2 with | some (off,ty),some x=>some (off,ty.size,x) | _,_=>none) parts.toList).map (.build z.cells)
  | some (.array _ elem),some z=>match bC P elem with
   | some ty=>(mapM' (fun (p:Nat × Operand)=>match aF p.2 with | some x=>some (p.1 * ty.size,ty.size,x) | _=>none) parts.toList).map (.build z.cells)
   | none=>none
  | _,_=>none
 | .buildSlice t len parts=>match P.underlying t with
  | some (.slice elem)=>match bC P elem,az P elem with
   | some ty,some z=>if len * ty.size > 2 ^ 24 \/ z.cells.length ≠ ty.size \/ ty.size=0 then none else
     (mapM' (fun (p:Nat × Operand)=>match aF p.2 with | some x=>some (p.1,x) | _=>none) parts.toList).map fun ps=>if o.dst.any ann.contains=true then .mslice ty.size len z ps else .bslice ty.size len z ps
   | _,_=>none
  | _=>none
 | .load t x=>match bC P t,aF x with | some ty,some x=>some (.load ty x) | _,_=>none
 | .store t a x=>match bC P t,aF x with
  | some ty,some x=>match aF a with
   | some (.t d)=>if ann.contains d then some (.pstore ty.size d x) else some (.store ty.size (.t d) x)
   | _=>none
  | _,_=>none
 | .binOp op t x y _=>compBin P op t x y
 | .unOp op _ x=>(aF x).map (.un op)
 | .convert src dst x=>match P.underlying src,P.underlying dst,aF x with
  | some (.int _),some (.int k),some x=>some (.conv k x)
  | some .string,some .string,some x=>some (.same x)
  | some (.int _),some .string,some x=>some (.convRS x)
  | _,_,_=>none
 | .range t x=>match P.underlying t,aF x with
  | some .string,some x=>some (.rangeS x)
  | some (.map _ _),some x=>some (.rangeM x)
  | _,_=>none
 | .next x isS=>if isS=true then (aF x).map .nextS else (aF x).map .nextM
 | .entry x=>(aF x).map .entryM
 | .makeInterface t x=>match P.underlying t,aF x with
  | some (.interface _),_=>none
  | some _,some x=>some (.mkIface t x)
  | _,_=>none
 | .makeFunc f first captured=>match mapM' aF first.toList,mapM' aF captured.toList with
  | some a,some b=>some (.mkFunc f a b)
  | _,_=>none
 | .makeMap _ none=>some .mkMap
 | .makeSlice t l c=>match P.underlying t with
  | some (.slice elem)=>match bC P elem,az P elem,P.info? elem,aF l,aF c with
   | some ty,some z,some i,some l,some c=>if Val.small i.bytes /\ z.cells.length=ty.size /\ 0 < ty.size then some (.mkSlice ty.size i.bytes z.cells l c) else none
   | _,_,_,_,_=>none
  | _=>none
 | .slice t x lo hi mx=>match aF x,optC lo,optC hi,optC mx with
  | some x,some lo,some hi,some mx=>match P.underlying t with
   | some .string=>some (.slice .str x lo hi mx)
   | some (.slice e)=>(cB P e).map fun ty=>if o.dst.any ann.contains=true then .kslice ty.size x lo hi mx else .slice (.sl ty.size) x lo hi mx
   | some (.array n e)=>(cB P e).map fun ty=>.slice (.arr n ty.size) x lo hi mx
   | _=>none
  | _,_,_,_=>none
 | .fieldAddr t x f=>match fieldOf P t f,aF x with | some (off,ty),some x=>some (.faddr off ty x) | _,_=>none
 | .field t x f=>match fieldOf P t f,aF x with | some (off,ty),some x=>some (.field off ty x) | _,_=>none
 | .indexAddr t x i=>match P.underlying t,aF x,aF i with
  | some (.slice e),some x,some i=>(cB P e).map fun ty=>.iaddr ty.size x i
  | some (.array n e),some x,some i=>(cB P e).map fun ty=>.iaddrA n ty x i
  | _,_,_=>none
 | .index t x i=>match P.underlying t,aF x,aF i with
  | some .string,some x,some i=>some (.indexS x i)
  | some (.array n e),some x,some i=>(cB P e).map fun ty=>.index n ty x i
  | _,_,_=>none
 | .lookup t m k ok=>match P.underlying t,aF m,aF k with
  | some (.map key e),some m,some k=>match bc P key,az P e with
   | some ks,some z=>some (.lookup ks z ok m k)
   | _,_=>none
  | _,_,_=>none
 | .mapUpdate t m k v=>match P.underlying t,aF m,aF k,aF v with
  | some (.map key _),some m,some k,some v=>match bc P key with
   | some ks=>some (.mapUpd ks m k v)
   | _=>none
  | _,_,_,_=>none
 | .typeAssert x _ t ok=>match P.underlying t,az P t,aF x with
  | some (.interface _),_,_=>none
  | some _,some z,some x=>some (.tassert t z ok x)
  | _,_,_=>none
 | .extract x i=>(aF x).map (.extract · i)
 | .panic x=>(aF x).map .panic
 | .call c=>match c.callee with
  | .value f=>match aF f,mapM' aF c.args.toList with
   | some f,some args=>some (.call f args)
   | _,_=>none
  | .builtin .len=>match c.args.toList.map aF,c.argTypes.toList with
   | [some x],[t]=>match P.underlying t with
    | some .string=>some (.len .str x)
    | some (.slice _)=>some (.len .sl x)
    | some (.map _ _)=>some (.len .map x)
    | some (.array n _)=>some (.len (.arr n) x)
    | _=>none
   | _,_=>none
  | .builtin .clear=>match c.args.toList.map aF,c.argTypes.toList with
   | [some x],[t]=>match P.underlying t with
    | some (.map _ _)=>some (.clearM x)
    | some (.slice e)=>match cB P e,az P e with
     | some ty,some z=>if z.cells.length=ty.size then some (.clearS ty.size z.cells x) else none
     | _,_=>none
    | _=>none
   | _,_=>none
  | .builtin .delete=>match c.args.toList.map aF,c.argTypes.toList with
   | [some x,some y],[t,_]=>match P.underlying t with
    | some (.map kt _)=>(bc P kt).map fun ks=>.delM ks x y
    | _=>none
   | _,_=>none
  | .builtin .cap=>match c.args.toList.map aF,c.argTypes.toList with
   | [some x],[t]=>match P.underlying t with
    | some (.slice _)=>some (.capn x)
    | _=>none
   | _,_=>none
  | .builtin .append=>match c.args.toList.map aF,c.argTypes.toList with
   | [some x,some y],[t,u]=>match P.underlying t,P.underlying u with
    | some (.slice e),some (.slice _)=>match bC P e,P.info? e with
     | some ty,some i=>match i.zero with
      | some z=>if Val.small i.bytes /\ 0 < i.bytes /\ z.cells.size=ty.size /\ 0 < ty.size then some (if o.dst.any ann.contains=true then .mappend ty.size i.bytes x y else if o.dst.any (fun d=>ann.contains (d+dslot))=true then .happend ty.size i.bytes x y else .append ty.size i.bytes x y) else none
      | none=>none
     | _,_=>none
    | some (.slice e),some (.int .i64)=>match bC P e,az P e,P.info? e with
     | some ty,some z,some i=>if Val.small i.bytes /\ 0 < i.bytes /\ z.cells.length=ty.size /\ 0 < ty.size then some (.zappend ty.size i.bytes z.cells x y) else none
     | _,_,_=>none
    | _,_=>none
   | _,_=>none
  | .builtin .copy=>match c.args.toList.map aF,c.argTypes.toList with
   | [some x,some y],[t,u]=>match P.underlying t,P.underlying u with
    | some (.slice e),some (.slice _)=>(cB P e).map fun ty=>.copy ty.size x y
    | _,_=>none
   | _,_=>none
  | .builtin .max=>match c.args.toList.map aF with | [some x,some y]=>some (.mx true x y) | _=>none
  | .builtin .min=>match c.args.toList.map aF with | [some x,some y]=>some (.mx false x y) | _=>none
  | .builtin .recover=>some .recover
  | _=>none
 | .defer c=>match c.callee with
  | .value f=>match aF f,mapM' aF c.args.toList with
   | some f,some args=>some (.defer f args)
   | _,_=>none
  | _=>none
 | _=>none
def aD (G:Globs) (env:Env):Opd -> Option AV
 | .t n=>match env.get n with
  | some v=>if v.isPend=true then none else some v
  | none=>none
 | .c v=>some v
 | .g n=>G n
def cut (cs:List AV) (off n:Nat):List AV:=(cs.drop off).take n
def shiftV (op:BinOp) (k:IntKind) (x y:Int):Option Value :=
 if y < 0 then none else
 match op with
 | .shl=>some (.int k (k.wrap (x * 2 ^ (min y.toNat k.bits))))
 | .shr=>some (.int k (x.fdiv (2 ^ (min y.toNat k.bits))))
 | _=>none
def intV (op:BinOp) (k:IntKind) (x y:Int):Option Value :=
 match op with
 | .add=>some (.int k (k.wrap (x+y)))
 | .sub=>some (.int k (k.wrap (x - y)))
 | .mul=>some (.int k (k.wrap (x * y)))
 | .quo=>if y=0 then none else some (.int k (k.wrap (x.tdiv y)))
 | .rem=>if y=0 then none else some (.int k (x.tmod y))
 | .and=>some (.int k (k.wrap (BitVec.ofInt k.bits x &&& BitVec.ofInt k.bits y).toNat))
 | .or=>some (.int k (k.wrap (BitVec.ofInt k.bits x ||| BitVec.ofInt k.bits y).toNat))
 | .xor=>some (.int k (k.wrap (BitVec.ofInt k.bits x ^^^ BitVec.ofInt k.bits y).toNat))
 | .andNot=>some (.int k (k.wrap (BitVec.ofInt k.bits x &&& ~~~ BitVec.ofInt k.bits y).toNat))
 | .eql=>some (.bool (x == y))
 | .neq=>some (.bool (x != y))
 | .lss=>some (.bool (x < y))
 | .leq=>some (.bool (x <= y))
 | .gtr=>some (.bool (x > y))
 | .geq=>some (.bool (x >= y))
 | _=>none
def strV (op:BinOp) (x y:ByteArray):Option Value :=
 match op with
 | .add=>if ((x.size+y.size:Nat):Int) > IntKind.i64.max then none else some (.string (x++y))
 | .eql=>some (.bool (x.toList == y.toList))
 | .neq=>some (.bool !(x.toList == y.toList))
 | .lss=>some (.bool (Op.bytesLess x.toList y.toList))
 | .leq=>some (.bool (Op.bytesLess x.toList y.toList || x.toList == y.toList))
 | .gtr=>some (.bool !(Op.bytesLess x.toList y.toList || x.toList == y.toList))
 | .geq=>some (.bool !(Op.bytesLess x.toList y.toList))
 | _=>none
def isShift:BinOp -> Bool
 | .shl | .shr=>true
 | _=>false
def binV (op:BinOp) (x y:Value):Option Value :=
 match x,y with
 | .int k a,.int k' b=>if isShift op then shiftV op k a b else if k=k' then intV op k a b else none
 | .string a,.string b=>strV op a b
 | _,_=>none
def unV (op:UnOp) (x:Value):Option Value :=
 match op,x with
 | .neg,.int k n=>some (.int k (k.wrap (0 - n)))
 | .xor,.int k n=>some (.int k (k.wrap (BitVec.ofInt k.bits (if k.signed then -1 else k.max) ^^^ BitVec.ofInt k.bits n).toNat))
 | .not,.bool b=>some (.bool !b)
 | _,_=>none
def isNilK:NilK -> AV -> Option Bool
 | .sl,.sl _ _ c=>some (c == .nil)
 | .sl,.rf _ _ _ _ _=>some false
 | .map,.sc v=>match v with
  | .map none=>some true
  | _=>none
 | .map,.mp _=>some false
 | .fn,.sc v=>match v with
  | .nilFunc=>some true
  | _=>none
 | .fn,.fn _ _ _=>some false
 | .ptr,.sc v=>match v with
  | .pointer none=>some true
  | _=>none
 | .ptr,.ip _=>some false
 | .ptr,.ptr _ _ _=>some false
 | .ifc,.sc v=>match v with
  | .nilIface=>some true
  | _=>none
 | .ifc,.ifc _ _=>some false
 | _,_=>none
def cellEq:Nat -> AV -> AV -> Option Bool
 | 0,.sc (.int k a),.sc (.int k' b)=>if k=k' then some (a == b) else none
 | 1,.sc (.string a),.sc (.string b)=>some (a.toList == b.toList)
 | 2,.sc (.bool a),.sc (.bool b)=>some (a == b)
 | _,_,_=>none
def cC:List Nat -> List AV -> List AV -> Option Bool
 | [],[],[]=>some true
 | k :: ks,c :: cs,d :: ds=>match cellEq k c d,cC ks cs ds with
  | some p,some q=>some (p && q)
  | _,_=>none
 | _,_,_=>none
def kindOf:AV -> Nat
 | .sc (.int _ _)=>0
 | .sc (.string _)=>1
 | .sc (.bool _)=>2
 | _=>3
def keyEq:AV -> AV -> Option Bool
 | .sc (.int k a),.sc (.int k' b)=>if k=k' then some (a == b) else none
 | .sc (.string a),.sc (.string b)=>some (a == b)
 | .agg cs,.agg ds=>cC (cs.map kindOf) cs ds
 | _,_=>none
def amapFind (k:AV):List (AV × AV) -> Option (Option AV)
 | []=>some none
 | (k',v) :: r=>match keyEq k k' with
  | some true=>some (some v)
  | some false=>amapFind k r
  | none=>none
def amapSet (k v:AV):List (AV × AV) -> Option (List (AV × AV))
 | []=>some [(k,v)]
 | (k',v') :: r=>match keyEq k k' with
  | some true=>some ((k,v) :: r)
  | some false=>(amapSet k v r).map ((k',v') :: ·)
  | none=>none
def amapDel (k:AV):List (AV × AV) -> Option (List (AV × AV))
 | []=>some []
 | (k',v') :: r=>match keyEq k k' with
  | some true=>some r
  | some false=>(amapDel k r).map ((k',v') :: ·)
  | none=>none
def isKey:KeyK -> AV -> Bool
 | .int,.sc (.int _ _)=>true
 | .str,.sc (.string _)=>true
 | .flat ks,.agg cs=>decide (cs.map kindOf=ks)
 | _,_=>false
def fillA (cs:List AV):List (Nat × Nat × AV) -> Option (List AV)
 | []=>some cs
 | (off,n,v) :: r=>if v.cells.length=n /\ off+n <= cs.length then fillA (cs.take off++v.cells++cs.drop (off+n)) r else none
def fillE (k:Nat) (es:List AV):List (Nat × AV) -> Option (List AV)
 | []=>some es
 | (i,v) :: r=>if v.cells.length=k /\ i < es.length then fillE k (es.set i v) r else none
def partOf (ty:Ty) (cs:List AV) (off:Nat):Option AV :=
 match ty with
 | .one=>cs[off]?
 | .agg n=>if off+n <= cs.length then some (.agg (cut cs off n)) else none
def asNat (v:AV):Option Nat :=
 match v with
 | .sc (.int _ n)=>if 0 <= n then some n.toNat else none
 | _=>none
def allOne (cs:List AV):Bool:=cs.all AV.one
def rows (k:Nat):Nat -> List AV -> List AV
 | 0,_=>[]
 | n+1,cs=>(if k=1 then cs.headD (.tup []) else .agg (cs.take k)) :: rows k n (cs.drop k)
def elems (h:AHeap) (k:Nat):AV -> Option (List AV)
 | .sl k' es _=>if k'=k \/ es=[] then some es else none
 | .rf o g off len _=>if len=0 then some [] else match h[o]? with
  | some (.cells g' cs)=>if g'=g /\ off+len * k <= cs.length /\ 0 < k then some (rows k len (cs.drop off)) else none
  | _=>none
 | _=>none
def maxLenA:Nat:=4294967296
def bt (d:Nat):Option (Option AV) -> Option Nat
 | none=>some d
 | some (some v)=>asNat v
 | some none=>none
def oneOpd (G:Globs) (env:Env) (x:Opd):Option AV :=
 match aD G env x with
 | some v=>if allOne v.cells then some v else none
 | none=>none
def aA (G:Globs) (env:Env) (h:AHeap):AOp -> Option (AV × AHeap)
 | .mv x=>(aD G env x).map (·,h)
 | .pick c a b=>match aD G env c with
  | some (.sc (.bool t))=>(aD G env (if t then a else b)).map (·,h)
  | _=>none
 | .new z=>some (.ptr h.length 0 0,h++[.cells 0 z])
 | .pnew _=>none
 | .box x=>match aD G env x with
  | some v=>if allOne v.cells then some (.ip v,h) else none
  | none=>none
 | .boxm x=>match aD G env x with
  | some v=>if allOne v.cells then some (.ptr h.length 0 0,h++[.cells 0 v.cells]) else none
  | none=>none
 | .build z parts=>match mapM' (fun (p:Nat × Nat × Opd)=>(oneOpd G env p.2.2).map fun v=>(p.1,p.2.1,v)) parts with
  | some ps=>(fillA z ps).map fun cs=>(.agg cs,h)
  | none=>none
 | .bslice k len z parts=>match mapM' (fun (p:Nat × Opd)=>(oneOpd G env p.2).map fun v=>(p.1,v)) parts with
  | some ps=>(fillE k (List.replicate len z) ps).map fun es=>(.sl k es .full,h)
  | none=>none
 | .mslice k len z parts=>match mapM' (fun (p:Nat × Opd)=>(oneOpd G env p.2).map fun v=>(p.1,v)) parts with
  | some ps=>(fillE k (List.replicate len z) ps).map fun es=>(.rf h.length 0 0 len .full,h++[.cells 0 (es.flatMap AV.cells)])
  | none=>none
 | .load ty x=>match aD G env x with
  | some (.ip v)=>match ty with
   | .one=>if v.one then some (v,h) else none
   | .agg n=>match v with
    | .agg cs=>if cs.length=n then some (v,h) else none
    | _=>none
  | some (.ptr o g off)=>match h[o]? with
   | some (.cells g' cs)=>if g'=g then (partOf ty cs off).map (·,h) else none
   | _=>none
  | _=>none
 | .store n a x=>match aD G env a,aD G env x with
  | some (.ptr o g off),some v=>match h[o]? with
   | some (.cells g' cs)=>if g'=g /\ v.cells.length=n /\ off+n <= cs.length /\ allOne v.cells=true then
     some (.tup [],h.set o (.cells g (cs.take off++v.cells++cs.drop (off+n)))) else none
   | _=>none
  | _,_=>none
 | .pstore _ _ _=>none
 | .bin op x y=>match aD G env x,aD G env y with
  | some (.sc a),some (.sc b)=>(binV op a b).map fun v=>(.sc v,h)
  | _,_=>none
 | .eqb neq x y=>match aD G env x,aD G env y with
  | some (.sc (.bool a)),some (.sc (.bool b))=>some (.sc (.bool (neq != (a == b))),h)
  | _,_=>none
 | .eqnil k neq x y=>match aD G env x,aD G env y with
  | some a,some b=>match isNilK k a,isNilK k b with
   | some p,some q=>some (.sc (.bool (neq != (p && q))),h)
   | _,_=>none
  | _,_=>none
 | .eqagg ks neq x y=>match aD G env x,aD G env y with
  | some (.agg cs),some (.agg ds)=>(cC ks cs ds).map fun b=>(.sc (.bool (neq != b)),h)
  | _,_=>none
 | .un op x=>match aD G env x with
  | some (.sc a)=>(unV op a).map fun v=>(.sc v,h)
  | _=>none
 | .conv k x=>match aD G env x with
  | some (.sc (.int _ n))=>some (.sc (.int k (k.wrap n)),h)
  | _=>none
 | .clearM x=>match aD G env x with
  | some (.mp o)=>match h[o]? with
   | some (.amap _)=>some (.tup [],h.set o (.amap []))
   | _=>none
  | _=>none
 | .clearS k z x=>match aD G env x with
  | some (.sl _ [] _)=>some (.tup [],h)
  | some (.rf o g off len _)=>if len=0 then some (.tup [],h) else match h[o]? with
   | some (.cells g' cs)=>if g'=g /\ off+len * k <= cs.length then
     some (.tup [],h.set o (.cells g (cs.take off++(List.replicate len z).flatten++cs.drop (off+len * k)))) else none
   | _=>none
  | _=>none
 | .delM ks m k=>match aD G env m,aD G env k with
  | some (.mp o),some k=>if isKey ks k then
    match h[o]? with
    | some (.amap es)=>(amapDel k es).map fun es'=>(.tup [],h.set o (.amap es'))
    | _=>none
   else none
  | _,_=>none
 | .capn x=>match aD G env x with
  | some (.sl _ [] .nil)=>some (.sc (.int .i64 0),h)
  | some (.sl _ es .full)=>some (.sc (.int .i64 es.length),h)
  | some (.rf _ _ _ len .full)=>some (.sc (.int .i64 len),h)
  | _=>none
 | .rangeS x=>match aD G env x with
  | some (.sc (.string s))=>some (.it h.length,h++[.siter s 0])
  | _=>none
 | .nextS x=>match aD G env x with
  | some (.it o)=>match h[o]? with
   | some (.siter s p)=>if p < s.size then
     some (.tup [.sc (.bool true),.sc (.int .i64 p),.sc (.int .i32 (Utf8.decode s p).1)],h.set o (.siter s (p+(Utf8.decode s p).2))) else some (.tup [.sc (.bool false)],h)
   | _=>none
  | _=>none
 | .rangeM x=>none
 | .nextM x=>none
 | .entryM x=>match aD G env x with
  | some (.it o)=>match h[o]? with
   | some (.miter (some mo) _ c0 seen)=>match h[mo]?,seen.getLast? with
    | some (.bmap es bs clock),some b=>if c0=clock then (bs.findIdx? (· == b)).bind fun i=>(es[i]?).map fun p=>(.tup [p.1,p.2],h) else none
    | _,_=>none
   | _=>none
  | _=>none
 | .convRS x=>match aD G env x with
  | some (.sc (.int _ n))=>some (.sc (.string (Utf8.encode n)),h)
  | _=>none
 | .nilc x=>match aD G env x with
  | some (.ptr o g off)=>some (.ptr o g off,h)
  | some (.ip v)=>some (.ip v,h)
  | _=>none
 | .same x=>match aD G env x with
  | some (.sc (.string s))=>some (.sc (.string s),h)
  | _=>none
 | .mkIface t x=>(aD G env x).map fun v=>(.ifc t v,h)
 | .mkFunc f a b=>match mapM' (aD G env) a,mapM' (aD G env) b with
  | some a,some b=>some (.fn f a b,h)
  | _,_=>none
 | .mkMap=>some (.mp h.length,h++[.amap []])
 | .mkSlice k bytes z len cap=>match aD G env len,aD G env cap with
  | some (.sc (.int .i64 l)),some (.sc (.int .i64 c))=>if 0 <= l /\ l <= c /\ c <= maxLenA then
    some (.rf h.length 0 0 l.toNat (if l=c then .full else .any),h++[.cells 0 (List.replicate c.toNat z).flatten]) else none
  | _,_=>none
 | .faddr off ty x=>match aD G env x with
  | some (.ip (.agg cs))=>(partOf ty cs off).map fun v=>(.ip v,h)
  | some (.ptr o g off')=>some (.ptr o g (off'+off),h)
  | _=>none
 | .field off ty x=>match aD G env x with
  | some (.agg cs)=>(partOf ty cs off).map (·,h)
  | _=>none
 | .iaddr k x i=>match aD G env x,(aD G env i).bind asNat with
  | some (.sl k' es _),some n=>if k'=k then (es[n]?).map fun e=>(.ip e,h) else none
  | some (.rf o g off len _),some n=>if n < len then some (.ptr o g (off+n * k),h) else none
  | _,_=>none
 | .iaddrA n ty x i=>match aD G env x,(aD G env i).bind asNat with
  | some (.ip (.agg cs)),some j=>if j < n then (partOf ty cs (j * ty.size)).map fun v=>(.ip v,h) else none
  | some (.ptr o g off),some j=>if j < n then some (.ptr o g (off+j * ty.size),h) else none
  | _,_=>none
 | .index n ty x i=>match aD G env x,(aD G env i).bind asNat with
  | some (.agg cs),some j=>if j < n then (partOf ty cs (j * ty.size)).map (·,h) else none
  | _,_=>none
 | .indexS x i=>match aD G env x,(aD G env i).bind asNat with
  | some (.sc (.string s)),some j=>(s[j]?).map fun b=>(.sc (.int .u8 b.toNat),h)
  | _,_=>none
 | .lookup ks z ok m k=>match aD G env m,aD G env k with
  | some m,some k=>if isKey ks k then
    match (match m with
     | .sc (.map none)=>some []
     | .mp o=>match h[o]? with | some (.amap es)=>some es | _=>none
     | _=>none) with
    | some es=>match amapFind k es with
     | some r=>some (if ok then .tup [r.getD z,.sc (.bool r.isSome)] else r.getD z,h)
     | none=>none
    | none=>none
   else none
  | _,_=>none
 | .mapUpd ks m k v=>match aD G env m,aD G env k,aD G env v with
  | some (.mp o),some k,some v=>if isKey ks k then
    match h[o]? with
    | some (.amap es)=>(amapSet k v es).map fun es'=>(.tup [],h.set o (.amap es'))
    | _=>none
   else none
  | _,_,_=>none
 | .extract x i=>match aD G env x with
  | some (.tup vs)=>(vs[i]?).map (·,h)
  | _=>none
 | .len k x=>match k,aD G env x with
  | .str,some (.sc (.string s))=>some (.sc (.int .i64 s.size),h)
  | .sl,some (.sl _ es _)=>some (.sc (.int .i64 es.length),h)
  | .sl,some (.rf _ _ _ len _)=>some (.sc (.int .i64 len),h)
  | .map,some (.sc (.map none))=>some (.sc (.int .i64 0),h)
  | .map,some (.mp o)=>match h[o]? with
   | some (.amap es)=>some (.sc (.int .i64 es.length),h)
   | _=>none
  | .arr n,some _=>some (.sc (.int .i64 n),h)
  | _,_=>none
 | .append k bytes x y=>match aD G env x,(aD G env y).bind (elems h k) with
  | some (.sl k' es c),some xs =>
   if k'=k \/ es=[] then
    if xs=[] then some (.sl k' es c,h) else
    if es.length+xs.length <= maxLenA then
     match c with
     | .nil | .full=>some (.sl k (es++xs) (.tok h.length),h++[.tok (es.length+xs.length)])
     | .tok t=>match h[t]? with
      | some (.tok n)=>if n=es.length /\ k'=k then some (.sl k (es++xs) (.tok t),h.set t (.tok (es.length+xs.length))) else none
      | _=>none
     | .any=>none
    else none
   else none
  | _,_=>none
 | .mappend k bytes x y=>match aD G env x,(aD G env y).bind (elems h k) with
  | some (.sl q [] .nil),some xs =>
   if xs ≠ [] /\ xs.length <= maxLenA then some (.rf h.length 0 0 xs.length (.own k),h++[.cells 0 (xs.flatMap AV.cells)]) else if xs=[] then some (.sl q [] .nil,h) else none
  | some (.sl q [] .full),some xs =>
   if xs ≠ [] /\ xs.length <= maxLenA then some (.rf h.length 0 0 xs.length (.own k),h++[.cells 0 (xs.flatMap AV.cells)]) else if xs=[] then some (.sl q [] .full,h) else none
  | some (.rf o g 0 len (.own k')),some xs=>if xs=[] then some (.rf o g 0 len (.own k'),h) else match h[o]? with
   | some (.cells g' cs) =>
    if k'=k /\ g'=g /\ len * k <= cs.length /\ xs ≠ [] /\ len+xs.length <= maxLenA then
     some (.rf o (g+1) 0 (len+xs.length) (.own k),h.set o (.cells (g+1) (cs.take (len * k)++xs.flatMap AV.cells))) else none
   | _=>none
  | _,_=>none
 | .happend k bytes x y=>none
 | .zappend k bytes z x y=>match aD G env x,aD G env y with
  | some (.sl q [] .nil),some (.sc (.int .i64 n)) =>
   if n=0 then some (.sl q [] .nil,h) else
   if 0 < n /\ n <= maxLenA then some (.rf h.length 0 0 n.toNat (.own k),h++[.cells 0 (List.replicate n.toNat z).flatten]) else none
  | _,_=>none
 | .copy k x y=>match aD G env x,(aD G env y).bind (elems h k) with
  | some (.rf o g off len _),some xs=>match h[o]? with
   | some (.cells g' cs) =>
    let n:=min xs.length len
    if g'=g /\ off+n * k <= cs.length /\ len ≠ 0 then
     some (.sc (.int .i64 n),h.set o (.cells g (cs.take off++(xs.take n).flatMap AV.cells++cs.drop (off+n * k)))) else none
   | _=>none
  | _,_=>none
 | .mx isMax x y=>match aD G env x,aD G env y with
  | some (.sc (.int k a)),some (.sc (.int k' b)) =>
   if k=k' then some (.sc (.int k (if isMax then (if b > a then b else a) else (if b < a then b else a))),h) else none
  | _,_=>none
 | .slice k x lo hi mx =>
  let lo':=lo.map (aD G env)
  let hi':=hi.map (aD G env)
  let mx':=mx.map (aD G env)
  match k,aD G env x with
  | .str,some (.sc (.string s))=>match mx,bt 0 lo',bt s.size hi' with
   | none,some l,some r=>if l <= r /\ r <= s.size then some (.sc (.string (s.extract l r)),h) else none
   | _,_,_=>none
  | .sl k,some (.sl k' es c) =>
   if k'=k \/ es=[] then
    match bt 0 lo',bt es.length hi' with
    | some l,some r =>
     if l <= r /\ r <= es.length then
      match mx with
      | none=>some (.sl k (cut es l (r - l)) (if l=0 /\ r=es.length /\ (k'=k \/ c=.nil) then c else if c=.full /\ r=es.length then .full else .any),h)
      | some _=>match bt 0 mx' with
       | some m=>if m=r /\ hi.isSome /\ c ≠ .nil then some (.sl k (cut es l (r - l)) .full,h) else if m=r /\ hi.isSome /\ es=[] /\ c=.nil then some (.sl 0 [] .nil,h) else none
       | none=>none
     else none
    | _,_=>none
   else none
  | .sl k,some (.rf o g off len rc)=>match mx,bt 0 lo',bt len hi' with
   | none,some l,some r=>if l <= r /\ r <= len then some (.rf o g (off+l * k) (r - l) (if l=0 /\ rc=.own k then .own k else if rc=.full /\ r=len then .full else .any),h) else none
   | some _,some l,some r=>match bt 0 mx' with
    | some m=>if m=r /\ r=l /\ l <= len /\ hi.isSome then some (.sl k [] .full,h) else none
    | none=>none
   | _,_,_=>none
  | .arr n k,some (.ptr o g off)=>match mx,bt 0 lo',bt n hi' with
   | none,some l,some r=>if l <= r /\ r <= n then some (.rf o g (off+l * k) (r - l) (if r=n then .full else .any),h) else none
   | _,_,_=>none
  | _,_=>none
 | .kslice _ _ _ _ _=>none
 | .tassert t z ok x=>match aD G env x with
  | some (.ifc t' v)=>if t'=t then some (if ok then .tup [v,.sc (.bool true)] else v,h) else if ok then some (.tup [z,.sc (.bool false)],h) else none
  | some (.sc .nilIface)=>if ok then some (.tup [z,.sc (.bool false)],h) else none
  | _=>none
 | .panic _=>none
 | .call _ _=>none
 | .defer _ _=>none
 | .recover=>none
end Go.Apx
end
section
namespace Go.Apx
theorem Addr.add_mk (b o i:Nat):(⟨b,o,none⟩:Addr).add i=⟨b,o+i,none⟩:=by unfold Addr.add; split <;> simp_all
theorem mapM'_length {α β:Type} {f:α -> Option β}:∀ {l:List α} {r:List β},mapM' f l=some r -> l.length=r.length
 | [],r,h=>by simp [mapM'] at h; subst h; rfl
 | x :: l,r,h=>by
  simp only [mapM'] at h
  split at h
  .rename_i y ys h1 h2; simp at h; subst h; simp [mapM'_length h2]
  .simp at h
theorem mapM'_get {α β:Type} {f:α -> Option β}:∀ {l:List α} {r:List β},mapM' f l=some r -> ∀ (i:Nat) (a:α) (b:β),l[i]?=some a -> r[i]?=some b -> f a=some b
 | [],r,h,i,a,b,ha,hb=>by simp at ha
 | x :: l,r,h,i,a,b,ha,hb=>by
  simp only [mapM'] at h
  split at h
  .rename_i y ys h1 h2
   simp at h; subst h
   cases i with
   | zero=>simp at ha hb; subst ha hb; exact h1
   | succ i=>exact mapM'_get h2 i a b (by simpa using ha) (by simpa using hb)
  .simp at h
section
variable {P:Program} {w:World}
theorem bb {t:TypeId} {i:TypeInfo} (h:P.info? t=some i):(typeInfo t).run P w=.ok i w:=by simp [typeInfo,h]
theorem aH {t:TypeId} {d:TypeDesc} (h:P.underlying t=some d):(underlying t).run P w=.ok d w:=run_underlying h w
theorem aX {t:TypeId} {i:TypeInfo} (h:P.info? t=some i):(sizeOf t).run P w=.ok i.size w:=by simp [sizeOf,bb h]
theorem aV {t:TypeId} {ty:Ty} (h:bC P t=some ty) :
  ∃ i,P.info? t=some i /\ i.size=ty.size /\ (isAgg t).run P w=.ok ty.isAgg w:=by
 unfold bC at h
 cases hu:P.underlying t with
 | none=>simp [hu] at h
 | some d =>
  cases hi:P.info? t with
  | none=>cases d <;> simp [hu,hi] at h
  | some i =>
   have fin1:i.size=1 /\ Ty.one=ty -> (isAgg t).run P w=.ok false w -> ∃ i',some i=some i' /\ i'.size=ty.size /\ (isAgg t).run P w=.ok ty.isAgg w:=by
    rintro ⟨h1,rfl⟩ h2; exact ⟨i,rfl,h1,h2⟩
   have fin2:Ty.agg i.size=ty -> (isAgg t).run P w=.ok true w -> ∃ i',some i=some i' /\ i'.size=ty.size /\ (isAgg t).run P w=.ok ty.isAgg w:=by
    rintro rfl h2; exact ⟨i,rfl,rfl,h2⟩
   cases d <;> simp [hu,hi] at h <;> first
    | exact fin1 h (by simp [isAgg,aH hu])
    | exact fin2 h (by simp [isAgg,aH hu])
def Ty.read:Ty -> List Value -> Value
 | .one,vs=>vs.headD undef
 | .agg _,vs=>.agg vs.toArray
theorem run_loadVar {t:TypeId} {ty:Ty} (h:bC P t=some ty) {b o:Nat} {vs:List Value} (hl:vs.length=ty.size)
  (hc:∀ (j:Nat) (x:Value),vs[j]?=some x -> w.cell? ⟨b,o+j,none⟩=some x) :
  (loadVar t ⟨b,o,none⟩).run P w=.ok (ty.read vs) w:=by
 obtain ⟨i,hi,hs,ha⟩:=aV (w:=w) h
 have hc':∀ (j:Nat) (x:Value),vs[j]?=some x -> w.cell? ((⟨b,o,none⟩:Addr).add j)=some x:=fun j x hx=>by rw [Addr.add_mk]; exact hc j x hx
 cases ty with
 | one =>
  match vs,hl with
  | [x],_ =>
   have:=hc 0 x rfl
   simp at this
   simp [loadVar,ha,run_load,this,Ty.isAgg,Ty.read]
 | agg n =>
  have hz:i.size=vs.length:=by rw [hs]; exact hl.symm
  simp [loadVar,ha,aX hi,hz,Ty.isAgg,Ty.read,run_loadCells_list (P:=P) w ⟨b,o,none⟩ vs hc']
theorem run_storeVar {t:TypeId} {ty:Ty} (h:bC P t=some ty) {b o:Nat} {v:Value} (hl:v.cells.size=ty.size)
  (hc:∀ j,j < v.cells.size -> (w.cell? ⟨b,o+j,none⟩).isSome=true) (hf:∀ j,j < v.cells.size -> w.frozen? ⟨b,o+j,none⟩=false)
  (h1:∀ x ∈ v.cells.toList,x.oneCell'=true) :
  (storeVar t ⟨b,o,none⟩ v).run P w=.ok () (w.setCells b o v.cells.toList):=by
 obtain ⟨i,hi,hs,ha⟩:=aV (w:=w) h
 have hst:=run_storeCells_cells (P:=P) b o v.cells.toList 0 w (by simpa using hc) (by simpa using hf) h1
 simp at hst
 simp [storeVar,aX hi,hs,hl,hst]
end
theorem cell?_setCells {b o:Nat} {vs:List Value} {w:World} {b' o':Nat} (h:¬ (b'=b /\ o <= o' /\ o' < o+vs.length)) :
  (w.setCells b o vs).cell? ⟨b',o',none⟩=w.cell? ⟨b',o',none⟩:=by
 induction vs generalizing o w with
 | nil=>rfl
 | cons v r ih =>
  simp only [World.setCells]
  rw [ih (by simp at h ⊢; omega),World.cell?_setCell_other]
  intro e
  simp at e h
  omega
theorem heap_setCells {b o:Nat} {vs:List Value} {w:World} {b':Nat} (h:b' ≠ b):(w.setCells b o vs).heap[b']?=w.heap[b']?:=by
 induction vs generalizing o w with
 | nil=>rfl
 | cons v r ih =>
  simp only [World.setCells]
  rw [ih]
  simp only [World.setCell,Array.getElem?_modify]
  rw [if_neg (Ne.symm h)]
theorem size_setCells {b o:Nat} {vs:List Value} {w:World}:(w.setCells b o vs).heap.size=w.heap.size:=by
 induction vs generalizing o w with
 | nil=>rfl
 | cons v r ih=>simp only [World.setCells]; rw [ih,World.size_setCell]
theorem misc_setCells {b o:Nat} {vs:List Value} {w:World}:(w.setCells b o vs).os=w.os /\ (w.setCells b o vs).tape=w.tape /\ (w.setCells b o vs).output=w.output /\ (w.setCells b o vs).drawn=w.drawn:=by
 induction vs generalizing o w with
 | nil=>exact ⟨rfl,rfl,rfl,rfl⟩
 | cons v r ih=>simp only [World.setCells]; obtain ⟨h1,h2,h3,h4⟩:=ih (o:=o+1) (w:=w.setCell ⟨b,o,none⟩ v); exact ⟨h1,h2,h3,h4⟩
theorem cell?_lt {w:World} {b o:Nat} {x:Value} (h:w.cell? ⟨b,o,none⟩=some x):b < w.heap.size:=World.block_lt_of_cell? w ⟨b,o,none⟩ h
theorem ba {w:World} {o:Obj} {b:Nat} (h:b < w.heap.size):(w.alloc o).heap[b]?=w.heap[b]?:=by
 show (w.heap.push o)[b]?=_
 rw [Array.getElem?_push,if_neg (Nat.ne_of_lt h)]
theorem heap_alloc_new {w:World} {o:Obj}:(w.alloc o).heap[w.heap.size]?=some o:=by
 show (w.heap.push o)[w.heap.size]?=_
 simp
theorem ObjRel.mono {I I':Imm} {m m':aQ} {w w':World} {o:AObj} {l:Loc} (h:ObjRel I m w o l) (hI:ImmLe I I') (hm:LocsLe m m')
  (hc:∀ b p,l.owns b p -> w'.cell? ⟨b,p,none⟩=w.cell? ⟨b,p,none⟩ /\ w'.frozen? ⟨b,p,none⟩=w.frozen? ⟨b,p,none⟩)
  (hb:∀ b,l=.whole b -> w'.heap[b]?=w.heap[b]?):ObjRel I' m' w' o l:=by
 cases o with
 | dead=>exact h
 | cells g cs =>
  obtain ⟨b,lo,n,vs,rfl,hle,hr,h1,h2,h3⟩:=h
  refine ⟨b,lo,n,vs,rfl,hle,hr.mono hI hm,h1,fun i x hx=>?_,fun i hi=>?_⟩
  .have hi:i < vs.length:=(List.getElem?_eq_some_iff.1 hx).1
   rw [(hc b (lo+i) ⟨rfl,by omega,by have:=hr.1; omega⟩).1]
   exact h2 i x hx
  .have:=hc b (lo+i) ⟨rfl,by omega,by omega⟩
   rw [this.1,this.2]; exact h3 i hi
 | tok n =>
  obtain ⟨b,s,e,rfl,hle,h1⟩:=h
  refine ⟨b,s,e,rfl,hle,fun p hp hp'=>?_⟩
  have:=hc b p ⟨rfl,hp,hp'⟩
  rw [this.1,this.2]; exact h1 p hp hp'
 | amap es =>
  obtain ⟨b,ents,clock,rfl,h1,h2,h3,h4,h5⟩:=h
  refine ⟨b,ents,clock,rfl,by rw [hb b rfl]; exact h1,h2,fun i p e hp he=>?_,h4,h5⟩
  exact ⟨(h3 i p e hp he).1.mono hI hm,(h3 i p e hp he).2.mono hI hm⟩
 | loop env x st pd =>
  obtain ⟨b,d,rfl,h1,h2⟩:=h
  refine ⟨b,d,rfl,by rw [hb b rfl]; exact h1,fun t v ht hv=>?_⟩
  obtain ⟨y,hy,hr⟩:=h2 t v ht hv
  exact ⟨y,hy,hr.mono hI hm⟩
 | queue =>
  obtain ⟨b,rfl,h1⟩:=h
  exact ⟨b,rfl,by rw [hb b rfl]; exact h1⟩
 | siter s p =>
  obtain ⟨b,rfl,h1⟩:=h
  exact ⟨b,rfl,by rw [hb b rfl]; exact h1⟩
 | bmap es bs clock =>
  obtain ⟨b,ents,rfl,h1,⟨h2,h3,h4,h5⟩,h6⟩:=h
  refine ⟨b,ents,rfl,by rw [hb b rfl]; exact h1,⟨h2,fun i p e hp he=>?_,h4,h5⟩,h6⟩
  exact ⟨(h3 i p e hp he).1.mono hI hm,(h3 i p e hp he).2.mono hI hm⟩
 | miter mo since c0 seen =>
  obtain ⟨b,mb,rfl,h1,h2⟩:=h
  refine ⟨b,mb,rfl,by rw [hb b rfl]; exact h1,?_⟩
  rcases h2 with h2 | ⟨o,r,e1,e2,h2⟩
  .exact .inl h2
  .exact .inr ⟨o,r,e1,e2,h2.mono hI hm⟩
theorem Inv.frame {G:Globs} {I I':Imm} {m:aQ} {h:AHeap} {w w':World} (hv:Inv G I m h w) (hI:ImmLe I I')
  (hsz:w.heap.size <= w'.heap.size)
  (hc:∀ b p,b < w.heap.size -> w'.cell? ⟨b,p,none⟩=w.cell? ⟨b,p,none⟩)
  (hf:∀ a:Addr,a.block < w.heap.size -> w'.frozen? a=w.frozen? a)
  (hb:∀ b,b < w.heap.size -> w'.heap[b]?=w.heap[b]?)
  (hn:∀ b o,b < w.heap.size -> I' b o ≠ none -> I b o ≠ none)
  (himm:∀ b o v,I' b o=some v -> w'.cell? ⟨b,o,none⟩=some v):Inv G I' m h w' where
 len:=hv.len
 obj i o l ho hl:=(hv.obj i o l ho hl).mono hI (.refl m)
  (fun b p hp=>⟨hc b p (hv.lt i l b p hl hp),hf _ (hv.lt i l b p hl hp)⟩)
  (fun b e=>hb b (hv.lt i l b 0 hl (by subst e; exact rfl)))
 imm:=himm
 disj:=hv.disj
 immd i l b o hl hp:=by
  have h1:=hv.immd i l b o hl hp
  cases h2:I' b o with
  | none=>rfl
  | some x=>exact (hn b o (hv.lt i l b o hl hp) (by simp [h2]) h1).elim
 lt i l b o hl hp:=Nat.lt_of_lt_of_le (hv.lt i l b o hl hp) hsz
 glob g v hg m':=(hv.glob g v hg m').mono hI (.refl m')
def Imm.row (I:Imm) (B:Nat) (vs:List Value):Imm:=fun b o=>if b=B then vs[o]? else I b o
theorem Imm.row_le {I:Imm} {B:Nat} {vs:List Value} (h:∀ o,I B o=none):ImmLe I (I.row B vs):=by
 intro b o y hy
 unfold Imm.row
 split
 .rename_i e; subst e; rw [h o] at hy; cases hy
 .exact hy
theorem Inv.imm_lt {G:Globs} {I:Imm} {m:aQ} {h:AHeap} {w:World} (hv:Inv G I m h w) {b o:Nat} {x:Value} (hx:I b o=some x):b < w.heap.size :=
 cell?_lt (hv.imm b o x hx)
theorem Inv.imm_new {G:Globs} {I:Imm} {m:aQ} {h:AHeap} {w:World} (hv:Inv G I m h w) (o:Nat):I w.heap.size o=none:=by
 cases hx:I w.heap.size o with
 | none=>rfl
 | some x=>exact absurd (hv.imm_lt hx) (Nat.lt_irrefl _)
theorem Lies.row {I:Imm} {B:Nat} {vs:List Value}:Lies (I.row B vs) B 0 vs:=by
 intro i x hx
 simp [Imm.row,hx]
theorem Inv.allocImm {G:Globs} {I:Imm} {m:aQ} {h:AHeap} {w:World} (hv:Inv G I m h w) (cs:Array Value) (e:TypeId) (k:Nat) :
  Inv G (I.row w.heap.size cs.toList) m h (w.alloc (.cells cs e)) /\
  Trans k I m w (I.row w.heap.size cs.toList) m (w.alloc (.cells cs e)):=by
 have hle:ImmLe I (I.row w.heap.size cs.toList):=Imm.row_le hv.imm_new
 have hnew:∀ b o,b < w.heap.size -> I.row w.heap.size cs.toList b o=I b o:=fun b o hb=>by
  unfold Imm.row; rw [if_neg (Nat.ne_of_lt hb)]
 refine ⟨hv.frame hle (by simp) (fun b p hb=>World.cell?_alloc_lt w _ _ hb) (fun a ha=>World.frozen?_alloc_old w _ a (Nat.ne_of_lt ha))
  (fun b hb=>ba hb) (fun b o hb hx=>by rw [hnew b o hb] at hx; exact hx) (fun b o v hx=>?_),?_⟩
 .unfold Imm.row at hx
  split at hx
  .rename_i e; subst e; rw [World.cell?_alloc_new]; simpa using hx
  .rw [World.cell?_alloc_lt w _ _ (hv.imm_lt hx)]; exact hv.imm b o v hx
 .exact
     {os:=rfl,tape:=rfl,output:=rfl,size:=by simp,cell:=fun b o hb _=>World.cell?_alloc_lt w _ _ hb,
      froz:=fun a ha=>World.frozen?_alloc_old w _ a (Nat.ne_of_lt ha),blk:=fun b hb _=>ba hb,imm:=hle,
      own:=fun i l b o h1 h2 _=>⟨i,l,h1,h2⟩,immNew:=fun b o hb hx=>.inl (by rw [hnew b o hb] at hx; exact hx),
      loc:=fun i l _ hl=>⟨l,hl,.refl l⟩ }
end Go.Apx
end
section
namespace Go.Apx
def Gives (P:Program) (o:Oper) (a:Act) (w:World) (x:Value) (w':World):Prop :=
 (execOp a.eval o).run P w=.ok (.value x) w' \/ ((execOp a.eval o).run P w=.ok .skip w' /\ x=undef)
def Does (P:Program) (G:Globs) (k:Nat) (o:Oper) (a:Act) (I:Imm) (m:aQ) (w:World) (v:AV) (h':AHeap):Prop :=
 ∃ x w' I' m',Gives P o a w x w' /\ AVRel I' m' v x /\ Inv G I' m' h' w' /\ Trans k I m w I' m' w' /\ LocsLe m m'
section
variable {P:Program} {G:Globs} {N S k:Nat} {D:Ro} {o:Oper} {a:Act} {I:Imm} {m:aQ} {w:World} {env:Env} {h:AHeap} {ann:List Nat}
theorem Does.same {v:AV} {x:Value} (hr:Inv G I m h w) (hv:AVRel I m v x) (hg:Gives P o a w x w):Does P G k o a I m w v h :=
 ⟨x,w,I,m,hg,hv,hr,.refl k I m w,.refl m⟩
theorem ofCell_rel (v:Value):AVRel I m (ofCell v) v:=by
 unfold ofCell
 split
 .exact .slnil 0
 .exact .sc v
theorem ofCell_one {v:Value} (h:v.oneCell'=true):(ofCell v).one=true:=by
 unfold ofCell
 split
 .rfl
 .exact h
theorem ofCells_rel (cs:List Value):AVRels I m (cs.map ofCell) cs:=by
 refine ⟨by simp,fun i a x ha hx=>?_⟩
 simp [hx] at ha
 subst ha
 exact ofCell_rel x
theorem ofValue_rel {v:Value} (h:okConst v=true):AVRel I m (ofValue v) v:=by
 unfold ofValue
 split
 .rename_i cs
  have:=ofCells_rel (I:=I) (m:=m) cs.toList
  refine .agg _ cs.toList this.1 (fun c hc=>?_) this.2
  obtain ⟨x,hx,rfl⟩:=List.mem_map.1 hc
  simp only [okConst,List.all_eq_true] at h
  exact ofCell_one (h x hx)
 .exact ofCell_rel v
theorem bi {v:Value} (h:okConst v=true):AVRels I m (ofValue v).cells v.cells.toList:=by
 unfold ofValue
 split
 .exact ofCells_rel _
 .rename_i hv
  have hc:v.cells=#[v]:=by cases v <;> simp_all [Value.cells]
  have hc':(ofCell v).cells=[ofCell v]:=by
   unfold ofCell
   split <;> rfl
  rw [hc,hc']
  exact .cons (ofCell_rel v) .nil
theorem okConst_one {v:Value} (h:okConst v=true):∀ x ∈ v.cells.toList,x.oneCell'=true:=by
 cases v with
 | agg cs =>
  intro x hx
  simp only [okConst,List.all_eq_true] at h
  exact h x hx
 | _=>intro x hx; simp [Value.cells] at hx; subst hx; exact h
theorem ofValue_one {v:Value} (h:okConst v=true):∀ c ∈ (ofValue v).cells,c.one=true:=by
 have h':=okConst_one h
 unfold ofValue
 split
 .intro c hc
  obtain ⟨x,hx,rfl⟩:=List.mem_map.1 hc
  exact ofCell_one (h' x hx)
 .rename_i hv
  have hc:v.cells=#[v]:=by cases v <;> simp_all [Value.cells]
  have hc':(ofCell v).cells=[ofCell v]:=by
   unfold ofCell
   split <;> rfl
  rw [hc']
  intro c hc2
  simp at hc2; subst hc2
  exact ofCell_one (h' v (by simp [hc]))
theorem aG {x:Operand} {x':Opd} {v:AV} (hx:aF x=some x') (hr:Rel G N D S I m env h a w) (he:aD G env x'=some v) :
  AVRel I m v (a.eval x):=by
 cases x with
 | tmp n =>
  simp only [aF] at hx
  split at hx
  .rename_i hnd
   simp at hx; subst hx
   simp only [aD] at he
   have hg:env.get n=some v:=by
    split at he
    .rename_i v' hv'
     split at he
     .cases he
     .simp at he; subst he; exact hv'
    .cases he
   obtain ⟨y,hy,hs⟩:=hr.env.get n v (Nat.ne_of_lt hnd) hg
   have hav:AVRel I m v y:=by
    cases v <;> first | exact hs | skip
    rw [hg] at he; simp [AV.isPend] at he
   have:a.eval (.tmp n)=y:=by simp [Act.eval,Array.getD_eq_getD_getElem?,hy]
   rw [this]; exact hav
  .cases hx
 | const c =>
  simp only [aF] at hx
  split at hx
  .rename_i hc
   simp at hx; subst hx
   simp [aD] at he; subst he
   exact ofValue_rel hc
  .cases hx
 | global g =>
  simp [aF] at hx; subst hx
  exact hr.inv.glob g v he m
 | func f =>
  simp [aF] at hx; subst hx
  simp [aD] at he; subst he
  exact .fn _ [] [] [] [] rfl rfl (fun i a x ha=>by simp at ha) (fun i a x ha=>by simp at ha)
theorem opds_sound {xs:List Operand} {xs':List Opd} {vs:List AV} (hx:mapM' aF xs=some xs') (hr:Rel G N D S I m env h a w)
  (he:mapM' (aD G env) xs'=some vs):AVRels I m vs (xs.map a.eval):=by
 have h1:=mapM'_length hx
 have h2:=mapM'_length he
 refine ⟨by simp; omega,fun i v y hv hy=>?_⟩
 simp only [List.getElem?_map,Option.map_eq_some_iff] at hy
 obtain ⟨x,hx',rfl⟩:=hy
 have hi:i < xs.length:=(List.getElem?_eq_some_iff.1 hx').1
 have hi':i < xs'.length:=by omega
 exact aG (mapM'_get hx i x xs'[i] hx' (by simp [hi'])) hr (mapM'_get he i xs'[i] v (by simp [hi']) hv)
theorem ae {x:Value} {y:Value} (h:AVRel I m (.sc x) y):y=x:=by cases h; rfl
theorem rel_cells {v:AV} {x:Value} (h:AVRel I m v x) (h1:∀ c ∈ v.cells,c.one=true):AVRels I m v.cells x.cells.toList /\ ∀ y ∈ x.cells.toList,y.oneCell'=true:=by
 have key:∀ (cs:List AV) (vs:List Value),AVRels I m cs vs -> (∀ c ∈ cs,c.one=true) -> ∀ y ∈ vs,y.oneCell'=true:=by
  intro cs vs hr hc y hy
  obtain ⟨i,hi,rfl⟩:=List.getElem_of_mem hy
  have hi':i < cs.length:=by rw [hr.1]; exact hi
  exact (hr.2 i cs[i] vs[i] (by simp [hi']) (by simp [hi])).oneCell (hc _ (List.getElem_mem hi'))
 cases h with
 | agg cs vs hl h2 h =>
  have hr:AVRels I m cs vs:=⟨hl,h⟩
  exact ⟨by simpa [AV.cells,Value.cells] using hr,by simpa [Value.cells] using key cs vs hr h1⟩
 | tup cs vs hl h=>exact absurd (h1 (.tup cs) (by simp [AV.cells])) (by simp [AV.one])
 | sc x =>
  have hx:=h1 (.sc x) (by simp [AV.cells])
  have hc:x.cells=#[x]:=by cases x <;> first | rfl | (simp [AV.one,Value.oneCell'] at hx)
  have hr:AVRels I m [.sc x] [x]:=.cons (.sc x) .nil
  rw [hc]
  exact ⟨by simpa [AV.cells] using hr,key _ _ hr h1⟩
 | slnil k=>exact ⟨.cons (.slnil k) .nil,by simp [Value.cells,Value.oneCell']⟩
 | sl k es c a cap vs hc hle hk hw h1' hl h hI hs hcap =>
  exact ⟨.cons (.sl k es c a cap vs hc hle hk hw h1' hl h hI hs hcap) .nil,by simp [Value.cells,Value.oneCell']⟩
 | ip v a vs h1' hl h hI hs=>exact ⟨.cons (.ip v a vs h1' hl h hI hs) .nil,by simp [Value.cells,Value.oneCell']⟩
 | yld o l ho h=>exact ⟨.cons (.yld o l ho h) .nil,by simp [Value.cells,Value.oneCell']⟩
 | ptr o g off a ho h=>exact ⟨.cons (.ptr o g off a ho h) .nil,by simp [Value.cells,Value.oneCell']⟩
 | rf o g off len rc a cap ho hle hf h=>exact ⟨.cons (.rf o g off len rc a cap ho hle hf h) .nil,by simp [Value.cells,Value.oneCell']⟩
 | mp o r ho h=>exact ⟨.cons (.mp o r ho h) .nil,by simp [Value.cells,Value.oneCell']⟩
 | it o r ho h=>exact ⟨.cons (.it o r ho h) .nil,by simp [Value.cells,Value.oneCell']⟩
 | fn f first captured fs cs hl hl' h h'=>exact ⟨.cons (.fn f first captured fs cs hl hl' h h') .nil,by simp [Value.cells,Value.oneCell']⟩
 | ifc t v x h=>exact ⟨.cons (.ifc t v x h) .nil,by simp [Value.cells,Value.oneCell']⟩
theorem part_rel {ty:Ty} {cs:List AV} {vs:List Value} {off:Nat} {v:AV} (hr:AVRels I m cs vs) (h1:∀ c ∈ cs,c.one=true) (hp:partOf ty cs off=some v) :
  ∃ us,us=(vs.drop off).take ty.size /\ us.length=ty.size /\ AVRels I m v.cells us /\ (∀ c ∈ v.cells,c.one=true) /\ AVRel I m v (ty.read us):=by
 cases ty with
 | one =>
  simp only [partOf] at hp
  obtain ⟨x,hx,hv⟩:=hr.get hp
  have hone:=h1 v (List.mem_of_getElem? hp)
  have hcs:v.cells=[v]:=by cases v <;> first | rfl | simp [AV.one] at hone
  have hu:(vs.drop off).take 1=[x]:=by
   have hi:=(List.getElem?_eq_some_iff.1 hx)
   obtain ⟨hlt,rfl⟩:=hi
   rw [List.drop_eq_getElem_cons hlt]; rfl
  refine ⟨[x],by simp [Ty.size,hu],rfl,?_,?_,?_⟩
  .rw [hcs]; exact .cons hv .nil
  .rw [hcs]; simpa using hone
  .simpa [Ty.read] using hv
 | agg n =>
  simp only [partOf] at hp
  split at hp
  .rename_i hle
   simp at hp; subst hp
   have h2:AVRels I m (cut cs off n) ((vs.drop off).take n):=(hr.drop off).take n
   have hl:=hr.1
   have h1':∀ c ∈ cut cs off n,c.one=true:=fun c hc=>h1 c (List.mem_of_mem_drop (List.mem_of_mem_take hc))
   refine ⟨_,rfl,by simp [Ty.size]; omega,h2,h1',?_⟩
   exact .agg _ _ h2.1 h1' h2.2
  .cases hp
theorem Lies.sub {b off:Nat} {vs:List Value} (h:Lies I b off vs) (d n:Nat):Lies I b (off+d) ((vs.drop d).take n):=by
 intro i x hx
 simp only [List.getElem?_take,List.getElem?_drop] at hx
 split at hx
 .have:=h (d+i) x hx
  rwa [<- Nat.add_assoc] at this
 .cases hx
theorem allOne_iff {cs:List AV}:allOne cs=true ↔ ∀ c ∈ cs,c.one=true:=by simp [allOne,List.all_eq_true]
theorem snd_move {x:Operand} {x':Opd} {v:AV} (ho:o.op=.move x \/ o.op=.assign x) (hx:aF x=some x') (hr:Rel G N D S I m env h a w)
  (he:aD G env x'=some v):Does P G k o a I m w v h :=
 .same hr.inv (aG hx hr he) (.inl (by rcases ho with ho | ho <;> simp [execOp,ho]))
theorem snd_nilc {x:Operand} {x':Opd} {v:AV} {h':AHeap} (ho:o.op=.nilCheck x) (hx:aF x=some x') (hr:Rel G N D S I m env h a w)
  (he:aA G env h (.nilc x')=some (v,h')):Does P G k o a I m w v h':=by
 simp only [aA] at he
 split at he
 .rename_i ob g off hu
  simp at he; obtain ⟨rfl,rfl⟩:=he
  have hp:=aG hx hr hu
  refine .same hr.inv hp (.inl ?_)
  generalize hax:a.eval x=ax at hp ⊢
  cases hp with
  | ptr _ _ _ ad _ _=>simp [execOp,ho,hax]
 .rename_i u hu
  simp at he; obtain ⟨rfl,rfl⟩:=he
  have hp:=aG hx hr hu
  refine .same hr.inv hp (.inl ?_)
  generalize hax:a.eval x=ax at hp ⊢
  cases hp with
  | ip _ ad _ _ _ _ _ _=>simp [execOp,ho,hax]
 .cases he
theorem load_run {t:TypeId} {x:Operand} {x':Opd} {ty:Ty} {v:AV} {h':AHeap} (hty:bC P t=some ty) (hx:aF x=some x')
  (hr:Rel G N D S I m env h a w) (he:aA G env h (.load ty x')=some (v,h')) :
  h'=h /\ ∃ ad y,a.eval x=.pointer (some ad) /\ (loadVar t ad).run P w=.ok y w /\ AVRel I m v y:=by
 simp only [aA] at he
 split at he
 .
  rename_i u hu
  have hp:=aG hx hr hu
  generalize hax:a.eval x=ax at hp
  cases hp with
  | ip _ ad vs h1 hl hrel hI hs =>
   obtain ⟨b,off,sp⟩:=ad
   simp only at hs hI; subst hs
   have hcell:∀ (j:Nat) (y:Value),vs[j]?=some y -> w.cell? ⟨b,off+j,none⟩=some y:=fun j y hy=>hr.inv.imm _ _ _ (hI j y hy)
   cases ty with
   | one =>
    simp only at he
    split at he
    .rename_i hone
     simp at he; obtain ⟨rfl,rfl⟩:=he
     have hcs:u.cells=[u]:=by cases u <;> first | rfl | simp [AV.one] at hone
     rw [hcs] at hl hrel
     match vs,hl with
     | [y],_ =>
      have:=run_loadVar (P:=P) (w:=w) hty (b:=b) (o:=off) (vs:=[y]) rfl hcell
      exact ⟨rfl,_,y,rfl,this,hrel 0 u y rfl rfl⟩
    .cases he
   | agg n =>
    simp only at he
    split at he
    .rename_i cs
     split at he
     .rename_i hlen
      simp at he; obtain ⟨rfl,rfl⟩:=he
      simp only [AV.cells] at hl hrel h1
      have:=run_loadVar (P:=P) (w:=w) hty (b:=b) (o:=off) (vs:=vs) (by simp [Ty.size]; omega) hcell
      exact ⟨rfl,_,_,rfl,this,.agg cs vs hl h1 hrel⟩
     .cases he
    .cases he
 .
  rename_i ob g off hu
  have hp:=aG hx hr hu
  generalize hax:a.eval x=ax at hp
  split at he
  .rename_i g' cs hob
   split at he
   .rename_i hg; subst hg
    simp only [Option.map_eq_some_iff,Prod.mk.injEq] at he
    obtain ⟨v',hv',rfl,rfl⟩:=he
    have hlt:ob < m.length:=by rw [hr.inv.len]; exact (List.getElem?_eq_some_iff.1 hob).1
    obtain ⟨b,lo,n,vs,hl,hle,hrels,hone,hcell,hall⟩:=hr.inv.obj ob _ m[ob] hob (by simp [hlt])
    cases hp with
    | ptr _ _ _ ad _ hpr =>
     have:=(hpr _ b lo n (by rw [<- hl]; simp [hlt])).2 rfl
     subst this
     obtain ⟨us,hus,hul,hur,hu1,hrd⟩:=part_rel hrels hone hv'
     have:=run_loadVar (P:=P) (w:=w) hty (b:=b) (o:=lo+off) (vs:=us) hul (fun j y hy=>by
      rw [hus] at hy
      simp only [List.getElem?_take,List.getElem?_drop] at hy
      split at hy
      .have:=hcell _ _ hy; rwa [<- Nat.add_assoc] at this
      .cases hy)
     exact ⟨rfl,_,_,rfl,this,hrd⟩
   .cases he
  .cases he
 .cases he
theorem snd_load {t:TypeId} {x:Operand} {x':Opd} {ty:Ty} {v:AV} {h':AHeap} (ho:o.op=.load t x) (hty:bC P t=some ty) (hx:aF x=some x')
  (hr:Rel G N D S I m env h a w) (he:aA G env h (.load ty x')=some (v,h')):Does P G k o a I m w v h':=by
 obtain ⟨rfl,ad,y,hax,hrun,hv⟩:=load_run hty hx hr he
 exact .same hr.inv hv (.inl (by simp [execOp,ho,hax,Instr.loadAt,Instr.sureAddr,hrun]))
end
end Go.Apx
end
section
namespace Go.Apx
section
variable {P:Program} {G:Globs} {N S k:Nat} {D:Ro} {o:Oper} {a:Act} {I:Imm} {m:aQ} {w:World} {env:Env} {h:AHeap} {ann:List Nat}
theorem run_eqGuard_basic {op:BinOp} {t:TypeId} {x y:Operand} {u v r:Value} (h:binV op u v=some r):(eqGuard op t x y u v).run P w=.ok () w:=by
 unfold binV at h
 split at h
 .cases op <;> simp [eqGuard]
 .cases op <;> simp [eqGuard]
 .cases h
theorem run_binOp_basic {op:BinOp} {t:TypeId} {u v r:Value} (h:binV op u v=some r):(binOp op t u v).run P w=.ok r w:=by
 unfold binV at h
 split at h
 .rename_i k x k' y
  cases op <;> simp [isShift,shiftV,intV] at h <;> first
   | (obtain ⟨h1,h2⟩:=h; subst h2; simp [binOp,Op.shift,Int.not_lt.2 h1]; done)
   | (obtain ⟨h1,h3,h2⟩:=h; subst h2; subst h1; simp [binOp,Op.intDiv,h3]; done)
   | (obtain ⟨h1,h2⟩:=h; subst h2; subst h1; simp [binOp,Op.intArith,Op.intBits,Op.intCmp]; done)
   | (obtain ⟨h1,h3⟩:=h; split at h3 <;> simp_all [binOp,Op.shift,Op.intDiv]; done)
 .rename_i s s'
  cases op <;> simp [strV] at h <;> first
   | (subst h; simp [binOp,Op.stringOp]; done)
   | (obtain ⟨h1,h2⟩:=h; subst h2; simp [binOp,Op.stringOp]; omega)
 .cases h
theorem snd_bin {op:BinOp} {t t':TypeId} {x y:Operand} {x' y':Opd} {v:AV} {h':AHeap} (ho:o.op=.binOp op t x y t') (hx:aF x=some x') (hy:aF y=some y')
  (hr:Rel G N D S I m env h a w) (he:aA G env h (.bin op x' y')=some (v,h')):Does P G k o a I m w v h':=by
 simp only [aA] at he
 split at he
 .rename_i u u' hu hu'
  simp only [Option.map_eq_some_iff,Prod.mk.injEq] at he
  obtain ⟨r,hb,rfl,rfl⟩:=he
  have h1:=ae (aG hx hr hu)
  have h2:=ae (aG hy hr hu')
  refine .same hr.inv (.sc r) (.inl ?_)
  simp [execOp,ho,h1,h2,run_eqGuard_basic hb,run_binOp_basic hb]
 .cases he
theorem run_equal {t:TypeId} {x y:Value}:(Op.equal t x y).run P w=(Op.equalIn (9999+1) t x y).run P w:=rfl
theorem snd_eqb {op:BinOp} {t t':TypeId} {x y:Operand} {x' y':Opd} {v:AV} {h':AHeap} (ho:o.op=.binOp op t x y t') (hop:op=.eql \/ op=.neq)
  (ht:P.underlying t=some .bool) (hx:aF x=some x') (hy:aF y=some y')
  (hr:Rel G N D S I m env h a w) (he:aA G env h (.eqb (op matches .neq) x' y')=some (v,h')):Does P G k o a I m w v h':=by
 simp only [aA] at he
 split at he
 .rename_i u u' hu hu'
  simp only [Option.some.injEq,Prod.mk.injEq] at he
  obtain ⟨rfl,rfl⟩:=he
  have h1:=ae (aG hx hr hu)
  have h2:=ae (aG hy hr hu')
  have he:(Op.equal t (.bool u) (.bool u')).run P w=.ok (u == u') w:=by
   rw [run_equal]; unfold Op.equalIn; simp only [Sem.run_bind,aH ht,Result.andThen_ok,Sem.run_pure]
  refine .same hr.inv (.sc _) (.inl ?_)
  rcases hop with rfl | rfl
  .have hb:binOp .eql t (.bool u) (.bool u')=(do pure (.bool (<- Op.equal t (.bool u) (.bool u')))):=rfl
   simp only [execOp,ho,h1,h2,hb,eqGuard,Sem.run_bind,Sem.run_pure,he,Result.andThen_ok]
   simp [he]
  .have hb:binOp .neq t (.bool u) (.bool u')=(do pure (.bool (!(<- Op.equal t (.bool u) (.bool u'))))):=rfl
   simp only [execOp,ho,h1,h2,hb,eqGuard,Sem.run_bind,Sem.run_pure,he,Result.andThen_ok]
   simp [he]
 .cases he
def NilK.fits:NilK -> Value -> Bool -> Prop
 | .sl,x,b=>∃ p n c,x=.slice p n c /\ p.isNone=b
 | .map,x,b=>∃ p,x=.map p /\ p.isNone=b
 | .fn,x,b=>(b=true /\ x=.nilFunc) \/ (b=false /\ ∃ f s c,x=.func f s c)
 | .ptr,x,b=>∃ p,x=.pointer p /\ p.isNone=b
 | .ifc,x,b=>(b=true /\ x=.nilIface) \/ (b=false /\ ∃ t y,x=.iface t y)
theorem isNilK_fits {q:NilK} {v:AV} {x:Value} {b:Bool} (h:AVRel I m v x) (hq:isNilK q v=some b):q.fits x b:=by
 cases h with
 | sc x =>
  cases q <;> simp only [isNilK] at hq
  .cases hq
  all_goals
   split at hq
   .simp at hq; subst hq; simp [NilK.fits]
   .cases hq
 | slnil k=>cases q <;> simp [isNilK] at hq; subst hq; exact ⟨none,0,0,rfl,rfl⟩
 | sl k es c a cap vs hc hle hk hw h1' hl h hI hs hcap =>
  cases q <;> simp [isNilK] at hq
  subst hq
  exact ⟨some a,_,cap,rfl,by simpa using hc⟩
 | rf o g off len rc a cap ho hle hf h=>cases q <;> simp [isNilK] at hq; subst hq; exact ⟨some a,len,cap,rfl,rfl⟩
 | mp o r ho h=>cases q <;> simp [isNilK] at hq; subst hq; exact ⟨some r,rfl,rfl⟩
 | fn f first captured fs cs hl hl' h h'=>cases q <;> simp [isNilK] at hq; subst hq; exact .inr ⟨rfl,_,_,_,rfl⟩
 | ip v a vs h1' hl h hI hs=>cases q <;> simp [isNilK] at hq; subst hq; exact ⟨some a,rfl,rfl⟩
 | ptr o g off a ho h=>cases q <;> simp [isNilK] at hq; subst hq; exact ⟨some a,rfl,rfl⟩
 | ifc t v x h=>cases q <;> simp [isNilK] at hq; subst hq; exact .inr ⟨rfl,_,_,rfl⟩
 | it o r ho h=>cases q <;> simp [isNilK] at hq
 | yld o r ho h=>cases q <;> simp [isNilK] at hq
 | agg cs vs hl h1 h=>cases q <;> simp [isNilK] at hq
 | tup cs vs hl h=>cases q <;> simp [isNilK] at hq
def NilK.under:NilK -> TypeDesc -> Prop
 | .sl,d=>∃ e,d=.slice e
 | .map,d=>∃ e f,d=.map e f
 | .fn,d=>∃ e f g,d=.func e f g
 | .ptr,d=>∃ e,d=.pointer e
 | .ifc,d=>∃ e,d=.interface e
theorem eqKind_nil {t:TypeId} {q:NilK} (h:eqKind P 10 t=some (.nilable q)):∃ d,P.underlying t=some d /\ q.under d:=by
 rw [show 10=9+1 from rfl] at h
 unfold eqKind at h
 split at h
 all_goals first
  | (cases h; done)
  | (rename_i hd; simp at h; subst h; exact ⟨_,hd,by simp [NilK.under]⟩)
  | (split at h <;> first | (cases h; done) | (split at h <;> cases h))
theorem run_equal_nil {t:TypeId} {q:NilK} {d:TypeDesc} (hd:P.underlying t=some d) (hu:q.under d) {x y:Value} {b c:Bool}
  (hx:q.fits x b) (hy:q.fits y c) (hbc:b=true \/ c=true):(Op.equal t x y).run P w=.ok (b && c) w:=by
 rw [run_equal]
 unfold Op.equalIn
 cases q with
 | sl =>
  obtain ⟨e,rfl⟩:=hu
  obtain ⟨p,n,k,rfl,rfl⟩:=hx
  obtain ⟨p',n',k',rfl,rfl⟩:=hy
  cases p <;> cases p' <;> simp [aH hd] at hbc ⊢
 | map =>
  obtain ⟨e,f,rfl⟩:=hu
  obtain ⟨p,rfl,rfl⟩:=hx
  obtain ⟨p',rfl,rfl⟩:=hy
  cases p <;> cases p' <;> simp [aH hd] at hbc ⊢
 | fn =>
  obtain ⟨e,f,g,rfl⟩:=hu
  rcases hx with ⟨rfl,rfl⟩ | ⟨rfl,_,_,_,rfl⟩ <;> rcases hy with ⟨rfl,rfl⟩ | ⟨rfl,_,_,_,rfl⟩ <;> simp [aH hd] at hbc ⊢
 | ptr =>
  obtain ⟨e,rfl⟩:=hu
  obtain ⟨p,rfl,rfl⟩:=hx
  obtain ⟨p',rfl,rfl⟩:=hy
  cases p <;> cases p' <;> simp [aH hd] at hbc ⊢
 | ifc =>
  obtain ⟨e,rfl⟩:=hu
  rcases hx with ⟨rfl,rfl⟩ | ⟨rfl,_,_,rfl⟩ <;> rcases hy with ⟨rfl,rfl⟩ | ⟨rfl,_,_,rfl⟩ <;> simp [aH hd] at hbc ⊢
theorem nilConst_true {x:Operand} (h:isNilConst x=true) {q:NilK} {b:Bool} (hf:q.fits (a.eval x) b):b=true:=by
 cases x with
 | const c =>
  simp only [Act.eval] at hf
  cases c with
  | pointer p=>cases p <;> simp [isNilConst] at h <;> cases q <;> simp [NilK.fits] at hf <;> simp [hf]
  | slice p n c=>cases p <;> simp [isNilConst] at h <;> cases q <;> simp [NilK.fits] at hf <;> simp [hf]
  | map p=>cases p <;> simp [isNilConst] at h <;> cases q <;> simp [NilK.fits] at hf <;> simp [hf]
  | nilFunc=>cases q <;> simp [NilK.fits] at hf <;> simp [hf]
  | nilIface=>cases q <;> simp [NilK.fits] at hf <;> simp [hf]
  | _=>simp [isNilConst] at h
 | _=>simp [isNilConst] at h
theorem snd_eqnil {op:BinOp} {t t':TypeId} {x y:Operand} {x' y':Opd} {v:AV} {h':AHeap} {q:NilK} (ho:o.op=.binOp op t x y t') (hop:op=.eql \/ op=.neq)
  (ht:eqKind P 10 t=some (.nilable q)) (hc:(isNilConst x || isNilConst y)=true) (hx:aF x=some x') (hy:aF y=some y')
  (hr:Rel G N D S I m env h a w) (he:aA G env h (.eqnil q (op matches .neq) x' y')=some (v,h')):Does P G k o a I m w v h':=by
 obtain ⟨d,hd,hu⟩:=eqKind_nil ht
 simp only [aA] at he
 split at he
 .rename_i u u' hu1 hu2
  split at he
  .rename_i p r hp hp'
   simp only [Option.some.injEq,Prod.mk.injEq] at he
   obtain ⟨rfl,rfl⟩:=he
   have f1:=isNilK_fits (aG hx hr hu1) hp
   have f2:=isNilK_fits (aG hy hr hu2) hp'
   have hpr:p=true \/ r=true:=by
    rcases Bool.or_eq_true _ _ ▸ hc with hc | hc
    .exact .inl (nilConst_true hc f1)
    .exact .inr (nilConst_true hc f2)
   have heq:=run_equal_nil (w:=w) hd hu f1 f2 hpr
   have hguard:(eqGuard op t x y (a.eval x) (a.eval y)).run P w=.ok () w:=by
    cases q with
    | sl=>obtain ⟨p,n,k,e1,_⟩:=f1; obtain ⟨p',n',k',e2,_⟩:=f2; rw [e1,e2]; simp [eqGuard]
    | map=>obtain ⟨p,e1,_⟩:=f1; obtain ⟨p',e2,_⟩:=f2; rw [e1,e2]; simp [eqGuard]
    | ptr=>obtain ⟨p,e1,_⟩:=f1; obtain ⟨p',e2,_⟩:=f2; rw [e1,e2]; simp [eqGuard]
    | fn=>rcases f1 with ⟨_,e1⟩ | ⟨_,_,_,_,e1⟩ <;> rcases f2 with ⟨_,e2⟩ | ⟨_,_,_,_,e2⟩ <;> rw [e1,e2] <;> simp [eqGuard]
    | ifc =>
     rcases f1 with ⟨_,e1⟩ | ⟨_,_,_,e1⟩ <;> rcases f2 with ⟨_,e2⟩ | ⟨_,_,_,e2⟩ <;> rw [e1,e2]
     .cases x <;> cases y <;> simp [isNilConst] at hc <;> simp [eqGuard]
     all_goals simp [eqGuard]
   have hbin:∀ (z:Value) (z':Value) ,q.fits z p -> q.fits z' r -> binOp .eql t z z'=(do pure (.bool (<- Op.equal t z z'))) /\ binOp .neq t z z'=(do pure (.bool (!(<- Op.equal t z z')))):=by
    intro z z' g1 g2
    cases q with
    | sl=>obtain ⟨p,n,k,rfl,_⟩:=g1; obtain ⟨p',n',k',rfl,_⟩:=g2; exact ⟨rfl,rfl⟩
    | map=>obtain ⟨p,rfl,_⟩:=g1; obtain ⟨p',rfl,_⟩:=g2; exact ⟨rfl,rfl⟩
    | ptr=>obtain ⟨p,rfl,_⟩:=g1; obtain ⟨p',rfl,_⟩:=g2; exact ⟨rfl,rfl⟩
    | fn=>rcases g1 with ⟨_,rfl⟩ | ⟨_,_,_,_,rfl⟩ <;> rcases g2 with ⟨_,rfl⟩ | ⟨_,_,_,_,rfl⟩ <;> exact ⟨rfl,rfl⟩
    | ifc=>rcases g1 with ⟨_,rfl⟩ | ⟨_,_,_,rfl⟩ <;> rcases g2 with ⟨_,rfl⟩ | ⟨_,_,_,rfl⟩ <;> exact ⟨rfl,rfl⟩
   refine .same hr.inv (.sc _) (.inl ?_)
   rcases hop with rfl | rfl
   .simp only [execOp,ho,(hbin _ _ f1 f2).1,Sem.run_bind,hguard,Sem.run_pure,heq,Result.andThen_ok]
    simp [heq]
   .simp only [execOp,ho,(hbin _ _ f1 f2).2,Sem.run_bind,hguard,Sem.run_pure,heq,Result.andThen_ok]
    simp [heq]
  .cases he
 .cases he
end
end Go.Apx
end
section
namespace Go.Apx
section
variable {P:Program} {G:Globs} {N S k:Nat} {D:Ro} {o:Oper} {a:Act} {I:Imm} {m:aQ} {w:World} {env:Env} {h:AHeap} {ann:List Nat}
theorem snd_pick {c x y:Operand} {c' x' y':Opd} {v:AV} {h':AHeap} (ho:o.op=.pick c x y) (hc:aF c=some c') (hx:aF x=some x') (hy:aF y=some y')
  (hr:Rel G N D S I m env h a w) (he:aA G env h (.pick c' x' y')=some (v,h')):Does P G k o a I m w v h':=by
 simp only [aA] at he
 split at he
 .rename_i t ht
  simp only [Option.map_eq_some_iff,Prod.mk.injEq] at he
  obtain ⟨r,hb,rfl,rfl⟩:=he
  have h1:=ae (aG hc hr ht)
  cases t with
  | true=>exact .same hr.inv (aG hx hr hb) (.inl (by simp [execOp,ho,h1,asBool]))
  | false=>exact .same hr.inv (aG hy hr hb) (.inl (by simp [execOp,ho,h1,asBool]))
 .cases he
theorem snd_un {op:UnOp} {t:TypeId} {x:Operand} {x':Opd} {v:AV} {h':AHeap} (ho:o.op=.unOp op t x) (hx:aF x=some x')
  (hr:Rel G N D S I m env h a w) (he:aA G env h (.un op x')=some (v,h')):Does P G k o a I m w v h':=by
 simp only [aA] at he
 split at he
 .rename_i u hu
  simp only [Option.map_eq_some_iff,Prod.mk.injEq] at he
  obtain ⟨r,hb,rfl,rfl⟩:=he
  have h1:=ae (aG hx hr hu)
  refine .same hr.inv (.sc r) (.inl ?_)
  unfold unV at hb
  split at hb <;> simp at hb <;> subst hb <;> simp [execOp,ho,h1,Op.unary,Op.intArith,Op.intBits]
 .cases he
theorem snd_conv {s d:TypeId} {q q':IntKind} {x:Operand} {x':Opd} {v:AV} {h':AHeap} (ho:o.op=.convert s d x) (hs:P.underlying s=some (.int q')) (hd:P.underlying d=some (.int q))
  (hx:aF x=some x') (hr:Rel G N D S I m env h a w) (he:aA G env h (.conv q x')=some (v,h')):Does P G k o a I m w v h':=by
 simp only [aA] at he
 split at he
 .rename_i q2 n hu
  simp only [Option.some.injEq,Prod.mk.injEq] at he
  obtain ⟨rfl,rfl⟩:=he
  have h1:=ae (aG hx hr hu)
  exact .same hr.inv (.sc _) (.inl (by simp [execOp,ho,h1,convert,aH hs,aH hd,Conv.intToInt]))
 .cases he
theorem snd_same {s d:TypeId} {x:Operand} {x':Opd} {v:AV} {h':AHeap} (ho:o.op=.convert s d x) (hs:P.underlying s=some .string) (hd:P.underlying d=some .string)
  (hx:aF x=some x') (hr:Rel G N D S I m env h a w) (he:aA G env h (.same x')=some (v,h')):Does P G k o a I m w v h':=by
 simp only [aA] at he
 split at he
 .rename_i n hu
  simp only [Option.some.injEq,Prod.mk.injEq] at he
  obtain ⟨rfl,rfl⟩:=he
  have h1:=ae (aG hx hr hu)
  exact .same hr.inv (.sc _) (.inl (by simp [execOp,ho,h1,convert,aH hs,aH hd]))
 .cases he
theorem snd_mkIface {t:TypeId} {d:TypeDesc} {x:Operand} {x':Opd} {v:AV} {h':AHeap} (ho:o.op=.makeInterface t x) (hd:P.underlying t=some d) (hni:∀ e,d ≠ .interface e)
  (hx:aF x=some x') (hr:Rel G N D S I m env h a w) (he:aA G env h (.mkIface t x')=some (v,h')):Does P G k o a I m w v h':=by
 simp only [aA,Option.map_eq_some_iff,Prod.mk.injEq] at he
 obtain ⟨u,hu,rfl,rfl⟩:=he
 refine .same hr.inv (.ifc t u _ (aG hx hr hu)) (.inl ?_)
 cases d <;> simp [execOp,ho,Instr.makeInterface,aH hd] <;> exact absurd rfl (hni _)
theorem snd_mkFunc {f:Fn} {xs ys:Array Operand} {xs' ys':List Opd} {v:AV} {h':AHeap} (ho:o.op=.makeFunc f xs ys)
  (hx:mapM' aF xs.toList=some xs') (hy:mapM' aF ys.toList=some ys')
  (hr:Rel G N D S I m env h a w) (he:aA G env h (.mkFunc f xs' ys')=some (v,h')):Does P G k o a I m w v h':=by
 simp only [aA] at he
 split at he
 .rename_i us ws hu hw
  simp only [Option.some.injEq,Prod.mk.injEq] at he
  obtain ⟨rfl,rfl⟩:=he
  have h1:=opds_sound hx hr hu
  have h2:=opds_sound hy hr hw
  refine .same hr.inv (.fn f us ws _ _ h1.1 h2.1 h1.2 h2.2) (.inl ?_)
  have e1:(xs.toList.map a.eval).toArray=xs.map a.eval:=by apply Array.ext'; simp
  have e2:(ys.toList.map a.eval).toArray=ys.map a.eval:=by apply Array.ext'; simp
  rw [e1,e2]
  simp [execOp,ho,Instr.makeFunc]
 .cases he
theorem snd_extract {x:Operand} {x':Opd} {i:Nat} {v:AV} {h':AHeap} (ho:o.op=.extract x i) (hx:aF x=some x')
  (hr:Rel G N D S I m env h a w) (he:aA G env h (.extract x' i)=some (v,h')):Does P G k o a I m w v h':=by
 simp only [aA] at he
 split at he
 .rename_i vs hu
  simp only [Option.map_eq_some_iff,Prod.mk.injEq] at he
  obtain ⟨r,hb,rfl,rfl⟩:=he
  have hp:=aG hx hr hu
  generalize hax:a.eval x=ax at hp
  cases hp with
  | tup cs us hl hrel =>
   obtain ⟨y,hy,hv⟩:=AVRels.get ⟨hl,hrel⟩ hb
   exact .same hr.inv hv (.inl (by simp [execOp,ho,hax,Instr.extract,hy]))
 .cases he
theorem snd_mx {isMax:Bool} {c:Call} {x y:Operand} {x' y':Opd} {v:AV} {h':AHeap} (ho:o.op=.call c) (hc:c.callee=.builtin (if isMax then .max else .min))
  (ha:c.args.toList=[x,y]) (hx:aF x=some x') (hy:aF y=some y')
  (hr:Rel G N D S I m env h a w) (he:aA G env h (.mx isMax x' y')=some (v,h')):Does P G k o a I m w v h':=by
 simp only [aA] at he
 split at he
 .rename_i q u q' u' hu hu'
  split at he
  .rename_i hq; subst hq
   simp only [Option.some.injEq,Prod.mk.injEq] at he
   obtain ⟨rfl,rfl⟩:=he
   have h1:=ae (aG hx hr hu)
   have h2:=ae (aG hy hr hu')
   have hargs:c.args.map a.eval=#[a.eval x,a.eval y]:=by
    apply Array.ext'
    simp [ha]
   refine .same hr.inv (.sc _) (.inl ?_)
   cases isMax <;> simp [execOp,ho,resolve,hc,hargs,h1,h2,invoke,builtin,Builtin.max_,Builtin.min_,Builtin.max2,Builtin.min2]
  .cases he
 .cases he
theorem run_part {t:TypeId} {ty:Ty} (hty:bC P t=some ty) {vs:List Value} {off:Nat} (hl:((vs.drop off).take ty.size).length=ty.size) :
  (part t vs.toArray off).run P w=.ok (ty.read ((vs.drop off).take ty.size)) w:=by
 obtain ⟨i,hi,hs,ha⟩:=aV (w:=w) hty
 cases ty with
 | one =>
  simp only [Ty.size] at hl
  have hlt:off < vs.length:=by simp at hl; omega
  have hd:(vs.drop off).take 1=[vs[off]]:=by rw [List.drop_eq_getElem_cons hlt]; rfl
  simp [part,ha,Ty.isAgg,Ty.read,Ty.size,hlt,hd]
 | agg n =>
  simp only [Ty.size] at hs hl
  have he:vs.toArray.extract off (off+n)=((vs.drop off).take n).toArray:=by
   apply Array.ext'
   simp [List.extract_eq_take_drop]
  simp [part,ha,Ty.isAgg,Ty.read,Ty.size,aX hi,hs,he]
theorem fieldOf_some {t:TypeId} {f off:Nat} {ty:Ty} (h:fieldOf P t f=some (off,ty)) :
  ∃ fields fd,P.underlying t=some (.struct fields) /\ fields[f]?=some fd /\ fd.offset=off /\ bC P fd.type=some ty /\ 0 < ty.size:=by
 unfold fieldOf at h
 split at h
 .rename_i fields hu
  split at h
  .rename_i fd hf
   split at h
   .rename_i ty' hty
    split at h
    .rename_i hpos
     simp at h
     obtain ⟨rfl,rfl⟩:=h
     exact ⟨fields,fd,hu,hf,rfl,hty,hpos⟩
    .cases h
   .cases h
  .cases h
 .cases h
theorem cA {t:TypeId} {ty:Ty} (h:cB P t=some ty):bC P t=some ty /\ 0 < ty.size:=by
 unfold cB at h
 split at h
 .rename_i ty' hty
  split at h
  .simp at h; subst h; exact ⟨hty,by assumption⟩
  .cases h
 .cases h
theorem snd_field {t:TypeId} {f:Nat} {x:Operand} {x':Opd} {off:Nat} {ty:Ty} {v:AV} {h':AHeap} (ho:o.op=.field t x f) (hf:fieldOf P t f=some (off,ty)) (hx:aF x=some x')
  (hr:Rel G N D S I m env h a w) (he:aA G env h (.field off ty x')=some (v,h')):Does P G k o a I m w v h':=by
 obtain ⟨fields,fd,hu,hfd,rfl,hty,hpos⟩:=fieldOf_some hf
 simp only [aA] at he
 split at he
 .rename_i cs hu'
  simp only [Option.map_eq_some_iff,Prod.mk.injEq] at he
  obtain ⟨r,hb,rfl,rfl⟩:=he
  have hp:=aG hx hr hu'
  generalize hax:a.eval x=ax at hp
  cases hp with
  | agg _ vs hl h1 hrel =>
   obtain ⟨us,hus,hul,hur,hu1,hrd⟩:=part_rel ⟨hl,hrel⟩ h1 hb
   refine .same hr.inv hrd (.inl ?_)
   subst hus
   have:=run_part (P:=P) (w:=w) hty (vs:=vs) (off:=fd.offset) hul
   simp [execOp,ho,hax,Instr.field,aH hu,hfd,asAgg,this]
 .cases he
theorem lies_part {ty:Ty} {cs:List AV} {off:Nat} {v:AV} {ad:Addr} {vs:List Value} (hl:cs.length=vs.length) (hrel:∀ (i:Nat) (a:AV) (x:Value),cs[i]?=some a -> vs[i]?=some x -> AVRel I m a x)
  (h1:∀ c ∈ cs,c.one=true) (hI:Lies I ad.block ad.off vs) (hp:partOf ty cs off=some v) :
  AVRel I m (.ip v) (.pointer (some ⟨ad.block,ad.off+off,none⟩)):=by
 obtain ⟨us,hus,hul,hur,hu1,hrd⟩:=part_rel ⟨hl,hrel⟩ h1 hp
 exact .ip v _ us hu1 hur.1 hur.2 (by rw [hus]; exact hI.sub off ty.size) rfl
theorem addr_add {ad:Addr} (hs:ad.spot=none) (n:Nat):ad.add n=⟨ad.block,ad.off+n,none⟩:=by
 obtain ⟨b,o,s⟩:=ad
 simp at hs; subst hs
 exact Addr.add_mk b o n
theorem snd_faddr {t:TypeId} {f:Nat} {x:Operand} {x':Opd} {off:Nat} {ty:Ty} {v:AV} {h':AHeap} (ho:o.op=.fieldAddr t x f) (hf:fieldOf P t f=some (off,ty)) (hx:aF x=some x')
  (hr:Rel G N D S I m env h a w) (he:aA G env h (.faddr off ty x')=some (v,h')):Does P G k o a I m w v h':=by
 obtain ⟨fields,fd,hu,hfd,rfl,hty,hpos⟩:=fieldOf_some hf
 obtain ⟨i,hi,hsz,_⟩:=aV (w:=w) hty
 have hplace:∀ ad:Addr,(fieldPlace ad fd).run P w=.ok (ad.add fd.offset) w:=fun ad=>by
  have:¬ i.size=0:=by omega
  simp [fieldPlace,aX hi,this]
 have hrun:∀ ad:Addr,a.eval x=.pointer (some ad) -> Gives P o a w (.pointer (some (ad.add fd.offset))) w:=fun ad hax=>.inl (by
  simp [execOp,ho,hax,Instr.fieldAt,aH hu,hfd,Instr.sureAddr,hplace])
 simp only [aA] at he
 split at he
 .rename_i cs hu'
  simp only [Option.map_eq_some_iff,Prod.mk.injEq] at he
  obtain ⟨r,hb,rfl,rfl⟩:=he
  have hp:=aG hx hr hu'
  generalize hax:a.eval x=ax at hp
  cases hp with
  | ip _ ad vs h1 hl hrel hI hs =>
   refine .same hr.inv ?_ (hrun ad hax)
   rw [addr_add hs]
   exact lies_part hl hrel h1 hI hb
 .rename_i ob g off' hu'
  simp only [Option.some.injEq,Prod.mk.injEq] at he
  obtain ⟨rfl,rfl⟩:=he
  have hp:=aG hx hr hu'
  generalize hax:a.eval x=ax at hp
  cases hp with
  | ptr _ _ _ ad hob hpr =>
   refine .same hr.inv (.ptr ob g _ _ hob ?_) (hrun ad hax)
   intro g' b lo n hm
   refine ⟨(hpr g' b lo n hm).1,fun hg=>?_⟩
   rw [(hpr g' b lo n hm).2 hg,Addr.add_mk,Nat.add_assoc]
 .cases he
theorem flat_get {q:Nat}:∀ (es:List AV) (i:Nat) (e:AV),(∀ e ∈ es,e.cells.length=q) -> es[i]?=some e ->
  (((es.flatMap AV.cells).drop (i * q)).take q)=e.cells
 | [],i,e,hw,he=>by simp at he
 | x :: es,0,e,hw,he=>by
  simp at he; subst he
  have:=hw x (by simp)
  simp [<- this]
 | x :: es,i+1,e,hw,he=>by
  have hx:=hw x (by simp)
  have:=flat_get es i e (fun e he=>hw e (by simp [he])) (by simpa using he)
  rw [List.flatMap_cons,List.drop_append]
  have:(i+1) * q - x.cells.length=i * q:=by rw [hx,Nat.succ_mul]; omega
  have h2:x.cells.drop ((i+1) * q)=[]:=by apply List.drop_eq_nil_of_le; rw [hx,Nat.succ_mul]; omega
  rw [this,h2,List.nil_append]
  assumption
theorem lies_elem {q:Nat} {es:List AV} {i:Nat} {e:AV} {ad:Addr} {vs:List Value} (hw:∀ e ∈ es,e.cells.length=q) (h1:∀ c ∈ es.flatMap AV.cells,c.one=true)
  (hrels:AVRels I m (es.flatMap AV.cells) vs) (hI:Lies I ad.block ad.off vs) (he:es[i]?=some e) :
  AVRel I m (.ip e) (.pointer (some ⟨ad.block,ad.off+i * q,none⟩)):=by
 have hf:=flat_get es i e hw he
 have hr:=(hrels.drop (i * q)).take q
 rw [hf] at hr
 have hmem:e ∈ es:=List.mem_of_getElem? he
 exact .ip e _ _ (fun c hc=>h1 c (List.mem_flatMap.2 ⟨e,hmem,hc⟩)) hr.1 hr.2 (hI.sub _ _) rfl
theorem asNat_int {v:AV} {n:Nat} (h:asNat v=some n):∃ q z,v=.sc (.int q z) /\ 0 <= z /\ z.toNat=n:=by
 unfold asNat at h
 split at h
 .rename_i q z
  split at h
  .simp at h; exact ⟨q,z,rfl,by assumption,h⟩
  .cases h
 .cases h
theorem opd_nat {x:Operand} {x':Opd} {n:Nat} (hx:aF x=some x') (hr:Rel G N D S I m env h a w) (he:(aD G env x').bind asNat=some n) :
  ∃ q z,a.eval x=.int q z /\ 0 <= z /\ z.toNat=n:=by
 simp only [Option.bind_eq_some_iff] at he
 obtain ⟨v,hv,hn⟩:=he
 obtain ⟨q,z,rfl,hz,hzn⟩:=asNat_int hn
 exact ⟨q,z,ae (aG hx hr hv),hz,hzn⟩
theorem snd_iaddr {t e:TypeId} {ty:Ty} {x i:Operand} {x' i':Opd} {v:AV} {h':AHeap} (ho:o.op=.indexAddr t x i) (ht:P.underlying t=some (.slice e)) (hty:cB P e=some ty)
  (hx:aF x=some x') (hi:aF i=some i') (hr:Rel G N D S I m env h a w) (he:aA G env h (.iaddr ty.size x' i')=some (v,h')):Does P G k o a I m w v h':=by
 obtain ⟨hty,hpos⟩:=cA hty
 obtain ⟨inf,hinf,hsz,_⟩:=aV (w:=w) hty
 simp only [aA] at he
 split at he
 .rename_i k' es c n hu hn
  obtain ⟨q,z,hai,hz,hzn⟩:=opd_nat hi hr hn
  split at he
  .rename_i hk; subst hk
   simp only [Option.map_eq_some_iff,Prod.mk.injEq] at he
   obtain ⟨el,hel,rfl,rfl⟩:=he
   have hp:=aG hx hr hu
   generalize hax:a.eval x=ax at hp
   have hlt:n < es.length:=(List.getElem?_eq_some_iff.1 hel).1
   cases hp with
   | slnil=>simp at hlt
   | sl _ _ _ ad cap vs hc hle hk hw h1 hl hrel hI hs hcap =>
    have hne:es ≠ []:=by intro e; subst e; simp at hlt
    refine .same hr.inv (lies_elem hw h1 ⟨hl,hrel⟩ hI hel) (.inl ?_)
    have hin:0 <= z /\ z < (es.length:Int):=⟨hz,by omega⟩
    simp [execOp,ho,hax,hai,Instr.indexAt,asIntOf,aH ht,hin,aX hinf,hsz,addr_add (hs hne),hzn]
  .cases he
 .rename_i ob g off len rc n hu hn
  obtain ⟨q,z,hai,hz,hzn⟩:=opd_nat hi hr hn
  split at he
  .rename_i hlt
   simp only [Option.some.injEq,Prod.mk.injEq] at he
   obtain ⟨rfl,rfl⟩:=he
   have hp:=aG hx hr hu
   generalize hax:a.eval x=ax at hp
   cases hp with
   | rf _ _ _ _ _ ad cap hob hle hf hpr =>
    refine .same hr.inv (.ptr ob g _ (ad.add (n * ty.size)) hob ?_) (.inl ?_)
    .intro g' b lo n' hm
     have hpr:=hpr (by omega)
     refine ⟨(hpr g' b lo n' hm).1,fun hg=>?_⟩
     rw [(hpr g' b lo n' hm).2 hg,Addr.add_mk,Nat.add_assoc]
    .have hin:0 <= z /\ z < (len:Int):=⟨hz,by omega⟩
     simp [execOp,ho,hax,hai,Instr.indexAt,asIntOf,aH ht,hin,aX hinf,hsz,hzn]
  .cases he
 .cases he
theorem snd_iaddrA {t e:TypeId} {n:Nat} {ty:Ty} {x i:Operand} {x' i':Opd} {v:AV} {h':AHeap} (ho:o.op=.indexAddr t x i) (ht:P.underlying t=some (.array n e)) (hty:cB P e=some ty)
  (hx:aF x=some x') (hi:aF i=some i') (hr:Rel G N D S I m env h a w) (he:aA G env h (.iaddrA n ty x' i')=some (v,h')):Does P G k o a I m w v h':=by
 obtain ⟨hty,hpos⟩:=cA hty
 obtain ⟨inf,hinf,hsz,_⟩:=aV (w:=w) hty
 simp only [aA] at he
 split at he
 .rename_i cs j hu hn
  obtain ⟨q,z,hai,hz,hzn⟩:=opd_nat hi hr hn
  split at he
  .rename_i hlt
   simp only [Option.map_eq_some_iff,Prod.mk.injEq] at he
   obtain ⟨el,hel,rfl,rfl⟩:=he
   have hp:=aG hx hr hu
   generalize hax:a.eval x=ax at hp
   cases hp with
   | ip _ ad vs h1 hl hrel hI hs =>
    refine .same hr.inv (lies_part hl hrel h1 hI hel) (.inl ?_)
    have hin:0 <= z /\ z < (n:Int):=⟨hz,by omega⟩
    simp [execOp,ho,hax,hai,Instr.indexAt,Instr.sureAddr,asIntOf,aH ht,hin,aX hinf,hsz,addr_add hs,hzn]
  .cases he
 .rename_i ob g off j hu hn
  obtain ⟨q,z,hai,hz,hzn⟩:=opd_nat hi hr hn
  split at he
  .rename_i hlt
   simp only [Option.some.injEq,Prod.mk.injEq] at he
   obtain ⟨rfl,rfl⟩:=he
   have hp:=aG hx hr hu
   generalize hax:a.eval x=ax at hp
   cases hp with
   | ptr _ _ _ ad hob hpr =>
    refine .same hr.inv (.ptr ob g _ (ad.add (j * ty.size)) hob ?_) (.inl ?_)
    .intro g' b lo n' hm
     refine ⟨(hpr g' b lo n' hm).1,fun hg=>?_⟩
     rw [(hpr g' b lo n' hm).2 hg,Addr.add_mk,Nat.add_assoc]
    .have hin:0 <= z /\ z < (n:Int):=⟨hz,by omega⟩
     simp [execOp,ho,hax,hai,Instr.indexAt,Instr.sureAddr,asIntOf,aH ht,hin,aX hinf,hsz,hzn]
  .cases he
 .cases he
theorem snd_index {t e:TypeId} {n:Nat} {ty:Ty} {x i:Operand} {x' i':Opd} {v:AV} {h':AHeap} (ho:o.op=.index t x i) (ht:P.underlying t=some (.array n e)) (hty:cB P e=some ty)
  (hx:aF x=some x') (hi:aF i=some i') (hr:Rel G N D S I m env h a w) (he:aA G env h (.index n ty x' i')=some (v,h')):Does P G k o a I m w v h':=by
 obtain ⟨hty,hpos⟩:=cA hty
 obtain ⟨inf,hinf,hsz,_⟩:=aV (w:=w) hty
 simp only [aA] at he
 split at he
 .rename_i cs j hu hn
  obtain ⟨q,z,hai,hz,hzn⟩:=opd_nat hi hr hn
  split at he
  .rename_i hlt
   simp only [Option.map_eq_some_iff,Prod.mk.injEq] at he
   obtain ⟨el,hel,rfl,rfl⟩:=he
   have hp:=aG hx hr hu
   generalize hax:a.eval x=ax at hp
   cases hp with
   | agg _ vs hl h1 hrel =>
    obtain ⟨us,hus,hul,hur,hu1,hrd⟩:=part_rel ⟨hl,hrel⟩ h1 hel
    refine .same hr.inv hrd (.inl ?_)
    subst hus
    have hin:0 <= z /\ z < (n:Int):=⟨hz,by omega⟩
    have hp:=run_part (P:=P) (w:=w) hty (vs:=vs) (off:=j * ty.size) hul
    simp [execOp,ho,hax,hai,Instr.index,asIntOf,aH ht,hin,aX hinf,hsz,hzn,hp]
  .cases he
 .cases he
theorem snd_indexS {t:TypeId} {x i:Operand} {x' i':Opd} {v:AV} {h':AHeap} (ho:o.op=.index t x i) (ht:P.underlying t=some .string)
  (hx:aF x=some x') (hi:aF i=some i') (hr:Rel G N D S I m env h a w) (he:aA G env h (.indexS x' i')=some (v,h')):Does P G k o a I m w v h':=by
 simp only [aA] at he
 split at he
 .rename_i s j hu hn
  obtain ⟨q,z,hai,hz,hzn⟩:=opd_nat hi hr hn
  simp only [Option.map_eq_some_iff,Prod.mk.injEq] at he
  obtain ⟨b,hb,rfl,rfl⟩:=he
  have h1:=ae (aG hx hr hu)
  refine .same hr.inv (.sc _) (.inl ?_)
  subst hzn
  simp [execOp,ho,h1,hai,Instr.index,asIntOf,aH ht,hz,hb]
 .cases he
theorem snd_tassert {xt t:TypeId} {d:TypeDesc} {z:AV} {ok:Bool} {x:Operand} {x':Opd} {v:AV} {h':AHeap} (ho:o.op=.typeAssert x xt t ok) (hd:P.underlying t=some d) (hni:∀ e,d ≠ .interface e)
  (hz:az P t=some z) (hx:aF x=some x') (hr:Rel G N D S I m env h a w) (he:aA G env h (.tassert t z ok x')=some (v,h')):Does P G k o a I m w v h':=by
 have hzero:∃ zv,(zeroValue t).run P w=.ok zv w /\ AVRel I m z zv:=by
  unfold az at hz
  split at hz
  .rename_i inf hinf
   split at hz
   .rename_i zv hzv
    split at hz
    .rename_i hok
     simp at hz; subst hz
     exact ⟨zv,by simp [zeroValue,bb hinf,hzv],ofValue_rel hok⟩
    .cases hz
   .cases hz
  .cases hz
 obtain ⟨zv,hzr,hzrel⟩:=hzero
 simp only [aA] at he
 split at he
 .rename_i t' u hu
  have hp:=aG hx hr hu
  generalize hax:a.eval x=ax at hp
  cases hp with
  | ifc _ _ y hy =>
   split at he
   .rename_i htt; subst htt
    simp only [Option.some.injEq,Prod.mk.injEq] at he
    obtain ⟨rfl,rfl⟩:=he
    cases ok with
    | true =>
     refine .same (x:=.tuple #[y,.bool true]) hr.inv (AVRel.tup [u,.sc (.bool true)] [y,.bool true] rfl (AVRels.cons hy (.cons (.sc _) .nil)).2) (.inl ?_)
     cases d <;> simp [execOp,ho,hax,Instr.typeAssert,aH hd] <;> exact absurd rfl (hni _)
    | false =>
     refine .same hr.inv hy (.inl ?_)
     cases d <;> simp [execOp,ho,hax,Instr.typeAssert,aH hd] <;> exact absurd rfl (hni _)
   .rename_i htt
    cases ok with
    | false=>simp at he
    | true =>
     simp at he
     obtain ⟨rfl,rfl⟩:=he
     refine .same (x:=.tuple #[zv,.bool false]) hr.inv (AVRel.tup [z,.sc (.bool false)] [zv,.bool false] rfl (AVRels.cons hzrel (.cons (.sc _) .nil)).2) (.inl ?_)
     cases d <;> simp [execOp,ho,hax,Instr.typeAssert,aH hd,htt,hzr] <;> exact absurd rfl (hni _)
 .rename_i hu
  have h1:=ae (aG hx hr hu)
  cases ok with
  | false=>simp at he
  | true =>
   simp at he
   obtain ⟨rfl,rfl⟩:=he
   refine .same (x:=.tuple #[zv,.bool false]) hr.inv (AVRel.tup [z,.sc (.bool false)] [zv,.bool false] rfl (AVRels.cons hzrel (.cons (.sc _) .nil)).2) (.inl ?_)
   cases d <;> simp [execOp,ho,h1,Instr.typeAssert,aH hd,hzr] <;> exact absurd rfl (hni _)
 .cases he
theorem run_eqFields {d:Nat} {X Y:List Value}:∀ (fs:List Field) (i:Nat) (ks:List Nat) (cs ds:List AV) (b:Bool),flatFs P fs i=some ks -> AVRels I m cs (X.drop i) -> AVRels I m ds (Y.drop i) -> cC ks cs ds=some b ->
  (Op.eqFields (d+1) X.toArray Y.toArray fs).run P w=.ok b w
 | [],i,ks,cs,ds,b,hf,_,_,he=>by
  simp [flatFs] at hf; subst hf
  cases cs <;> cases ds <;> simp [cC] at he
  subst he; rfl
 | f :: fs,i,ks,cs,ds,b,hf,hx,hy,he=>by
  simp only [flatFs] at hf
  split at hf
  case isFalse=>cases hf
  rename_i hcond
  obtain ⟨hoff,hname,hty⟩:=hcond
  have main:∀ (k:Nat) (l:List Nat),ks=k :: l -> flatFs P fs (i+1)=some l -> (∀ c d' x y p,cellEq k c d'=some p -> AVRel I m c x -> AVRel I m d' y -> (Op.equalIn (d+1) f.type x y).run P w=.ok p w) ->
    (Op.eqFields (d+1) X.toArray Y.toArray (f :: fs)).run P w=.ok b w:=by
   intro k l hks hl hstep
   subst hks
   cases cs with
   | nil=>cases ds <;> simp [cC] at he
   | cons c cs =>
    cases ds with
    | nil=>simp [cC] at he
    | cons d' ds =>
     obtain ⟨x,xs,ex,hcx,hxs⟩:=AVRels.cons_iff.1 hx
     obtain ⟨y,ys,ey,hdy,hys⟩:=AVRels.cons_iff.1 hy
     have hX:X.drop (i+1)=xs:=by rw [<- List.drop_drop,ex]; rfl
     have hY:Y.drop (i+1)=ys:=by rw [<- List.drop_drop,ey]; rfl
     simp only [cC] at he
     split at he
     case h_2=>cases he
     rename_i p q hp hq
     simp at he; subst he
     have ih:=run_eqFields (d:=d) fs (i+1) l cs ds q hl (by rw [hX]; exact hxs) (by rw [hY]; exact hys) hq
     have px:=run_part (P:=P) (w:=w) hty (vs:=X) (off:=i) (by rw [ex]; simp [Ty.size])
     have py:=run_part (P:=P) (w:=w) hty (vs:=Y) (off:=i) (by rw [ey]; simp [Ty.size])
     rw [ex] at px
     rw [ey] at py
     simp only [Ty.read,Ty.size,List.take_succ_cons,List.take_zero] at px py
     have hq':=hstep c d' x y p hp hcx hdy
     rw [<- hoff] at px py
     simp only [List.headD_cons] at px py
     simp only [Op.eqFields,if_pos hname,Sem.run_bind,px,py,Result.andThen_ok,hq']
     cases p with
     | true=>simpa using ih
     | false=>simp
  split at hf
  .rename_i kk l hu hl
   simp at hf
   refine main 0 l hf.symm hl fun c d' x y p hp hc hd=>?_
   unfold cellEq at hp
   split at hp
   .have e1:=ae hc; have e2:=ae hd; subst e1 e2
    split at hp
    .rename_i hk; subst hk
     simp at hp; subst hp
     exact run_equalIn_int w d f.type _ _ _ _ hu
    .cases hp
   .rename_i e; cases e
   .rename_i e; cases e
   .cases hp
  .rename_i l hu hl
   simp at hf
   refine main 1 l hf.symm hl fun c d' x y p hp hc hd=>?_
   unfold cellEq at hp
   split at hp
   .rename_i e; cases e
   .have e1:=ae hc; have e2:=ae hd; subst e1 e2
    simp only [Option.some.injEq] at hp; subst hp
    exact run_equalIn_string w d f.type _ _ hu
   .rename_i e; cases e
   .cases hp
  .rename_i l hu hl
   simp at hf
   refine main 2 l hf.symm hl fun c d' x y p hp hc hd=>?_
   unfold cellEq at hp
   split at hp
   .rename_i e; cases e
   .rename_i e; cases e
   .have e1:=ae hc; have e2:=ae hd; subst e1 e2
    simp only [Option.some.injEq] at hp; subst hp
    exact run_equalIn_bool' w d f.type _ _ hu
   .cases hp
  .cases hf
theorem snd_eqagg {op:BinOp} {t t':TypeId} {x y:Operand} {x' y':Opd} {ks:List Nat} {v:AV} {h':AHeap} (ho:o.op=.binOp op t x y t') (hop:op=.eql \/ op=.neq)
  (hfl:flatOf P t=some ks) (hx:aF x=some x') (hy:aF y=some y')
  (hr:Rel G N D S I m env h a w) (he:aA G env h (.eqagg ks (op matches .neq) x' y')=some (v,h')):Does P G k o a I m w v h':=by
 unfold flatOf at hfl
 split at hfl
 case h_2=>cases hfl
 rename_i fs ht
 split at hfl
 case isFalse=>cases hfl
 rename_i hg
 simp only [aA] at he
 split at he
 case h_2=>cases he
 rename_i cs ds hu hu'
 simp only [Option.map_eq_some_iff,Prod.mk.injEq] at he
 obtain ⟨b,hb,rfl,rfl⟩:=he
 have h1:=aG hx hr hu
 have h2:=aG hy hr hu'
 generalize hax:a.eval x=ax at h1
 generalize hay:a.eval y=ay at h2
 cases h1 with
 | agg _ X hl1 _ hX =>
  cases h2 with
  | agg _ Y hl2 _ hY =>
   have hfo:P.fieldsOf t=fs:=by simp [Program.fieldsOf,ht]
   have heq:(Op.equalIn 10000 t (.agg X.toArray) (.agg Y.toArray)).run P w=.ok b w:=by
    rw [show 10000=9998+1+1 from rfl,run_equalIn_struct w _ t _ _ (by rw [hfo]; exact ht) hg.1,hfo]
    exact run_eqFields fs.toList 0 ks cs ds b hfl ⟨hl1,hX⟩ ⟨hl2,hY⟩ hb
   refine .same hr.inv (.sc _) (.inl ?_)
   have hguard:=run_eqGuard_agg (P:=P) w op t x y X.toArray Y.toArray hg.2
   rcases hop with rfl | rfl
   .simp only [execOp,ho,hax,hay,Sem.run_bind,hguard,Result.andThen_ok,run_eql_struct,heq,Sem.run_pure]
    simp
   .simp only [execOp,ho,hax,hay,Sem.run_bind,hguard,Result.andThen_ok,run_neq_struct,heq,Sem.run_pure]
    simp
end
end Go.Apx
end
section
namespace Go.Apx
section
variable {G:Globs} {k:Nat} {I:Imm} {m:aQ} {w:World} {h:AHeap}
theorem getElem?_append_one {α:Type} {l:List α} {x y:α} {i:Nat} (h:(l++[x])[i]?=some y):l[i]?=some y \/ (i=l.length /\ y=x):=by
 rw [List.getElem?_append] at h
 split at h
 .exact .inl h
 .rename_i hi
  have:i - l.length=0:=by
   have:=(List.getElem?_eq_some_iff.1 h).1
   simp at this; omega
  rw [this] at h
  simp at h
  exact .inr ⟨by omega,h.symm⟩
theorem Inv.allocNew (hv:Inv G I m h w) (ob:Obj) (pre:List Value) (l:Loc) (obj:AObj)
  (hpre:∀ (i:Nat) (x:Value),pre[i]?=some x -> (w.alloc ob).cell? ⟨w.heap.size,i,none⟩=some x)
  (howns:∀ b o,l.owns b o -> b=w.heap.size /\ pre.length <= o)
  (hobj:ObjRel (I.row w.heap.size pre) (m++[l]) (w.alloc ob) obj l) :
  Inv G (I.row w.heap.size pre) (m++[l]) (h++[obj]) (w.alloc ob) /\ Trans m.length I m w (I.row w.heap.size pre) (m++[l]) (w.alloc ob) /\ LocsLe m (m++[l]):=by
 have hle:ImmLe I (I.row w.heap.size pre):=Imm.row_le hv.imm_new
 have hold:∀ b o,b < w.heap.size -> I.row w.heap.size pre b o=I b o:=fun b o hb=>by
  unfold Imm.row; rw [if_neg (Nat.ne_of_lt hb)]
 have hml:=LocsLe.append m [l]
 have hsz:w.heap.size <= (w.alloc ob).heap.size:=by simp
 refine ⟨?_,?_,hml⟩
 .exact
  {len:=by simp [hv.len]
   obj:=fun i o l' ho hl=>by
    rcases getElem?_append_one hl with hl1 | ⟨hi,rfl⟩
    .have hi:i < m.length:=(List.getElem?_eq_some_iff.1 hl1).1
     rcases getElem?_append_one ho with ho1 | ⟨hi',_⟩
     .exact (hv.obj i o l' ho1 hl1).mono hle hml
       (fun b p hp=>⟨World.cell?_alloc_lt w _ _ (hv.lt i l' b p hl1 hp),World.frozen?_alloc_old w _ _ (Nat.ne_of_lt (hv.lt i l' b p hl1 hp))⟩)
       (fun b e=>ba (hv.lt i l' b 0 hl1 (by subst e; exact rfl)))
     .have:=hv.len; omega
    .rcases getElem?_append_one ho with ho1 | ⟨_,rfl⟩
     .have:=(List.getElem?_eq_some_iff.1 ho1).1
      have:=hv.len; omega
     .exact hobj
   imm:=fun b o v hx=>by
    unfold Imm.row at hx
    split at hx
    .rename_i e; subst e; exact hpre o v hx
    .rw [World.cell?_alloc_lt w _ _ (hv.imm_lt hx)]; exact hv.imm b o v hx
   disj:=fun i j l1 l2 b o h1 h2 o1 o2=>by
    rcases getElem?_append_one h1 with h1' | ⟨e1,rfl⟩ <;> rcases getElem?_append_one h2 with h2' | ⟨e2,rfl⟩
    .exact hv.disj i j l1 l2 b o h1' h2' o1 o2
    .have:=hv.lt i l1 b o h1' o1
     have:=(howns b o o2).1
     omega
    .have:=hv.lt j l2 b o h2' o2
     have:=(howns b o o1).1
     omega
    .omega
   immd:=fun i l1 b o h1 o1=>by
    rcases getElem?_append_one h1 with h1' | ⟨e1,rfl⟩
    .rw [hold b o (hv.lt i l1 b o h1' o1)]; exact hv.immd i l1 b o h1' o1
    .obtain ⟨rfl,hp⟩:=howns b o o1
     unfold Imm.row
     rw [if_pos rfl]
     simp [hp]
   lt:=fun i l1 b o h1 o1=>by
    rcases getElem?_append_one h1 with h1' | ⟨e1,rfl⟩
    .have:=hv.lt i l1 b o h1' o1; simp; omega
    .have:=(howns b o o1).1; simp; omega
   glob:=fun g v hg m'=>(hv.glob g v hg m').mono hle (.refl m') }
 .exact
  {os:=rfl,tape:=rfl,output:=rfl,size:=hsz,cell:=fun b o hb _=>World.cell?_alloc_lt w _ _ hb,
   froz:=fun a ha=>World.frozen?_alloc_old w _ a (Nat.ne_of_lt ha),blk:=fun b hb _=>ba hb,imm:=hle,
   own:=fun i l1 b o h1 o1 hb=>by
    rcases getElem?_append_one h1 with h1' | ⟨e1,rfl⟩
    .exact ⟨i,l1,h1',o1⟩
    .have:=(howns b o o1).1; omega
   immNew:=fun b o hb hx=>.inl (by rw [hold b o hb] at hx; exact hx),
   loc:=fun i l1 _ hl=>by obtain ⟨l',h1,h2⟩:=hml i l1 hl; exact ⟨l',h1,h2⟩ }
theorem Imm.row_nil {B:Nat} (hn:∀ o,I B o=none):I.row B []=I:=by
 funext b o
 unfold Imm.row
 split
 .rename_i e; subst e; simp [hn o]
 .rfl
theorem Inv.allocCells (hv:Inv G I m h w) (cs:Array Value) (e:TypeId) (z:List AV) (hz:AVRels I m z cs.toList) (h1:∀ c ∈ z,c.one=true) :
  Inv G I (m++[.cells 0 w.heap.size 0 cs.size]) (h++[.cells 0 z]) (w.alloc (.cells cs e)) /\
  Trans m.length I m w I (m++[.cells 0 w.heap.size 0 cs.size]) (w.alloc (.cells cs e)) /\ LocsLe m (m++[.cells 0 w.heap.size 0 cs.size]):=by
 have:=hv.allocNew (.cells cs e) [] (.cells 0 w.heap.size 0 cs.size) (.cells 0 z) (fun i x hx=>by simp at hx)
  (fun b o hp=>⟨hp.1,by simp⟩) ?_
 .rw [Imm.row_nil hv.imm_new] at this; exact this
 .rw [Imm.row_nil hv.imm_new]
  refine ⟨w.heap.size,0,cs.size,cs.toList,rfl,by have:=hz.1; simp at this; omega,hz.mono (.refl I) (LocsLe.append m _),h1,fun i x hx=>?_,fun i hi=>?_⟩
  .simpa using hx
  .simp [hi]
theorem Inv.storeE (hv:Inv G I m h w) {i g b lo n off:Nat} {cs us':List AV} {us:List Value} (ho:h[i]?=some (.cells g cs)) (hl:m[i]?=some (.cells g b lo n))
  (hoff0:off <= cs.length) (hoff:off+us.length <= n) (hu:AVRels I m us' us) (h1:∀ c ∈ us',c.one=true) :
  Inv G I m (h.set i (.cells g (cs.take off++us'++cs.drop (off+us.length)))) (w.setCells b (lo+off) us) /\
  (∀ k,Trans k I m w I m (w.setCells b (lo+off) us)):=by
 obtain ⟨b',lo',n',vs,e,hle,hrel,hone,hcell,hall⟩:=hv.obj i _ _ ho hl
 cases e
 have hown:∀ o,lo+off <= o -> o < lo+off+us.length -> (Loc.cells g b lo n).owns b o:=fun o h1 h2=>⟨rfl,by omega,by omega⟩
 have hlen:=hrel.1
 have hother:∀ (j:Nat) (l:Loc) (b' o:Nat),m[j]?=some l -> l.owns b' o -> j ≠ i -> ¬ (b'=b /\ lo+off <= o /\ o < lo+off+us.length):=by
  rintro j l b' o hj hp hne ⟨rfl,h2,h3⟩
  exact hne (hv.disj j i l _ b' o hj hl hp (hown o h2 h3))
 have himm:∀ b' o x,I b' o=some x -> ¬ (b'=b /\ lo+off <= o /\ o < lo+off+us.length):=by
  rintro b' o x hx ⟨rfl,h2,h3⟩
  rw [hv.immd i _ b' o hl (hown o h2 h3)] at hx; cases hx
 refine ⟨?_,fun k=>?_⟩
 .exact
  {len:=by simp [hv.len]
   obj:=fun j o l hj hlj=>by
    rw [List.getElem?_set] at hj
    split at hj
    .rename_i e; subst e
     split at hj
     .simp at hj; subst hj
      rw [hl] at hlj; simp at hlj; subst hlj
      refine ⟨b,lo,n,vs.take off++us++vs.drop (off+us.length),rfl,?_,?_,?_,fun q x hx=>?_,fun q hq=>?_⟩
      .have:=hu.1; simp; omega
      .rw [<- List.append_assoc]
       exact ((hrel.take off).append hu).append (hrel.drop _)
      .intro c hc
       simp only [List.mem_append] at hc
       rcases hc with hc | hc | hc
       .exact hone c (List.mem_of_mem_take hc)
       .exact h1 c hc
       .exact hone c (List.mem_of_mem_drop hc)
      .have hcs:∀ q',q' < n -> (w.cell? ⟨b,lo+q',none⟩).isSome=true:=fun q' hq'=>(hall q' (by omega)).1
       rw [List.append_assoc,List.getElem?_append] at hx
       have hto:(vs.take off).length=off:=by simp; omega
       split at hx
       .rename_i hlt
        rw [hto] at hlt
        rw [cell?_setCells (by omega)]
        rw [List.getElem?_take] at hx
        simp [hlt] at hx
        exact hcell q x hx
       .rename_i hge
        rw [hto] at hge hx
        rw [List.getElem?_append] at hx
        split at hx
        .rename_i hlt2
         have:=World.cell?_setCells_in b us (lo+off) w (fun q hq=>by have:=hcs (off+q) (by omega); rwa [<- Nat.add_assoc] at this) (q - off) hlt2
         rw [show lo+off+(q - off)=lo+q by omega] at this
         rw [this]
         rw [List.getElem?_eq_getElem hlt2] at hx
         exact hx
        .rename_i hge2
         rw [cell?_setCells (by omega)]
         rw [List.getElem?_drop] at hx
         rw [show off+us.length+(q - off - us.length)=q by omega] at hx
         exact hcell q x hx
      .have hq':=hall q hq
       rw [World.frozen?_setCells]
       refine ⟨?_,hq'.2⟩
       by_cases hin:lo+off <= lo+q /\ lo+q < lo+off+us.length
       .have:=World.cell?_setCells_in b us (lo+off) w (fun q' hq''=>by have:=(hall (off+q') (by omega)).1; rwa [<- Nat.add_assoc] at this) (q - off) (by omega)
        rw [show lo+off+(q - off)=lo+q by omega] at this
        rw [this]
        rfl
       .rw [cell?_setCells (by omega)]; exact hq'.1
     .cases hj
    .rename_i hne
     exact (hv.obj j o l hj hlj).mono (.refl I) (.refl m)
      (fun b' p hp=>⟨cell?_setCells (hother j l b' p hlj hp (Ne.symm hne)),World.frozen?_setCells _ _ _ _ _⟩)
      (fun b' e=>by
       subst e
       cases us with
       | nil=>rfl
       | cons u us =>
        refine heap_setCells fun e=>?_
        subst e
        exact hother j (.whole b') b' (lo+off) hlj rfl (Ne.symm hne) ⟨rfl,Nat.le_refl _,by simp⟩)
   imm:=fun b' o x hx=>by rw [cell?_setCells (himm b' o x hx)]; exact hv.imm b' o x hx
   disj:=hv.disj
   immd:=hv.immd
   lt:=fun j l b' o hj hp=>by rw [size_setCells]; exact hv.lt j l b' o hj hp
   glob:=hv.glob }
 .obtain ⟨e1,e2,e3,e4⟩:=misc_setCells (b:=b) (o:=lo+off) (vs:=us) (w:=w)
  exact
  {os:=e1,tape:=e2,output:=e3,size:=by rw [size_setCells]; exact Nat.le_refl _
   cell:=fun b' o hb hn=>cell?_setCells fun ⟨h1,h2,h3⟩=>hn i _ hl (h1 ▸ hown o h2 h3)
   froz:=fun a ha=>World.frozen?_setCells _ _ _ _ _
   blk:=fun b' hb hn=>by
    cases us with
    | nil=>rfl
    | cons u us =>
     refine heap_setCells fun e=>?_
     subst e
     exact hn i _ (lo+off) hl (hown _ (Nat.le_refl _) (by simp))
   imm:=.refl I
   own:=fun j l b' o h1 h2 _=>⟨j,l,h1,h2⟩
   immNew:=fun b' o _ hx=>.inl hx
   loc:=fun j l _ hj=>⟨l,hj,.refl l⟩ }
theorem Inv.store (hv:Inv G I m h w) {i g b lo n off:Nat} {cs us':List AV} {us:List Value} (ho:h[i]?=some (.cells g cs)) (hl:m[i]?=some (.cells g b lo n))
  (hoff:off+us.length <= cs.length) (hu:AVRels I m us' us) (h1:∀ c ∈ us',c.one=true) :
  Inv G I m (h.set i (.cells g (cs.take off++us'++cs.drop (off+us.length)))) (w.setCells b (lo+off) us) /\
  (∀ k,Trans k I m w I m (w.setCells b (lo+off) us)):=by
 obtain ⟨b',lo',n',vs,e,hle,_⟩:=hv.obj i _ _ ho hl
 cases e
 exact hv.storeE ho hl (by omega) (by omega) hu h1
theorem Inv.setMap (hv:Inv G I m h w) {i b:Nat} {es es':List (AV × AV)} {ents':Array MapEntry} {clock':Nat} (ho:h[i]?=some (.amap es)) (hl:m[i]?=some (.whole b))
  (hrel:MapRel I m es' ents'.toList clock') :
  Inv G I m (h.set i (.amap es')) { w with heap:=w.heap.setIfInBounds b (.map ents' clock') } /\
  (∀ k,Trans k I m w I m { w with heap:=w.heap.setIfInBounds b (.map ents' clock') }):=by
 obtain ⟨b',ents,clock,e,hb,hr⟩:=hv.obj i _ _ ho hl
 cases e
 have hlt:b < w.heap.size:=hv.lt i _ b 0 hl rfl
 have hcell:∀ b' o,b' ≠ b -> World.cell? { w with heap:=w.heap.setIfInBounds b (.map ents' clock') } ⟨b',o,none⟩=w.cell? ⟨b',o,none⟩:=by
  intro b' o hne
  simp only [World.cell?]
  rw [Array.getElem?_setIfInBounds_ne (Ne.symm hne)]
 have hfroz:∀ a:Addr,World.frozen? { w with heap:=w.heap.setIfInBounds b (.map ents' clock') } a=w.frozen? a:=by
  intro a
  simp only [World.frozen?]
  by_cases hne:a.block=b
  .rw [hne,Array.getElem?_setIfInBounds_self_of_lt hlt,hb]
  .rw [Array.getElem?_setIfInBounds_ne (Ne.symm hne)]
 have hheap:∀ b',b' ≠ b -> (w.heap.setIfInBounds b (.map ents' clock'))[b']?=w.heap[b']?:=fun b' hne=>Array.getElem?_setIfInBounds_ne (Ne.symm hne)
 have hno:∀ o,w.cell? ⟨b,o,none⟩=none:=fun o=>by simp [World.cell?,hb]
 have himm:∀ b' o x,I b' o=some x -> b' ≠ b:=by
  rintro b' o x hx rfl
  have:=hv.imm b' o x hx
  rw [hno] at this; cases this
 refine ⟨?_,fun k=>?_⟩
 .exact
  {len:=by simp [hv.len]
   obj:=fun j o l hj hlj=>by
    rw [List.getElem?_set] at hj
    split at hj
    .rename_i e; subst e
     split at hj
     .simp at hj; subst hj
      rw [hl] at hlj; simp at hlj; subst hlj
      exact ⟨b,ents',clock',rfl,Array.getElem?_setIfInBounds_self_of_lt hlt,hrel⟩
     .cases hj
    .rename_i hne
     have hnb:∀ b' p,l.owns b' p -> b' ≠ b:=by
      rintro b' p hp rfl
      exact hne (hv.disj j i l _ b' p hlj hl hp rfl).symm
     exact (hv.obj j o l hj hlj).mono (.refl I) (.refl m) (fun b' p hp=>⟨hcell b' p (hnb b' p hp),hfroz _⟩)
      (fun b' e=>hheap b' (hnb b' 0 (by subst e; exact rfl)))
   imm:=fun b' o x hx=>by rw [hcell b' o (himm b' o x hx)]; exact hv.imm b' o x hx
   disj:=hv.disj
   immd:=hv.immd
   lt:=fun j l b' o hj hp=>by simp; exact hv.lt j l b' o hj hp
   glob:=hv.glob }
 .exact
  {os:=rfl,tape:=rfl,output:=rfl,size:=by simp
   cell:=fun b' o hb' hn=>hcell b' o fun e=>hn i _ hl (by subst e; exact rfl)
   froz:=fun a ha=>hfroz a
   blk:=fun b' hb' hn=>hheap b' fun e=>hn i _ 0 hl (by subst e; exact rfl)
   imm:=.refl I
   own:=fun j l b' o h1 h2 _=>⟨j,l,h1,h2⟩
   immNew:=fun b' o _ hx=>.inl hx
   loc:=fun j l _ hj=>⟨l,hj,.refl l⟩ }
theorem Inv.setIter (hv:Inv G I m h w) {i b:Nat} {t:ByteArray} {p q:Nat} (ho:h[i]?=some (.siter t p)) (hl:m[i]?=some (.whole b)) :
  Inv G I m (h.set i (.siter t q)) { w with heap:=w.heap.setIfInBounds b (.stringIter t q) } /\
  (∀ k,Trans k I m w I m { w with heap:=w.heap.setIfInBounds b (.stringIter t q) }):=by
 obtain ⟨b',e,hb⟩:=hv.obj i _ _ ho hl
 cases e
 have hlt:b < w.heap.size:=hv.lt i _ b 0 hl rfl
 have hcell:∀ b' o,b' ≠ b -> World.cell? { w with heap:=w.heap.setIfInBounds b (.stringIter t q) } ⟨b',o,none⟩=w.cell? ⟨b',o,none⟩:=by
  intro b' o hne
  simp only [World.cell?]
  rw [Array.getElem?_setIfInBounds_ne (Ne.symm hne)]
 have hfroz:∀ a:Addr,World.frozen? { w with heap:=w.heap.setIfInBounds b (.stringIter t q) } a=w.frozen? a:=by
  intro a
  simp only [World.frozen?]
  by_cases hne:a.block=b
  .rw [hne,Array.getElem?_setIfInBounds_self_of_lt hlt,hb]
  .rw [Array.getElem?_setIfInBounds_ne (Ne.symm hne)]
 have hheap:∀ b',b' ≠ b -> (w.heap.setIfInBounds b (.stringIter t q))[b']?=w.heap[b']?:=fun b' hne=>Array.getElem?_setIfInBounds_ne (Ne.symm hne)
 have hno:∀ o,w.cell? ⟨b,o,none⟩=none:=fun o=>by simp [World.cell?,hb]
 have himm:∀ b' o x,I b' o=some x -> b' ≠ b:=by
  rintro b' o x hx rfl
  have:=hv.imm b' o x hx
  rw [hno] at this; cases this
 refine ⟨?_,fun k=>?_⟩
 .exact
  {len:=by simp [hv.len]
   obj:=fun j o l hj hlj=>by
    rw [List.getElem?_set] at hj
    split at hj
    .rename_i e; subst e
     split at hj
     .simp at hj; subst hj
      rw [hl] at hlj; simp at hlj; subst hlj
      exact ⟨b,rfl,Array.getElem?_setIfInBounds_self_of_lt hlt⟩
     .cases hj
    .rename_i hne
     have hnb:∀ b' p,l.owns b' p -> b' ≠ b:=by
      rintro b' p hp rfl
      exact hne (hv.disj j i l _ b' p hlj hl hp rfl).symm
     exact (hv.obj j o l hj hlj).mono (.refl I) (.refl m) (fun b' p hp=>⟨hcell b' p (hnb b' p hp),hfroz _⟩)
      (fun b' e=>hheap b' (hnb b' 0 (by subst e; exact rfl)))
   imm:=fun b' o x hx=>by rw [hcell b' o (himm b' o x hx)]; exact hv.imm b' o x hx
   disj:=hv.disj
   immd:=hv.immd
   lt:=fun j l b' o hj hp=>by simp; exact hv.lt j l b' o hj hp
   glob:=hv.glob }
 .exact
  {os:=rfl,tape:=rfl,output:=rfl,size:=by simp
   cell:=fun b' o hb' hn=>hcell b' o fun e=>hn i _ hl (by subst e; exact rfl)
   froz:=fun a ha=>hfroz a
   blk:=fun b' hb' hn=>hheap b' fun e=>hn i _ 0 hl (by subst e; exact rfl)
   imm:=.refl I
   own:=fun j l b' o h1 h2 _=>⟨j,l,h1,h2⟩
   immNew:=fun b' o _ hx=>.inl hx
   loc:=fun j l _ hj=>⟨l,hj,.refl l⟩ }
def Imm.add (I:Imm) (b off:Nat) (vs:List Value):Imm:=fun b' o=>if b'=b /\ off <= o /\ o < off+vs.length then vs[o - off]? else I b' o
theorem Lies.add {b off:Nat} {vs:List Value}:Lies (I.add b off vs) b off vs:=by
 intro i x hx
 have hi:i < vs.length:=(List.getElem?_eq_some_iff.1 hx).1
 unfold Imm.add
 rw [if_pos ⟨rfl,by omega,by omega⟩]
 simpa using hx
theorem Inv.grow (hv:Inv G I m h w) {t n n' b s e:Nat} {us:List Value} (ho:h[t]?=some (.tok n)) (hl:m[t]?=some (.tok n b s e)) (hlen:s+us.length <= e) (hn:n < n')
  (h1:∀ x ∈ us,x.oneCell'=true) :
  Inv G (I.add b s us) (m.set t (.tok n' b (s+us.length) e)) (h.set t (.tok n')) (w.setCells b s us) /\
  (∀ k,Trans k I m w (I.add b s us) (m.set t (.tok n' b (s+us.length) e)) (w.setCells b s us)) /\ LocsLe m (m.set t (.tok n' b (s+us.length) e)):=by
 obtain ⟨b',s',e',he,hse,hall⟩:=hv.obj t _ _ ho hl
 cases he
 have htl:t < m.length:=(List.getElem?_eq_some_iff.1 hl).1
 have hown:∀ o,s <= o -> o < s+us.length -> (Loc.tok n b s e).owns b o:=fun o h1 h2=>⟨rfl,by omega,by omega⟩
 have hnone:∀ o,s <= o -> o < s+us.length -> I b o=none:=fun o h1 h2=>hv.immd t _ b o hl (hown o h1 h2)
 have hle:ImmLe I (I.add b s us):=by
  intro b' o y hy
  unfold Imm.add
  split
  .rename_i hc; obtain ⟨rfl,h2,h3⟩:=hc; rw [hnone o h2 h3] at hy; cases hy
  .exact hy
 have hml:LocsLe m (m.set t (.tok n' b (s+us.length) e)):=by
  intro i l hi
  rw [List.getElem?_set]
  split
  .rename_i he; subst he
   rw [hl] at hi; simp at hi; subst hi
   exact ⟨_,rfl,.tok hn⟩
  .exact ⟨l,hi,.refl l⟩
 have hset:∀ (j:Nat) (l:Loc),(m.set t (.tok n' b (s+us.length) e))[j]?=some l -> (j=t /\ l=.tok n' b (s+us.length) e) \/ (j ≠ t /\ m[j]?=some l):=by
  intro j l hj
  rw [List.getElem?_set] at hj
  split at hj
  .rename_i he; subst he; simp [htl] at hj; exact .inl ⟨rfl,hj.symm⟩
  .rename_i he; exact .inr ⟨Ne.symm he,hj⟩
 have hsub:∀ b' o,(Loc.tok n' b (s+us.length) e).owns b' o -> (Loc.tok n b s e).owns b' o:=fun b' o hp=>⟨hp.1,by have:=hp.2.1; omega,hp.2.2⟩
 have hback:∀ (j:Nat) (l:Loc) (b' o:Nat),(m.set t (.tok n' b (s+us.length) e))[j]?=some l -> l.owns b' o -> ∃ l',m[j]?=some l' /\ l'.owns b' o:=by
  intro j l b' o hj hp
  rcases hset j l hj with ⟨rfl,rfl⟩ | ⟨_,hj⟩
  .exact ⟨_,hl,hsub b' o hp⟩
  .exact ⟨l,hj,hp⟩
 have hother:∀ (j:Nat) (l:Loc) (b' o:Nat),m[j]?=some l -> l.owns b' o -> j ≠ t -> ¬ (b'=b /\ s <= o /\ o < s+us.length):=by
  rintro j l b' o hj hp hne ⟨rfl,h2,h3⟩
  exact hne (hv.disj j t l _ b' o hj hl hp (hown o h2 h3))
 have hin:∀ q,q < us.length -> (w.setCells b s us).cell? ⟨b,s+q,none⟩=us[q]?:=fun q hq=>by
  rw [World.cell?_setCells_in b us s w (fun q hq=>(hall (s+q) (by omega) (by omega)).1) q hq,List.getElem?_eq_getElem hq]
 have himm:∀ b' o x,I.add b s us b' o=some x -> (w.setCells b s us).cell? ⟨b',o,none⟩=some x:=by
  intro b' o x hx
  unfold Imm.add at hx
  split at hx
  .rename_i hc; obtain ⟨rfl,h2,h3⟩:=hc
   have:=hin (o - s) (by omega)
   rw [show s+(o - s)=o by omega] at this
   rw [this]; exact hx
  .rename_i hc
   rw [cell?_setCells hc]; exact hv.imm b' o x hx
 refine ⟨?_,fun k=>?_,hml⟩
 .exact
  {len:=by simp [hv.len]
   obj:=fun j o l hj hlj=>by
    rcases hset j l hlj with ⟨rfl,rfl⟩ | ⟨hne,hlj'⟩
    .have hjl:j < h.length:=by have:=hv.len; omega
     rw [List.getElem?_set] at hj
     simp [hjl] at hj; subst hj
     refine ⟨b,s+us.length,e,rfl,hlen,fun o h2 h3=>?_⟩
     have:=hall o (by omega) h3
     rw [cell?_setCells (by omega),World.frozen?_setCells]
     exact this
    .rw [List.getElem?_set] at hj
     rw [if_neg (Ne.symm hne)] at hj
     exact (hv.obj j o l hj hlj').mono hle hml
      (fun b' p hp=>⟨cell?_setCells (hother j l b' p hlj' hp hne),World.frozen?_setCells _ _ _ _ _⟩)
      (fun b' he=>by
       subst he
       cases us with
       | nil=>rfl
       | cons u us =>
        refine heap_setCells fun he=>?_
        subst he
        exact hother j (.whole b') b' s hlj' rfl hne ⟨rfl,Nat.le_refl _,by simp⟩)
   imm:=himm
   disj:=fun i j l1 l2 b' o h1 h2 o1 o2=>by
    obtain ⟨l1',h1',o1'⟩:=hback i l1 b' o h1 o1
    obtain ⟨l2',h2',o2'⟩:=hback j l2 b' o h2 o2
    exact hv.disj i j l1' l2' b' o h1' h2' o1' o2'
   immd:=fun j l b' o hj hp=>by
    unfold Imm.add
    rcases hset j l hj with ⟨rfl,rfl⟩ | ⟨hne,hj'⟩
    .rw [if_neg (by have:=hp.2.1; omega)]
     exact hv.immd j _ b' o hl (hsub b' o hp)
    .rw [if_neg (hother j l b' o hj' hp hne)]
     exact hv.immd j l b' o hj' hp
   lt:=fun j l b' o hj hp=>by
    obtain ⟨l',h1,o1⟩:=hback j l b' o hj hp
    rw [size_setCells]; exact hv.lt j l' b' o h1 o1
   glob:=fun g v hg m'=>(hv.glob g v hg m').mono hle (.refl m') }
 .obtain ⟨e1,e2,e3,e4⟩:=misc_setCells (b:=b) (o:=s) (vs:=us) (w:=w)
  exact
  {os:=e1,tape:=e2,output:=e3,size:=by rw [size_setCells]; exact Nat.le_refl _
   cell:=fun b' o hb hn=>cell?_setCells fun ⟨h1,h2,h3⟩=>hn t _ hl (h1 ▸ hown o h2 h3)
   froz:=fun a ha=>World.frozen?_setCells _ _ _ _ _
   blk:=fun b' hb hn=>by
    cases us with
    | nil=>rfl
    | cons u us =>
     refine heap_setCells fun e=>?_
     subst e
     exact hn t _ s hl (hown _ (Nat.le_refl _) (by simp))
   imm:=hle
   own:=fun j l b' o h1 h2 _=>by obtain ⟨l',h3,h4⟩:=hback j l b' o h1 h2; exact ⟨j,l',h3,h4⟩
   immNew:=fun b' o _ hx=>by
    unfold Imm.add at hx
    split at hx
    .rename_i hc; obtain ⟨rfl,h2,h3⟩:=hc
     exact .inr ⟨t,_,hl,hown o h2 h3⟩
    .exact .inl hx
   loc:=fun j l _ hj=>hml j l hj }
end
end Go.Apx
end
section
namespace Go.Apx
theorem range_mod {α:Type} [Inhabited α] (z:Array α):∀ (n:Nat),0 < z.size -> ((List.range (n * z.size)).map fun i=>z[i % z.size]!)=(List.replicate n z.toList).flatten
 | 0,_=>by simp
 | n+1,h=>by
  have ih:=range_mod z n h
  rw [Nat.succ_mul,List.range_add,List.map_append,ih,List.replicate_succ',List.flatten_append]
  congr 1
  simp only [List.map_map,List.flatten_cons,List.flatten_nil,List.append_nil]
  apply List.ext_getElem
  .simp
  .intro i h1 h2
   simp at h1
   simp [Nat.mod_eq_of_lt h1,h1,Nat.mul_comm n z.size,Nat.mul_add_mod]
theorem zeros_eq (z:Array Value) (n:Nat) (h:0 < z.size):((Array.range (n * z.size)).map fun i=>z[i % z.size]!).toList=(List.replicate n z.toList).flatten:=by
 rw [<- range_mod z n h]
 simp
theorem fold_get (off:Nat):∀ (vs:List Value) (s:Nat) (cs:Array Value),off+s+vs.length <= cs.size ->
  ((vs.zipIdx s).foldl (fun cs (x:Value × Nat)=>cs.setIfInBounds (off+x.2) x.1) cs).toList=cs.toList.take (off+s)++vs++cs.toList.drop (off+s+vs.length)
 | [],s,cs,h=>by simp
 | v :: vs,s,cs,h=>by
  simp only [List.length_cons] at h
  have hlt:off+s < cs.toList.length:=by simp; omega
  rw [List.zipIdx_cons,List.foldl_cons,fold_get off vs (s+1) _ (by simp; omega)]
  simp only [Array.toList_setIfInBounds]
  have e1:(cs.toList.set (off+s) v).take (off+(s+1))=cs.toList.take (off+s)++[v]:=by
   rw [<- Nat.add_assoc,List.take_succ_eq_append_getElem (by simpa using hlt),List.take_set_of_le (Nat.le_refl _)]
   simp
  have e2:(cs.toList.set (off+s) v).drop (off+(s+1)+vs.length)=cs.toList.drop (off+s+(v :: vs).length):=by
   rw [List.drop_set_of_lt (by omega)]
   congr 1
   simp; omega
  rw [e1,e2]
  simp
theorem fill_rel {I:Imm} {m:aQ} {place:Nat -> Option (Nat × Nat)}:∀ (ps:List (Nat × Nat × AV)) (cs cs':List AV) (vs:Array Value) (vps:List (Nat × Value)),
  fillA cs ps=some cs' -> AVRels I m cs vs.toList -> ps.length=vps.length ->
  (∀ (i:Nat) (p:Nat × Nat × AV) (q:Nat × Value),ps[i]?=some p -> vps[i]?=some q -> place q.1=some (p.1,p.2.1) /\ AVRels I m p.2.2.cells q.2.cells.toList) ->
  ∃ us,Instr.fill place vs vps=some us /\ AVRels I m cs' us.toList
 | [],cs,cs',vs,[],h,hr,_,_=>by simp [fillA] at h; subst h; exact ⟨vs,rfl,hr⟩
 | (off,n,v) :: ps,cs,cs',vs,(i,x) :: vps,h,hr,hl,hp=>by
  obtain ⟨hpl,hvx⟩:=hp 0 _ _ rfl rfl
  simp only at hpl hvx
  simp only [fillA] at h
  split at h
  .rename_i hc
   obtain ⟨h1,h2⟩:=hc
   have hx:x.cells.size=n:=by have:=hvx.1; simp at this; omega
   have hcs:=hr.1
   simp at hcs
   have hnew:AVRels I m (cs.take off++v.cells++cs.drop (off+n)) ((x.cells.toList.zipIdx 0).foldl (fun cs (y:Value × Nat)=>cs.setIfInBounds (off+y.2) y.1) vs).toList:=by
    rw [fold_get off x.cells.toList 0 vs (by simp; omega)]
    simp only [Nat.add_zero]
    have:off+x.cells.toList.length=off+n:=by simp [hx]
    rw [this]
    exact ((hr.take off).append hvx).append (hr.drop _)
   obtain ⟨us,hu,hur⟩:=fill_rel ps _ cs' _ vps h hnew (by simpa using hl) (fun j p q hj hq=>hp (j+1) p q (by simpa using hj) (by simpa using hq))
   refine ⟨us,?_,hur⟩
   simp only [Instr.fill,hpl]
   rw [if_neg (by simp [hx]; omega)]
   rw [<- Array.foldl_toList,Array.toList_zipIdx]
   exact hu
  .cases h
 | [],cs,cs',vs,_ :: _,h,hr,hl,_=>by simp at hl
 | _ :: _,cs,cs',vs,[],h,hr,hl,_=>by simp at hl
theorem flat_length {q:Nat}:∀ (es:List AV),(∀ e ∈ es,e.cells.length=q) -> (es.flatMap AV.cells).length=es.length * q
 | [],_=>by simp
 | e :: es,h=>by
  rw [List.flatMap_cons,List.length_append,h e (by simp),flat_length es (fun e he=>h e (by simp [he])),List.length_cons,Nat.succ_mul]; omega
theorem flat_take {q:Nat}:∀ (es:List AV) (n:Nat),(∀ e ∈ es,e.cells.length=q) -> (es.take n).flatMap AV.cells=(es.flatMap AV.cells).take (n * q)
 | [],n,_=>by simp
 | e :: es,0,_=>by simp
 | e :: es,n+1,h=>by
  have he:=h e (by simp)
  rw [List.take_succ_cons,List.flatMap_cons,List.flatMap_cons,flat_take es n (fun e he=>h e (by simp [he])),List.take_append]
  rw [List.take_of_length_le (l:=e.cells) (by rw [he,Nat.succ_mul]; omega)]
  congr 2
  rw [he,Nat.succ_mul]; omega
theorem flat_drop {q:Nat}:∀ (es:List AV) (n:Nat),(∀ e ∈ es,e.cells.length=q) -> (es.drop n).flatMap AV.cells=(es.flatMap AV.cells).drop (n * q)
 | [],n,_=>by simp
 | e :: es,0,_=>by simp
 | e :: es,n+1,h=>by
  have he:=h e (by simp)
  rw [List.drop_succ_cons,List.flatMap_cons,flat_drop es n (fun e he=>h e (by simp [he])),List.drop_append]
  have h2:e.cells.drop ((n+1) * q)=[]:=by apply List.drop_eq_nil_of_le; rw [he,Nat.succ_mul]; omega
  rw [h2,List.nil_append]
  congr 1
  rw [he,Nat.succ_mul]; omega
theorem flat_set {q:Nat} (es:List AV) (i:Nat) (v:AV) (h:∀ e ∈ es,e.cells.length=q) (hi:i < es.length) :
  (es.set i v).flatMap AV.cells=(es.flatMap AV.cells).take (i * q)++v.cells++(es.flatMap AV.cells).drop (i * q+q):=by
 rw [List.set_eq_take_append_cons_drop,if_pos hi,List.flatMap_append,List.flatMap_cons,flat_take es i h,flat_drop es (i+1) h,Nat.succ_mul]
 simp
theorem fillA_one:∀ (ps:List (Nat × Nat × AV)) (cs cs':List AV),fillA cs ps=some cs' -> (∀ c ∈ cs,c.one=true) -> (∀ p ∈ ps,∀ c ∈ p.2.2.cells,c.one=true) -> ∀ c ∈ cs',c.one=true
 | [],cs,cs',h,h1,_=>by simp [fillA] at h; subst h; exact h1
 | (off,n,v) :: ps,cs,cs',h,h1,h2=>by
  simp only [fillA] at h
  split at h
  .refine fillA_one ps _ cs' h (fun c hc=>?_) (fun p hp=>h2 p (by simp [hp]))
   simp only [List.mem_append] at hc
   rcases hc with (hc | hc) | hc
   .exact h1 c (List.mem_of_mem_take hc)
   .exact h2 (off,n,v) (by simp) c hc
   .exact h1 c (List.mem_of_mem_drop hc)
  .cases h
theorem fillE_fillA {q:Nat}:∀ (ps:List (Nat × AV)) (es es':List AV),fillE q es ps=some es' -> (∀ e ∈ es,e.cells.length=q) ->
  fillA (es.flatMap AV.cells) (ps.map fun p=>(p.1 * q,q,p.2))=some (es'.flatMap AV.cells) /\ (∀ e ∈ es',e.cells.length=q) /\ es'.length=es.length
 | [],es,es',h,hw=>by simp [fillE] at h; subst h; exact ⟨rfl,hw,rfl⟩
 | (i,v) :: ps,es,es',h,hw=>by
  simp only [fillE] at h
  split at h
  .rename_i hc
   obtain ⟨h1,h2⟩:=hc
   have hw':∀ e ∈ es.set i v,e.cells.length=q:=by
    intro e he
    rcases List.mem_or_eq_of_mem_set he with h3 | h3
    .exact hw e h3
    .rw [h3]; exact h1
   obtain ⟨g1,g2,g3⟩:=fillE_fillA ps _ es' h hw'
   refine ⟨?_,g2,by rw [g3]; simp⟩
   simp only [List.map_cons,fillA]
   have hb:i * q+q <= (es.flatMap AV.cells).length:=by
    rw [flat_length es hw]
    have:(i+1) * q <= es.length * q:=Nat.mul_le_mul_right q h2
    rw [Nat.succ_mul] at this
    exact this
   rw [if_pos ⟨h1,hb⟩,<- flat_set es i v hw h2]
   exact g1
  .cases h
section
variable {P:Program} {G:Globs} {N S k:Nat} {D:Ro} {o:Oper} {a:Act} {I:Imm} {m:aQ} {w:World} {env:Env} {h:AHeap} {ann:List Nat}
theorem oneOpd_some {x:Opd} {v:AV} (h:oneOpd G env x=some v):aD G env x=some v /\ ∀ c ∈ v.cells,c.one=true:=by
 unfold oneOpd at h
 split at h
 .rename_i u hu
  split at h
  .simp at h; subst h; exact ⟨hu,allOne_iff.1 (by assumption)⟩
  .cases h
 .cases h
theorem bH {t:TypeId} {z:AV} (hz:az P t=some z) :
  ∃ i zv,P.info? t=some i /\ i.zero=some zv /\ okConst zv=true /\ z=ofValue zv /\ (zeroValue t).run P w=.ok zv w:=by
 unfold az at hz
 split at hz
 .rename_i inf hinf
  split at hz
  .rename_i zv hzv
   split at hz
   .rename_i hok
    simp at hz; subst hz
    exact ⟨inf,zv,hinf,hzv,hok,rfl,by simp [zeroValue,bb hinf,hzv]⟩
   .cases hz
  .cases hz
 .cases hz
theorem Does.cells {x:Value} {cs:Array Value} {e:TypeId} {z:List AV} (hv:Inv G I m h w) (hz:AVRels I m z cs.toList) (h1:∀ c ∈ z,c.one=true) (hk:k <= m.length)
  (hg:Gives P o a w (.pointer (some ⟨w.heap.size,0,none⟩)) (w.alloc (.cells cs e))):Does P G k o a I m w (.ptr h.length 0 0) (h++[.cells 0 z]):=by
 obtain ⟨h2,h3,h4⟩:=hv.allocCells cs e z hz h1
 refine ⟨_,_,_,_,hg,?_,h2,h3.mono hk,h4⟩
 rw [<- hv.len]
 refine .ptr m.length 0 0 _ (by simp) ?_
 intro g' b lo n hm
 simp at hm
 obtain ⟨rfl,rfl,rfl,rfl⟩:=hm
 exact ⟨Nat.le_refl _,fun _=>rfl⟩
theorem snd_new {e:TypeId} {z:AV} {v:AV} {h':AHeap} (ho:o.op=.alloc e) (hz:az P e=some z) (hk:k <= m.length)
  (hr:Rel G N D S I m env h a w) (he:aA G env h (.new z.cells)=some (v,h')):Does P G k o a I m w v h':=by
 obtain ⟨inf,zv,hinf,hzv,hok,rfl,hrun⟩:=bH (w:=w) hz
 simp only [aA,Option.some.injEq,Prod.mk.injEq] at he
 obtain ⟨rfl,rfl⟩:=he
 refine .cells (x:=undef) (cs:=zv.cells) (e:=e) hr.inv (bi hok) (ofValue_one hok) hk (.inl ?_)
 simp [execOp,ho,Instr.alloc,hrun,newVar,newRow]
theorem snd_boxm {e:TypeId} {x:Operand} {x':Opd} {v:AV} {h':AHeap} (ho:o.op=.box e x) (hx:aF x=some x') (hk:k <= m.length)
  (hr:Rel G N D S I m env h a w) (he:aA G env h (.boxm x')=some (v,h')):Does P G k o a I m w v h':=by
 simp only [aA] at he
 split at he
 .rename_i u hu
  split at he
  .rename_i hone
   simp only [Option.some.injEq,Prod.mk.injEq] at he
   obtain ⟨rfl,rfl⟩:=he
   have hrel:=rel_cells (aG hx hr hu) (allOne_iff.1 hone)
   refine .cells (x:=undef) (cs:=(a.eval x).cells) (e:=e) hr.inv hrel.1 (allOne_iff.1 hone) hk (.inl ?_)
   simp [execOp,ho,Instr.box,newVar,newRow]
  .cases he
 .cases he
theorem snd_box {e:TypeId} {x:Operand} {x':Opd} {v:AV} {h':AHeap} (ho:o.op=.box e x) (hx:aF x=some x')
  (hr:Rel G N D S I m env h a w) (he:aA G env h (.box x')=some (v,h')):Does P G k o a I m w v h':=by
 simp only [aA] at he
 split at he
 .rename_i u hu
  split at he
  .rename_i hone
   simp only [Option.some.injEq,Prod.mk.injEq] at he
   obtain ⟨rfl,rfl⟩:=he
   have hrel:=rel_cells (aG hx hr hu) (allOne_iff.1 hone)
   obtain ⟨h2,h3⟩:=hr.inv.allocImm (a.eval x).cells e k
   refine ⟨_,_,_,_,.inl (by simp [execOp,ho,Instr.box,newVar,newRow]; rfl),?_,h2,h3,.refl m⟩
   have hle:ImmLe I (I.row w.heap.size (a.eval x).cells.toList):=Imm.row_le hr.inv.imm_new
   refine .ip u _ (a.eval x).cells.toList (allOne_iff.1 hone) hrel.1.1 (fun i c y hc hy=>(hrel.1.2 i c y hc hy).mono hle (.refl m)) Lies.row rfl
  .cases he
 .cases he
theorem snd_mkMap {t:TypeId} {v:AV} {h':AHeap} (ho:o.op=.makeMap t none) (hk:k <= m.length)
  (hr:Rel G N D S I m env h a w) (he:aA G env h .mkMap=some (v,h')):Does P G k o a I m w v h':=by
 simp only [aA,Option.some.injEq,Prod.mk.injEq] at he
 obtain ⟨rfl,rfl⟩:=he
 obtain ⟨h2,h3,h4⟩:=hr.inv.allocNew (.map #[] 0) [] (.whole w.heap.size) (.amap []) (fun i x hx=>by simp at hx) (fun b o hp=>⟨hp,by simp⟩)
  ⟨w.heap.size,#[],0,rfl,heap_alloc_new,rfl,fun i p e hp=>by simp at hp,fun e he=>by simp at he,by simp⟩
 refine ⟨.map (some w.heap.size),_,_,_,.inl ?_,?_,h2,h3.mono hk,h4⟩
 .simp [execOp,ho,Instr.makeMap]
 .rw [<- hr.inv.len]
  exact .mp m.length _ (by simp) fun b hb=>by simp at hb; exact hb
theorem mapM'_some {α β:Type} {f:α -> Option β} {l:List α} {r:List β} (h:mapM' f l=some r):l.length=r.length /\ ∀ (i:Nat) (a:α) (b:β),l[i]?=some a -> r[i]?=some b -> f a=some b :=
 ⟨mapM'_length h,mapM'_get h⟩
theorem get_of_lt {α β:Type} {l:List α} {r:List β} (h:l.length=r.length) {i:Nat} {b:β} (hb:r[i]?=some b):∃ a,l[i]?=some a:=by
 have hi:i < r.length:=(List.getElem?_eq_some_iff.1 hb).1
 exact ⟨l[i],by simp [h,hi]⟩
theorem agg_does {cs:List AV} {us:Array Value} (hv:Inv G I m h w) (hr:AVRels I m cs us.toList) (h1:∀ c ∈ cs,c.one=true) (hg:Gives P o a w (.agg us) w):Does P G k o a I m w (.agg cs) h:=by
 refine .same hv ?_ hg
 have:=AVRel.agg cs us.toList hr.1 h1 hr.2
 simpa using this
theorem run_mapM {α β:Type} {f:α -> Sem β} {g:α -> β}:∀ (l:List α),(∀ x ∈ l,(f x).run P w=.ok (g x) w) -> (l.mapM f).run P w=.ok (l.map g) w
 | [],_=>by simp
 | x :: l,hl=>by
  rw [List.mapM_cons]
  simp [hl x (by simp),run_mapM l fun y hy=>hl y (by simp [hy])]
theorem fill_does {parts:Array (Nat × Operand)} {z:AV} {zv:Value} {ps:List (Nat × Nat × Opd)} {place:Nat -> Option (Nat × Nat)} {v:AV} {h':AHeap}
  (hok:okConst zv=true) (hz:z=ofValue zv)
  (hrun:∀ us,Instr.fill place zv.cells (parts.map fun (i,x)=>(i,a.eval x)).toList=some us -> Gives P o a w (.agg us) w)
  (hps:parts.toList.length=ps.length) (hp:∀ (i:Nat) (q:Nat × Operand) (p:Nat × Nat × Opd),parts.toList[i]?=some q -> ps[i]?=some p -> place q.1=some (p.1,p.2.1) /\ aF q.2=some p.2.2)
  (hr:Rel G N D S I m env h a w) (he:aA G env h (.build z.cells ps)=some (v,h')):Does P G k o a I m w v h':=by
 subst hz
 simp only [aA] at he
 split at he
 .rename_i qs hqs
  obtain ⟨hql,hqg⟩:=mapM'_some hqs
  simp only [Option.map_eq_some_iff,Prod.mk.injEq] at he
  obtain ⟨cs,hcs,rfl,rfl⟩:=he
  have hpart:∀ (i:Nat) (p:Nat × Nat × AV),qs[i]?=some p -> ∃ p0 u,ps[i]?=some p0 /\ aD G env p0.2.2=some u /\ (∀ c ∈ u.cells,c.one=true) /\ p=(p0.1,p0.2.1,u):=by
   intro i p hpi
   obtain ⟨p0,hp0⟩:=get_of_lt hql hpi
   have h1:=hqg i p0 p hp0 hpi
   simp only [Option.map_eq_some_iff] at h1
   obtain ⟨u,hu,rfl⟩:=h1
   obtain ⟨hu1,hu2⟩:=oneOpd_some hu
   exact ⟨p0,u,hp0,hu1,hu2,rfl⟩
  have hones:∀ c ∈ cs,c.one=true:=fillA_one qs _ _ hcs (ofValue_one hok) fun p hp=>by
   obtain ⟨i,hi⟩:=List.getElem?_of_mem hp
   obtain ⟨p0,u,_,_,hu,rfl⟩:=hpart i p hi
   exact hu
  obtain ⟨us,hus,hur⟩:=fill_rel (place:=place) (I:=I) (m:=m) qs _ cs zv.cells (parts.map fun (i,x)=>(i,a.eval x)).toList hcs (bi hok) (by simp at hps ⊢; omega) (by
   intro i p q hpi hqi
   simp only [Array.toList_map,List.getElem?_map,Option.map_eq_some_iff] at hqi
   obtain ⟨q0,hq0,rfl⟩:=hqi
   obtain ⟨p0,u,hp0,hu,hu1,rfl⟩:=hpart i p hpi
   obtain ⟨h2,h3⟩:=hp i q0 p0 hq0 hp0
   exact ⟨h2,(rel_cells (aG h3 hr hu) hu1).1⟩)
  exact agg_does hr.inv hur hones (hrun us hus)
 .cases he
theorem snd_build_struct {t:TypeId} {parts:Array (Nat × Operand)} {fields:Array Field} {z:AV} {ps:List (Nat × Nat × Opd)} {v:AV} {h':AHeap} (ho:o.op=.build t parts)
  (ht:P.underlying t=some (.struct fields)) (hall:(fields.toList.all fun f=>(P.info? f.type).isSome)=true) (hz:az P t=some z)
  (hps:mapM' (fun (p:Nat × Operand)=>match fieldOf P t p.1,aF p.2 with | some (off,ty),some x=>some (off,ty.size,x) | _,_=>none) parts.toList=some ps)
  (hr:Rel G N D S I m env h a w) (he:aA G env h (.build z.cells ps)=some (v,h')):Does P G k o a I m w v h':=by
 obtain ⟨inf,zv,hinf,hzv,hok,hzz,hzr⟩:=bH (w:=w) hz
 obtain ⟨hpl,hpg⟩:=mapM'_some hps
 let pl:Nat -> Option (Nat × Nat):=fun i=>(fields[i]?).map fun f=>(f.offset,P.cellsOf f.type)
 have hsize:∀ f ∈ fields.toList,(do pure (f.offset,<- sizeOf f.type):Sem (Nat × Nat)).run P w=.ok (f.offset,P.cellsOf f.type) w:=by
  intro f hf
  rw [List.all_eq_true] at hall
  obtain ⟨i,hi⟩:=Option.isSome_iff_exists.1 (hall f hf)
  simp [aX hi,Program.cellsOf,hi]
 refine fill_does (P:=P) (k:=k) (place:=pl) hok hzz (fun us hus=>.inl ?_) hpl (fun i q p hq hp=>?_) hr he
 .have hmap:(fields.mapM fun f=>(do pure (f.offset,<- sizeOf f.type):Sem (Nat × Nat))).run P w=.ok (fields.map fun f=>(f.offset,P.cellsOf f.type)) w:=by
   rw [Array.mapM_eq_mapM_toList]
   simp only [Sem.run_map,run_mapM fields.toList hsize,Result.andThen_ok]
   congr 1
   apply Array.ext'
   simp
  have hfun:(fun i:Nat=>(fields.map fun f=>(f.offset,P.cellsOf f.type))[i]?)=pl:=by funext i; simp [pl]
  simp only [execOp,ho,Instr.build,Sem.run_bind,hzr,Result.andThen_ok,aH ht,hmap]
  rw [hfun,hus]
  rfl
 .have:=hpg i q p hq hp
  split at this
  .rename_i off ty x hf hx
   simp at this; subst this
   obtain ⟨fields',fd,hu,hfd,rfl,hty,hpos⟩:=fieldOf_some hf
   rw [ht] at hu; simp at hu; subst hu
   obtain ⟨inf',hinf',hs',_⟩:=aV (w:=w) hty
   exact ⟨by simp [pl,hfd,Program.cellsOf,hinf',hs'],hx⟩
  .cases this
theorem snd_build_array {t e:TypeId} {n:Nat} {parts:Array (Nat × Operand)} {z:AV} {ty:Ty} {ps:List (Nat × Nat × Opd)} {v:AV} {h':AHeap} (ho:o.op=.build t parts)
  (ht:P.underlying t=some (.array n e)) (hty:bC P e=some ty) (hz:az P t=some z)
  (hps:mapM' (fun (p:Nat × Operand)=>match aF p.2 with | some x=>some (p.1 * ty.size,ty.size,x) | _=>none) parts.toList=some ps)
  (hr:Rel G N D S I m env h a w) (he:aA G env h (.build z.cells ps)=some (v,h')):Does P G k o a I m w v h':=by
 obtain ⟨inf,zv,hinf,hzv,hok,hzz,hzr⟩:=bH (w:=w) hz
 obtain ⟨hpl,hpg⟩:=mapM'_some hps
 obtain ⟨inf',hinf',hs',_⟩:=aV (w:=w) hty
 refine fill_does (P:=P) (k:=k) (place:=fun i=>some (i * ty.size,ty.size)) hok hzz (fun us hus=>.inl ?_) hpl (fun i q p hq hp=>?_) hr he
 .simp only [execOp,ho,Instr.build,Sem.run_bind,hzr,Result.andThen_ok,aH ht,aX hinf',hs']
  rw [hus]
  rfl
 .have:=hpg i q p hq hp
  split at this
  .rename_i x hx
   simp at this; subst this
   exact ⟨rfl,hx⟩
  .cases this
end
end Go.Apx
end
section
namespace Go.Apx
section
variable {P:Program} {G:Globs} {N S k:Nat} {D:Ro} {o:Oper} {a:Act} {I:Imm} {m:aQ} {w:World} {env:Env} {h:AHeap} {ann:List Nat}
theorem replicate_rel {z:AV} {zl:List Value} (hz:AVRels I m z.cells zl):∀ n,AVRels I m ((List.replicate n z).flatMap AV.cells) (List.replicate n zl).flatten
 | 0=>by simpa using AVRels.nil
 | n+1=>by
  rw [List.replicate_succ,List.replicate_succ,List.flatMap_cons,List.flatten_cons]
  exact hz.append (replicate_rel hz n)
theorem snd_bslice {t e:TypeId} {len:Nat} {parts:Array (Nat × Operand)} {z:AV} {ty:Ty} {ps:List (Nat × Opd)} {v:AV} {h':AHeap} (ho:o.op=.buildSlice t len parts)
  (ht:P.underlying t=some (.slice e)) (hty:bC P e=some ty) (hz:az P e=some z) (hlen:¬ (len * ty.size > 2 ^ 24 \/ z.cells.length ≠ ty.size \/ ty.size=0))
  (hps:mapM' (fun (p:Nat × Operand)=>match aF p.2 with | some x=>some (p.1,x) | _=>none) parts.toList=some ps)
  (hr:Rel G N D S I m env h a w) (he:aA G env h (.bslice ty.size len z ps)=some (v,h')):Does P G k o a I m w v h':=by
 obtain ⟨inf,zv,hinf,hzv,hok,hzz,hzr⟩:=bH (w:=w) hz
 obtain ⟨hpl,hpg⟩:=mapM'_some hps
 obtain ⟨inf',hinf',hs',_⟩:=aV (w:=w) hty
 have hl1:¬ len * ty.size > 2 ^ 24:=fun h=>hlen (.inl h)
 have hl2:z.cells.length=ty.size:=Classical.byContradiction fun h=>hlen (.inr (.inl h))
 have hl3:ty.size ≠ 0:=fun h=>hlen (.inr (.inr h))
 have hzrel:AVRels I m z.cells zv.cells.toList:=by rw [hzz]; exact bi hok
 have hzone:∀ c ∈ z.cells,c.one=true:=by rw [hzz]; exact ofValue_one hok
 have hzsize:zv.cells.size=ty.size:=by have:=hzrel.1; simp at this; omega
 simp only [aA] at he
 split at he
 .rename_i qs hqs
  obtain ⟨hql,hqg⟩:=mapM'_some hqs
  simp only [Option.map_eq_some_iff,Prod.mk.injEq] at he
  obtain ⟨es,hes,rfl,rfl⟩:=he
  have hpart:∀ (i:Nat) (p:Nat × AV),qs[i]?=some p -> ∃ p0 u,ps[i]?=some p0 /\ aD G env p0.2=some u /\ (∀ c ∈ u.cells,c.one=true) /\ p=(p0.1,u):=by
   intro i p hpi
   obtain ⟨p0,hp0⟩:=get_of_lt hql hpi
   have h1:=hqg i p0 p hp0 hpi
   simp only [Option.map_eq_some_iff] at h1
   obtain ⟨u,hu,rfl⟩:=h1
   obtain ⟨hu1,hu2⟩:=oneOpd_some hu
   exact ⟨p0,u,hp0,hu1,hu2,rfl⟩
  have hw0:∀ e ∈ List.replicate len z,e.cells.length=ty.size:=by intro e he; rw [(List.mem_replicate.1 he).2]; exact hl2
  obtain ⟨hfa,hwe,hle⟩:=fillE_fillA qs _ es hes hw0
  simp at hle
  have hones:∀ c ∈ es.flatMap AV.cells,c.one=true:=fillA_one _ _ _ hfa
   (by intro c hc; obtain ⟨e,he,hce⟩:=List.mem_flatMap.1 hc; rw [(List.mem_replicate.1 he).2] at hce; exact hzone c hce)
   (by
    intro p hp
    obtain ⟨q,hq,rfl⟩:=List.mem_map.1 hp
    obtain ⟨i,hi⟩:=List.getElem?_of_mem hq
    obtain ⟨p0,u,_,_,hu,rfl⟩:=hpart i q hi
    exact hu)
  have hzeros:((Array.range (len * ty.size)).map fun i=>zv.cells[i % zv.cells.size]!).toList=(List.replicate len zv.cells.toList).flatten:=by
   rw [<- hzsize]; exact zeros_eq zv.cells len (by omega)
  obtain ⟨us,hus,hur⟩:=fill_rel (place:=fun i=>some (i * ty.size,ty.size)) (I:=I) (m:=m) _ _ _ ((Array.range (len * ty.size)).map fun i=>zv.cells[i % zv.cells.size]!)
   (parts.map fun (i,x)=>(i,a.eval x)).toList hfa (by rw [hzeros]; exact replicate_rel hzrel len) (by simp at hpl ⊢; omega) (by
   intro i p q hpi hqi
   simp only [Array.toList_map,List.getElem?_map,Option.map_eq_some_iff] at hqi hpi
   obtain ⟨q0,hq0,rfl⟩:=hqi
   obtain ⟨p1,hp1,rfl⟩:=hpi
   obtain ⟨p0,u,hp0,hu,hu1,rfl⟩:=hpart i p1 hp1
   have:=hpg i q0 p0 hq0 hp0
   split at this
   .rename_i x hx
    simp at this; subst this
    exact ⟨rfl,(rel_cells (aG hx hr hu) hu1).1⟩
   .cases this)
  obtain ⟨h2,h3⟩:=hr.inv.allocImm us e k
  have hrun:Gives P o a w (.slice (some ⟨w.heap.size,0,none⟩) len len) (w.alloc (.cells us e)):=by
   left
   by_cases h0:len * ty.size=0
   .have hlen0:len=0:=by rcases Nat.mul_eq_zero.1 h0 with h | h <;> omega
    subst hlen0
    have hr0:Array.range 0=#[]:=rfl
    have hus':=hus
    simp only [Nat.zero_mul,hr0] at hus'
    simp only [execOp,ho,Instr.buildSlice,Sem.run_bind,aH ht,Result.andThen_ok,aX hinf',hs']
    simp [hr0] at hus' ⊢
    simp [hus',newRow]
   .simp only [execOp,ho,Instr.buildSlice,Sem.run_bind,aH ht,Result.andThen_ok,aX hinf',hs']
    simp only [hl1,if_false,h0,Sem.run_bind,hzr,Result.andThen_ok,Sem.run_pure]
    rw [hus]
    simp [newRow]
  have hle':ImmLe I (I.row w.heap.size us.toList):=Imm.row_le hr.inv.imm_new
  refine ⟨_,_,_,_,hrun,?_,h2,h3,.refl m⟩
  rw [<- hle]
  refine .sl ty.size es .full _ _ us.toList (by simp) (Nat.le_refl _) (by omega) hwe hones hur.1 (fun i c y hc hy=>(hur.2 i c y hc hy).mono hle' (.refl m)) Lies.row (fun _=>rfl) rfl
 .cases he
theorem snd_mslice {t e:TypeId} {len:Nat} {parts:Array (Nat × Operand)} {z:AV} {ty:Ty} {ps:List (Nat × Opd)} {v:AV} {h':AHeap} (ho:o.op=.buildSlice t len parts)
  (ht:P.underlying t=some (.slice e)) (hty:bC P e=some ty) (hz:az P e=some z) (hlen:¬ (len * ty.size > 2 ^ 24 \/ z.cells.length ≠ ty.size \/ ty.size=0))
  (hps:mapM' (fun (p:Nat × Operand)=>match aF p.2 with | some x=>some (p.1,x) | _=>none) parts.toList=some ps)
  (hk:k <= m.length) (hr:Rel G N D S I m env h a w) (he:aA G env h (.mslice ty.size len z ps)=some (v,h')):Does P G k o a I m w v h':=by
 obtain ⟨inf,zv,hinf,hzv,hok,hzz,hzr⟩:=bH (w:=w) hz
 obtain ⟨hpl,hpg⟩:=mapM'_some hps
 obtain ⟨inf',hinf',hs',_⟩:=aV (w:=w) hty
 have hl1:¬ len * ty.size > 2 ^ 24:=fun h=>hlen (.inl h)
 have hl2:z.cells.length=ty.size:=Classical.byContradiction fun h=>hlen (.inr (.inl h))
 have hl3:ty.size ≠ 0:=fun h=>hlen (.inr (.inr h))
 have hzrel:AVRels I m z.cells zv.cells.toList:=by rw [hzz]; exact bi hok
 have hzone:∀ c ∈ z.cells,c.one=true:=by rw [hzz]; exact ofValue_one hok
 have hzsize:zv.cells.size=ty.size:=by have:=hzrel.1; simp at this; omega
 simp only [aA] at he
 split at he
 .rename_i qs hqs
  obtain ⟨hql,hqg⟩:=mapM'_some hqs
  simp only [Option.map_eq_some_iff,Prod.mk.injEq] at he
  obtain ⟨es,hes,rfl,rfl⟩:=he
  have hpart:∀ (i:Nat) (p:Nat × AV),qs[i]?=some p -> ∃ p0 u,ps[i]?=some p0 /\ aD G env p0.2=some u /\ (∀ c ∈ u.cells,c.one=true) /\ p=(p0.1,u):=by
   intro i p hpi
   obtain ⟨p0,hp0⟩:=get_of_lt hql hpi
   have h1:=hqg i p0 p hp0 hpi
   simp only [Option.map_eq_some_iff] at h1
   obtain ⟨u,hu,rfl⟩:=h1
   obtain ⟨hu1,hu2⟩:=oneOpd_some hu
   exact ⟨p0,u,hp0,hu1,hu2,rfl⟩
  have hw0:∀ e ∈ List.replicate len z,e.cells.length=ty.size:=by intro e he; rw [(List.mem_replicate.1 he).2]; exact hl2
  obtain ⟨hfa,hwe,hle⟩:=fillE_fillA qs _ es hes hw0
  simp at hle
  have hones:∀ c ∈ es.flatMap AV.cells,c.one=true:=fillA_one _ _ _ hfa
   (by intro c hc; obtain ⟨e,he,hce⟩:=List.mem_flatMap.1 hc; rw [(List.mem_replicate.1 he).2] at hce; exact hzone c hce)
   (by
    intro p hp
    obtain ⟨q,hq,rfl⟩:=List.mem_map.1 hp
    obtain ⟨i,hi⟩:=List.getElem?_of_mem hq
    obtain ⟨p0,u,_,_,hu,rfl⟩:=hpart i q hi
    exact hu)
  have hzeros:((Array.range (len * ty.size)).map fun i=>zv.cells[i % zv.cells.size]!).toList=(List.replicate len zv.cells.toList).flatten:=by
   rw [<- hzsize]; exact zeros_eq zv.cells len (by omega)
  obtain ⟨us,hus,hur⟩:=fill_rel (place:=fun i=>some (i * ty.size,ty.size)) (I:=I) (m:=m) _ _ _ ((Array.range (len * ty.size)).map fun i=>zv.cells[i % zv.cells.size]!)
   (parts.map fun (i,x)=>(i,a.eval x)).toList hfa (by rw [hzeros]; exact replicate_rel hzrel len) (by simp at hpl ⊢; omega) (by
   intro i p q hpi hqi
   simp only [Array.toList_map,List.getElem?_map,Option.map_eq_some_iff] at hqi hpi
   obtain ⟨q0,hq0,rfl⟩:=hqi
   obtain ⟨p1,hp1,rfl⟩:=hpi
   obtain ⟨p0,u,hp0,hu,hu1,rfl⟩:=hpart i p1 hp1
   have:=hpg i q0 p0 hq0 hp0
   split at this
   .rename_i x hx
    simp at this; subst this
    exact ⟨rfl,(rel_cells (aG hx hr hu) hu1).1⟩
   .cases this)
  obtain ⟨i1,i2,i3⟩:=hr.inv.allocCells us e _ hur hones
  have hrun:Gives P o a w (.slice (some ⟨w.heap.size,0,none⟩) len len) (w.alloc (.cells us e)):=by
   left
   by_cases h0:len * ty.size=0
   .have hlen0:len=0:=by rcases Nat.mul_eq_zero.1 h0 with h | h <;> omega
    subst hlen0
    have hr0:Array.range 0=#[]:=rfl
    have hus':=hus
    simp only [Nat.zero_mul,hr0] at hus'
    simp only [execOp,ho,Instr.buildSlice,Sem.run_bind,aH ht,Result.andThen_ok,aX hinf',hs']
    simp [hr0] at hus' ⊢
    simp [hus',newRow]
   .simp only [execOp,ho,Instr.buildSlice,Sem.run_bind,aH ht,Result.andThen_ok,aX hinf',hs']
    simp only [hl1,if_false,h0,Sem.run_bind,hzr,Result.andThen_ok,Sem.run_pure]
    rw [hus]
    simp [newRow]
  refine ⟨_,_,_,_,hrun,?_,i1,i2.mono hk,i3⟩
  rw [<- hr.inv.len]
  refine .rf m.length 0 0 len .full ⟨w.heap.size,0,none⟩ len (by simp) (Nat.le_refl _) rfl ?_
  intro _ g' b lo n hm
  simp at hm
  obtain ⟨rfl,rfl,rfl,rfl⟩:=hm
  exact ⟨Nat.le_refl _,fun _=>rfl⟩
 .cases he
theorem snd_store {t:TypeId} {ty:Ty} {ad:Operand} {ad':Opd} {x:Operand} {x':Opd} {v:AV} {h':AHeap} (ho:o.op=.store t ad x) (hty:bC P t=some ty) (had:aF ad=some ad') (hx:aF x=some x')
  (hr:Rel G N D S I m env h a w) (he:aA G env h (.store ty.size ad' x')=some (v,h')):Does P G k o a I m w v h':=by
 simp only [aA] at he
 split at he
 .rename_i ob g off u hu hu'
  split at he
  .rename_i g' cs hob
   split at he
   .rename_i hc
    obtain ⟨rfl,hsz,hle,hone⟩:=hc
    simp only [Option.some.injEq,Prod.mk.injEq] at he
    obtain ⟨rfl,rfl⟩:=he
    have hp:=aG had hr hu
    generalize hax:a.eval ad=ax at hp
    have hlt:ob < m.length:=by rw [hr.inv.len]; exact (List.getElem?_eq_some_iff.1 hob).1
    obtain ⟨b,lo,n,vs,hl,hle',hrels,hone',hcell,hall⟩:=hr.inv.obj ob _ m[ob] hob (by simp [hlt])
    have hm:m[ob]?=some (.cells g' b lo n):=by rw [<- hl]; simp [hlt]
    cases hp with
    | ptr _ _ _ ad _ hpr =>
     obtain ⟨_,hpr⟩:=hpr _ b lo n hm
     have:=hpr rfl
     subst this
     have hv:=rel_cells (aG hx hr hu') (allOne_iff.1 hone)
     have hlen:(a.eval x).cells.toList.length=ty.size:=by rw [<- hv.1.1]; exact hsz
     obtain ⟨h1,h2⟩:=hr.inv.store hob hm (us':=u.cells) (us:=(a.eval x).cells.toList) (off:=off) (by omega) hv.1 (allOne_iff.1 hone)
     rw [hlen] at h1
     refine ⟨undef,_,I,m,.inr ⟨?_,rfl⟩,.tup [] [] rfl (fun i a x ha=>by simp at ha),h1,h2 k,.refl m⟩
     have hst:=run_storeVar (P:=P) (w:=w) hty (b:=b) (o:=lo+off) (v:=a.eval x) (by simpa using hlen)
      (fun j hj=>by have:=(hall (off+j) (by simp at hlen; omega)).1; rwa [<- Nat.add_assoc] at this)
      (fun j hj=>by have:=(hall (off+j) (by simp at hlen; omega)).2; rwa [<- Nat.add_assoc] at this) hv.2
     simp [execOp,ho,hax,Instr.storeAt,Instr.sureAddr,hst]
   .cases he
  .cases he
 .cases he
theorem run_checkPlain {b:Bool} {n:Nat} {t:TypeId} {d:TypeDesc} (hu:P.underlying t=some d) (hd:d=.string \/ d=.bool \/ ∃ k,d=.int k) (v:Value):(Instr.checkKey b (n+1) t v).run P w=.ok () w:=by
 unfold Instr.checkKey
 rcases hd with rfl | rfl | ⟨k,rfl⟩ <;> simp [aH hu]
theorem flatFs_cons {f:Field} {fs:List Field} {i:Nat} {ks:List Nat} (h:flatFs P (f :: fs) i=some ks):f.offset=i /\ f.name ≠ "_" /\ bC P f.type=some .one /\ ∃ q l d,ks=q :: l /\ flatFs P fs (i+1)=some l /\ P.underlying f.type=some d /\ (d=.string \/ d=.bool \/ ∃ k,d=.int k):=by
 simp only [flatFs] at h
 split at h
 case isFalse=>cases h
 rename_i hc
 refine ⟨hc.1,hc.2.1,hc.2.2,?_⟩
 split at h
 .rename_i k l hu hl; simp at h; exact ⟨_,_,_,h.symm,hl,hu,.inr (.inr ⟨k,rfl⟩)⟩
 .rename_i l hu hl; simp at h; exact ⟨_,_,_,h.symm,hl,hu,.inl rfl⟩
 .rename_i l hu hl; simp at h; exact ⟨_,_,_,h.symm,hl,hu,.inr (.inl rfl)⟩
 .cases h
theorem run_checkKey {b:Bool} {ks:KeyK} {t:TypeId} (ht:bc P t=some ks) {v:AV} {x:Value} (hv:AVRel I m v x) (hk:isKey ks v=true):(Instr.checkKey b 10000 t x).run P w=.ok () w:=by
 obtain ⟨N,hN⟩:∃ N,10000=N+1+1:=⟨9998,rfl⟩
 rw [hN]
 cases hu:P.underlying t with
 | none=>simp [bc,hu] at ht
 | some d =>
  unfold bc at ht
  rw [hu] at ht
  cases d <;> simp only [reduceCtorEq] at ht
  case string=>exact run_checkPlain hu (.inl rfl) x
  case int q=>exact run_checkPlain hu (.inr (.inr ⟨q,rfl⟩)) x
  case struct fs =>
   simp only [Option.map_eq_some_iff] at ht
   obtain ⟨l,hl,rfl⟩:=ht
   unfold flatOf at hl
   rw [hu] at hl
   simp only at hl
   split at hl
   case isFalse=>cases hl
   cases v <;> simp only [isKey,Bool.false_eq_true,decide_eq_true_eq] at hk
   rename_i cs
   cases hv with
   | agg _ X hlen _ hX =>
    rw [Instr.checkKey]
    simp only [Sem.run_bind,aH hu,Result.andThen_ok]
    rw [<- Array.forIn_toList]
    have hXl:0+l.length=X.length:=by rw [<- hk]; simp [hlen]
    generalize fs.toList=L at hl
    clear hu hk
    generalize 0=i at hl hXl
    induction L generalizing i l with
    | nil=>simp
    | cons f L ih =>
     obtain ⟨ho,hname,hty,q,l',d,rfl,hl',hfu,hd⟩:=flatFs_cons hl
     have px:=run_part (P:=P) (w:=w) hty (vs:=X) (off:=i) (by simp [Ty.size] at hXl ⊢; omega)
     have pc:=fun v=>run_checkPlain (P:=P) (w:=w) (b:=b) (n:=N) hfu hd v
     simp only [List.forIn_cons,Sem.run_bind,hname,ne_eq,not_false_eq_true,if_true,Result.andThen_ok,ho,px,pc,Sem.run_pure]
     exact ih (i:=i+1) (l:=l') hl' (by simp at hXl; omega)
  case array n e =>
   split at ht
   .rename_i kk hue
    split at ht
    .rename_i hty
     simp only [Option.some.injEq] at ht; subst ht
     cases v <;> simp only [isKey,Bool.false_eq_true,decide_eq_true_eq] at hk
     rename_i cs
     cases hv with
     | agg _ X hlen _ hX =>
      have hn:X.length=n:=by have:=congrArg List.length hk; simp at this; omega
      obtain ⟨inf,hinf,hsz,_⟩:=aV (w:=w) hty
      rw [Instr.checkKey]
      simp only [Sem.run_bind,aH hu,Result.andThen_ok]
      simp only [Std.Legacy.Range.forIn_eq_forIn_range',Std.Legacy.Range.size,Nat.sub_zero,Nat.add_one_sub_one,Nat.div_one]
      have each:∀ j ∈ List.range' 0 n,j < X.length:=fun j hj=>by simp at hj; omega
      generalize List.range' 0 n=is at each
      induction is with
      | nil=>simp
      | cons j is ih =>
       have hj:=each j (by simp)
       have px:=run_part (P:=P) (w:=w) hty (vs:=X) (off:=j) (by simp [Ty.size]; omega)
       have pc:=fun v=>run_checkPlain (P:=P) (w:=w) (b:=b) (n:=N) hue (.inr (.inr ⟨kk,rfl⟩)) v
       simp only [List.forIn_cons,Sem.run_bind,aX hinf,hsz,Ty.size,Nat.mul_one,Result.andThen_ok,px,pc,Sem.run_pure]
       exact ih fun y hy=>each y (by simp [hy])
    .cases ht
   .cases ht
theorem run_eqItems {d:Nat} {e:TypeId} {q:IntKind} (hue:P.underlying e=some (.int q)) (hty:bC P e=some .one) {X Y:List Value}:∀ (n i:Nat) (cs ds:List AV) (b:Bool),AVRels I m cs (X.drop i) -> AVRels I m ds (Y.drop i) -> cC (List.replicate n 0) cs ds=some b ->
  (Op.eqItems (d+1) e 1 X.toArray Y.toArray (List.range' i n)).run P w=.ok b w
 | 0,i,cs,ds,b,_,_,he=>by
  cases cs <;> cases ds <;> simp [cC] at he
  subst he; rfl
 | n+1,i,cs,ds,b,hx,hy,he=>by
  rw [List.replicate_succ] at he
  cases cs with
  | nil=>cases ds <;> simp [cC] at he
  | cons c cs =>
   cases ds with
   | nil=>simp [cC] at he
   | cons d' ds =>
    obtain ⟨x,xs,ex,hcx,hxs⟩:=AVRels.cons_iff.1 hx
    obtain ⟨y,ys,ey,hdy,hys⟩:=AVRels.cons_iff.1 hy
    have hX:X.drop (i+1)=xs:=by rw [<- List.drop_drop,ex]; rfl
    have hY:Y.drop (i+1)=ys:=by rw [<- List.drop_drop,ey]; rfl
    simp only [cC] at he
    split at he
    case h_2=>cases he
    rename_i p r hp hq
    simp at he; subst he
    have ih:=run_eqItems hue hty (d:=d) n (i+1) cs ds r (by rw [hX]; exact hxs) (by rw [hY]; exact hys) hq
    have px:=run_part (P:=P) (w:=w) hty (vs:=X) (off:=i) (by rw [ex]; simp [Ty.size])
    have py:=run_part (P:=P) (w:=w) hty (vs:=Y) (off:=i) (by rw [ey]; simp [Ty.size])
    rw [ex] at px
    rw [ey] at py
    simp only [Ty.size,List.take_succ_cons,List.take_zero,Ty.read,List.headD_cons] at px py
    have hstep:(Op.equalIn (d+1) e x y).run P w=.ok p w:=by
     unfold cellEq at hp
     split at hp
     .have e1:=ae hcx; have e2:=ae hdy; subst e1 e2
      split at hp
      .rename_i hk; subst hk
       simp at hp; subst hp
       exact run_equalIn_int w d e _ _ _ _ hue
      .cases hp
     .rename_i e1; cases e1
     .rename_i e1; cases e1
     .cases hp
    rw [List.range'_succ,Op.eqItems]
    simp only [Sem.run_bind,Nat.mul_one,px,py,Result.andThen_ok,hstep]
    cases p with
    | true=>simpa using ih
    | false=>simp
theorem run_keyEq {l:List Nat} {t:TypeId} (ht:bc P t=some (.flat l)) {v v':AV} {x x':Value} {b:Bool} (hv:AVRel I m v x) (hv':AVRel I m v' x')
  (hk:isKey (.flat l) v=true) (he:keyEq v v'=some b):(Op.equal t x x').run P w=.ok b w:=by
 cases v <;> simp only [isKey,Bool.false_eq_true,decide_eq_true_eq] at hk
 rename_i cs
 cases v' <;> simp only [keyEq,reduceCtorEq] at he
 rename_i ds
 rw [hk] at he
 cases hv with
 | agg _ X hl1 _ hX =>
  cases hv' with
  | agg _ Y hl2 _ hY =>
   obtain ⟨N,hN⟩:∃ N,Op.maxDepth=N+1+1:=⟨9998,rfl⟩
   unfold Op.equal
   rw [hN]
   unfold bc at ht
   cases hu:P.underlying t with
   | none=>rw [hu] at ht; cases ht
   | some d =>
    rw [hu] at ht
    cases d <;> simp only [reduceCtorEq,Option.some.injEq] at ht
    case struct fs =>
     simp only [Option.map_eq_some_iff,KeyK.flat.injEq] at ht
     obtain ⟨l',hl,rfl⟩:=ht
     unfold flatOf at hl
     rw [hu] at hl
     simp only at hl
     split at hl
     case isFalse=>cases hl
     rename_i hg
     have hfo:P.fieldsOf t=fs:=by simp [Program.fieldsOf,hu]
     rw [run_equalIn_struct w _ t _ _ (by rw [hfo]; exact hu) hg.1,hfo]
     exact run_eqFields fs.toList 0 l' cs ds b hl ⟨hl1,hX⟩ ⟨hl2,hY⟩ he
    case array n e =>
     split at ht
     .rename_i kk hue
      split at ht
      .rename_i hty
       simp only [Option.some.injEq,KeyK.flat.injEq] at ht; subst ht
       obtain ⟨inf,hinf,hsz,_⟩:=aV (w:=w) hty
       have hc1:P.cellsOf e=1:=by
        have h1:=run_sizeOf (P:=P) w hinf
        rw [aX hinf,hsz] at h1
        simpa [Ty.size] using h1.symm
       rw [run_equalIn_array w (N+1) _ _ hu hinf,hc1,List.range_eq_range']
       exact run_eqItems hue hty n 0 cs ds b ⟨hl1,hX⟩ ⟨hl2,hY⟩ he
      .cases ht
     .cases ht
theorem sameNow_of {ks:KeyK} {t:TypeId} {d:TypeDesc} (ht:bc P t=some ks) (hd:P.underlying t=some d) {v v':AV} {x x':Value} {b:Bool} (hv:AVRel I m v x) (hv':AVRel I m v' x')
  (hk:isKey ks v=true) (he:keyEq v v'=some b):(∃ l,ks=.flat l /\ ∀ y y':Value,Instr.sameNow d y y'=none) \/ Instr.sameNow d x x'=some b:=by
 unfold bc at ht
 rw [hd] at ht
 cases d <;> simp only [reduceCtorEq,Option.some.injEq] at ht
 case string =>
  subst ht
  right
  cases v <;> simp only [isKey,Bool.false_eq_true] at hk
  rename_i y
  cases y <;> simp only [Bool.false_eq_true] at hk
  cases v' <;> simp only [keyEq,reduceCtorEq] at he
  rename_i y'
  cases y' <;> simp only [reduceCtorEq] at he
  obtain rfl:=ae hv
  obtain rfl:=ae hv'
  simpa [Instr.sameNow] using he
 case int q =>
  subst ht
  right
  cases v <;> simp only [isKey,Bool.false_eq_true] at hk
  rename_i y
  cases y <;> simp only [Bool.false_eq_true] at hk
  cases v' <;> simp only [keyEq,reduceCtorEq] at he
  rename_i y'
  cases y' <;> simp only [reduceCtorEq] at he
  obtain rfl:=ae hv
  obtain rfl:=ae hv'
  simpa [Instr.sameNow] using he
 case struct fs =>
  simp only [Option.map_eq_some_iff] at ht
  obtain ⟨l,_,rfl⟩:=ht
  exact .inl ⟨l,rfl,fun y y'=>by cases y <;> cases y' <;> rfl⟩
 case array n e =>
  split at ht
  .split at ht
   .simp only [Option.some.injEq] at ht
    exact .inl ⟨_,ht.symm,fun y y'=>by cases y <;> cases y' <;> rfl⟩
   .cases ht
  .cases ht
def EntRel (I:Imm) (m:aQ) (es:List (AV × AV)) (ents:List MapEntry):Prop :=
 es.length=ents.length /\ ∀ (i:Nat) (p:AV × AV) (e:MapEntry),es[i]?=some p -> ents[i]?=some e -> AVRel I m p.1 e.key /\ AVRel I m p.2 e.val
theorem EntRel.tail {p:AV × AV} {e:MapEntry} {es:List (AV × AV)} {ents:List MapEntry} (h:EntRel I m (p :: es) (e :: ents)):(AVRel I m p.1 e.key /\ AVRel I m p.2 e.val) /\ EntRel I m es ents :=
 ⟨h.2 0 p e rfl rfl,by simpa using h.1,fun i q f hq hf=>h.2 (i+1) q f (by simpa using hq) (by simpa using hf)⟩
def bM (k:AV):List (AV × AV) -> Option (Option Nat)
 | []=>some none
 | (k',_) :: r=>match keyEq k k' with
  | some true=>some (some 0)
  | some false=>(bM k r).map fun o=>o.map (·+1)
  | none=>none
def entAt (ents:List MapEntry) (n:Nat):Option Nat -> Option (Nat × Value)
 | none=>none
 | some i=>(ents[i]?).map fun e=>(n+i,e.val)
theorem entAt_succ (e:MapEntry) (ents:List MapEntry) (n:Nat) (o:Option Nat):entAt (e :: ents) n (o.map (·+1))=entAt ents (n+1) o:=by
 cases o with
 | none=>rfl
 | some i=>simp only [entAt,Option.map_some,List.getElem?_cons_succ]; congr 1; funext e; congr 1; omega
theorem amapFind_idx (kv:AV):∀ (es:List (AV × AV)) (r:Option AV),amapFind kv es=some r -> ∃ o,bM kv es=some o /\ (match o with | none=>r=none | some i=>∃ p,es[i]?=some p /\ r=some p.2)
 | [],r,h=>by simp [amapFind] at h; subst h; exact ⟨none,rfl,rfl⟩
 | (k',v') :: es,r,h=>by
  simp only [amapFind] at h
  split at h
  .rename_i he
   simp at h; subst h
   exact ⟨some 0,by simp [bM,he],(k',v'),rfl,rfl⟩
  .rename_i he
   obtain ⟨o,h1,h2⟩:=amapFind_idx kv es r h
   refine ⟨o.map (·+1),by simp [bM,he,h1],?_⟩
   cases o with
   | none=>exact h2
   | some i=>obtain ⟨p,h3,h4⟩:=h2; exact ⟨p,by simpa using h3,h4⟩
  .cases h
theorem amapSet_idx (kv vv:AV):∀ (es es':List (AV × AV)),amapSet kv vv es=some es' -> (bM kv es=some none /\ es'=es++[(kv,vv)]) \/ ∃ i p,bM kv es=some (some i) /\ es[i]?=some p /\ keyEq kv p.1=some true /\ es'=es.set i (kv,vv)
 | [],es',h=>by simp [amapSet] at h; subst h; exact .inl ⟨rfl,rfl⟩
 | (k',v') :: es,es',h=>by
  simp only [amapSet] at h
  split at h
  .rename_i he
   simp at h; subst h
   exact .inr ⟨0,(k',v'),by simp [bM,he],rfl,he,rfl⟩
  .rename_i he
   simp only [Option.map_eq_some_iff] at h
   obtain ⟨es2,hes2,rfl⟩:=h
   rcases amapSet_idx kv vv es es2 hes2 with ⟨g1,g2⟩ | ⟨i,p,g1,g2,g3,g4⟩
   .exact .inl ⟨by simp [bM,he,g1],by rw [g2]; rfl⟩
   .exact .inr ⟨i+1,p,by simp [bM,he,g1],by simpa using g2,g3,by rw [g4]; rfl⟩
  .cases h
theorem findNow_rel {ks:KeyK} {t:TypeId} {d:TypeDesc} (ht:bc P t=some ks) (hd:P.underlying t=some d) (hnf:∀ l,ks ≠ .flat l) {kv:AV} {x:Value} (hv:AVRel I m kv x) (hk:isKey ks kv=true) :
  ∀ (es:List (AV × AV)) (ents:List MapEntry) (n:Nat) (o:Option Nat),EntRel I m es ents -> bM kv es=some o -> Instr.findNow d x ents n=some (entAt ents n o)
 | [],[],n,o,_,h=>by simp [bM] at h; subst h; rfl
 | (k',v') :: es,e :: ents,n,o,hr,h=>by
  obtain ⟨⟨h1,h2⟩,h3⟩:=hr.tail
  have sn:=fun {b:Bool} (he:keyEq kv k'=some b)=>(sameNow_of ht hd hv h1 hk he).resolve_left fun ⟨l,hl,_⟩=>hnf l hl
  simp only [bM] at h
  split at h
  .rename_i he
   simp at h; subst h
   simp [Instr.findNow,sn he,entAt]
  .rename_i he
   simp only [Option.map_eq_some_iff] at h
   obtain ⟨o',ho',rfl⟩:=h
   rw [entAt_succ]
   simp only [Instr.findNow,sn he]
   exact findNow_rel ht hd hnf hv hk es ents (n+1) o' h3 ho'
  .cases h
 | [],_ :: _,n,o,hr,_=>by have:=hr.1; simp at this
 | _ :: _,[],n,o,hr,_=>by have:=hr.1; simp at this
theorem findAsking_rel {l:List Nat} {t:TypeId} (ht:bc P t=some (.flat l)) {kv:AV} {x:Value} (hv:AVRel I m kv x) (hk:isKey (.flat l) kv=true) :
  ∀ (es:List (AV × AV)) (ents:List MapEntry) (n:Nat) (o:Option Nat),EntRel I m es ents -> bM kv es=some o -> (Instr.findAsking t x ents n).run P w=.ok (entAt ents n o) w
 | [],[],n,o,_,h=>by simp [bM] at h; subst h; simp [Instr.findAsking,entAt]
 | (k',v') :: es,e :: ents,n,o,hr,h=>by
  obtain ⟨⟨h1,h2⟩,h3⟩:=hr.tail
  simp only [bM] at h
  split at h
  .rename_i he
   simp at h; subst h
   have:=run_keyEq (w:=w) ht hv h1 hk he
   simp [Instr.findAsking,this,entAt]
  .rename_i he
   simp only [Option.map_eq_some_iff] at h
   obtain ⟨o',ho',rfl⟩:=h
   rw [entAt_succ]
   have:=run_keyEq (w:=w) ht hv h1 hk he
   simp only [Instr.findAsking,Sem.run_bind,this,Result.andThen_ok]
   simpa using findAsking_rel ht hv hk es ents (n+1) o' h3 ho'
  .cases h
 | [],_ :: _,n,o,hr,_=>by have:=hr.1; simp at this
 | _ :: _,[],n,o,hr,_=>by have:=hr.1; simp at this
theorem run_findKey {ks:KeyK} {t:TypeId} {d:TypeDesc} (ht:bc P t=some ks) (hd:P.underlying t=some d) {kv:AV} {x:Value} (hv:AVRel I m kv x) (hk:isKey ks kv=true)
  {es:List (AV × AV)} {ents:List MapEntry} {o:Option Nat} (hr:EntRel I m es ents) (h:bM kv es=some o):(Instr.findKey t x ents).run P w=.ok (entAt ents 0 o) w:=by
 cases ks with
 | flat l =>
  cases es with
  | nil =>
   have:ents=[]:=by have:=hr.1; simpa using this.symm
   subst this
   simp [bM] at h; subst h
   simp [Instr.findKey,aH hd,Instr.findNow,entAt]
  | cons p es =>
   cases ents with
   | nil=>have:=hr.1; simp at this
   | cons e ents =>
    obtain ⟨k',v'⟩:=p
    have hn:Instr.findNow d x (e :: ents) 0=none:=by
     obtain ⟨b,hb⟩:∃ b,keyEq kv k'=some b:=by
      simp only [bM] at h
      split at h
      .exact ⟨_,by assumption⟩
      .exact ⟨_,by assumption⟩
      .cases h
     rcases sameNow_of ht hd hv hr.tail.1.1 hk hb with ⟨_,_,hs⟩ | hs
     .simp [Instr.findNow,hs]
     .unfold bc at ht
      rw [hd] at ht
      cases d <;> simp only [reduceCtorEq,Option.some.injEq] at ht
      case struct fs=>simp [Instr.findNow,Instr.sameNow] at hs ⊢
      case array n e=>simp [Instr.findNow,Instr.sameNow] at hs ⊢
    simp only [Instr.findKey,Sem.run_bind,aH hd,Result.andThen_ok,hn]
    exact findAsking_rel ht hv hk _ _ 0 o hr h
 | int =>
  have:=findNow_rel ht hd (by intro l h; cases h) hv hk es ents 0 o hr h
  simp [Instr.findKey,aH hd,this]
 | str =>
  have:=findNow_rel ht hd (by intro l h; cases h) hv hk es ents 0 o hr h
  simp [Instr.findKey,aH hd,this]
theorem keyKind_under {t:TypeId} {ks:KeyK} (h:bc P t=some ks):∃ d,P.underlying t=some d:=by
 unfold bc at h
 cases hu:P.underlying t with
 | none=>simp [hu] at h
 | some d=>exact ⟨d,rfl⟩
def lookEntries (x:Value):Sem (Array MapEntry) :=
 match x with
 | .map none=>pure #[]
 | .map (some r)=>do
  let .map es _ <- getObj r | stuck "Lookup: map expected"
  pure es
 | _=>stuck "Lookup: map expected"
def lookIn (key elem:TypeId) (index:Value) (ok:Bool) (es:Array MapEntry):Sem Value:=do
 Instr.checkKey es.isEmpty 10000 key index
 let (v,b) <- match <- Instr.findKey key index es.toList with
  | some (_,v)=>pure (v,true)
  | none=>pure (<- zeroValue elem,false)
 pure (if ok then .tuple #[v,.bool b] else v)
theorem run_lookup {t kt e:TypeId} {x i:Value} {ok:Bool} (ht:P.underlying t=some (.map kt e)) :
  (Instr.lookup t x i ok).run P w=((lookEntries x).run P w).andThen fun es w'=>(lookIn kt e i ok es).run P w':=by
 cases x with
 | map r =>
  cases r with
  | none=>simp [Instr.lookup,lookEntries,lookIn,aH ht]; rfl
  | some r =>
   cases hg:(getObj r).run P w with
   | ok ob w'=>cases ob <;> simp [Instr.lookup,lookEntries,lookIn,aH ht,hg] <;> rfl
   | halt hh w'=>simp [Instr.lookup,lookEntries,lookIn,aH ht,hg]
 | _=>simp [Instr.lookup,lookEntries,lookIn,aH ht]
theorem snd_lookup {t kt e:TypeId} {ks:KeyK} {ok:Bool} {z:AV} {x y:Operand} {x' y':Opd} {v:AV} {h':AHeap} (ho:o.op=.lookup t x y ok) (ht:P.underlying t=some (.map kt e)) (hkt:bc P kt=some ks)
  (hz:az P e=some z) (hx:aF x=some x') (hy:aF y=some y')
  (hr:Rel G N D S I m env h a w) (he:aA G env h (.lookup ks z ok x' y')=some (v,h')):Does P G k o a I m w v h':=by
 obtain ⟨inf,zv,hinf,hzv,hok,hzz,hzr⟩:=bH (w:=w) hz
 obtain ⟨d,hd⟩:=keyKind_under hkt
 have hzrel:AVRel I m z zv:=by rw [hzz]; exact ofValue_rel hok
 simp only [aA] at he
 split at he
 .rename_i mv kv hu hu'
  split at he
  .rename_i hkey
   have hkrel:=aG hy hr hu'
   have hp:=aG hx hr hu
   generalize hax:a.eval x=ax at hp
   have key:∀ (es:List (AV × AV)) (ents:Array MapEntry) (r:Option AV),EntRel I m es ents.toList -> amapFind kv es=some r ->
     (lookEntries ax).run P w=.ok ents w ->
     Does P G k o a I m w (if ok then .tup [r.getD z,.sc (.bool r.isSome)] else r.getD z) h:=by
    intro es ents r hent hf hg
    obtain ⟨oi,hoi,hqr⟩:=amapFind_idx kv es r hf
    have hq:=run_findKey (w:=w) hkt hd hkrel hkey hent hoi
    have hval:∃ yv,AVRel I m (r.getD z) yv /\ (lookIn kt e (a.eval y) ok ents).run P w=.ok (if ok then .tuple #[yv,.bool r.isSome] else yv) w:=by
     cases oi with
     | none =>
      simp only at hqr; subst hqr
      exact ⟨zv,hzrel,by simp [lookIn,run_checkKey hkt hkrel hkey,hq,hzr,entAt]⟩
     | some i =>
      obtain ⟨p,hp,rfl⟩:=hqr
      obtain ⟨e',he'⟩:∃ e',ents.toList[i]?=some e':=⟨ents.toList[i]'(by rw [<- hent.1]; exact (List.getElem?_eq_some_iff.1 hp).1),by simp⟩
      have he2:ents[i]?=some e':=by rw [<- Array.getElem?_toList]; exact he'
      exact ⟨e'.val,(hent.2 i p e' hp he').2,by simp [lookIn,run_checkKey hkt hkrel hkey,hq,entAt,he2]⟩
    obtain ⟨yv,hyv,hyr⟩:=hval
    have hrun:(execOp a.eval o).run P w=.ok (.value (if ok then .tuple #[yv,.bool r.isSome] else yv)) w:=by
     simp only [execOp,ho,hax,Sem.run_bind,run_lookup ht,hg,Result.andThen_ok,hyr,Sem.run_pure]
    cases ok with
    | true=>exact .same hr.inv (AVRel.tup [_,.sc (.bool r.isSome)] [yv,.bool r.isSome] rfl (AVRels.cons hyv (.cons (.sc _) .nil)).2) (.inl hrun)
    | false=>exact .same hr.inv hyv (.inl hrun)
   split at he
   .rename_i es hes
    split at he
    .rename_i r hf
     simp only [Option.some.injEq,Prod.mk.injEq] at he
     obtain ⟨rfl,rfl⟩:=he
     split at hes
     .simp at hes; subst hes
      obtain rfl:=ae hp
      exact key [] #[] r ⟨rfl,fun i p e hp=>by simp at hp⟩ hf rfl
     .rename_i ob
      split at hes
      .rename_i es' hob
       simp at hes; subst hes
       have hlt:ob < m.length:=by rw [hr.inv.len]; exact (List.getElem?_eq_some_iff.1 hob).1
       obtain ⟨b,ents,clock,hl,hb,hrel⟩:=hr.inv.obj ob _ m[ob] hob (by simp [hlt])
       cases hp with
       | mp _ rr _ hrr =>
        have:=hrr b (by rw [<- hl]; simp [hlt])
        subst this
        refine key es' ents r ⟨hrel.1,hrel.2.1⟩ hf ?_
        simp [lookEntries,getObj,Sem.run,hb]
      .cases hes
     .cases hes
    .cases he
   .cases he
  .cases he
 .cases he
theorem bytesEq_iff (a b:ByteArray):(a == b)=true ↔ a=b:=by
 cases a with | mk a=>cases b with | mk b =>
 show (a == b)=true ↔ _
 simp
theorem cellEq_same {k:Nat} {c d:AV} {x y:Value} (he:cellEq k c d=some true) (hx:AVRel I m c x) (hy:AVRel I m d y) (n:Nat):Instr.sameBits n y x=true:=by
 unfold cellEq at he
 split at he
 .obtain rfl:=ae hx; obtain rfl:=ae hy
  split at he
  .rename_i hk; subst hk
   simp at he; subst he
   cases n <;> simp [Instr.sameBits]
  .cases he
 .obtain rfl:=ae hx; obtain rfl:=ae hy
  rename_i a b
  simp only [Option.some.injEq,beq_iff_eq] at he
  have:a=b:=by rw [ByteArray.toList_eq,ByteArray.toList_eq] at he; cases a; cases b; simp at he; rw [he]
  subst this
  cases n <;> (simp only [Instr.sameBits]; exact (bytesEq_iff a a).2 rfl)
 .obtain rfl:=ae hx; obtain rfl:=ae hy
  simp at he; subst he
  cases n <;> simp [Instr.sameBits]
 .cases he
theorem cellsEq_same (n:Nat):∀ (ks:List Nat) (cs ds:List AV) (X Y:List Value),cC ks cs ds=some true -> AVRels I m cs X -> AVRels I m ds Y -> (Y.length=X.length /\ (Y.zip X).all fun (x,y)=>Instr.sameBits n x y)=true
 | ks,[],ds,X,Y,he,hx,hy=>by
  cases ks <;> cases ds <;> simp [cC] at he
  obtain rfl:=AVRels.nil_iff.1 hx
  obtain rfl:=AVRels.nil_iff.1 hy
  simp
 | ks,c :: cs,ds,X,Y,he,hx,hy=>by
  cases ks with
  | nil=>cases ds <;> simp [cC] at he
  | cons k ks =>
   cases ds with
   | nil=>simp [cC] at he
   | cons d ds =>
    obtain ⟨x,xs,rfl,hcx,hxs⟩:=AVRels.cons_iff.1 hx
    obtain ⟨y,ys,rfl,hdy,hys⟩:=AVRels.cons_iff.1 hy
    simp only [cC] at he
    split at he
    case h_2=>cases he
    rename_i p q hp hq
    simp only [Option.some.injEq,Bool.and_eq_true] at he
    obtain ⟨rfl,rfl⟩:=he
    have h1:=cellEq_same hp hcx hdy n
    have h2:=cellsEq_same n ks cs ds xs ys hq hxs hys
    simp only [eq_iff_iff,iff_true] at h2 ⊢
    exact ⟨by simp [h2.1],by simp only [List.zip_cons_cons,List.all_cons,h1,Bool.true_and]; exact h2.2⟩
theorem keyEq_same {kv k':AV} {x y:Value} (he:keyEq kv k'=some true) (hx:AVRel I m kv x) (hy:AVRel I m k' y):Instr.sameBits 10000 y x=true:=by
 unfold keyEq at he
 split at he
 .exact cellEq_same (k:=0) (by simp [cellEq]; simpa using he) hx hy _
 .rename_i a b
  refine cellEq_same (k:=1) (c:=.sc (.string a)) (d:=.sc (.string b)) ?_ hx hy _
  have:=Option.some.inj he
  rw [bytesEq_iff] at this
  subst this
  simp [cellEq]
 .cases hx with
  | agg _ X hl1 _ hX =>
   cases hy with
   | agg _ Y hl2 _ hY =>
    have:=cellsEq_same 9999 _ _ _ X Y he ⟨hl1,hX⟩ ⟨hl2,hY⟩
    simp only [eq_iff_iff,iff_true] at this
    rw [show (10000:Nat)=9999+1 from rfl]
    unfold Instr.sameBits
    simp only [List.size_toArray,this.1,beq_self_eq_true,Bool.true_and]
    exact this.2
 .cases he
theorem amapDel_idx (kv:AV):∀ (es es':List (AV × AV)),amapDel kv es=some es' -> (bM kv es=some none /\ es'=es) \/ ∃ i p,bM kv es=some (some i) /\ es[i]?=some p /\ es'=es.eraseIdx i
 | [],es',h=>by simp [amapDel] at h; subst h; exact .inl ⟨rfl,rfl⟩
 | (k',v') :: es,es',h=>by
  simp only [amapDel] at h
  split at h
  .rename_i he
   simp at h; subst h
   exact .inr ⟨0,(k',v'),by simp [bM,he],rfl,rfl⟩
  .rename_i he
   simp only [Option.map_eq_some_iff] at h
   obtain ⟨es2,hes2,rfl⟩:=h
   rcases amapDel_idx kv es es2 hes2 with ⟨g1,g2⟩ | ⟨i,p,g1,g2,g3⟩
   .exact .inl ⟨by simp [bM,he,g1],by rw [g2]⟩
   .exact .inr ⟨i+1,p,by simp [bM,he,g1],by simpa using g2,by rw [g3]; rfl⟩
  .cases h
theorem eraseIdx_both {α β:Type} {es:List α} {ens:List β} (hl:es.length=ens.length) {i j:Nat} {p:α} {e:β} (hp:(es.eraseIdx i)[j]?=some p) (he:(ens.eraseIdx i)[j]?=some e):∃ q:Nat,es[q]?=some p /\ ens[q]?=some e:=by
 rw [List.getElem?_eraseIdx] at hp he
 split at hp
 .rename_i hlt
  rw [if_pos hlt] at he
  exact ⟨j,hp,he⟩
 .rename_i hlt
  rw [if_neg hlt] at he
  exact ⟨j+1,hp,he⟩
theorem Inv.delEntry (hv:Inv G I m h w) {ob b i:Nat} {es:List (AV × AV)} {ents:Array MapEntry} {clock:Nat} (hob:h[ob]?=some (.amap es)) (hm:m[ob]?=some (.whole b)) (hrel:MapRel I m es ents.toList clock) :
  Inv G I m (h.set ob (.amap (es.eraseIdx i))) { w with heap:=w.heap.setIfInBounds b (.map (ents.eraseIdxIfInBounds i) clock) } /\ (∀ k,Trans k I m w I m { w with heap:=w.heap.setIfInBounds b (.map (ents.eraseIdxIfInBounds i) clock) }):=by
 obtain ⟨hlen,hent,hborn,hpw⟩:=hrel
 have hto:(ents.eraseIdxIfInBounds i).toList=ents.toList.eraseIdx i:=by
  rw [Array.eraseIdxIfInBounds]
  split
  .rw [Array.toList_eraseIdx]
  .rename_i hge
   rw [List.eraseIdx_of_length_le (by simpa using hge)]
 refine hv.setMap hob hm ?_
 rw [hto]
 refine ⟨by rw [List.length_eraseIdx,List.length_eraseIdx,hlen],fun j p en hp hen=>?_,fun en hen=>hborn en (List.mem_of_mem_eraseIdx hen),?_⟩
 .obtain ⟨q,h1,h2⟩:=eraseIdx_both hlen hp hen
  exact hent q p en h1 h2
 .exact hpw.sublist (List.eraseIdx_sublist ents.toList i)
theorem snd_mapUpd {t kt e:TypeId} {ks:KeyK} {x y z:Operand} {x' y' z':Opd} {v:AV} {h':AHeap} (ho:o.op=.mapUpdate t x y z) (ht:P.underlying t=some (.map kt e)) (hkt:bc P kt=some ks)
  (hx:aF x=some x') (hy:aF y=some y') (hz:aF z=some z')
  (hr:Rel G N D S I m env h a w) (he:aA G env h (.mapUpd ks x' y' z')=some (v,h')):Does P G k o a I m w v h':=by
 obtain ⟨d,hd⟩:=keyKind_under hkt
 simp only [aA] at he
 split at he
 .rename_i ob kv vv hu hu' hu2
  split at he
  .rename_i hkey
   split at he
   .rename_i es hob
    simp only [Option.map_eq_some_iff,Prod.mk.injEq] at he
    obtain ⟨es',hes',rfl,rfl⟩:=he
    have hkrel:=aG hy hr hu'
    have hvrel:=aG hz hr hu2
    have hp:=aG hx hr hu
    generalize hax:a.eval x=ax at hp
    have hlt:ob < m.length:=by rw [hr.inv.len]; exact (List.getElem?_eq_some_iff.1 hob).1
    obtain ⟨b,ents,clock,hl,hb,hrel⟩:=hr.inv.obj ob _ m[ob] hob (by simp [hlt])
    have hm:m[ob]?=some (.whole b):=by rw [<- hl]; simp [hlt]
    obtain ⟨hlen,hent,hborn,hpw⟩:=hrel
    cases hp with
    | mp _ rr _ hrr =>
     have:=hrr b hm
     subst this
     have hfind:∀ {oi:Option Nat},bM kv es=some oi -> (Instr.findKey kt (a.eval y) ents.toList).run P w=.ok (entAt ents.toList 0 oi) w:=fun h=>run_findKey (w:=w) hkt hd hkrel hkey ⟨hlen,hent⟩ h
     rcases amapSet_idx kv vv es es' hes' with ⟨g1,g2⟩ | ⟨i,p0,g1,gp,ge,g4⟩
     .obtain ⟨h1,h2⟩:=hr.inv.setMap hob hm (es':=es') (ents':=ents.push { key:=a.eval y,val:=a.eval z,born:=clock }) (clock':=clock+1) (by
       refine ⟨by rw [g2]; simp [hlen],fun i p en hp hen=>?_,fun en hen=>?_,?_⟩
       .rw [g2] at hp
        rw [Array.toList_push] at hen
        rcases getElem?_append_one hp with hp1 | ⟨hi,rfl⟩
        .rcases getElem?_append_one hen with hen1 | ⟨hi',_⟩
         .exact hent i p en hp1 hen1
         .have:=(List.getElem?_eq_some_iff.1 hp1).1; omega
        .rcases getElem?_append_one hen with hen1 | ⟨hi',rfl⟩
         .have:=(List.getElem?_eq_some_iff.1 hen1).1; omega
         .exact ⟨hkrel,hvrel⟩
       .rw [Array.toList_push] at hen
        rcases List.mem_append.1 hen with hen | hen
        .have:=hborn en hen; omega
        .simp at hen; subst hen; simp
       .rw [Array.toList_push,List.pairwise_append]
        refine ⟨hpw,by simp,fun a' ha' b' hb'=>?_⟩
        simp at hb'; subst hb'
        have:=hborn a' ha'
        simp only
        omega)
      refine ⟨undef,_,I,m,.inr ⟨?_,rfl⟩,.tup [] [] rfl (fun i a x ha=>by simp at ha),h1,h2 k,.refl m⟩
      simp only [execOp,ho,hax,Instr.mapUpdate,Sem.run_bind,aH ht,Result.andThen_ok,getObj,Sem.run,hb,run_checkKey hkt hkrel hkey,hfind g1,entAt]
      simp [setObj,Sem.run,hb]
     .have hi:i < ents.size:=by have:=(List.getElem?_eq_some_iff.1 gp).1; rw [hlen] at this; simpa using this
      obtain ⟨en,g2⟩:∃ en,ents.toList[i]?=some en:=⟨ents.toList[i]'(by simpa using hi),by simp⟩
      have g3:=keyEq_same ge hkrel (hent i p0 en gp g2).1
      have hgi:ents[i]?=some en:=by rw [<- Array.getElem?_toList]; exact g2
      obtain ⟨h1,h2⟩:=hr.inv.setMap hob hm (es':=es') (ents':=ents.modify i fun e=>{ e with key:=a.eval y,val:=a.eval z }) (clock':=clock) (by
       refine ⟨by rw [g4]; simp [hlen],fun j p en' hp hen=>?_,fun en' hen=>?_,?_⟩
       .rw [g4] at hp
        rw [Array.toList_modify,List.getElem?_modify] at hen
        rw [List.getElem?_set] at hp
        by_cases hij:i=j
        .subst hij
         simp only [if_true] at hp hen
         rw [if_pos (by rw [hlen]; simpa using hi)] at hp
         simp at hp; subst hp
         rw [g2] at hen
         simp at hen; subst hen
         exact ⟨hkrel,hvrel⟩
        .simp only [hij,if_false] at hp hen
         have hen':ents.toList[j]?=some en':=by
          cases hq:ents.toList[j]? with
          | none=>rw [hq] at hen; simp at hen
          | some q=>rw [hq] at hen; simpa using hen
         exact hent j p en' hp hen'
       .obtain ⟨j,hj⟩:=List.getElem?_of_mem hen
        rw [Array.toList_modify,List.getElem?_modify] at hj
        cases hq:ents.toList[j]? with
        | none=>rw [hq] at hj; simp at hj
        | some q =>
         rw [hq] at hj
         have hqm:=hborn q (List.mem_of_getElem? hq)
         simp only [Option.map_eq_map,Option.map_some,Option.some.injEq] at hj
         split at hj <;> subst hj <;> exact hqm
       .rw [Array.toList_modify]
        have hmap:∀ (l:List MapEntry) (j:Nat) (f:MapEntry -> MapEntry),(∀ e,(f e).born=e.born) -> (l.modify j f).map (·.born)=l.map (·.born):=by
         intro l
         induction l with
         | nil=>intro j f hf; simp
         | cons e l ih =>
          intro j f hf
          cases j with
          | zero=>simp [hf]
          | succ j=>simp [ih j f hf]
        have h3:(ents.toList.map (·.born)).Pairwise (· ≠ ·):=List.pairwise_map.2 hpw
        rw [<- hmap ents.toList i (fun e=>{ e with key:=a.eval y,val:=a.eval z }) (fun e=>rfl)] at h3
        exact List.pairwise_map.1 h3)
      refine ⟨undef,_,I,m,.inr ⟨?_,rfl⟩,.tup [] [] rfl (fun i a x ha=>by simp at ha),h1,h2 k,.refl m⟩
      have hkeep:(Instr.keyThatStays (((ents[i]?).map (·.key)).getD (a.eval y)) (a.eval y)).run P w=.ok (a.eval y) w:=by
       simp [hgi,Instr.keyThatStays,g3]
      simp only [execOp,ho,hax,Instr.mapUpdate,Sem.run_bind,aH ht,Result.andThen_ok,getObj,Sem.run,hb,run_checkKey hkt hkrel hkey,hfind g1,entAt,g2,Option.map_some,Nat.zero_add,hkeep]
      simp [setObj,Sem.run,hb]
   .cases he
  .cases he
 .cases he
end
end Go.Apx
end
section
namespace Go.Apx
section
variable {P:Program} {G:Globs} {N S k:Nat} {D:Ro} {o:Oper} {a:Act} {I:Imm} {m:aQ} {w:World} {env:Env} {h:AHeap} {ann:List Nat}
theorem Inv.drew (hv:Inv G I m h w):Inv G I m h w.drew:=⟨hv.len,hv.obj,hv.imm,hv.disj,hv.immd,hv.lt,hv.glob⟩
theorem Trans.drew (k:Nat) (I:Imm) (m:aQ) (w:World):Trans k I m w I m w.drew :=
 {os:=rfl,tape:=rfl,output:=rfl,size:=Nat.le_refl _,cell:=fun _ _ _ _=>rfl,froz:=fun _ _=>rfl,blk:=fun _ _ _=>rfl,
  imm:=.refl I,own:=fun i l b o h h' _=>⟨i,l,h,h'⟩,immNew:=fun _ _ _ h=>.inl h,loc:=fun i l _ h=>⟨l,h,.refl l⟩ }
theorem elems_rel {q q':Nat} {es:List AV} {c:Cap} {x:Value} (hq:q'=q \/ es=[]) (hu:AVRel I m (.sl q' es c) x) :
  ∃ base cap vs,x=.slice base es.length cap /\ es.length <= cap /\ AVRels I m (es.flatMap AV.cells) vs /\ (∀ e ∈ es,e.cells.length=q) /\ (∀ c ∈ es.flatMap AV.cells,c.one=true) /\
   (base=none -> es=[]) /\ (∀ ad,base=some ad -> Lies I ad.block ad.off vs /\ (es ≠ [] -> ad.spot=none)):=by
 cases hu with
 | slnil=>exact ⟨none,0,[],rfl,by simp,by simpa using AVRels.nil,by simp,by simp,fun _=>rfl,fun ad h=>by cases h⟩
 | sl _ _ _ ad cap vs hc hle hk hw h1 hl hrel hI hs hcap =>
  refine ⟨some ad,cap,vs,rfl,hle,⟨hl,hrel⟩,?_,h1,(fun h=>by cases h),(fun ad' h=>by cases h; exact ⟨hI,hs⟩)⟩
  rcases hq with rfl | rfl
  .exact hw
  .simp
theorem lies_cells (hv:Inv G I m h w) {ad:Addr} {vs:List Value} (hI:Lies I ad.block ad.off vs) (hs:vs ≠ [] -> ad.spot=none) :
  ∀ (j:Nat) (x:Value),vs[j]?=some x -> w.cell? (ad.add j)=some x:=by
 intro j x hx
 have hne:vs ≠ []:=by intro e; subst e; simp at hx
 rw [addr_add (hs hne)]
 exact hv.imm _ _ _ (hI j x hx)
theorem one_cells {c:AV} (h:c.one=true):c.cells=[c]:=by cases c <;> first | rfl | cases h
theorem rows_spec {k:Nat} (hk:0 < k):∀ (n:Nat) (cs:List AV),n * k <= cs.length -> (∀ c ∈ cs,c.one=true) ->
  (rows k n cs).length=n /\ (∀ e ∈ rows k n cs,e.cells.length=k) /\ (rows k n cs).flatMap AV.cells=cs.take (n * k)
 | 0,cs,_,_=>by simp [rows]
 | n+1,cs,hl,h1=>by
  rw [Nat.add_mul,Nat.one_mul] at hl
  obtain ⟨g1,g2,g3⟩:=rows_spec hk n (cs.drop k) (by rw [List.length_drop]; omega) (fun c hc=>h1 c (List.mem_of_mem_drop hc))
  have hhead:(if k=1 then cs.headD (.tup []) else .agg (cs.take k):AV).cells=cs.take k:=by
   split
   .rename_i e
    cases cs with
    | nil=>simp at hl; omega
    | cons c r=>simp [e,one_cells (h1 c (by simp))]
   .rfl
  refine ⟨by simp [rows,g1],fun e he=>?_,?_⟩
  .simp only [rows,List.mem_cons] at he
   rcases he with rfl | he
   .rw [hhead,List.length_take]; omega
   .exact g2 e he
  .simp only [rows,List.flatMap_cons,hhead,g3,Nat.add_mul,Nat.one_mul]
   rw [Nat.add_comm,List.take_add]
theorem elems_now (hv:Inv G I m h w) {q:Nat} {u:AV} {xs:List AV} {x:Value} (he:elems h q u=some xs) (hu:AVRel I m u x) :
  ∃ base cap vs,x=.slice base xs.length cap /\ xs.length <= cap /\ AVRels I m (xs.flatMap AV.cells) vs /\ (∀ e ∈ xs,e.cells.length=q) /\ (∀ c ∈ xs.flatMap AV.cells,c.one=true) /\
   (base=none -> xs=[]) /\ (∀ ad,base=some ad -> ∀ (j:Nat) (x:Value),vs[j]?=some x -> w.cell? (ad.add j)=some x):=by
 unfold elems at he
 split at he
 .rename_i q' es c
  split at he
  .rename_i hq
   simp only [Option.some.injEq] at he; subst he
   obtain ⟨base,cap,vs,g1,g2,g3,g4,g5,g6,g7⟩:=elems_rel hq hu
   refine ⟨base,cap,vs,g1,g2,g3,g4,g5,g6,fun ad hb=>lies_cells hv (g7 ad hb).1 fun hne=>(g7 ad hb).2 fun e=>hne ?_⟩
   subst e
   exact AVRels.nil_iff.1 (by simpa using g3)
  .cases he
 .rename_i o g off len rc
  cases hu with
  | rf _ _ _ _ _ ad cap ho hle hf hpr =>
   split at he
   .rename_i h0
    simp only [Option.some.injEq] at he; subst he h0
    exact ⟨some ad,cap,[],rfl,by simp,by simpa using AVRels.nil,by simp,by simp,(fun h=>by cases h),fun ad' _ j x hx=>by simp at hx⟩
   .rename_i h0
    split at he
    .rename_i g' cs hob
     split at he
     .rename_i hc
      obtain ⟨rfl,hlen,hq⟩:=hc
      simp only [Option.some.injEq] at he; subst he
      obtain ⟨b,lo,n,vs,hl,hle',hrels,hone,hcell,hall⟩:=hv.obj o _ m[o] hob (by simp [ho])
      have hm:m[o]?=some (.cells g' b lo n):=by rw [<- hl]; simp [ho]
      have had:=(hpr h0 _ b lo n hm).2 rfl
      subst had
      obtain ⟨r1,r2,r3⟩:=rows_spec hq len (cs.drop off) (by rw [List.length_drop]; omega) (fun c hc=>hone c (List.mem_of_mem_drop hc))
      refine ⟨some ⟨b,lo+off,none⟩,cap,(vs.drop off).take (len * q),by rw [r1],by rw [r1]; exact hle,by rw [r3]; exact (hrels.drop off).take _,r2,fun c hc=>?_,(fun h=>by cases h),fun ad' hb j x hx=>?_⟩
      .rw [r3] at hc
       exact hone c (List.mem_of_mem_drop (List.mem_of_mem_take hc))
      .cases hb
       rw [List.getElem?_take] at hx
       split at hx
       .rw [List.getElem?_drop] at hx
        have:=hcell _ _ hx
        rw [addr_add rfl]
        rw [<- Nat.add_assoc] at this
        exact this
       .cases hx
     .cases he
    .cases he
 .cases he
theorem bO (hv:Inv G I m h w) {q:Nat} (hq:0 < q) {xs:List AV} {base:Option Addr} {cap:Nat} {vs:List Value} (hrel:AVRels I m (xs.flatMap AV.cells) vs) (hw:∀ e ∈ xs,e.cells.length=q)
  (hb:base=none -> xs=[]) (hI:∀ ad,base=some ad -> ∀ (j:Nat) (x:Value),vs[j]?=some x -> w.cell? (ad.add j)=some x) :
  (Builtin.firstCells q xs.length (.slice base xs.length cap)).run P w=.ok vs.toArray w:=by
 have hlen:vs.length=xs.length * q:=by rw [<- hrel.1,flat_length xs hw]
 cases base with
 | none =>
  have:=hb rfl
  subst this
  have:vs=[]:=by simpa using hlen
  subst this
  simp [Builtin.firstCells]
 | some ad =>
  have:=run_loadCells_list (P:=P) w ad vs (hI ad rfl)
  simp [Builtin.firstCells,<- hlen,this]
theorem growBy_le (newLen:Nat):∀ (r c:Nat),c < newLen -> Builtin.growBy newLen r c <= 2 * newLen+200
 | 0,c,hc=>by simp [Builtin.growBy]; omega
 | r+1,c,hc=>by
  simp only [Builtin.growBy]
  split
  .omega
  .by_cases h':c+(c+768) / 4 < newLen
   .exact growBy_le newLen r _ h'
   .have:∀ r c,newLen <= c -> Builtin.growBy newLen r c=c:=by
     intro r c hc
     cases r with
     | zero=>rfl
     | succ r=>simp [Builtin.growBy,hc]
    rw [this r _ (by omega)]
    omega
theorem nextslicecap_le {need old:Nat} (hlt:old < need):Builtin.nextslicecap need old <= 2 * need+200:=by
 unfold Builtin.nextslicecap
 split
 .omega
 .split
  .omega
  .exact growBy_le need 4 old hlt
theorem Inv.allocTok (hv:Inv G I m h w) {t n n':Nat} {b s e:Nat} (cs:Array Value) (el:TypeId) (pre:List Value) (ho:h[t]?=some (.tok n)) (hl:m[t]?=some (.tok n b s e)) (hn:n < n')
  (hpre:∀ (i:Nat) (x:Value),pre[i]?=some x -> cs[i]?=some x) (hle:pre.length <= cs.size) :
  Inv G (I.row w.heap.size pre) (m.set t (.tok n' w.heap.size pre.length cs.size)) (h.set t (.tok n')) (w.alloc (.cells cs el)) /\
  (∀ k,Trans k I m w (I.row w.heap.size pre) (m.set t (.tok n' w.heap.size pre.length cs.size)) (w.alloc (.cells cs el))) /\
  LocsLe m (m.set t (.tok n' w.heap.size pre.length cs.size)):=by
 have htl:t < m.length:=(List.getElem?_eq_some_iff.1 hl).1
 have hleI:ImmLe I (I.row w.heap.size pre):=Imm.row_le hv.imm_new
 have hold:∀ b o,b < w.heap.size -> I.row w.heap.size pre b o=I b o:=fun b o hb=>by
  unfold Imm.row; rw [if_neg (Nat.ne_of_lt hb)]
 have hml:LocsLe m (m.set t (.tok n' w.heap.size pre.length cs.size)):=by
  intro i l hi
  rw [List.getElem?_set]
  split
  .rename_i he; subst he
   rw [hl] at hi; simp at hi; subst hi
   exact ⟨_,rfl,.tok hn⟩
  .exact ⟨l,hi,.refl l⟩
 have hset:∀ (j:Nat) (l:Loc),(m.set t (.tok n' w.heap.size pre.length cs.size))[j]?=some l -> (j=t /\ l=.tok n' w.heap.size pre.length cs.size) \/ (j ≠ t /\ m[j]?=some l):=by
  intro j l hj
  rw [List.getElem?_set] at hj
  split at hj
  .rename_i he; subst he; simp [htl] at hj; exact .inl ⟨rfl,hj.symm⟩
  .rename_i he; exact .inr ⟨Ne.symm he,hj⟩
 refine ⟨?_,fun k=>?_,hml⟩
 .exact
  {len:=by simp [hv.len]
   obj:=fun j ob l hj hlj=>by
    rcases hset j l hlj with ⟨rfl,rfl⟩ | ⟨hne,hlj'⟩
    .have hjl:j < h.length:=by have:=hv.len; omega
     rw [List.getElem?_set] at hj
     simp [hjl] at hj; subst hj
     refine ⟨w.heap.size,pre.length,cs.size,rfl,hle,fun q h1 h2=>?_⟩
     simp [h2]
    .rw [List.getElem?_set] at hj
     rw [if_neg (Ne.symm hne)] at hj
     exact (hv.obj j ob l hj hlj').mono hleI hml
      (fun b p hp=>⟨World.cell?_alloc_lt w _ _ (hv.lt j l b p hlj' hp),World.frozen?_alloc_old w _ _ (Nat.ne_of_lt (hv.lt j l b p hlj' hp))⟩)
      (fun b e=>ba (hv.lt j l b 0 hlj' (by subst e; exact rfl)))
   imm:=fun b o v hx=>by
    unfold Imm.row at hx
    split at hx
    .rename_i e; subst e; rw [World.cell?_alloc_new]; exact hpre o v hx
    .rw [World.cell?_alloc_lt w _ _ (hv.imm_lt hx)]; exact hv.imm b o v hx
   disj:=fun i j l1 l2 b o h1 h2 o1 o2=>by
    rcases hset i l1 h1 with ⟨rfl,rfl⟩ | ⟨hn1,h1'⟩ <;> rcases hset j l2 h2 with ⟨rfl,rfl⟩ | ⟨hn2,h2'⟩
    .rfl
    .have:=hv.lt j l2 b o h2' o2
     have:=o1.1
     omega
    .have:=hv.lt i l1 b o h1' o1
     have:=o2.1
     omega
    .exact hv.disj i j l1 l2 b o h1' h2' o1 o2
   immd:=fun j l b o hj hp=>by
    rcases hset j l hj with ⟨rfl,rfl⟩ | ⟨hne,hj'⟩
    .obtain ⟨rfl,h2,h3⟩:=hp
     unfold Imm.row
     rw [if_pos rfl]
     simp [h2]
    .rw [hold b o (hv.lt j l b o hj' hp)]; exact hv.immd j l b o hj' hp
   lt:=fun j l b o hj hp=>by
    rcases hset j l hj with ⟨rfl,rfl⟩ | ⟨hne,hj'⟩
    .have:=hp.1; simp; omega
    .have:=hv.lt j l b o hj' hp; simp; omega
   glob:=fun g v hg m'=>(hv.glob g v hg m').mono hleI (.refl m') }
 .exact
  {os:=rfl,tape:=rfl,output:=rfl,size:=by simp,cell:=fun b o hb _=>World.cell?_alloc_lt w _ _ hb,
   froz:=fun a ha=>World.frozen?_alloc_old w _ a (Nat.ne_of_lt ha),blk:=fun b hb _=>ba hb,imm:=hleI,
   own:=fun j l b o hj hp hb=>by
    rcases hset j l hj with ⟨rfl,rfl⟩ | ⟨hne,hj'⟩
    .have:=hp.1; omega
    .exact ⟨j,l,hj',hp⟩
   immNew:=fun b o hb hx=>.inl (by rw [hold b o hb] at hx; exact hx),
   loc:=fun i l _ hi=>hml i l hi }
theorem Inv.allocSet (hv:Inv G I m h w) {t:Nat} {l0 l':Loc} {ob:Obj} {o':AObj} (ht:m[t]?=some l0) (hle0:LocLe l0 l') (howns:∀ b o,l'.owns b o -> b=w.heap.size)
  (hobj:ObjRel I (m.set t l') (w.alloc ob) o' l') :
  Inv G I (m.set t l') (h.set t o') (w.alloc ob) /\ (∀ k,Trans k I m w I (m.set t l') (w.alloc ob)) /\ LocsLe m (m.set t l'):=by
 have htl:t < m.length:=(List.getElem?_eq_some_iff.1 ht).1
 have hml:LocsLe m (m.set t l'):=by
  intro i l hi
  rw [List.getElem?_set]
  split
  .rename_i he; subst he
   rw [ht] at hi; simp at hi; subst hi
   exact ⟨_,by simp [htl],hle0⟩
  .exact ⟨l,hi,.refl l⟩
 have hset:∀ (j:Nat) (l:Loc),(m.set t l')[j]?=some l -> (j=t /\ l=l') \/ (j ≠ t /\ m[j]?=some l):=by
  intro j l hj
  rw [List.getElem?_set] at hj
  split at hj
  .rename_i he; subst he; simp [htl] at hj; exact .inl ⟨rfl,hj.symm⟩
  .rename_i he; exact .inr ⟨Ne.symm he,hj⟩
 refine ⟨?_,fun k=>?_,hml⟩
 .exact
  {len:=by simp [hv.len]
   obj:=fun j ob' l hj hlj=>by
    rcases hset j l hlj with ⟨rfl,rfl⟩ | ⟨hne,hlj'⟩
    .have hjl:j < h.length:=by have:=hv.len; omega
     rw [List.getElem?_set] at hj
     simp [hjl] at hj; subst hj
     exact hobj
    .rw [List.getElem?_set] at hj
     rw [if_neg (Ne.symm hne)] at hj
     exact (hv.obj j ob' l hj hlj').mono (.refl I) hml
      (fun b p hp=>⟨World.cell?_alloc_lt w _ _ (hv.lt j l b p hlj' hp),World.frozen?_alloc_old w _ _ (Nat.ne_of_lt (hv.lt j l b p hlj' hp))⟩)
      (fun b e=>ba (hv.lt j l b 0 hlj' (by subst e; exact rfl)))
   imm:=fun b o v hx=>by rw [World.cell?_alloc_lt w _ _ (hv.imm_lt hx)]; exact hv.imm b o v hx
   disj:=fun i j l1 l2 b o h1 h2 o1 o2=>by
    rcases hset i l1 h1 with ⟨rfl,rfl⟩ | ⟨hn1,h1'⟩ <;> rcases hset j l2 h2 with ⟨rfl,rfl⟩ | ⟨hn2,h2'⟩
    .rfl
    .have:=hv.lt j l2 b o h2' o2
     have:=howns b o o1
     omega
    .have:=hv.lt i l1 b o h1' o1
     have:=howns b o o2
     omega
    .exact hv.disj i j l1 l2 b o h1' h2' o1 o2
   immd:=fun j l b o hj hp=>by
    rcases hset j l hj with ⟨rfl,rfl⟩ | ⟨hne,hj'⟩
    .have:=howns b o hp; subst this; exact hv.imm_new o
    .exact hv.immd j l b o hj' hp
   lt:=fun j l b o hj hp=>by
    rcases hset j l hj with ⟨rfl,rfl⟩ | ⟨hne,hj'⟩
    .have:=howns b o hp; simp; omega
    .have:=hv.lt j l b o hj' hp; simp; omega
   glob:=hv.glob }
 .exact
  {os:=rfl,tape:=rfl,output:=rfl,size:=by simp,cell:=fun b o hb _=>World.cell?_alloc_lt w _ _ hb,
   froz:=fun a ha=>World.frozen?_alloc_old w _ a (Nat.ne_of_lt ha),blk:=fun b hb _=>ba hb,imm:=.refl I,
   own:=fun j l b o hj hp hb=>by
    rcases hset j l hj with ⟨rfl,rfl⟩ | ⟨hne,hj'⟩
    .have:=howns b o hp; omega
    .exact ⟨j,l,hj',hp⟩
   immNew:=fun b o hb hx=>.inl hx,
   loc:=fun i l _ hi=>hml i l hi }
theorem Inv.bump (hv:Inv G I m h w) {i g b lo n:Nat} {cs:List AV} (ho:h[i]?=some (.cells g cs)) (hl:m[i]?=some (.cells g b lo n)) :
  Inv G I (m.set i (.cells (g+1) b lo n)) (h.set i (.cells (g+1) cs)) w /\ (∀ k,Trans k I m w I (m.set i (.cells (g+1) b lo n)) w) /\ LocsLe m (m.set i (.cells (g+1) b lo n)):=by
 have hil:i < m.length:=(List.getElem?_eq_some_iff.1 hl).1
 have hml:LocsLe m (m.set i (.cells (g+1) b lo n)):=by
  intro j l hj
  rw [List.getElem?_set]
  split
  .rename_i he; subst he
   rw [hl] at hj; simp at hj; subst hj
   exact ⟨.cells (g+1) b lo n,by simp [hil],.cells (Nat.lt_succ_self g)⟩
  .exact ⟨l,hj,.refl l⟩
 have hset:∀ (j:Nat) (l:Loc),(m.set i (.cells (g+1) b lo n))[j]?=some l -> ∃ l0,m[j]?=some l0 /\ (∀ b o,l.owns b o ↔ l0.owns b o) /\ ((j=i /\ l=.cells (g+1) b lo n) \/ (j ≠ i /\ l0=l)):=by
  intro j l hj
  rw [List.getElem?_set] at hj
  split at hj
  .rename_i he; subst he; simp [hil] at hj; subst hj
   exact ⟨_,hl,fun _ _=>Iff.rfl,.inl ⟨rfl,rfl⟩⟩
  .rename_i he; exact ⟨l,hj,fun _ _=>Iff.rfl,.inr ⟨Ne.symm he,rfl⟩⟩
 refine ⟨?_,fun k=>?_,hml⟩
 .exact
  {len:=by simp [hv.len]
   obj:=fun j ob' l hj hlj=>by
    obtain ⟨l0,hl0,_,⟨rfl,rfl⟩ | ⟨hne,rfl⟩⟩:=hset j l hlj
    .have hjl:j < h.length:=by have:=hv.len; omega
     rw [List.getElem?_set] at hj
     simp [hjl] at hj; subst hj
     obtain ⟨b',lo',n',vs,e,hle,hrel,hone,hcell,hall⟩:=hv.obj j _ _ ho hl
     cases e
     exact ⟨b,lo,n,vs,rfl,hle,hrel.mono (.refl I) hml,hone,hcell,hall⟩
    .rw [List.getElem?_set] at hj
     rw [if_neg (Ne.symm hne)] at hj
     exact (hv.obj j ob' l0 hj hl0).mono (.refl I) hml (fun _ _ _=>⟨rfl,rfl⟩) (fun _ _=>rfl)
   imm:=hv.imm
   disj:=fun j j' l1 l2 b o h1 h2 o1 o2=>by
    obtain ⟨m1,q1,p1,_⟩:=hset j l1 h1
    obtain ⟨m2,q2,p2,_⟩:=hset j' l2 h2
    exact hv.disj j j' m1 m2 b o q1 q2 ((p1 b o).1 o1) ((p2 b o).1 o2)
   immd:=fun j l b o hj hp=>by
    obtain ⟨m1,q1,p1,_⟩:=hset j l hj
    exact hv.immd j m1 b o q1 ((p1 b o).1 hp)
   lt:=fun j l b o hj hp=>by
    obtain ⟨m1,q1,p1,_⟩:=hset j l hj
    exact hv.lt j m1 b o q1 ((p1 b o).1 hp)
   glob:=hv.glob }
 .exact
  {os:=rfl,tape:=rfl,output:=rfl,size:=Nat.le_refl _,cell:=fun _ _ _ _=>rfl,froz:=fun _ _=>rfl,blk:=fun _ _ _=>rfl,imm:=.refl I,
   own:=fun j l b o hj hp _=>by
    obtain ⟨m1,q1,p1,_⟩:=hset j l hj
    exact ⟨j,m1,q1,(p1 b o).1 hp⟩
   immNew:=fun b o _ hx=>.inl hx
   loc:=fun j l _ hj=>hml j l hj }
theorem append_parts {c:Call} {t u:TypeId} {x y:Operand} {r:Value} {w':World} (hc:c.callee=.builtin .append) (ha:c.args.toList=[x,y]) (hT:c.argTypes.toList=[t,u]) (ho:o.op=.call c)
  (hrun:(Builtin.append_ #[t,u] o.type #[a.eval x,a.eval y]).run P w=.ok r w'):Gives P o a w r w':=by
 have h1:c.args.map a.eval=#[a.eval x,a.eval y]:=by apply Array.ext'; simp [ha]
 have h2:c.argTypes=#[t,u]:=by apply Array.ext'; simp [hT]
 left
 simp [execOp,ho,resolve,hc,h1,h2,invoke,builtin,hrun]
section
variable {t u e f ty:TypeId} {inf:TypeInfo} {len cap n:Nat} {yv:Value} {vs:List Value}
theorem run_append_none (ht:P.underlying t=some (.slice e)) (hu:P.underlying u=some (.slice f)) (hinf:P.info? e=some inf) (hn:(Builtin.lenOf yv).run P w=.ok n w)
  (hnew:(Builtin.firstCells inf.size n yv).run P w=.ok vs.toArray w) (hfit:len+n <= cap) :
  (Builtin.append_ #[t,u] ty #[.slice none len cap,yv]).run P w=.ok (.slice none (len+n) cap) w:=by
 simp [Builtin.append_,aH ht,aH hu,aX hinf,hn,hfit,hnew]
theorem br {ad:Addr} {w':World} (ht:P.underlying t=some (.slice e)) (hu:P.underlying u=some (.slice f)) (hinf:P.info? e=some inf) (hn:(Builtin.lenOf yv).run P w=.ok n w)
  (hnew:(Builtin.firstCells inf.size n yv).run P w=.ok vs.toArray w) (hfit:len+n <= cap) (hst:(storeCells (ad.add (len * inf.size)) vs).run P w=.ok () w') :
  (Builtin.append_ #[t,u] ty #[.slice (some ad) len cap,yv]).run P w=.ok (.slice (some ad) (len+n) cap) w':=by
 simp [Builtin.append_,aH ht,aH hu,aX hinf,hn,hfit,hnew,hst]
theorem run_append_grow {base:Option Addr} {us:List Value} {zv:Value} (ht:P.underlying t=some (.slice e)) (hu:P.underlying u=some (.slice f)) (hinf:P.info? e=some inf) (hn:(Builtin.lenOf yv).run P w=.ok n w)
  (hold:(Builtin.firstCells inf.size len (.slice base len cap)).run P w.drew=.ok us.toArray w.drew)
  (hnew:(Builtin.firstCells inf.size n yv).run P w.drew=.ok vs.toArray w.drew) (hfit:¬ len+n <= cap)
  (hb:Val.small inf.bytes=true) (hb0:0 < inf.bytes) (hneed:len+n <= maxLenA) (hz:inf.zero=some zv) :
  ∃ newCap rest,len+n <= newCap /\ rest.length=(newCap - (len+n)) * zv.cells.size /\
   (Builtin.append_ #[t,u] ty #[.slice base len cap,yv]).run P w=.ok (.slice (some ⟨w.heap.size,0,none⟩) (len+n) newCap) (w.drew.alloc (.cells (us++vs++rest).toArray e)):=by
 have hcapb:Builtin.nextslicecap (len+n) cap <= 2 * (len+n)+200:=nextslicecap_le (by omega)
 have hbytes:inf.bytes <= 4096:=by simpa [Val.small] using hb
 have hbound:¬ Builtin.nextslicecap (len+n) cap * inf.bytes > 2 ^ 48:=by
  have h1:Builtin.nextslicecap (len+n) cap <= 8589934792:=by unfold maxLenA at hneed; omega
  have h2:Builtin.nextslicecap (len+n) cap * inf.bytes <= 8589934792 * 4096:=Nat.mul_le_mul h1 hbytes
  have h3:8589934792 * 4096 <= 2 ^ 48:=by decide
  omega
 have hcut:len+n <= (Question.appendCap (len+n) cap e).cut (w.tape w.drawn (.appendCap (len+n) cap e)):=by simp [Question.cut]
 generalize hnc:(Question.appendCap (len+n) cap e).cut (w.tape w.drawn (.appendCap (len+n) cap e))=newCap at hcut
 refine ⟨newCap,(Builtin.zeroCells zv.cells (newCap - (len+n))).toList,hcut,by simp [Builtin.zeroCells],?_⟩
 have hch:(choose (.appendCap (len+n) cap e)).run P w=.ok newCap w.drew:=by
  rw [run_choose,hnc]; rfl
 have hzr:∀ w':World,(zeroValue e).run P w'=.ok zv w':=fun w'=>by simp [zeroValue,bb hinf,hz]
 have hbz:¬ inf.bytes=0:=by omega
 have hsum:us.toArray++vs.toArray++Builtin.zeroCells zv.cells (newCap - (len+n))=(us++vs++(Builtin.zeroCells zv.cells (newCap - (len+n))).toList).toArray:=by
  apply Array.ext'; simp
 unfold Builtin.append_
 simp only [show (#[t,u]:Array TypeId)[0]?=some t from rfl,show (#[t,u]:Array TypeId)[1]?=some u from rfl,
  show (#[Value.slice base len cap,yv]:Array Value)[0]?=some (.slice base len cap) from rfl,show (#[Value.slice base len cap,yv]:Array Value)[1]?=some yv from rfl,
  Sem.run_bind,aH ht,aH hu,Result.andThen_ok,aX hinf,Sem.run_pure]
 simp only [Bool.false_eq_true,if_false,hn,Result.andThen_ok,hfit,bb hinf,false_or,hbz,and_false,hbound,Sem.run_bind,Sem.run_pure,hch,run_askRoom,hold,hnew,hzr,Bool.not_false,if_true]
 rw [hsum]
 rfl
end
theorem Lies.append {b off:Nat} {us vs:List Value} (h:Lies I b off us) (h':Lies I b (off+us.length) vs):Lies I b off (us++vs):=by
 intro i x hx
 rw [List.getElem?_append] at hx
 split at hx
 .exact h i x hx
 .have:=h' _ x hx
  rwa [show off+us.length+(i - us.length)=off+i by omega] at this
theorem storeCells_nil {ad:Addr}:(storeCells ad []).run P w=.ok () w:=rfl
theorem snd_append {c:Call} {t u e f:TypeId} {x y:Operand} {x' y':Opd} {ty:Ty} {inf:TypeInfo} {zv:Value} {v:AV} {h':AHeap} (ho:o.op=.call c) (hc:c.callee=.builtin .append)
  (ha:c.args.toList=[x,y]) (hT:c.argTypes.toList=[t,u]) (ht:P.underlying t=some (.slice e)) (hu:P.underlying u=some (.slice f)) (hty:bC P e=some ty)
  (hinf:P.info? e=some inf) (hzv:inf.zero=some zv) (hb:Val.small inf.bytes=true) (hb0:0 < inf.bytes) (hzs:zv.cells.size=ty.size) (hpos:0 < ty.size)
  (hx:aF x=some x') (hy:aF y=some y') (hk:k <= m.length)
  (hr:Rel G N D S I m env h a w) (he:aA G env h (.append ty.size inf.bytes x' y')=some (v,h')):Does P G k o a I m w v h':=by
 obtain ⟨inf',hinf',hsz,_⟩:=aV (w:=w) hty
 rw [hinf] at hinf'
 simp at hinf'; subst hinf'
 have hexec:∀ {r:Value} {w':World},(Builtin.append_ #[t,u] o.type #[a.eval x,a.eval y]).run P w=.ok r w' -> Gives P o a w r w':=append_parts hc ha hT ho
 simp only [aA] at he
 split at he
 .rename_i q es cp xs hu1 hu2
  simp only [Option.bind_eq_some_iff] at hu2
  obtain ⟨yv,hyv,hxs⟩:=hu2
  obtain ⟨base,cap,vs,hay,hlecap,hrel,hw,h1,hbase,hI⟩:=elems_now hr.inv hxs (aG hy hr hyv)
  have hp:=aG hx hr hu1
  have hnew:(Builtin.firstCells inf.size xs.length (a.eval y)).run P w=.ok vs.toArray w:=by
   rw [hay,hsz]; exact bO hr.inv hpos hrel hw hbase hI
  have hnew':(Builtin.firstCells inf.size xs.length (a.eval y)).run P w.drew=.ok vs.toArray w.drew:=by
   rw [hay,hsz]; exact bO hr.inv.drew hpos hrel hw hbase hI
  have hlenOf:(Builtin.lenOf (a.eval y)).run P w=.ok xs.length w:=by rw [hay]; rfl
  have hvlen:vs.length=xs.length * ty.size:=by rw [<- hrel.1,flat_length xs hw]
  have hvone:∀ z ∈ vs,z.oneCell'=true:=by
   intro z hz
   obtain ⟨i,hi,rfl⟩:=List.getElem_of_mem hz
   have hi':i < (xs.flatMap AV.cells).length:=by rw [hrel.1]; exact hi
   exact (hrel.2 i _ vs[i] (by simp [hi']) (by simp [hi])).oneCell (h1 _ (List.getElem_mem hi'))
  split at he
  .rename_i hq
   obtain ⟨base',cap',us,hax,hle',hrel',hw',h1',hbase',hI'⟩:=elems_rel hq hp
   have hulen:us.length=es.length * ty.size:=by rw [<- hrel'.1,flat_length es hw']
   have hold':(Builtin.firstCells inf.size es.length (.slice base' es.length cap')).run P w.drew=.ok us.toArray w.drew:=by
    rw [hsz]; exact bO hr.inv.drew hpos hrel' hw' hbase' (fun ad hb=>lies_cells hr.inv.drew (hI' ad hb).1 fun hne=>(hI' ad hb).2 fun e=>hne (by subst e; exact AVRels.nil_iff.1 (by simpa using hrel')))
   split at he
   .
    rename_i hxe
    simp at he; obtain ⟨rfl,rfl⟩:=he
    subst hxe
    have hv0:vs=[]:=by simpa using hvlen
    subst hv0
    refine .same hr.inv hp (hexec ?_)
    rw [hax]
    cases base' with
    | none=>have:=run_append_none (ty:=o.type) ht hu hinf hlenOf hnew (len:=es.length) (cap:=cap') (by simpa using hle'); simpa using this
    | some ad=>have:=br (ty:=o.type) (ad:=ad) ht hu hinf hlenOf hnew (len:=es.length) (cap:=cap') (by simpa using hle') storeCells_nil; simpa using this
   .rename_i hxe
    have hxpos:0 < xs.length:=List.length_pos_iff.2 hxe
    split at he
    .rename_i hmax
     have hrow:∀ {I':Imm} {m':aQ} {ad:Addr} {cp':Cap} {cap2:Nat},ImmLe I I' -> LocsLe m m' -> Lies I' ad.block ad.off (us++vs) -> ad.spot=none -> cp' ≠ .nil -> es.length+xs.length <= cap2 ->
       CapRel m' ad (es++xs).length ty.size cap2 cp' -> AVRel I' m' (.sl ty.size (es++xs) cp') (.slice (some ad) (es.length+xs.length) cap2):=by
      intro I' m' ad cp' cap2 g1 g2 g3 g4 g5 g6 g7
      have hlen:(es++xs).length=es.length+xs.length:=by simp
      rw [<- hlen]
      have hcat:AVRels I' m' ((es++xs).flatMap AV.cells) (us++vs):=by
       rw [List.flatMap_append]; exact (hrel'.mono g1 g2).append (hrel.mono g1 g2)
      refine .sl ty.size (es++xs) cp' ad cap2 (us++vs) g5 (by simpa using g6) hpos (fun e he=>?_) (fun c hc=>?_) hcat.1 hcat.2 g3 (fun _=>g4) g7
      .rcases List.mem_append.1 he with he | he
       .exact hw' e he
       .exact hw e he
      .rw [List.flatMap_append] at hc
       rcases List.mem_append.1 hc with hc | hc
       .exact h1' c hc
       .exact h1 c hc
     have hgrow:=fun hfit=>run_append_grow (ty:=o.type) (base:=base') (len:=es.length) (cap:=cap') ht hu hinf hlenOf hold' hnew' hfit hb hb0 hmax hzv
     have htot:∀ {newCap:Nat} {rest:List Value},es.length+xs.length <= newCap -> rest.length=(newCap - (es.length+xs.length)) * zv.cells.size -> (us++vs++rest).toArray.size=newCap * ty.size /\ (us++vs).length=(es.length+xs.length) * ty.size:=by
      intro newCap rest g1 g2
      have e2:(us++vs).length=(es.length+xs.length) * ty.size:=by simp [hulen,hvlen,Nat.add_mul]
      refine ⟨?_,e2⟩
      rw [List.size_toArray,List.length_append,e2,g2,hzs,<- Nat.add_mul]
      congr 1; omega
     have hpre:∀ (rest:List Value) (i:Nat) (x:Value),(us++vs)[i]?=some x -> (us++vs++rest).toArray[i]?=some x:=by
      intro rest i x hx
      rw [List.getElem?_toArray,List.getElem?_append_left (List.getElem?_eq_some_iff.1 hx).1]
      exact hx
     have hfresh:¬ es.length+xs.length <= cap' -> Does P G k o a I m w (.sl ty.size (es++xs) (.tok h.length)) (h++[.tok (es.length+xs.length)]):=by
      intro hfit
      obtain ⟨newCap,rest,g1,g2,g3⟩:=hgrow hfit
      obtain ⟨t1,t2⟩:=htot g1 g2
      obtain ⟨i1,i2,i3⟩:=hr.inv.drew.allocNew (.cells (us++vs++rest).toArray e) (us++vs) (.tok (es.length+xs.length) w.heap.size (us++vs).length (newCap * ty.size)) (.tok (es.length+xs.length))
       (fun i x hx=>by rw [World.size_drew] ; have:=World.cell?_alloc_new w.drew (us++vs++rest).toArray e i; rw [World.size_drew] at this; rw [this]; exact hpre rest i x hx)
       (fun b o hp=>⟨hp.1,hp.2.1⟩)
       ⟨w.heap.size,_,_,rfl,by rw [t2]; exact Nat.mul_le_mul_right _ g1,fun p p1 p2=>by
        have h1:=World.cell?_alloc_new w.drew (us++vs++rest).toArray e p
        have h2:=World.frozen?_alloc_new w.drew (us++vs++rest).toArray e p
        rw [World.size_drew] at h1 h2
        rw [h1,h2]
        refine ⟨?_,rfl⟩
        rw [Array.getElem?_eq_getElem (by rw [t1]; exact p2)]; rfl⟩
      rw [World.size_drew] at i1 i2
      refine ⟨_,_,_,_,hexec (by rw [hax]; exact g3),?_,i1,((Trans.drew m.length I m w).trans i2).mono hk,i3⟩
      refine hrow (Imm.row_le hr.inv.imm_new) i3 Lies.row rfl (by simp) g1 ?_
      refine ⟨by simp [hr.inv.len],fun n b s e' hm=>?_⟩
      rw [<- hr.inv.len] at hm
      simp at hm
      obtain ⟨rfl,rfl,rfl,rfl⟩:=hm
      refine ⟨by simp,fun _=>⟨rfl,?_,?_⟩⟩
      .have:=t2; simp at this ⊢; omega
      .simp
     split at he
     .
      simp at he; obtain ⟨rfl,rfl⟩:=he
      refine hfresh ?_
      have hnil:cap'=0:=by
       generalize hgx:a.eval x=ax at hp
       rw [hgx] at hax
       cases hp with
       | slnil=>simp at hax; exact hax.2.symm
       | sl _ _ _ ad cap2 vs2 hc2=>exact absurd rfl hc2
      omega
     .
      simp at he; obtain ⟨rfl,rfl⟩:=he
      refine hfresh ?_
      have hfull:cap'=es.length:=by
       generalize hgx:a.eval x=ax at hp
       rw [hgx] at hax
       cases hp with
       | sl _ _ _ ad cap2 vs2 hc2 hle2 hk2 hw2 h12 hl2 hrel2 hI2 hs2 hcap2=>simp at hax; obtain ⟨_,rfl⟩:=hax; exact hcap2
      omega
     .
      rename_i tk
      split at he
      .rename_i n hn
       split at he
       .rename_i hne
        obtain ⟨rfl,hqk⟩:=hne
        subst hqk
        simp at he; obtain ⟨rfl,rfl⟩:=he
        have hlt:tk < m.length:=by rw [hr.inv.len]; exact (List.getElem?_eq_some_iff.1 hn).1
        obtain ⟨b,s,e',hl,hse,hall⟩:=hr.inv.obj tk _ m[tk] hn (by simp [hlt])
        have hm:m[tk]?=some (.tok es.length b s e'):=by rw [<- hl]; simp [hlt]
        have hcapr:∃ ad,base'=some ad /\ ad=⟨b,ad.off,none⟩ /\ ad.off+es.length * ty.size=s /\ ad.off+cap' * ty.size=e':=by
         generalize hgx:a.eval x=ax at hp
         rw [hgx] at hax
         cases hp with
         | sl _ _ _ ad cap2 vs2 hc2 hle2 hk2 hw2 h12 hl2 hrel2 hI2 hs2 hcap2 =>
          simp at hax
          obtain ⟨rfl,rfl⟩:=hax
          obtain ⟨g1,g2,g3⟩:=(hcap2.2 _ b s e' hm).2 rfl
          exact ⟨ad,rfl,g1,g2,g3⟩
        obtain ⟨ad,rfl,had,hs1,hs2⟩:=hcapr
        by_cases hfit:es.length+xs.length <= cap'
        .have hfit2:s+vs.length <= e':=by
          rw [<- hs1,<- hs2,hvlen,Nat.add_assoc,<- Nat.add_mul]
          exact Nat.add_le_add_left (Nat.mul_le_mul_right _ hfit) _
         obtain ⟨i1,i2,i3⟩:=hr.inv.grow hn hm (us:=vs) (n':=es.length+xs.length) hfit2 (by omega) hvone
         have hadd:ad.add (es.length * inf.size)=⟨b,s,none⟩:=by
          rw [had,Addr.add_mk,hsz,hs1]
         have hst:=run_storeCells_cells (P:=P) b s vs 0 w (by simpa using fun j hj=>(hall (s+j) (by omega) (by omega)).1) (by simpa using fun j hj=>(hall (s+j) (by omega) (by omega)).2) hvone
         refine ⟨_,_,_,_,hexec (by rw [hax]; exact br ht hu hinf hlenOf hnew hfit (by rw [hadd]; exact hst)),?_,?_,i2 k,i3⟩
         .have hle1:ImmLe I (I.add b s vs):=i2 k |>.imm
          refine hrow hle1 i3 (Lies.append ((hI' ad rfl).1.mono hle1) ?_) (by rw [had]) (by simp) hfit ?_
          .rw [hulen,hs1]
           rw [had]
           exact Lies.add
          .refine ⟨i3.lt hlt,fun n b2 s2 e2 hm2=>?_⟩
           rw [List.getElem?_set] at hm2
           simp [hlt] at hm2
           obtain ⟨rfl,rfl,rfl,rfl⟩:=hm2
           refine ⟨by simp,fun _=>⟨had,?_,hs2⟩⟩
           rw [<- hs1,hvlen,List.length_append,Nat.add_mul,Nat.add_assoc]
         .exact i1
        .obtain ⟨newCap,rest,g1,g2,g3⟩:=hgrow hfit
         obtain ⟨t1,t2⟩:=htot g1 g2
         obtain ⟨i1,i2,i3⟩:=hr.inv.drew.allocTok (n':=es.length+xs.length) (us++vs++rest).toArray e (us++vs) hn hm (by omega) (hpre rest) (by rw [t1,t2]; exact Nat.mul_le_mul_right _ g1)
         rw [World.size_drew] at i1 i2 i3
         refine ⟨_,_,_,_,hexec (by rw [hax]; exact g3),?_,i1,(Trans.drew k I m w).trans (i2 k),i3⟩
         refine hrow (Imm.row_le hr.inv.imm_new) i3 Lies.row rfl (by simp) g1 ?_
         refine ⟨i3.lt hlt,fun n b2 s2 e2 hm2=>?_⟩
         rw [List.getElem?_set] at hm2
         simp [hlt] at hm2
         obtain ⟨rfl,rfl,rfl,rfl⟩:=hm2
         refine ⟨by simp,fun _=>⟨rfl,?_,?_⟩⟩
         .have:=t2; simp at this ⊢; omega
         .have:=t1; simp at this ⊢; omega
       .cases he
      .cases he
     .cases he
    .cases he
  .cases he
 .cases he
theorem Inv.cutCells (hv:Inv G I m h w) {i g:Nat} {cs:List AV} (ho:h[i]?=some (.cells g cs)) (q:Nat) :
  Inv G I m (h.set i (.cells g (cs.take q))) w /\ (h.set i (.cells g (cs.take q)))[i]?=some (.cells g (cs.take q)) /\ (∀ x,(h.set i (.cells g (cs.take q))).set i x=h.set i x):=by
 have hil:=(List.getElem?_eq_some_iff.1 ho).1
 refine ⟨?_,by simp [hil],fun x=>by simp⟩
 exact
  {len:=by simp [hv.len]
   obj:=fun j o l hj hlj=>by
    rw [List.getElem?_set] at hj
    split at hj
    .rename_i e; subst e
     simp [hil] at hj
     subst hj
     obtain ⟨b,lo,n,vs,e,hle,hvs,hone,hcv,hall⟩:=hv.obj i _ l ho hlj
     refine ⟨b,lo,n,vs.take q,e,?_,hvs.take q,fun c hc=>hone c (List.mem_of_mem_take hc),fun j x hx=>?_,hall⟩
     .rw [List.length_take]; omega
     .rw [List.getElem?_take] at hx
      split at hx
      .exact hcv j x hx
      .cases hx
    .exact hv.obj j o l hj hlj
   imm:=hv.imm,disj:=hv.disj,immd:=hv.immd,lt:=hv.lt,glob:=hv.glob }
theorem snd_mappend {c:Call} {t u e f:TypeId} {x y:Operand} {x' y':Opd} {ty:Ty} {inf:TypeInfo} {zv:Value} {v:AV} {h':AHeap} (ho:o.op=.call c) (hc:c.callee=.builtin .append)
  (ha:c.args.toList=[x,y]) (hT:c.argTypes.toList=[t,u]) (ht:P.underlying t=some (.slice e)) (hu:P.underlying u=some (.slice f)) (hty:bC P e=some ty)
  (hinf:P.info? e=some inf) (hzv:inf.zero=some zv) (hb:Val.small inf.bytes=true) (hb0:0 < inf.bytes) (hzs:zv.cells.size=ty.size) (hpos:0 < ty.size)
  (hx:aF x=some x') (hy:aF y=some y') (hk:k <= m.length)
  (hr:Rel G N D S I m env h a w) (he:aA G env h (.mappend ty.size inf.bytes x' y')=some (v,h')):Does P G k o a I m w v h':=by
 obtain ⟨inf',hinf',hsz,_⟩:=aV (w:=w) hty
 rw [hinf] at hinf'
 simp at hinf'; subst hinf'
 have hexec:∀ {r:Value} {w':World},(Builtin.append_ #[t,u] o.type #[a.eval x,a.eval y]).run P w=.ok r w' -> Gives P o a w r w':=append_parts hc ha hT ho
 have hys:∀ xs,(aD G env y').bind (elems h ty.size)=some xs -> ∃ vs,AVRels I m (xs.flatMap AV.cells) vs /\ vs.length=xs.length * ty.size /\ (∀ c ∈ xs.flatMap AV.cells,c.one=true) /\ (∀ z ∈ vs,z.oneCell'=true) /\
   (Builtin.firstCells inf.size xs.length (a.eval y)).run P w=.ok vs.toArray w /\ (Builtin.firstCells inf.size xs.length (a.eval y)).run P w.drew=.ok vs.toArray w.drew /\ (Builtin.lenOf (a.eval y)).run P w=.ok xs.length w:=by
  intro xs hu2
  simp only [Option.bind_eq_some_iff] at hu2
  obtain ⟨yv,hyv,hxs⟩:=hu2
  obtain ⟨base,cap,vs,hay,hlecap,hrel,hw,h1,hbase,hI⟩:=elems_now hr.inv hxs (aG hy hr hyv)
  refine ⟨vs,hrel,by rw [<- hrel.1,flat_length xs hw],h1,?_,?_,?_,by rw [hay]; rfl⟩
  .intro z hz
   obtain ⟨i,hi,rfl⟩:=List.getElem_of_mem hz
   have hi':i < (xs.flatMap AV.cells).length:=by rw [hrel.1]; exact hi
   exact (hrel.2 i _ vs[i] (by simp [hi']) (by simp [hi])).oneCell (h1 _ (List.getElem_mem hi'))
  .rw [hay,hsz]; exact bO hr.inv hpos hrel hw hbase hI
  .rw [hay,hsz]; exact bO hr.inv.drew hpos hrel hw hbase hI
 have hnewobj:∀ {m':aQ} {g newCap len n:Nat} {us vs rest:List Value} {cs:List AV},AVRels I m' cs (us++vs) -> (∀ c ∈ cs,c.one=true) -> len+n <= newCap -> (us++vs).length=(len+n) * ty.size ->
   rest.length=(newCap - (len+n)) * zv.cells.size ->
   ObjRel I m' (w.drew.alloc (.cells (us++vs++rest).toArray e)) (.cells g cs) (.cells g w.heap.size 0 (newCap * ty.size)):=by
  intro m' g newCap len n us vs rest cs hrel h1 hle hl hrest
  have htot:(us++vs++rest).length=newCap * ty.size:=by
   rw [List.length_append,hl,hrest,hzs,<- Nat.add_mul]; congr 1; omega
  refine ⟨w.heap.size,0,_,us++vs,rfl,?_,hrel,h1,fun i x hx=>?_,fun i hi=>?_⟩
  .rw [hrel.1,hl]; exact Nat.mul_le_mul_right _ hle
  .have:=World.cell?_alloc_new w.drew (us++vs++rest).toArray e i
   rw [World.size_drew] at this
   rw [Nat.zero_add,this,List.getElem?_toArray,List.getElem?_append_left (List.getElem?_eq_some_iff.1 hx).1]
   exact hx
  .have h1:=World.cell?_alloc_new w.drew (us++vs++rest).toArray e i
   have h2:=World.frozen?_alloc_new w.drew (us++vs++rest).toArray e i
   rw [World.size_drew] at h1 h2
   rw [Nat.zero_add,h1,h2]
   refine ⟨?_,rfl⟩
   rw [Array.getElem?_eq_getElem (by rw [List.size_toArray,htot]; exact hi)]; rfl
 simp only [aA] at he
 split at he
 .
  rename_i q xs hu1 hu2
  obtain ⟨vs,hrel,hvlen,h1,hvone,hnew,hnew',hlenOf⟩:=hys xs hu2
  split at he
  .rename_i hcc
   obtain ⟨hxe,hmax⟩:=hcc
   have hxpos:0 < xs.length:=List.length_pos_iff.2 hxe
   simp at he; obtain ⟨rfl,rfl⟩:=he
   have hp:=aG hx hr hu1
   have hax:a.eval x=.slice none 0 0:=by
    generalize a.eval x=ax at hp
    cases hp with
    | slnil=>rfl
    | sl _ _ _ ad cap2 vs2 hc2=>exact absurd rfl hc2
   obtain ⟨newCap,rest,g1,g2,g3⟩:=run_append_grow (P:=P) (w:=w) (ty:=o.type) (base:=none) (len:=0) (cap:=0) (us:=[]) ht hu hinf hlenOf (by simp [Builtin.firstCells]) hnew' (by omega) hb hb0 (by omega) hzv
   obtain ⟨i1,i2,i3⟩:=hr.inv.drew.allocNew (.cells ([]++vs++rest).toArray e) [] (.cells 0 w.heap.size 0 (newCap * ty.size)) (.cells 0 (xs.flatMap AV.cells))
    (fun i x hx=>by simp at hx) (fun b o hp=>⟨hp.1,by simp⟩)
    (by
     rw [Imm.row_nil hr.inv.drew.imm_new]
     exact hnewobj (us:=[]) (len:=0) (n:=xs.length) (hrel.mono (.refl I) (.append m _)) h1 g1 (by simpa using hvlen) g2)
   rw [Imm.row_nil hr.inv.drew.imm_new] at i1 i2
   refine ⟨_,_,_,_,hexec (by rw [hax]; exact g3),?_,i1,((Trans.drew m.length I m w).trans i2).mono hk,i3⟩
   rw [<- hr.inv.len]
   have hpr:PtrRel (m++[.cells 0 w.heap.size 0 (newCap * ty.size)]) m.length 0 0 ⟨w.heap.size,0,none⟩:=by
    intro g' b lo n hm
    simp at hm
    obtain ⟨rfl,rfl,rfl,rfl⟩:=hm
    exact ⟨Nat.le_refl _,fun _=>rfl⟩
   have:=AVRel.rf (I:=I) m.length 0 0 (0+xs.length) (.own ty.size) ⟨w.heap.size,0,none⟩ newCap (by simp) g1 ⟨hpr,fun b lo n hm=>by
    simp at hm
    obtain ⟨rfl,rfl,rfl⟩:=hm
    omega⟩ (fun _=>hpr)
   rw [Nat.zero_add] at this ⊢
   exact this
  .split at he
   .rename_i hxe
    simp at he; obtain ⟨rfl,rfl⟩:=he
    subst hxe
    have hv0:vs=[]:=by simpa using hvlen
    subst hv0
    have hp:=aG hx hr hu1
    have hax:a.eval x=.slice none 0 0:=by
     generalize a.eval x=ax at hp
     cases hp with
     | slnil=>rfl
     | sl _ _ _ ad cap2 vs2 hc2=>exact absurd rfl hc2
    refine .same hr.inv hp (hexec ?_)
    rw [hax]
    have:=run_append_none (ty:=o.type) ht hu hinf hlenOf hnew (len:=0) (cap:=0) (by simp)
    simpa using this
   .cases he
 .
  rename_i q xs hu1 hu2
  obtain ⟨vs,hrel,hvlen,h1,hvone,hnew,hnew',hlenOf⟩:=hys xs hu2
  split at he
  .rename_i hcc
   obtain ⟨hxe,hmax⟩:=hcc
   have hxpos:0 < xs.length:=List.length_pos_iff.2 hxe
   simp at he; obtain ⟨rfl,rfl⟩:=he
   have hp:=aG hx hr hu1
   obtain ⟨ad,hax⟩:∃ ad,a.eval x=.slice (some ad) 0 0:=by
    generalize a.eval x=ax at hp
    cases hp with
    | sl _ _ _ ad cap2 vs2 hc2 hle2 hk2 hw2 h12 hl2 hrel2 hI2 hs2 hcap2=>exact ⟨ad,by rw [show cap2=0 from hcap2]; rfl⟩
   have hold0:(Builtin.firstCells inf.size 0 (.slice (some ad) 0 0)).run P w.drew=.ok ([]:List Value).toArray w.drew:=by
    have:=run_loadCells_list (P:=P) w.drew ad [] (fun j x hx=>by simp at hx)
    simpa [Builtin.firstCells] using this
   obtain ⟨newCap,rest,g1,g2,g3⟩:=run_append_grow (P:=P) (w:=w) (ty:=o.type) (base:=some ad) (len:=0) (cap:=0) (us:=[]) ht hu hinf hlenOf hold0 hnew' (by omega) hb hb0 (by omega) hzv
   obtain ⟨i1,i2,i3⟩:=hr.inv.drew.allocNew (.cells ([]++vs++rest).toArray e) [] (.cells 0 w.heap.size 0 (newCap * ty.size)) (.cells 0 (xs.flatMap AV.cells))
    (fun i x hx=>by simp at hx) (fun b o hp=>⟨hp.1,by simp⟩)
    (by
     rw [Imm.row_nil hr.inv.drew.imm_new]
     exact hnewobj (us:=[]) (len:=0) (n:=xs.length) (hrel.mono (.refl I) (.append m _)) h1 g1 (by simpa using hvlen) g2)
   rw [Imm.row_nil hr.inv.drew.imm_new] at i1 i2
   refine ⟨_,_,_,_,hexec (by rw [hax]; exact g3),?_,i1,((Trans.drew m.length I m w).trans i2).mono hk,i3⟩
   rw [<- hr.inv.len]
   have hpr:PtrRel (m++[.cells 0 w.heap.size 0 (newCap * ty.size)]) m.length 0 0 ⟨w.heap.size,0,none⟩:=by
    intro g' b lo n hm
    simp at hm
    obtain ⟨rfl,rfl,rfl,rfl⟩:=hm
    exact ⟨Nat.le_refl _,fun _=>rfl⟩
   have:=AVRel.rf (I:=I) m.length 0 0 (0+xs.length) (.own ty.size) ⟨w.heap.size,0,none⟩ newCap (by simp) g1 ⟨hpr,fun b lo n hm=>by
    simp at hm
    obtain ⟨rfl,rfl,rfl⟩:=hm
    omega⟩ (fun _=>hpr)
   rw [Nat.zero_add] at this ⊢
   exact this
  .split at he
   .rename_i hxe
    simp at he; obtain ⟨rfl,rfl⟩:=he
    subst hxe
    have hv0:vs=[]:=by simpa using hvlen
    subst hv0
    have hp:=aG hx hr hu1
    obtain ⟨ad,hax⟩:∃ ad,a.eval x=.slice (some ad) 0 0:=by
     generalize a.eval x=ax at hp
     cases hp with
     | sl _ _ _ ad cap2 vs2 hc2 hle2 hk2 hw2 h12 hl2 hrel2 hI2 hs2 hcap2=>exact ⟨ad,by rw [show cap2=0 from hcap2]; rfl⟩
    refine .same hr.inv hp (hexec ?_)
    rw [hax]
    have:=br (ty:=o.type) (ad:=ad) ht hu hinf hlenOf hnew (len:=0) (cap:=0) (by simp) storeCells_nil
    simpa using this
   .cases he
 .
  rename_i ob g len q xs hu1 hu2
  obtain ⟨vs,hrel,hvlen,h1,hvone,hnew,hnew',hlenOf⟩:=hys xs hu2
  by_cases hx0:xs=[]
  .rw [if_pos hx0] at he
   simp only [Option.some.injEq,Prod.mk.injEq] at he; obtain ⟨rfl,rfl⟩:=he
   subst hx0
   have hv0:vs=[]:=by simpa using hvlen
   subst hv0
   have hp:=aG hx hr hu1
   obtain ⟨ad,cap,hax,hlc⟩:∃ ad cap,a.eval x=.slice (some ad) len cap /\ len <= cap:=by
    generalize a.eval x=ax at hp
    cases hp with
    | rf _ _ _ _ _ ad cap _ hle hf hpr=>exact ⟨ad,cap,rfl,hle⟩
   refine .same hr.inv hp (hexec ?_)
   rw [hax]
   have:=br (ty:=o.type) (ad:=ad) ht hu hinf hlenOf hnew (len:=len) (cap:=cap) (by simpa using hlc) storeCells_nil
   simpa using this
  rw [if_neg hx0] at he
  split at he
  .rename_i g' cs hob
   split at he
   .rename_i hcc
    obtain ⟨rfl,rfl,hcle,hxe,hmax⟩:=hcc
    obtain ⟨hi0,hob0,hset0⟩:=hr.inv.cutCells hob (len * ty.size)
    generalize hh0:h.set ob (.cells g' (cs.take (len * ty.size)))=h0 at hi0 hob0 hset0
    have hcl:(cs.take (len * ty.size)).length=len * ty.size:=by rw [List.length_take]; omega
    have hxpos:0 < xs.length:=List.length_pos_iff.2 hxe
    simp at he; obtain ⟨rfl,rfl⟩:=he
    rw [<- hset0]
    generalize hcs0:cs.take (len * ty.size)=cs0 at hcl hob0
    clear hset0 hh0 hob hcs0 hcle
    have hp:=aG hx hr hu1
    generalize hax:a.eval x=ax at hp
    cases hp with
    | rf _ _ _ _ _ ad cap hobl hle hf hpr =>
     obtain ⟨hpr,hown⟩:=hf
     obtain ⟨b,lo,n,us,hl,hcn,hrel',hone',hcell,hall⟩:=hi0.obj ob _ m[ob] hob0 (by simp [hobl])
     have hm:m[ob]?=some (.cells g' b lo n):=by rw [<- hl]; simp [hobl]
     obtain rfl:ad=⟨b,lo,none⟩:=by have:=(hpr _ _ _ _ hm).2 rfl; simpa using this
     have hcap:=hown _ _ _ hm
     have hulen:us.length=len * ty.size:=by rw [<- hrel'.1,hcl]
     have hold:(Builtin.firstCells inf.size len (.slice (some ⟨b,lo,none⟩) len cap)).run P w.drew=.ok us.toArray w.drew:=by
      have:=run_loadCells_list (P:=P) w.drew ⟨b,lo,none⟩ us (fun j x hx=>by rw [Addr.add_mk]; exact hcell j x hx)
      simp [Builtin.firstCells,hsz,<- hulen,this]
     have hcat:AVRels I m (cs0++xs.flatMap AV.cells) (us++vs):=hrel'.append hrel
     have hone2:∀ c ∈ cs0++xs.flatMap AV.cells,c.one=true:=fun c hc=>by
      rcases List.mem_append.1 hc with hc | hc
      .exact hone' c hc
      .exact h1 c hc
     have hsum:(us++vs).length=(len+xs.length) * ty.size:=by rw [List.length_append,hulen,hvlen,Nat.add_mul]
     have hend:∀ {B lo2 n2 cap2:Nat},cap2 * ty.size=n2 -> len+xs.length <= cap2 ->
       AVRel I (m.set ob (.cells (g'+1) B lo2 n2)) (.rf ob (g'+1) 0 (len+xs.length) (.own ty.size)) (.slice (some ⟨B,lo2,none⟩) (len+xs.length) cap2):=by
      intro B lo2 n2 cap2 h1 h2
      have hpr2:PtrRel (m.set ob (.cells (g'+1) B lo2 n2)) ob (g'+1) 0 ⟨B,lo2,none⟩:=by
       intro g2 b2 lo3 n3 hm2
       rw [List.getElem?_set] at hm2
       simp [hobl] at hm2
       obtain ⟨rfl,rfl,rfl,rfl⟩:=hm2
       exact ⟨Nat.le_refl _,fun _=>rfl⟩
      refine .rf ob (g'+1) 0 _ _ ⟨B,lo2,none⟩ cap2 (by simpa using hobl) h2 ⟨hpr2,fun b2 lo3 n3 hm2=>?_⟩ (fun _=>hpr2)
      rw [List.getElem?_set] at hm2
      simp [hobl] at hm2
      obtain ⟨rfl,rfl,rfl⟩:=hm2
      omega
     by_cases hfit:len+xs.length <= cap
     .
      have hroom:cs0.length+vs.length <= n:=by
       rw [hcl,hvlen,<- Nat.add_mul]
       have:=Nat.mul_le_mul_right ty.size hfit
       omega
      obtain ⟨i1,i2,i3⟩:=hi0.bump hob0 hm
      have hobs:(h0.set ob (.cells (g'+1) cs0))[ob]?=some (.cells (g'+1) cs0):=by
       have:=(List.getElem?_eq_some_iff.1 hob0).1
       simp [this]
      have hms:(m.set ob (.cells (g'+1) b lo n))[ob]?=some (.cells (g'+1) b lo n):=by simp [hobl]
      obtain ⟨j1,j2⟩:=i1.storeE (off:=cs0.length) hobs hms (Nat.le_refl _) hroom (hrel.mono (.refl I) i3) h1
      have hst:=run_storeCells_cells (P:=P) b (lo+cs0.length) vs 0 w
       (by simpa using fun j hj=>by have:=(hall (cs0.length+j) (by omega)).1; rwa [<- Nat.add_assoc] at this)
       (by simpa using fun j hj=>by have:=(hall (cs0.length+j) (by omega)).2; rwa [<- Nat.add_assoc] at this) hvone
      have hadd:(⟨b,lo,none⟩:Addr).add (len * inf.size)=⟨b,lo+cs0.length,none⟩:=by rw [Addr.add_mk,hsz,hcl]
      refine ⟨_,_,_,_,hexec (by rw [hax]; exact br ht hu hinf hlenOf hnew hfit (by rw [hadd]; exact hst)),hend (by omega) hfit,?_,(i2 k).trans (j2 k),i3⟩
      have:(h0.set ob (.cells (g'+1) cs0)).set ob (.cells (g'+1) (cs0.take cs0.length++xs.flatMap AV.cells++cs0.drop (cs0.length+vs.length)))=h0.set ob (.cells (g'+1) (cs0++xs.flatMap AV.cells)):=by
       have hd:cs0.drop (cs0.length+vs.length)=[]:=List.drop_eq_nil_of_le (by omega)
       rw [List.set_set,hd]; simp
      rw [this] at j1
      exact j1
     .obtain ⟨newCap,rest,g1,g2,g3⟩:=run_append_grow (P:=P) (w:=w) (ty:=o.type) (base:=some ⟨b,lo,none⟩) (len:=len) (cap:=cap) ht hu hinf hlenOf hold hnew' hfit hb hb0 hmax hzv
      obtain ⟨i1,i2,i3⟩:=hi0.drew.allocSet (t:=ob) (l':=.cells (g'+1) w.heap.size 0 (newCap * ty.size)) (ob:=.cells (us++vs++rest).toArray e) (o':=.cells (g'+1) (cs0++xs.flatMap AV.cells)) hm (.cells (Nat.lt_succ_self _))
       (fun b o hp=>hp.1) (hnewobj (hcat.mono (.refl I) (by
        intro j l hj
        rw [List.getElem?_set]
        split
        .rename_i he; subst he
         rw [hm] at hj; simp at hj; subst hj
         exact ⟨.cells (g'+1) w.heap.size 0 (newCap * ty.size),by simp [hobl],.cells (Nat.lt_succ_self _)⟩
        .exact ⟨l,hj,.refl l⟩)) hone2 g1 hsum g2)
      exact ⟨_,_,_,_,hexec (by rw [hax]; exact g3),hend rfl g1,i1,(Trans.drew k I m w).trans (i2 k),i3⟩
   .cases he
  .cases he
 .cases he
theorem snd_happend {c:Call} {t u e f:TypeId} {x y:Operand} {x' y':Opd} {ty:Ty} {inf:TypeInfo} {zv:Value} {ob g len:Nat} {xs cs:List AV} (ho:o.op=.call c) (hc:c.callee=.builtin .append)
  (ha:c.args.toList=[x,y]) (hT:c.argTypes.toList=[t,u]) (ht:P.underlying t=some (.slice e)) (hu:P.underlying u=some (.slice f)) (hty:bC P e=some ty)
  (hinf:P.info? e=some inf) (hzv:inf.zero=some zv) (hb:Val.small inf.bytes=true) (hb0:0 < inf.bytes) (hzs:zv.cells.size=ty.size) (hpos:0 < ty.size)
  (hx:aF x=some x') (hy:aF y=some y') (hk:k <= m.length)
  (hr:Rel G N D S I m env h a w) (hu1:aD G env x'=some (.rf ob g 0 len (.own ty.size))) (hu2:(aD G env y').bind (elems h ty.size)=some xs) (hob:h[ob]?=some (.cells g cs)) (hcle:len * ty.size <= cs.length) (hxe:xs ≠ []) (hmax:len+xs.length <= maxLenA) :
  Does P G k o a I m w (.rf ob g 0 (len+xs.length) (.own ty.size)) (h.set ob (.cells g (cs.take (len * ty.size)++xs.flatMap AV.cells))) \/
  Does P G k o a I m w (.rf h.length 0 0 (len+xs.length) (.own ty.size)) (h++[.cells 0 (cs.take (len * ty.size)++xs.flatMap AV.cells)]):=by
 obtain ⟨inf',hinf',hsz,_⟩:=aV (w:=w) hty
 rw [hinf] at hinf'
 simp at hinf'; subst hinf'
 have hexec:∀ {r:Value} {w':World},(Builtin.append_ #[t,u] o.type #[a.eval x,a.eval y]).run P w=.ok r w' -> Gives P o a w r w':=append_parts hc ha hT ho
 have hys:∀ xs,(aD G env y').bind (elems h ty.size)=some xs -> ∃ vs,AVRels I m (xs.flatMap AV.cells) vs /\ vs.length=xs.length * ty.size /\ (∀ c ∈ xs.flatMap AV.cells,c.one=true) /\ (∀ z ∈ vs,z.oneCell'=true) /\
   (Builtin.firstCells inf.size xs.length (a.eval y)).run P w=.ok vs.toArray w /\ (Builtin.firstCells inf.size xs.length (a.eval y)).run P w.drew=.ok vs.toArray w.drew /\ (Builtin.lenOf (a.eval y)).run P w=.ok xs.length w:=by
  intro xs hu2
  simp only [Option.bind_eq_some_iff] at hu2
  obtain ⟨yv,hyv,hxs⟩:=hu2
  obtain ⟨base,cap,vs,hay,hlecap,hrel,hw,h1,hbase,hI⟩:=elems_now hr.inv hxs (aG hy hr hyv)
  refine ⟨vs,hrel,by rw [<- hrel.1,flat_length xs hw],h1,?_,?_,?_,by rw [hay]; rfl⟩
  .intro z hz
   obtain ⟨i,hi,rfl⟩:=List.getElem_of_mem hz
   have hi':i < (xs.flatMap AV.cells).length:=by rw [hrel.1]; exact hi
   exact (hrel.2 i _ vs[i] (by simp [hi']) (by simp [hi])).oneCell (h1 _ (List.getElem_mem hi'))
  .rw [hay,hsz]; exact bO hr.inv hpos hrel hw hbase hI
  .rw [hay,hsz]; exact bO hr.inv.drew hpos hrel hw hbase hI
 have hnewobj:∀ {m':aQ} {g newCap len n:Nat} {us vs rest:List Value} {cs:List AV},AVRels I m' cs (us++vs) -> (∀ c ∈ cs,c.one=true) -> len+n <= newCap -> (us++vs).length=(len+n) * ty.size ->
   rest.length=(newCap - (len+n)) * zv.cells.size ->
   ObjRel I m' (w.drew.alloc (.cells (us++vs++rest).toArray e)) (.cells g cs) (.cells g w.heap.size 0 (newCap * ty.size)):=by
  intro m' g newCap len n us vs rest cs hrel h1 hle hl hrest
  have htot:(us++vs++rest).length=newCap * ty.size:=by
   rw [List.length_append,hl,hrest,hzs,<- Nat.add_mul]; congr 1; omega
  refine ⟨w.heap.size,0,_,us++vs,rfl,?_,hrel,h1,fun i x hx=>?_,fun i hi=>?_⟩
  .rw [hrel.1,hl]; exact Nat.mul_le_mul_right _ hle
  .have:=World.cell?_alloc_new w.drew (us++vs++rest).toArray e i
   rw [World.size_drew] at this
   rw [Nat.zero_add,this,List.getElem?_toArray,List.getElem?_append_left (List.getElem?_eq_some_iff.1 hx).1]
   exact hx
  .have h1:=World.cell?_alloc_new w.drew (us++vs++rest).toArray e i
   have h2:=World.frozen?_alloc_new w.drew (us++vs++rest).toArray e i
   rw [World.size_drew] at h1 h2
   rw [Nat.zero_add,h1,h2]
   refine ⟨?_,rfl⟩
   rw [Array.getElem?_eq_getElem (by rw [List.size_toArray,htot]; exact hi)]; rfl
 obtain ⟨vs,hrel,hvlen,h1,hvone,hnew,hnew',hlenOf⟩:=hys xs hu2
 obtain ⟨hi0,hob0,hset0⟩:=hr.inv.cutCells hob (len * ty.size)
 have hxpos:0 < xs.length:=List.length_pos_iff.2 hxe
 have hcl:(cs.take (len * ty.size)).length=len * ty.size:=by rw [List.length_take]; omega
 generalize cs.take (len * ty.size)=cs0 at hi0 hob0 hset0 hcl ⊢
 have hp:=aG hx hr hu1
 generalize hax:a.eval x=ax at hp
 cases hp with
 | rf _ _ _ _ _ ad cap hobl hle hf hpr =>
  obtain ⟨hpr,hown⟩:=hf
  obtain ⟨b,lo,n,us,hl,hcn,hrel',hone',hcell,hall⟩:=hi0.obj ob _ m[ob] hob0 (by simp [hobl])
  have hm:m[ob]?=some (.cells g b lo n):=by rw [<- hl]; simp [hobl]
  obtain rfl:ad=⟨b,lo,none⟩:=by have:=(hpr _ _ _ _ hm).2 rfl; simpa using this
  have hcap:=hown _ _ _ hm
  have hulen:us.length=len * ty.size:=by rw [<- hrel'.1,hcl]
  have hold:(Builtin.firstCells inf.size len (.slice (some ⟨b,lo,none⟩) len cap)).run P w.drew=.ok us.toArray w.drew:=by
   have:=run_loadCells_list (P:=P) w.drew ⟨b,lo,none⟩ us (fun j x hx=>by rw [Addr.add_mk]; exact hcell j x hx)
   simp [Builtin.firstCells,hsz,<- hulen,this]
  have hcat:AVRels I m (cs0++xs.flatMap AV.cells) (us++vs):=hrel'.append hrel
  have hone2:∀ c ∈ cs0++xs.flatMap AV.cells,c.one=true:=fun c hc=>by
   rcases List.mem_append.1 hc with hc | hc
   .exact hone' c hc
   .exact h1 c hc
  have hsum:(us++vs).length=(len+xs.length) * ty.size:=by rw [List.length_append,hulen,hvlen,Nat.add_mul]
  by_cases hfit:len+xs.length <= cap
  .
   left
   have hroom:cs0.length+vs.length <= n:=by
    rw [hcl,hvlen,<- Nat.add_mul]
    have:=Nat.mul_le_mul_right ty.size hfit
    omega
   obtain ⟨j1,j2⟩:=hi0.storeE (off:=cs0.length) hob0 hm (Nat.le_refl _) hroom hrel h1
   have hst:=run_storeCells_cells (P:=P) b (lo+cs0.length) vs 0 w
    (by simpa using fun j hj=>by have:=(hall (cs0.length+j) (by omega)).1; rwa [<- Nat.add_assoc] at this)
    (by simpa using fun j hj=>by have:=(hall (cs0.length+j) (by omega)).2; rwa [<- Nat.add_assoc] at this) hvone
   have hadd:(⟨b,lo,none⟩:Addr).add (len * inf.size)=⟨b,lo+cs0.length,none⟩:=by rw [Addr.add_mk,hsz,hcl]
   refine ⟨_,_,_,_,hexec (by rw [hax]; exact br ht hu hinf hlenOf hnew hfit (by rw [hadd]; exact hst)),.rf ob g 0 _ _ _ _ hobl hfit ⟨hpr,fun b2 lo2 n2 hm2=>?_⟩ (fun _=>hpr),?_,j2 k,.refl m⟩
   .rw [hm] at hm2; cases hm2; exact hcap
   .have e0:∀ (l r:List AV) (q:Nat),r.length <= q -> l=r -> l.take r.length++xs.flatMap AV.cells++l.drop q=l++xs.flatMap AV.cells:=by
     intro l r q hq e; subst e
     rw [List.drop_eq_nil_of_le hq]; simp
    have:=e0 cs0 cs0 (cs0.length+vs.length) (by omega) rfl
    rw [this,hset0] at j1
    exact j1
  .right
   obtain ⟨newCap,rest,g1,g2,g3⟩:=run_append_grow (P:=P) (w:=w) (ty:=o.type) (base:=some ⟨b,lo,none⟩) (len:=len) (cap:=cap) ht hu hinf hlenOf hold hnew' hfit hb hb0 hmax hzv
   obtain ⟨i1,i2,i3⟩:=hr.inv.drew.allocNew (.cells (us++vs++rest).toArray e) [] (.cells 0 w.heap.size 0 (newCap * ty.size)) (.cells 0 (cs0++xs.flatMap AV.cells))
    (fun i x hx=>by simp at hx) (fun b o hp=>⟨hp.1,by simp⟩)
    (by
     rw [Imm.row_nil hr.inv.drew.imm_new]
     exact hnewobj (hcat.mono (.refl I) (.append m _)) hone2 g1 hsum g2)
   rw [Imm.row_nil hr.inv.drew.imm_new] at i1 i2
   refine ⟨_,_,_,_,hexec (by rw [hax]; exact g3),?_,i1,((Trans.drew m.length I m w).trans i2).mono hk,i3⟩
   rw [<- hr.inv.len]
   have hpr2:PtrRel (m++[.cells 0 w.heap.size 0 (newCap * ty.size)]) m.length 0 0 ⟨w.heap.size,0,none⟩:=by
    intro g' b lo n hm
    simp at hm
    obtain ⟨rfl,rfl,rfl,rfl⟩:=hm
    exact ⟨Nat.le_refl _,fun _=>rfl⟩
   exact AVRel.rf (I:=I) m.length 0 0 (len+xs.length) (.own ty.size) ⟨w.heap.size,0,none⟩ newCap (by simp) g1 ⟨hpr2,fun b lo n hm=>by
    simp at hm
    obtain ⟨rfl,rfl,rfl⟩:=hm
    omega⟩ (fun _=>hpr2)
theorem snd_kappend {c:Call} {t u e f:TypeId} {x y:Operand} {x' y':Opd} {ty:Ty} {inf:TypeInfo} {ob g len:Nat} {xs cs:List AV} (ho:o.op=.call c) (hc:c.callee=.builtin .append)
  (ha:c.args.toList=[x,y]) (hT:c.argTypes.toList=[t,u]) (ht:P.underlying t=some (.slice e)) (hu:P.underlying u=some (.slice f)) (hty:bC P e=some ty)
  (hinf:P.info? e=some inf) (hpos:0 < ty.size)
  (hx:aF x=some x') (hy:aF y=some y')
  (hr:Rel G N D S I m env h a w) (hu1:aD G env x'=some (.rf ob g 0 len (.own ty.size))) (hu2:(aD G env y').bind (elems h ty.size)=some xs) (hob:h[ob]?=some (.cells g cs)) (hcle:(len+xs.length) * ty.size <= cs.length) :
  Does P G k o a I m w (.rf ob g 0 (len+xs.length) (.own ty.size)) (h.set ob (.cells g (cs.take (len * ty.size)++xs.flatMap AV.cells++cs.drop ((len+xs.length) * ty.size)))):=by
 obtain ⟨inf',hinf',hsz,_⟩:=aV (w:=w) hty
 rw [hinf] at hinf'
 simp at hinf'; subst hinf'
 have hexec:∀ {r:Value} {w':World},(Builtin.append_ #[t,u] o.type #[a.eval x,a.eval y]).run P w=.ok r w' -> Gives P o a w r w':=append_parts hc ha hT ho
 have hys:∀ xs,(aD G env y').bind (elems h ty.size)=some xs -> ∃ vs,AVRels I m (xs.flatMap AV.cells) vs /\ vs.length=xs.length * ty.size /\ (∀ c ∈ xs.flatMap AV.cells,c.one=true) /\ (∀ z ∈ vs,z.oneCell'=true) /\
   (Builtin.firstCells inf.size xs.length (a.eval y)).run P w=.ok vs.toArray w /\ (Builtin.firstCells inf.size xs.length (a.eval y)).run P w.drew=.ok vs.toArray w.drew /\ (Builtin.lenOf (a.eval y)).run P w=.ok xs.length w:=by
  intro xs hu2
  simp only [Option.bind_eq_some_iff] at hu2
  obtain ⟨yv,hyv,hxs⟩:=hu2
  obtain ⟨base,cap,vs,hay,hlecap,hrel,hw,h1,hbase,hI⟩:=elems_now hr.inv hxs (aG hy hr hyv)
  refine ⟨vs,hrel,by rw [<- hrel.1,flat_length xs hw],h1,?_,?_,?_,by rw [hay]; rfl⟩
  .intro z hz
   obtain ⟨i,hi,rfl⟩:=List.getElem_of_mem hz
   have hi':i < (xs.flatMap AV.cells).length:=by rw [hrel.1]; exact hi
   exact (hrel.2 i _ vs[i] (by simp [hi']) (by simp [hi])).oneCell (h1 _ (List.getElem_mem hi'))
  .rw [hay,hsz]; exact bO hr.inv hpos hrel hw hbase hI
  .rw [hay,hsz]; exact bO hr.inv.drew hpos hrel hw hbase hI
 obtain ⟨vs,hrel,hvlen,h1,hvone,hnew,hnew',hlenOf⟩:=hys xs hu2
 have hmul:(len+xs.length) * ty.size=len * ty.size+vs.length:=by rw [hvlen,Nat.add_mul]
 have hp:=aG hx hr hu1
 generalize hax:a.eval x=ax at hp
 cases hp with
 | rf _ _ _ _ _ ad cap hobl hle hf hpr =>
  obtain ⟨hpr,hown⟩:=hf
  obtain ⟨b,lo,n,us,hl,hcn,hrel',hone',hcell,hall⟩:=hr.inv.obj ob _ m[ob] hob (by simp [hobl])
  have hm:m[ob]?=some (.cells g b lo n):=by rw [<- hl]; simp [hobl]
  obtain rfl:ad=⟨b,lo,none⟩:=by have:=(hpr _ _ _ _ hm).2 rfl; simpa using this
  have hcap:=hown _ _ _ hm
  have hfit:len+xs.length <= cap:=Nat.le_of_mul_le_mul_right (show (len+xs.length) * ty.size <= cap * ty.size by omega) hpos
  have hadd:(⟨b,lo,none⟩:Addr).add (len * inf.size)=⟨b,lo+len * ty.size,none⟩:=by rw [Addr.add_mk,hsz]
  obtain ⟨j1,j2⟩:=hr.inv.storeE (off:=len * ty.size) hob hm (by omega) (by omega) hrel h1
  have hst:=run_storeCells_cells (P:=P) b (lo+len * ty.size) vs 0 w
   (by simpa using fun j hj=>by have:=(hall (len * ty.size+j) (by omega)).1; rwa [<- Nat.add_assoc] at this)
   (by simpa using fun j hj=>by have:=(hall (len * ty.size+j) (by omega)).2; rwa [<- Nat.add_assoc] at this) hvone
  refine ⟨_,_,_,_,hexec (by rw [hax]; exact br ht hu hinf hlenOf hnew hfit (by rw [hadd]; exact hst)),.rf ob g 0 _ _ _ _ hobl hfit ⟨hpr,fun b2 lo2 n2 hm2=>?_⟩ (fun _=>hpr),?_,j2 k,.refl m⟩
  .rw [hm] at hm2; cases hm2; exact hcap
  .rw [hmul]; exact j1
end
end Go.Apx
end
section
namespace Go.Apx
section
variable {P:Program} {G:Globs} {N S k:Nat} {D:Ro} {o:Oper} {a:Act} {I:Imm} {m:aQ} {w:World} {env:Env} {h:AHeap} {ann:List Nat}
theorem bo {c:Call} {b:Builtin} {ts:List TypeId} {xs:List Operand} {r:Value} {w':World} (ho:o.op=.call c) (hc:c.callee=.builtin b)
  (ha:c.args.toList=xs) (hT:c.argTypes.toList=ts)
  (hrun:(builtin b ts.toArray o.type (c.args.map fun | .const _=>true | _=>false) (xs.map a.eval).toArray).run P w=.ok (.value r) w'):Gives P o a w r w':=by
 have h1:c.args.map a.eval=(xs.map a.eval).toArray:=by apply Array.ext'; simp [ha]
 have h2:c.argTypes=ts.toArray:=by apply Array.ext'; simp [hT]
 left
 simp only [execOp,ho,resolve,hc,h1,h2,invoke,Sem.run_bind,Sem.run_pure,Result.andThen_ok]
 exact hrun
theorem flatten_len {z:List AV}:∀ n,(List.replicate n z).flatten.length=n * z.length
 | 0=>by simp
 | n+1=>by rw [List.replicate_succ,List.flatten_cons,List.length_append,flatten_len n,Nat.succ_mul]; omega
theorem replicate_rel' {z:List AV} {zl:List Value} (hz:AVRels I m z zl):∀ n,AVRels I m (List.replicate n z).flatten (List.replicate n zl).flatten
 | 0=>by simpa using AVRels.nil
 | n+1=>by
  rw [List.replicate_succ,List.replicate_succ,List.flatten_cons,List.flatten_cons]
  exact hz.append (replicate_rel' hz n)
theorem snd_mkSlice {t e:TypeId} {x y:Operand} {x' y':Opd} {ty:Ty} {inf:TypeInfo} {z:AV} {v:AV} {h':AHeap} (ho:o.op=.makeSlice t x y) (ht:P.underlying t=some (.slice e))
  (hty:bC P e=some ty) (hz:az P e=some z) (hinf:P.info? e=some inf) (hb:Val.small inf.bytes=true) (hzs:z.cells.length=ty.size) (hpos:0 < ty.size)
  (hx:aF x=some x') (hy:aF y=some y') (hk:k <= m.length)
  (hr:Rel G N D S I m env h a w) (he:aA G env h (.mkSlice ty.size inf.bytes z.cells x' y')=some (v,h')):Does P G k o a I m w v h':=by
 obtain ⟨inf',zv,hinf',hzv,hok,hzz,hzr⟩:=bH (w:=w) hz
 obtain ⟨inf2,hinf2,hsz,_⟩:=aV (w:=w) hty
 rw [hinf] at hinf' hinf2
 simp at hinf' hinf2; subst hinf'; subst hinf2
 simp only [aA] at he
 split at he
 .rename_i l c hl hc
  split at he
  .rename_i hb3
   obtain ⟨h0,hlc,hcm⟩:=hb3
   simp only [Option.some.injEq,Prod.mk.injEq] at he
   obtain ⟨rfl,rfl⟩:=he
   have e1:=ae (aG hx hr hl)
   have e2:=ae (aG hy hr hc)
   have hbytes:inf.bytes <= 4096:=by simpa [Val.small] using hb
   have hcm':c <= 4294967296:=hcm
   have hwl:IntKind.i64.wrap l=l:=IntWalk.i64_in _ (by omega)
   have hwc:IntKind.i64.wrap c=c:=IntWalk.i64_in _ (by omega)
   have hlim:∀ n:Int,0 <= n -> n <= 4294967296 -> ¬ ((inf.bytes:Int) * n > 2 ^ 48):=by
    intro n h1 h2
    have:(inf.bytes:Int) * n <= 4096 * 4294967296:=Int.mul_le_mul (by omega) h2 h1 (by omega)
    have h3:(4096 * 4294967296:Int) <= 2 ^ 48:=by decide
    omega
   have hzrel:AVRels I m z.cells zv.cells.toList:=by rw [hzz]; exact bi hok
   have hzone:∀ c ∈ z.cells,c.one=true:=by rw [hzz]; exact ofValue_one hok
   have hzsize:zv.cells.size=ty.size:=by have:=hzrel.1; simp at this; omega
   have hzeros:((Array.range (c.toNat * ty.size)).map fun i=>zv.cells[i % zv.cells.size]!).toList=(List.replicate c.toNat zv.cells.toList).flatten:=by
    rw [<- hzsize]; exact zeros_eq zv.cells _ (by omega)
   have hrow:AVRels I m (List.replicate c.toNat z.cells).flatten ((Array.range (c.toNat * ty.size)).map fun i=>zv.cells[i % zv.cells.size]!).toList:=by
    rw [hzeros]; exact replicate_rel' hzrel _
   obtain ⟨i1,i2,i3⟩:=hr.inv.allocCells ((Array.range (c.toNat * ty.size)).map fun i=>zv.cells[i % zv.cells.size]!) e _ hrow (by
    intro y hy
    obtain ⟨l',hl',hyl⟩:=List.mem_flatten.1 hy
    rw [(List.mem_replicate.1 hl').2] at hyl
    exact hzone y hyl)
   refine ⟨.slice (some ⟨w.heap.size,0,none⟩) l.toNat c.toNat,_,_,_,.inl ?_,?_,i1,i2.mono hk,i3⟩
   .have c1:¬ c < 0:=by omega
    have c2:¬ l < 0:=by omega
    have c3:¬ l > c:=by omega
    have c4:=hlim c (by omega) hcm'
    have hr0:Array.range 0=#[]:=rfl
    simp only [execOp,ho,e1,e2,Instr.makeSlice,Sem.run_bind,aH ht,Result.andThen_ok,asInt,asIntOf,Sem.run_pure,bb hinf,hwl,hwc,c1,c2,c3,c4]
    simp only [decide_false,Bool.or_false,Bool.false_eq_true,if_false,Sem.run_bind,run_askRoom,Result.andThen_ok,aX hinf,hsz]
    by_cases hn:c.toNat * ty.size=0
    .simp [newRow,hn,hr0]
    .simp [newRow,hn,hzr]
   .rw [<- hr.inv.len]
    refine .rf m.length 0 0 l.toNat _ ⟨w.heap.size,0,none⟩ c.toNat (by simp) (by omega) (by split <;> simp_all [RCapRel]) ?_
    intro _ g' b lo n hm
    simp at hm
    obtain ⟨rfl,rfl,rfl,rfl⟩:=hm
    exact ⟨Nat.le_refl _,fun _=>rfl⟩
  .cases he
 .cases he
theorem run_firstCells_take (hv:Inv G I m h w) {q n:Nat} (hq:0 < q) {xs:List AV} {base:Option Addr} {len cap:Nat} {vs:List Value} (hrel:AVRels I m (xs.flatMap AV.cells) vs) (hw:∀ e ∈ xs,e.cells.length=q)
  (hb:base=none -> xs=[]) (hI:∀ ad,base=some ad -> ∀ (j:Nat) (x:Value),vs[j]?=some x -> w.cell? (ad.add j)=some x) (hn:n <= xs.length) :
  (Builtin.firstCells q n (.slice base len cap)).run P w=.ok (vs.take (n * q)).toArray w:=by
 have hlen:vs.length=xs.length * q:=by rw [<- hrel.1,flat_length xs hw]
 have h2:=bO (P:=P) hv hq (xs:=xs.take n) (base:=base) (cap:=cap) (vs:=vs.take (n * q)) (by rw [flat_take xs n hw]; exact hrel.take _) (fun e he=>hw e (List.mem_of_mem_take he))
  (fun h0=>by rw [hb h0]; simp) (fun ad h0 i x hx=>(hI ad h0) i x (by
   rw [List.getElem?_take] at hx
   split at hx
   .exact hx
   .cases hx))
 have h3:(xs.take n).length=n:=by simp; omega
 rw [h3] at h2
 cases base with
 | none=>exact h2
 | some ad=>exact h2
theorem snd_clearM {c:Call} {t kt vt:TypeId} {x:Operand} {x':Opd} {v:AV} {h':AHeap} (ho:o.op=.call c) (hc:c.callee=.builtin .clear)
  (ha:c.args.toList=[x]) (hT:c.argTypes.toList=[t]) (ht:P.underlying t=some (.map kt vt)) (hx:aF x=some x')
  (hr:Rel G N D S I m env h a w) (he:aA G env h (.clearM x')=some (v,h')):Does P G k o a I m w v h':=by
 simp only [aA] at he
 split at he
 .rename_i ob hu
  split at he
  .rename_i es hob
   simp at he; obtain ⟨rfl,rfl⟩:=he
   have hp:=aG hx hr hu
   generalize hax:a.eval x=ax at hp
   have hlt:ob < m.length:=by rw [hr.inv.len]; exact (List.getElem?_eq_some_iff.1 hob).1
   obtain ⟨b,ents,clock,hl,hb,hrel⟩:=hr.inv.obj ob _ m[ob] hob (by simp [hlt])
   have hm:m[ob]?=some (.whole b):=by rw [<- hl]; simp [hlt]
   cases hp with
   | mp _ rr _ hrr =>
    have:=hrr b hm
    subst this
    obtain ⟨h1,h2⟩:=hr.inv.setMap hob hm (es':=[]) (ents':=#[]) (clock':=clock) ⟨rfl,by simp,by simp,.nil⟩
    refine ⟨.tuple #[],_,I,m,bo ho hc ha hT ?_,AVRel.tup [] [] rfl (by simp),h1,h2 k,.refl m⟩
    simp [builtin,Builtin.clear_,aH ht,getObj,setObj,Sem.run,hb,hax]
  .cases he
 .cases he
theorem snd_delM {c:Call} {t u kt vt:TypeId} {ks:KeyK} {x y:Operand} {x' y':Opd} {v:AV} {h':AHeap} (ho:o.op=.call c) (hc:c.callee=.builtin .delete)
  (ha:c.args.toList=[x,y]) (hT:c.argTypes.toList=[t,u]) (ht:P.underlying t=some (.map kt vt)) (hkt:bc P kt=some ks) (hx:aF x=some x') (hy:aF y=some y')
  (hr:Rel G N D S I m env h a w) (he:aA G env h (.delM ks x' y')=some (v,h')):Does P G k o a I m w v h':=by
 obtain ⟨d,hd⟩:=keyKind_under hkt
 simp only [aA] at he
 split at he
 .rename_i ob kv hu hu'
  split at he
  .rename_i hkey
   split at he
   .rename_i es hob
    simp only [Option.map_eq_some_iff,Prod.mk.injEq] at he
    obtain ⟨es',hes',rfl,rfl⟩:=he
    have hkrel:=aG hy hr hu'
    have hp:=aG hx hr hu
    generalize hax:a.eval x=ax at hp
    have hlt:ob < m.length:=by rw [hr.inv.len]; exact (List.getElem?_eq_some_iff.1 hob).1
    obtain ⟨b,ents,clock,hl,hb,hrel⟩:=hr.inv.obj ob _ m[ob] hob (by simp [hlt])
    have hm:m[ob]?=some (.whole b):=by rw [<- hl]; simp [hlt]
    cases hp with
    | mp _ rr _ hrr =>
     have:=hrr b hm
     subst this
     have hfind:∀ {oi:Option Nat},bM kv es=some oi -> (Instr.findKey kt (a.eval y) ents.toList).run P w=.ok (entAt ents.toList 0 oi) w:=fun h=>run_findKey (w:=w) hkt hd hkrel hkey ⟨hrel.1,hrel.2.1⟩ h
     rcases amapDel_idx kv es es' hes' with ⟨g1,g2⟩ | ⟨i,p0,g1,gp,g3⟩
     .obtain ⟨h1,h2⟩:=hr.inv.setMap hob hm (es':=es) (ents':=ents) (clock':=clock) hrel
      subst g2
      refine ⟨.tuple #[],_,I,m,bo ho hc ha hT ?_,AVRel.tup [] [] rfl (by simp),h1,h2 k,.refl m⟩
      simp only [builtin,hax]
      simp [Builtin.delete_,hax,aH ht,getObj,Sem.run,hb,run_checkKey hkt hkrel hkey,hfind g1,entAt]
      simp [setObj,Sem.run,hb]
     .have hi:i < ents.size:=by have:=(List.getElem?_eq_some_iff.1 gp).1; rw [hrel.1] at this; simpa using this
      obtain ⟨en,g2⟩:∃ en,ents.toList[i]?=some en:=⟨ents.toList[i]'(by simpa using hi),by simp⟩
      obtain ⟨h1,h2⟩:=hr.inv.delEntry (i:=i) hob hm hrel
      subst g3
      refine ⟨.tuple #[],_,I,m,bo ho hc ha hT ?_,AVRel.tup [] [] rfl (by simp),h1,h2 k,.refl m⟩
      simp only [builtin,hax]
      simp [Builtin.delete_,hax,aH ht,getObj,Sem.run,hb,run_checkKey hkt hkrel hkey,hfind g1,entAt,hi]
      simp [setObj,Sem.run,hb]
   .cases he
  .cases he
 .cases he
theorem snd_clearS {c:Call} {t e:TypeId} {x:Operand} {x':Opd} {ty:Ty} {z v:AV} {h':AHeap} (ho:o.op=.call c) (hc:c.callee=.builtin .clear)
  (ha:c.args.toList=[x]) (hT:c.argTypes.toList=[t]) (ht:P.underlying t=some (.slice e)) (hty:cB P e=some ty) (hz:az P e=some z) (hzs:z.cells.length=ty.size) (hx:aF x=some x')
  (hr:Rel G N D S I m env h a w) (he:aA G env h (.clearS ty.size z.cells x')=some (v,h')):Does P G k o a I m w v h':=by
 obtain ⟨hty,hpos⟩:=cA hty
 obtain ⟨inf,zv,hinf,hzv,hok,hzz,hzr⟩:=bH (w:=w) hz
 simp only [aA] at he
 split at he
 .rename_i q cp hu
  simp at he; obtain ⟨rfl,rfl⟩:=he
  have hp:=aG hx hr hu
  generalize hax:a.eval x=ax at hp
  refine ⟨.tuple #[],_,I,m,bo ho hc ha hT ?_,AVRel.tup [] [] rfl (by simp),hr.inv,.refl _ _ _ _,.refl m⟩
  cases hp with
  | slnil=>simp [builtin,Builtin.clear_,aH ht,hax]
  | sl _ _ _ ad cap vs hc2=>simp [builtin,Builtin.clear_,aH ht,hax]
 .rename_i ob g off len rc hu
  have hp:=aG hx hr hu
  generalize hax:a.eval x=ax at hp
  split at he
  .rename_i h0
   subst h0
   simp at he; obtain ⟨rfl,rfl⟩:=he
   refine ⟨.tuple #[],_,I,m,bo ho hc ha hT ?_,AVRel.tup [] [] rfl (by simp),hr.inv,.refl _ _ _ _,.refl m⟩
   cases hp with
   | rf _ _ _ _ _ ad cap' _ hlc hf hpr=>simp [builtin,Builtin.clear_,aH ht,hax]
  .rename_i hne0
   split at he
   .rename_i g' cs hob
    split at he
    .rename_i hg
     obtain ⟨rfl,hle⟩:=hg
     simp only [Option.some.injEq,Prod.mk.injEq] at he
     obtain ⟨rfl,rfl⟩:=he
     have hlt:ob < m.length:=by rw [hr.inv.len]; exact (List.getElem?_eq_some_iff.1 hob).1
     obtain ⟨b,lo,n,vs',hl,hle',hrels,hone',hcell,hall⟩:=hr.inv.obj ob _ m[ob] hob (by simp [hlt])
     have hm:m[ob]?=some (.cells g' b lo n):=by rw [<- hl]; simp [hlt]
     have hzrel:AVRels I m z.cells zv.cells.toList:=by rw [hzz]; exact bi hok
     have hzone:∀ c ∈ z.cells,c.one=true:=by rw [hzz]; exact ofValue_one hok
     have hzsize:zv.cells.size=ty.size:=by have:=hzrel.1; simp at this; omega
     obtain ⟨us,hus⟩:∃ us,us=(Builtin.zeroCells zv.cells len).toList:=⟨_,rfl⟩
     have hzeros:us=(List.replicate len zv.cells.toList).flatten:=by
      rw [hus]; exact zeros_eq zv.cells len (by omega)
     have hrow:AVRels I m (List.replicate len z.cells).flatten us:=by
      rw [hzeros]; exact replicate_rel' hzrel _
     have hone:∀ y ∈ (List.replicate len z.cells).flatten,y.one=true:=by
      intro y hy
      obtain ⟨l',hl',hyl⟩:=List.mem_flatten.1 hy
      rw [(List.mem_replicate.1 hl').2] at hyl
      exact hzone y hyl
     have hul:us.length=len * ty.size:=by
      rw [<- hrow.1]; simp [hzs]
     have hvone:∀ y ∈ us,y.oneCell'=true:=by
      intro y hy
      obtain ⟨i,hi,rfl⟩:=List.getElem_of_mem hy
      have hi':i < ((List.replicate len z.cells).flatten).length:=by rw [hrow.1]; exact hi
      exact (hrow.2 i _ _ (by simp only [List.getElem?_eq_getElem hi']) (by simp only [List.getElem?_eq_getElem hi])).oneCell (hone _ (List.getElem_mem hi'))
     cases hp with
     | rf _ _ _ _ _ ad cap' _ hlc hf hpr =>
      have:=(hpr hne0 _ b lo n hm).2 rfl
      subst this
      obtain ⟨s1,s2⟩:=hr.inv.store hob hm (us':=(List.replicate len z.cells).flatten) (us:=us) (off:=off) (by rw [hul]; exact hle) hrow hone
      rw [hul] at s1
      refine ⟨.tuple #[],_,I,m,bo ho hc ha hT ?_,AVRel.tup [] [] rfl (by simp),s1,s2 k,.refl m⟩
      have hst:=run_storeCells_cells (P:=P) b (lo+off) us 0 w
       (by intro j hj; rw [hul] at hj; have:=(hall (off+j) (by omega)).1; rw [<- Nat.add_assoc] at this; simpa using this)
       (by intro j hj; rw [hul] at hj; have:=(hall (off+j) (by omega)).2; rw [<- Nat.add_assoc] at this; simpa using this) hvone
      simp at hst
      cases len with
      | zero=>exact (hne0 rfl).elim
      | succ len'=>simp [builtin,Builtin.clear_,aH ht,hax,hzr,<- hus,hst]
    .cases he
   .cases he
 .cases he
theorem snd_capn {c:Call} {t e:TypeId} {x:Operand} {x':Opd} {v:AV} {h':AHeap} (ho:o.op=.call c) (hc:c.callee=.builtin .cap)
  (ha:c.args.toList=[x]) (hT:c.argTypes.toList=[t]) (hd:P.underlying t=some (.slice e)) (hx:aF x=some x')
  (hr:Rel G N D S I m env h a w) (he:aA G env h (.capn x')=some (v,h')):Does P G k o a I m w v h':=by
 have key:∀ n:Nat,(Builtin.cap_ #[t] o.type #[a.eval x]).run P w=.ok (.int .i64 n) w -> v=.sc (.int .i64 n) -> h'=h -> Does P G k o a I m w v h':=by
  rintro n hn rfl rfl
  refine .same hr.inv (.sc _) (bo ho hc ha hT ?_)
  simp [builtin,hn]
 simp only [aA] at he
 split at he
 .rename_i q hu
  simp at he; obtain ⟨rfl,rfl⟩:=he
  have hp:=aG hx hr hu
  generalize hax:a.eval x=ax at hp key
  refine key 0 ?_ rfl rfl
  cases hp with
  | slnil=>simp [Builtin.cap_,aH hd,goInt]
  | sl _ _ _ _ _ _ hc2=>exact (hc2 rfl).elim
 .rename_i q es hu
  simp at he; obtain ⟨rfl,rfl⟩:=he
  have hp:=aG hx hr hu
  generalize hax:a.eval x=ax at hp key
  refine key es.length ?_ rfl rfl
  cases hp with
  | sl _ _ _ ad cap vs hc2 hle hk hw h1 hl hrel hI hs hcap =>
   have:cap=es.length:=hcap
   subst this
   simp [Builtin.cap_,aH hd,goInt]
 .rename_i ob g off len hu
  simp at he; obtain ⟨rfl,rfl⟩:=he
  have hp:=aG hx hr hu
  generalize hax:a.eval x=ax at hp key
  refine key len ?_ rfl rfl
  cases hp with
  | rf _ _ _ _ _ ad cap' _ hlc hf hpr =>
   have:cap'=len:=hf
   subst this
   simp [Builtin.cap_,aH hd,goInt]
 .cases he
theorem run_append_zero {t u e ty:TypeId} {inf:TypeInfo} {n:Nat} {zv:Value} (ht:P.underlying t=some (.slice e)) (hu:P.underlying u=some (.int .i64)) (hinf:P.info? e=some inf)
  (hpos:0 < n) (hb:Val.small inf.bytes=true) (hb0:0 < inf.bytes) (hneed:n <= maxLenA) (hz:inf.zero=some zv) (hzs:0 < inf.size) :
  ∃ newCap rest,n <= newCap /\ rest.length=(newCap - n) * zv.cells.size /\
   (Builtin.append_ #[t,u] ty #[.slice none 0 0,.int .i64 n]).run P w=.ok (.slice (some ⟨w.heap.size,0,none⟩) n newCap) (w.drew.alloc (.cells ((Builtin.zeroCells zv.cells n).toList++rest).toArray e)):=by
 have hcapb:Builtin.nextslicecap n 0 <= 2 * n+200:=by have:=nextslicecap_le (need:=n) (old:=0) (by omega); omega
 have hbytes:inf.bytes <= 4096:=by simpa [Val.small] using hb
 have hbound:¬ Builtin.nextslicecap n 0 * inf.bytes > 2 ^ 48:=by
  have h1:Builtin.nextslicecap n 0 <= 8589934792:=by unfold maxLenA at hneed; omega
  have h2:Builtin.nextslicecap n 0 * inf.bytes <= 8589934792 * 4096:=Nat.mul_le_mul h1 hbytes
  have h3:8589934792 * 4096 <= 2 ^ 48:=by decide
  omega
 have hcut:n <= (Question.appendCap n 0 e).cut (w.tape w.drawn (.appendCap n 0 e)):=by simp [Question.cut]
 generalize hnc:(Question.appendCap n 0 e).cut (w.tape w.drawn (.appendCap n 0 e))=newCap at hcut
 refine ⟨newCap,(Builtin.zeroCells zv.cells (newCap - n)).toList,hcut,by simp [Builtin.zeroCells],?_⟩
 have hch:(choose (.appendCap n 0 e)).run P w=.ok newCap w.drew:=by
  rw [run_choose,hnc]; rfl
 have hzr:∀ w':World,(zeroValue e).run P w'=.ok zv w':=fun w'=>by simp [zeroValue,bb hinf,hz]
 have hbz:¬ inf.bytes=0:=by omega
 have hwn:IntKind.i64.wrap (n:Int)=n:=IntWalk.i64_in _ (by unfold maxLenA at hneed; omega)
 have hneg:¬ ((n:Int) < 0):=by omega
 have hlim:¬ ((n:Int) * inf.bytes > 2 ^ 48):=by
  have h2:(n:Int) * inf.bytes <= 4294967296 * 4096:=Int.mul_le_mul (by unfold maxLenA at hneed; omega) (by omega) (by omega) (by omega)
  have h3:(4294967296 * 4096:Int) <= 2 ^ 48:=by decide
  omega
 have hmx:¬ ((n:Int) > IntKind.i64.max):=by
  have:IntKind.i64.max=9223372036854775807:=by decide
  unfold maxLenA at hneed; omega
 have hsum:(#[]:Array Value)++Builtin.zeroCells zv.cells n++Builtin.zeroCells zv.cells (newCap - n)=((Builtin.zeroCells zv.cells n).toList++(Builtin.zeroCells zv.cells (newCap - n)).toList).toArray:=by
  apply Array.ext'; simp
 have hnz:¬ n * inf.size=0:=by
  intro h0
  rcases Nat.mul_eq_zero.1 h0 with h0 | h0 <;> omega
 have hnp:¬ n <= 0:=by omega
 unfold Builtin.append_
 simp only [show (#[t,u]:Array TypeId)[0]?=some t from rfl,show (#[t,u]:Array TypeId)[1]?=some u from rfl,
  show (#[Value.slice none 0 0,Value.int .i64 n]:Array Value)[0]?=some (.slice none 0 0) from rfl,show (#[Value.slice none 0 0,Value.int .i64 n]:Array Value)[1]?=some (.int .i64 n) from rfl,
  Sem.run_bind,aH ht,aH hu,Result.andThen_ok,aX hinf,Sem.run_pure]
 simp only [if_true,asInt,asIntOf,Sem.run_bind,Sem.run_pure,Result.andThen_ok,hwn,hneg,if_false,bb hinf,hlim,Int.toNat_natCast,Nat.zero_add,hnp,hmx,false_and,hbound,hch,run_askRoom,hnz,hzr,Bool.not_true,Bool.false_eq_true,Builtin.firstCells,hbz,or_false,and_false]
 rw [hsum]
 rfl
theorem snd_zappend {c:Call} {t u e:TypeId} {x y:Operand} {x' y':Opd} {ty:Ty} {inf:TypeInfo} {z:AV} {v:AV} {h':AHeap} (ho:o.op=.call c) (hc:c.callee=.builtin .append)
  (ha:c.args.toList=[x,y]) (hT:c.argTypes.toList=[t,u]) (ht:P.underlying t=some (.slice e)) (hu:P.underlying u=some (.int .i64)) (hty:bC P e=some ty) (hz:az P e=some z)
  (hinf:P.info? e=some inf) (hb:Val.small inf.bytes=true) (hb0:0 < inf.bytes) (hzs:z.cells.length=ty.size) (hpos:0 < ty.size)
  (hx:aF x=some x') (hy:aF y=some y') (hk:k <= m.length)
  (hr:Rel G N D S I m env h a w) (he:aA G env h (.zappend ty.size inf.bytes z.cells x' y')=some (v,h')):Does P G k o a I m w v h':=by
 obtain ⟨inf',zv,hinf',hzv,hok,hzz,hzr⟩:=bH (w:=w) hz
 obtain ⟨inf2,hinf2,hsz,_⟩:=aV (w:=w) hty
 rw [hinf] at hinf' hinf2
 simp at hinf' hinf2; subst hinf'; subst hinf2
 have hexec:∀ {r:Value} {w':World},(Builtin.append_ #[t,u] o.type #[a.eval x,a.eval y]).run P w=.ok r w' -> Gives P o a w r w':=append_parts hc ha hT ho
 have hzrel:AVRels I m z.cells zv.cells.toList:=by rw [hzz]; exact bi hok
 have hzone:∀ c ∈ z.cells,c.one=true:=by rw [hzz]; exact ofValue_one hok
 have hzsize:zv.cells.size=ty.size:=by have:=hzrel.1; simp at this; omega
 simp only [aA] at he
 split at he
 .rename_i q n hu1 hu2
  have hp:=aG hx hr hu1
  have hax:a.eval x=.slice none 0 0:=by
   generalize a.eval x=ax at hp
   cases hp with
   | slnil=>rfl
   | sl _ _ _ ad cap2 vs2 hc2=>exact absurd rfl hc2
  have hay:=ae (aG hy hr hu2)
  split at he
  .rename_i h0
   subst h0
   simp only [Option.some.injEq,Prod.mk.injEq] at he; obtain ⟨rfl,rfl⟩:=he
   refine .same hr.inv hp (hexec ?_)
   rw [hax,hay]
   have hw0:IntKind.i64.wrap 0=0:=by decide
   have e1:¬ ((0:Int) * inf.bytes > 2 ^ 48):=by simp
   simp [Builtin.append_,aH ht,aH hu,aX hinf,asInt,asIntOf,hw0,bb hinf]
  .rename_i hn0
   split at he
   .rename_i hb3
    obtain ⟨hnp,hmax⟩:=hb3
    obtain ⟨n,rfl⟩:∃ q:Nat,n=q:=⟨n.toNat,by omega⟩
    simp only [Option.some.injEq,Prod.mk.injEq] at he; obtain ⟨rfl,rfl⟩:=he
    rw [Int.toNat_natCast]
    have hmax':n <= maxLenA:=by omega
    have hn1:0 < n:=by omega
    obtain ⟨newCap,rest,g1,g2,g3⟩:=run_append_zero (P:=P) (w:=w) (ty:=o.type) ht hu hinf hn1 hb hb0 hmax' hzv (by rw [hsz]; exact hpos)
    have hzeros:(Builtin.zeroCells zv.cells n).toList=(List.replicate n zv.cells.toList).flatten:=zeros_eq zv.cells n (by omega)
    have hrow:AVRels I m (List.replicate n z.cells).flatten (Builtin.zeroCells zv.cells n).toList:=by
     rw [hzeros]; exact replicate_rel' hzrel _
    have hone:∀ y ∈ (List.replicate n z.cells).flatten,y.one=true:=by
     intro y hy
     obtain ⟨l',hl',hyl⟩:=List.mem_flatten.1 hy
     rw [(List.mem_replicate.1 hl').2] at hyl
     exact hzone y hyl
    have hlen:(Builtin.zeroCells zv.cells n).toList.length=n * ty.size:=by
     rw [<- hrow.1]; simp [hzs]
    have htot:((Builtin.zeroCells zv.cells n).toList++rest).length=newCap * ty.size:=by
     rw [List.length_append,hlen,g2,hzsize,<- Nat.add_mul]; congr 1; omega
    obtain ⟨i1,i2,i3⟩:=hr.inv.drew.allocNew (.cells ((Builtin.zeroCells zv.cells n).toList++rest).toArray e) [] (.cells 0 w.heap.size 0 (newCap * ty.size)) (.cells 0 (List.replicate n z.cells).flatten)
     (fun i x hx=>by simp at hx) (fun b o hp=>⟨hp.1,by simp⟩)
     (by
      rw [Imm.row_nil hr.inv.drew.imm_new]
      refine ⟨w.heap.size,0,_,(Builtin.zeroCells zv.cells n).toList,rfl,?_,hrow.mono (.refl I) (.append m _),hone,fun i x hx=>?_,fun i hi=>?_⟩
      .rw [hrow.1,hlen]; exact Nat.mul_le_mul_right _ g1
      .have:=World.cell?_alloc_new w.drew ((Builtin.zeroCells zv.cells n).toList++rest).toArray e i
       rw [World.size_drew] at this
       rw [Nat.zero_add,this,List.getElem?_toArray,List.getElem?_append_left (List.getElem?_eq_some_iff.1 hx).1]
       exact hx
      .have h1:=World.cell?_alloc_new w.drew ((Builtin.zeroCells zv.cells n).toList++rest).toArray e i
       have h2:=World.frozen?_alloc_new w.drew ((Builtin.zeroCells zv.cells n).toList++rest).toArray e i
       rw [World.size_drew] at h1 h2
       rw [Nat.zero_add,h1,h2]
       refine ⟨?_,rfl⟩
       rw [Array.getElem?_eq_getElem (by rw [List.size_toArray,htot]; exact hi)]; rfl)
    rw [Imm.row_nil hr.inv.drew.imm_new] at i1 i2
    refine ⟨_,_,_,_,hexec (by rw [hax,hay]; exact g3),?_,i1,((Trans.drew m.length I m w).trans i2).mono hk,i3⟩
    rw [<- hr.inv.len]
    have hpr:PtrRel (m++[.cells 0 w.heap.size 0 (newCap * ty.size)]) m.length 0 0 ⟨w.heap.size,0,none⟩:=by
     intro g' b lo n hm
     simp at hm
     obtain ⟨rfl,rfl,rfl,rfl⟩:=hm
     exact ⟨Nat.le_refl _,fun _=>rfl⟩
    exact AVRel.rf (I:=I) m.length 0 0 n (.own ty.size) ⟨w.heap.size,0,none⟩ newCap (by simp) g1 ⟨hpr,fun b lo n hm=>by
     simp at hm
     obtain ⟨rfl,rfl,rfl⟩:=hm
     omega⟩ (fun _=>hpr)
   .cases he
 .cases he
theorem snd_convRS {s d:TypeId} {q':IntKind} {x:Operand} {x':Opd} {v:AV} {h':AHeap} (ho:o.op=.convert s d x) (hs:P.underlying s=some (.int q')) (hd:P.underlying d=some .string)
  (hx:aF x=some x') (hr:Rel G N D S I m env h a w) (he:aA G env h (.convRS x')=some (v,h')):Does P G k o a I m w v h':=by
 simp only [aA] at he
 split at he
 .rename_i q n hu
  simp only [Option.some.injEq,Prod.mk.injEq] at he
  obtain ⟨rfl,rfl⟩:=he
  have h1:=ae (aG hx hr hu)
  exact .same hr.inv (.sc _) (.inl (by simp [execOp,ho,h1,convert,aH hs,aH hd,Conv.intToString]))
 .cases he
theorem snd_rangeS {t:TypeId} {x:Operand} {x':Opd} {v:AV} {h':AHeap} (ho:o.op=.range t x) (ht:P.underlying t=some .string) (hx:aF x=some x') (hk:k <= m.length)
  (hr:Rel G N D S I m env h a w) (he:aA G env h (.rangeS x')=some (v,h')):Does P G k o a I m w v h':=by
 simp only [aA] at he
 split at he
 .rename_i s hu
  simp only [Option.some.injEq,Prod.mk.injEq] at he
  obtain ⟨rfl,rfl⟩:=he
  have h1:=ae (aG hx hr hu)
  obtain ⟨h2,h3,h4⟩:=hr.inv.allocNew (.stringIter s 0) [] (.whole w.heap.size) (.siter s 0) (fun i x hx=>by simp at hx) (fun b o hp=>⟨hp,by simp⟩) ⟨w.heap.size,rfl,heap_alloc_new⟩
  refine ⟨.pointer (some ⟨w.heap.size,0,none⟩),_,_,_,.inl ?_,?_,h2,h3.mono hk,h4⟩
  .simp [execOp,ho,Instr.range,h1,aH ht]
  .rw [<- hr.inv.len]
   exact .it m.length _ (by simp) fun b hb=>by simp at hb; exact hb
 .cases he
theorem snd_entryM {x:Operand} {x':Opd} {v:AV} {h':AHeap} (ho:o.op=.entry x) (hx:aF x=some x')
  (hr:Rel G N D S I m env h a w) (he:aA G env h (.entryM x')=some (v,h')):Does P G k o a I m w v h':=by
 simp only [aA] at he
 split at he
 .rename_i io hu
  split at he
  .rename_i mo since c0 seen hio
   split at he
   .rename_i es bs clock b hmo hlast
    split at he
    .rename_i hcc
     subst hcc
     simp only [Option.bind_eq_some_iff,Option.map_eq_some_iff,Prod.mk.injEq] at he
     obtain ⟨i,hi,p,hp2,rfl,rfl⟩:=he
     have hp:=aG hx hr hu
     generalize hax:a.eval x=ax at hp
     have hlt:io < m.length:=by rw [hr.inv.len]; exact (List.getElem?_eq_some_iff.1 hio).1
     have hltm:mo < m.length:=by rw [hr.inv.len]; exact (List.getElem?_eq_some_iff.1 hmo).1
     obtain ⟨r,mb,hl,hb,hrel⟩:=hr.inv.obj io _ m[io] hio (by simp [hlt])
     have hm:m[io]?=some (.whole r):=by rw [<- hl]; simp [hlt]
     obtain ⟨b2,ents,hl2,hb2,⟨e1,e2,e3,e4⟩,hbs⟩:=hr.inv.obj mo _ m[mo] hmo (by simp [hltm])
     have hm2:m[mo]?=some (.whole b2):=by rw [<- hl2]; simp [hltm]
     obtain ⟨mo',r2,hq1,hmb,hmp⟩:=hrel.resolve_left (fun h=>by cases h.1)
     cases hq1
     subst hmb
     have hrb:r2=b2:=by cases hmp with | mp _ _ _ h=>exact h b2 hm2
     subst hrb
     subst hbs
     cases hp with
     | it _ rr _ hrr =>
      have:=hrr r hm
      subst this
      rw [List.findIdx?_map] at hi
      obtain ⟨hil,hin,hmin⟩:=List.findIdx?_eq_some_iff_getElem.1 hi
      have hfind:ents.find? (·.born == b)=some (ents.toList[i]):=by
       rw [<- Array.find?_toList]
       exact List.find?_eq_some_iff_getElem.2 ⟨by simpa using hin,i,hil,rfl,fun j hj=>by simpa using hmin j hj⟩
      obtain ⟨k1,k2⟩:=e2 i p (ents.toList[i]) hp2 (by simp [hil])
      refine ⟨.tuple #[(ents.toList[i]).key,(ents.toList[i]).val],w,I,m,.inl ?_,?_,hr.inv,.refl k I m w,.refl m⟩
      .have hbk:seen.toArray.back?=some b:=by simpa using hlast
       simp [execOp,ho,Instr.entry,hax,getObj,Sem.run,hb,hbk,hb2,hfind]
      .exact AVRel.tup _ [_,_] rfl (by
        intro j a x ha hx
        match j with
        | 0=>simp at ha hx; subst ha hx; exact k1
        | 1=>simp at ha hx; subst ha hx; exact k2
        | n+2=>simp at ha)
    .cases he
   .cases he
  .cases he
 .cases he
theorem snd_nextS {x:Operand} {x':Opd} {v:AV} {h':AHeap} (ho:o.op=.next x true) (hx:aF x=some x')
  (hr:Rel G N D S I m env h a w) (he:aA G env h (.nextS x')=some (v,h')):Does P G k o a I m w v h':=by
 simp only [aA] at he
 split at he
 .rename_i ob hu
  split at he
  .rename_i s p hob
   have hp:=aG hx hr hu
   generalize hax:a.eval x=ax at hp
   have hlt:ob < m.length:=by rw [hr.inv.len]; exact (List.getElem?_eq_some_iff.1 hob).1
   obtain ⟨b,hl,hb⟩:=hr.inv.obj ob _ m[ob] hob (by simp [hlt])
   have hm:m[ob]?=some (.whole b):=by rw [<- hl]; simp [hlt]
   cases hp with
   | it _ rr _ hrr =>
    have:=hrr b hm
    subst this
    split at he
    .rename_i hps
     simp only [Option.some.injEq,Prod.mk.injEq] at he
     obtain ⟨rfl,rfl⟩:=he
     obtain ⟨h1,h2⟩:=hr.inv.setIter (q:=p+(Utf8.decode s p).2) hob hm
     refine ⟨.tuple #[.bool true,.int .i64 p,.int .i32 (Utf8.decode s p).1],_,I,m,.inl ?_,?_,h1,h2 k,.refl m⟩
     .simp [execOp,ho,Instr.next,hax,getObj,setObj,Sem.run,hb,hps,goInt]
     .exact AVRel.tup _ [_,_,_] rfl (by
       intro i a x ha hx
       match i with
       | 0=>simp at ha hx; subst ha hx; exact .sc _
       | 1=>simp at ha hx; subst ha hx; exact .sc _
       | 2=>simp at ha hx; subst ha hx; exact .sc _
       | n+3=>simp at ha)
    .rename_i hps
     simp only [Option.some.injEq,Prod.mk.injEq] at he
     obtain ⟨rfl,rfl⟩:=he
     refine .same hr.inv (x:=.tuple #[.bool false]) ?_ (.inl ?_)
     .exact AVRel.tup _ [_] rfl (by
       intro i a x ha hx
       match i with
       | 0=>simp at ha hx; subst ha hx; exact .sc _
       | n+1=>simp at ha)
     .simp [execOp,ho,Instr.next,hax,getObj,Sem.run,hb,hps]
  .cases he
 .cases he
theorem snd_copy {c:Call} {t u e:TypeId} {x y:Operand} {x' y':Opd} {ty:Ty} {v:AV} {h':AHeap} (ho:o.op=.call c) (hc:c.callee=.builtin .copy)
  (ha:c.args.toList=[x,y]) (hT:c.argTypes.toList=[t,u]) (ht:P.underlying t=some (.slice e)) (hty:cB P e=some ty)
  (hx:aF x=some x') (hy:aF y=some y')
  (hr:Rel G N D S I m env h a w) (he:aA G env h (.copy ty.size x' y')=some (v,h')):Does P G k o a I m w v h':=by
 obtain ⟨hty,hpos⟩:=cA hty
 obtain ⟨inf,hinf,hsz,_⟩:=aV (w:=w) hty
 simp only [aA] at he
 split at he
 .rename_i ob g off len rc xs hu1 hu2
  simp only [Option.bind_eq_some_iff] at hu2
  obtain ⟨yv,hyv,hxs⟩:=hu2
  obtain ⟨base,cap,vs,hay,hlecap,hrel,hw,h1,hbase,hI⟩:=elems_now hr.inv hxs (aG hy hr hyv)
  split at he
  .rename_i g' cs hob
   split at he
   .rename_i hg
    obtain ⟨rfl,hle,hne0⟩:=hg
    simp only [Option.some.injEq,Prod.mk.injEq] at he
    obtain ⟨rfl,rfl⟩:=he
    have hp:=aG hx hr hu1
    generalize hax:a.eval x=ax at hp
    have hlt:ob < m.length:=by rw [hr.inv.len]; exact (List.getElem?_eq_some_iff.1 hob).1
    obtain ⟨b,lo,n,vs',hl,hle',hrels,hone',hcell,hall⟩:=hr.inv.obj ob _ m[ob] hob (by simp [hlt])
    have hm:m[ob]?=some (.cells g' b lo n):=by rw [<- hl]; simp [hlt]
    cases hp with
    | rf _ _ _ _ _ ad cap' _ hlc hf hpr =>
     have:=(hpr hne0 _ b lo n hm).2 rfl
     subst this
     generalize hn:min xs.length len=cnt at *
     have hcnt:cnt <= xs.length:=by omega
     have hvlen:vs.length=xs.length * ty.size:=by rw [<- hrel.1,flat_length xs hw]
     have htl:(vs.take (cnt * ty.size)).length=cnt * ty.size:=by
      rw [List.length_take,hvlen]
      exact Nat.min_eq_left (Nat.mul_le_mul_right _ hcnt)
     have hrt:AVRels I m ((xs.take cnt).flatMap AV.cells) (vs.take (cnt * ty.size)):=by rw [flat_take xs cnt hw]; exact hrel.take _
     have hot:∀ c ∈ (xs.take cnt).flatMap AV.cells,c.one=true:=by
      intro c hc
      rw [flat_take xs cnt hw] at hc
      exact h1 c (List.mem_of_mem_take hc)
     have hvone:∀ z ∈ vs.take (cnt * ty.size),z.oneCell'=true:=by
      intro z hz
      obtain ⟨i,hi,rfl⟩:=List.getElem_of_mem hz
      have hi':i < ((xs.take cnt).flatMap AV.cells).length:=by rw [hrt.1]; exact hi
      exact (hrt.2 i _ _ (by simp only [List.getElem?_eq_getElem hi']) (by simp only [List.getElem?_eq_getElem hi])).oneCell (hot _ (List.getElem_mem hi'))
     obtain ⟨s1,s2⟩:=hr.inv.store hob hm (us':=(xs.take cnt).flatMap AV.cells) (us:=vs.take (cnt * ty.size)) (off:=off) (by rw [htl]; exact hle) hrt hot
     rw [htl] at s1
     refine ⟨.int .i64 cnt,_,I,m,bo ho hc ha hT ?_,.sc _,s1,s2 k,.refl m⟩
     have hst:=run_storeCells_cells (P:=P) b (lo+off) (vs.take (cnt * ty.size)) 0 w
      (by intro j hj; rw [htl] at hj; have:=(hall (off+j) (by omega)).1; rw [<- Nat.add_assoc] at this; simpa using this)
      (by intro j hj; rw [htl] at hj; have:=(hall (off+j) (by omega)).2; rw [<- Nat.add_assoc] at this; simpa using this) hvone
     have hfc:=run_firstCells_take (P:=P) hr.inv hpos hrel hw hbase hI hcnt (len:=xs.length) (cap:=cap)
     have hmin:Nat.min xs.length len=cnt:=hn
     simp [builtin,Builtin.copy_,aH ht,hax,hay,Builtin.lenOf,hmin,aX hinf,hsz,hfc,goInt]
     simp at hst
     simp [hst]
   .cases he
  .cases he
 .cases he
def LenK.under:LenK -> TypeDesc -> Prop
 | .str,d=>d=.string
 | .sl,d=>∃ e,d=.slice e
 | .map,d=>∃ e f,d=.map e f
 | .arr n,d=>∃ e,d=.array n e
theorem snd_len {c:Call} {t:TypeId} {d:TypeDesc} {q:LenK} {x:Operand} {x':Opd} {v:AV} {h':AHeap} (ho:o.op=.call c) (hc:c.callee=.builtin .len)
  (ha:c.args.toList=[x]) (hT:c.argTypes.toList=[t]) (hd:P.underlying t=some d) (hq:q.under d) (hx:aF x=some x')
  (hr:Rel G N D S I m env h a w) (he:aA G env h (.len q x')=some (v,h')):Does P G k o a I m w v h':=by
 have key:∀ n:Nat,(Builtin.len_ #[t] o.type #[a.eval x]).run P w=.ok (.int .i64 n) w -> v=.sc (.int .i64 n) -> h'=h -> Does P G k o a I m w v h':=by
  rintro n hn rfl rfl
  refine .same hr.inv (.sc _) (bo ho hc ha hT ?_)
  simp [builtin,hn]
 simp only [aA] at he
 split at he
 .rename_i s hu
  simp at he; obtain ⟨rfl,rfl⟩:=he
  cases hq
  have h1:=ae (aG hx hr hu)
  exact key s.size (by simp [Builtin.len_,aH hd,h1,goInt]) rfl rfl
 .rename_i q' es cp hu
  simp at he; obtain ⟨rfl,rfl⟩:=he
  obtain ⟨e,rfl⟩:=hq
  have hp:=aG hx hr hu
  generalize hax:a.eval x=ax at hp key
  refine key es.length ?_ rfl rfl
  cases hp <;> simp [Builtin.len_,aH hd,goInt]
 .rename_i ob g off len rc hu
  simp at he; obtain ⟨rfl,rfl⟩:=he
  obtain ⟨e,rfl⟩:=hq
  have hp:=aG hx hr hu
  generalize hax:a.eval x=ax at hp key
  refine key len ?_ rfl rfl
  cases hp <;> simp [Builtin.len_,aH hd,goInt]
 .rename_i hu
  simp at he; obtain ⟨rfl,rfl⟩:=he
  obtain ⟨e,f,rfl⟩:=hq
  have h1:=ae (aG hx hr hu)
  exact key 0 (by simp [Builtin.len_,aH hd,h1,goInt]) rfl rfl
 .rename_i ob hu
  split at he
  .rename_i es hob
   simp at he; obtain ⟨rfl,rfl⟩:=he
   obtain ⟨e,f,rfl⟩:=hq
   have hp:=aG hx hr hu
   have hlt:ob < m.length:=by rw [hr.inv.len]; exact (List.getElem?_eq_some_iff.1 hob).1
   obtain ⟨b,ents,clock,hl,hb,hrel⟩:=hr.inv.obj ob _ m[ob] hob (by simp [hlt])
   have hm:m[ob]?=some (.whole b):=by rw [<- hl]; simp [hlt]
   generalize hax:a.eval x=ax at hp key
   cases hp with
   | mp _ rr _ hrr =>
    have:=hrr b hm
    subst this
    have hes:es.length=ents.size:=by simpa using hrel.1
    exact key es.length (by simp [Builtin.len_,aH hd,goInt,getObj,Sem.run,hb,hes]) rfl rfl
  .cases he
 .rename_i n u hu
  simp at he; obtain ⟨rfl,rfl⟩:=he
  obtain ⟨e,rfl⟩:=hq
  exact key n (by simp [Builtin.len_,aH hd,goInt]) rfl rfl
 .cases he
end
end Go.Apx
end
