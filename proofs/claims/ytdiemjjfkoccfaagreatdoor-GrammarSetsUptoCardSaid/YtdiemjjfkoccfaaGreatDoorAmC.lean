/- ABSTRACT MACHINE, part 23: what a walk by simp wants. -/
import Derived.Test.YtdiemjjfkoccfaaGreatDoorAmE
import Derived.IntWalk
import Derived.Laws.Bits64
import Derived.Below
set_option linter.unusedVariables false
set_option linter.unusedSimpArgs false
set_option linter.unnecessarySimpa false
section
namespace Go.Apx
attribute [simp] guardOf aA aD oneOpd aY Env.put Env.get Env.del initEnv numFrom mapM' bW quietOp AOp.loud allOne partOf isShift cut bt elems isNilK fillA fillE
 Ty.size keyEq amapFind amapSet isKey cC putAll
@[simp] theorem isPend_sc (v:Value):(AV.sc v).isPend=false:=rfl
@[simp] theorem one_sc (v:Value):(AV.sc v).one=v.oneCell':=rfl
@[simp] theorem cells_sc (v:Value):(AV.sc v).cells=[AV.sc v]:=rfl
@[simp] theorem isPend_agg (cs:List AV):(AV.agg cs).isPend=false:=rfl
@[simp] theorem one_agg (cs:List AV):(AV.agg cs).one=false:=rfl
@[simp] theorem cells_agg (cs:List AV):(AV.agg cs).cells=cs:=rfl
@[simp] theorem isPend_tup (vs:List AV):(AV.tup vs).isPend=false:=rfl
@[simp] theorem one_tup (vs:List AV):(AV.tup vs).one=false:=rfl
@[simp] theorem cells_tup (vs:List AV):(AV.tup vs).cells=[AV.tup vs]:=rfl
@[simp] theorem isPend_sl (k:Nat) (es:List AV) (c:Cap):(AV.sl k es c).isPend=false:=rfl
@[simp] theorem one_sl (k:Nat) (es:List AV) (c:Cap):(AV.sl k es c).one=true:=rfl
@[simp] theorem cells_sl (k:Nat) (es:List AV) (c:Cap):(AV.sl k es c).cells=[AV.sl k es c]:=rfl
@[simp] theorem isPend_ip (v:AV):(AV.ip v).isPend=false:=rfl
@[simp] theorem one_ip (v:AV):(AV.ip v).one=true:=rfl
@[simp] theorem cells_ip (v:AV):(AV.ip v).cells=[AV.ip v]:=rfl
@[simp] theorem isPend_ptr (o g off:Nat):(AV.ptr o g off).isPend=false:=rfl
@[simp] theorem one_ptr (o g off:Nat):(AV.ptr o g off).one=true:=rfl
@[simp] theorem cells_ptr (o g off:Nat):(AV.ptr o g off).cells=[AV.ptr o g off]:=rfl
@[simp] theorem isPend_rf (o g off len:Nat) (rc:RCap):(AV.rf o g off len rc).isPend=false:=rfl
@[simp] theorem one_rf (o g off len:Nat) (rc:RCap):(AV.rf o g off len rc).one=true:=rfl
@[simp] theorem cells_rf (o g off len:Nat) (rc:RCap):(AV.rf o g off len rc).cells=[AV.rf o g off len rc]:=rfl
@[simp] theorem isPend_mp (o:Nat):(AV.mp o).isPend=false:=rfl
@[simp] theorem one_mp (o:Nat):(AV.mp o).one=true:=rfl
@[simp] theorem cells_mp (o:Nat):(AV.mp o).cells=[AV.mp o]:=rfl
@[simp] theorem isPend_it (o:Nat):(AV.it o).isPend=false:=rfl
@[simp] theorem one_it (o:Nat):(AV.it o).one=true:=rfl
@[simp] theorem cells_it (o:Nat):(AV.it o).cells=[AV.it o]:=rfl
@[simp] theorem isPend_yld (o:Nat):(AV.yld o).isPend=false:=rfl
@[simp] theorem one_yld (o:Nat):(AV.yld o).one=true:=rfl
@[simp] theorem cells_yld (o:Nat):(AV.yld o).cells=[AV.yld o]:=rfl
@[simp] theorem isPend_fn (f:Fn) (first captured:List AV):(AV.fn f first captured).isPend=false:=rfl
@[simp] theorem one_fn (f:Fn) (first captured:List AV):(AV.fn f first captured).one=true:=rfl
@[simp] theorem cells_fn (f:Fn) (first captured:List AV):(AV.fn f first captured).cells=[AV.fn f first captured]:=rfl
@[simp] theorem isPend_ifc (t:TypeId) (v:AV):(AV.ifc t v).isPend=false:=rfl
@[simp] theorem one_ifc (t:TypeId) (v:AV):(AV.ifc t v).one=true:=rfl
@[simp] theorem cells_ifc (t:TypeId) (v:AV):(AV.ifc t v).cells=[AV.ifc t v]:=rfl
@[simp] theorem isPend_pend (n:Nat):(AV.pend n).isPend=true:=rfl
@[simp] theorem one_pend (n:Nat):(AV.pend n).one=false:=rfl
@[simp] theorem cells_pend (n:Nat):(AV.pend n).cells=[AV.pend n]:=rfl
@[simp] theorem one_int (k:IntKind) (n:Int):(Value.int k n).oneCell'=true:=rfl
@[simp] theorem one_bool (b:Bool):(Value.bool b).oneCell'=true:=rfl
@[simp] theorem one_string (b:ByteArray):(Value.string b).oneCell'=true:=rfl
@[simp] theorem one_pointer (a:Option Addr):(Value.pointer a).oneCell'=true:=rfl
@[simp] theorem one_map (a:Option Nat):(Value.map a).oneCell'=true:=rfl
@[simp] theorem one_nilFunc:(Value.nilFunc).oneCell'=true:=rfl
@[simp] theorem one_nilIface:(Value.nilIface).oneCell'=true:=rfl
@[simp] theorem one_slice (a:Option Addr) (n c:Nat):(Value.slice a n c).oneCell'=true:=rfl
@[simp] theorem ba_beq (a b:ByteArray):(a == b)=decide (a=b):=by
 cases a with
 | mk x =>
  cases b with
  | mk y =>
   show (x == y)=decide (ByteArray.mk x=ByteArray.mk y)
   rw [Bool.eq_iff_iff]
   simp
instance baLawful:LawfulBEq ByteArray where
 eq_of_beq:=fun {a b} h=>by simpa using h
 rfl:=fun {a}=>by simp
theorem str_eq (a b:ByteArray):(a.toList == b.toList)=decide (a=b):=by
 rw [Bool.eq_iff_iff]
 simp only [beq_iff_eq,decide_eq_true_eq]
 constructor
 .intro h
  have ha:=ByteArray.toList_eq a
  have hb:=ByteArray.toList_eq b
  rw [ha,hb] at h
  cases a; cases b
  simp at h ⊢
  exact h
 .rintro rfl; rfl
@[simp] theorem strV_eql (a b:ByteArray):strV .eql a b=some (.bool (decide (a=b))):=by simp only [strV,str_eq]
@[simp] theorem strV_neq (a b:ByteArray):strV .neq a b=some (.bool (!decide (a=b))):=by simp only [strV,str_eq]
@[simp] theorem strV_lss (a b:ByteArray):strV .lss a b=some (.bool (Op.bytesLess a.toList b.toList)):=rfl
@[simp] theorem strV_add (a b:ByteArray):strV .add a b=if ((a.size+b.size:Nat):Int) > IntKind.i64.max then none else some (.string (a++b)):=rfl
@[simp] theorem cellEq_int (k k':IntKind) (a b:Int):cellEq 0 (.sc (.int k a)) (.sc (.int k' b))=if k=k' then some (a == b) else none:=rfl
@[simp] theorem cellEq_str (a b:ByteArray):cellEq 1 (.sc (.string a)) (.sc (.string b))=some (decide (a=b)):=by simp only [cellEq,str_eq]
@[simp] theorem cellEq_bool (a b:Bool):cellEq 2 (.sc (.bool a)) (.sc (.bool b))=some (a == b):=rfl
def opsK (C:Cx) (r:List AItem) (Q:APost):Env -> AHeap -> Prop:=fun env h=>opsWp C r Q env h
def drawK (C:Cx) (T:List Claim) (r:List (Bool × AItem)) (Q:APost):Env -> AHeap -> Prop:=fun env h=>aq C T r Q env h
def keepK (C:Cx) (T:List Claim) (it:AItem) (r:List (Bool × AItem)) (Q:APost):Env -> AHeap -> Prop:=fun env h=>keepsAll C T it h /\ aq C (T.filter fun c=>!c.touch it) r Q env h
def claimK (C:Cx) (T:List Claim) (it:AItem) (r:List (Bool × AItem)) (Q:APost) (env:Env) (h:AHeap):AV -> Prop:=fun v=>aq C (⟨it,env,v,it.writes⟩ :: T.map (Claim.step it)) r Q (aY env it.dst v) h
def stW (o:Option (AV × AHeap)) (h:AHeap) (K:AV -> Prop):Prop:=match o with
 | some (v,h')=>h'=h /\ K v
 | none=>False
@[simp] theorem stW_some {v:AV} {h h':AHeap} {K:AV -> Prop}:stW (some (v,h')) h K=(h'=h /\ K v):=rfl
@[simp] theorem stW_none {h:AHeap} {K:AV -> Prop}:stW none h K=False:=rfl
def stillK (C:Cx) (T:List Claim) (it:AItem) (r:List (Bool × AItem)) (Q:APost):Env -> AHeap -> Prop:=fun env h=>it.op.still=true /\ guardOf env it.guard=some true /\ stW (aA C.G env h it.op) h (claimK C T it r Q env h)
def codeK (C:Cx) (a:ACode) (Q:APost):Env -> AHeap -> Prop:=fun env h=>bD C a Q env h
def quW (o:Option (Option Nat × AV)) (env:Env) (h:AHeap) (K S:Env -> AHeap -> Prop):Prop:=match o with
 | some (d,v)=>K (aY env d v) h
 | none=>S env h
@[simp] theorem quW_some {d:Option Nat} {v:AV} {env:Env} {h:AHeap} {K S:Env -> AHeap -> Prop}:quW (some (d,v)) env h K S=K (aY env d v) h:=rfl
@[simp] theorem quW_none {env:Env} {h:AHeap} {K S:Env -> AHeap -> Prop}:quW none env h K S=S env h:=rfl
def panAll (Q:APost):APost:=fun e _ h=>∀ env,Q e env h
def condP (t:Bool) (A B:Prop):Prop:=(t=true -> A) /\ (t=false -> B)
section
variable {C:Cx} {Q:APost} {env:Env} {h:AHeap} {K:Env -> AHeap -> Prop}
@[simp] theorem opsK_app {r:List AItem}:opsK C r Q env h=opsWp C r Q env h:=rfl
@[simp] theorem drawK_app {T:List Claim} {r:List (Bool × AItem)}:drawK C T r Q env h=aq C T r Q env h:=rfl
@[simp] theorem keepK_nil {it:AItem} {r:List (Bool × AItem)}:keepK C [] it r Q env h=aq C [] r Q env h:=by simp [keepK,keepsAll]
@[simp] theorem keepK_cons {c:Claim} {T:List Claim} {it:AItem} {r:List (Bool × AItem)}:keepK C (c :: T) it r Q env h=(keepsAll C (c :: T) it h /\ aq C ((c :: T).filter fun c=>!c.touch it) r Q env h):=rfl
attribute [simp] Claim.touch Claim.step AItem.reads AItem.writes AOp.opds AOp.extra Opd.slots
@[simp] theorem keepsAll_nil {it:AItem}:keepsAll C [] it h=True:=by simp [keepsAll]
@[simp] theorem keepsAll_cons {c:Claim} {T:List Claim} {it:AItem}:keepsAll C (c :: T) it h=((c.touch it=false -> aA C.G c.env h c.it.op=some (c.v,h)) /\ keepsAll C T it h):=by
 simp [keepsAll]
@[simp] theorem claimK_app {T:List Claim} {it:AItem} {r:List (Bool × AItem)} {v:AV}:claimK C T it r Q env h v=aq C (⟨it,env,v,it.writes⟩ :: T.map (Claim.step it)) r Q (aY env it.dst v) h:=rfl
@[simp] theorem stillK_app {T:List Claim} {it:AItem} {r:List (Bool × AItem)}:stillK C T it r Q env h=(it.op.still=true /\ guardOf env it.guard=some true /\ stW (aA C.G env h it.op) h (claimK C T it r Q env h)):=rfl
@[simp] theorem still_load {ty:Ty} {x:Opd}:(AOp.load ty x).still=true:=rfl
@[simp] theorem still_lookup {ks:KeyK} {z:AV} {ok:Bool} {m k:Opd}:(AOp.lookup ks z ok m k).still=true:=rfl
@[simp] theorem still_len {k:LenK} {x:Opd}:(AOp.len k x).still=true:=rfl
@[simp] theorem codeK_app {a:ACode}:codeK C a Q env h=bD C a Q env h:=rfl
@[simp ↓] theorem opsWp_nil:opsWp C [] Q env h=Q .normal env h:=rfl
@[simp ↓] theorem opsWp_cons {it:AItem} {r:List AItem}:opsWp C (it :: r) Q env h=bG C it env h (opsK C r Q) Q:=rfl
@[simp ↓] theorem drawT_nil {T:List Claim}:aq C T [] Q env h=Q .normal env h:=by simp only [aq]
@[simp ↓] theorem drawT_quiet {T:List Claim} {it:AItem} {r:List (Bool × AItem)}:aq C T ((true,it) :: r) Q env h=quW (bW C it env) env h (drawK C (T.map (Claim.step it)) r Q) (stillK C T it r Q):=by
 simp only [aq]
 cases bW C it env with
 | some p=>rfl
 | none =>
  simp only [quW,stillK]
  refine propext (and_congr Iff.rfl (and_congr Iff.rfl ?_))
  cases aA C.G env h it.op with
  | none=>simp [stW]
  | some p =>
   obtain ⟨v,h'⟩:=p
   simp only [stW,Option.some.injEq,Prod.mk.injEq,claimK]
   constructor
   .rintro ⟨v',⟨rfl,rfl⟩,hw⟩; exact ⟨rfl,hw⟩
   .rintro ⟨rfl,hw⟩; exact ⟨v,⟨rfl,rfl⟩,hw⟩
@[simp ↓] theorem drawT_loud {T:List Claim} {it:AItem} {r:List (Bool × AItem)}:aq C T ((false,it) :: r) Q env h=bG C it env h (keepK C T it r Q) (panAll Q):=by simp only [aq]; rfl
@[simp] theorem panAll_app {e:AExit}:panAll Q e env h=∀ env,Q e env h:=rfl
@[simp ↓] theorem itemWp_none {d:Option Nat} {op:AOp} {l:List Nat}:bG C ⟨d,op,none,l⟩ env h K Q=bJ C ⟨d,op,none,l⟩ env h K Q:=rfl
@[simp ↓] theorem itemWp_some {d:Option Nat} {op:AOp} {g:Nat × Bool} {l:List Nat}:bG C ⟨d,op,some g,l⟩ env h K Q=(match guardOf env (some g) with
  | some true=>bJ C ⟨d,op,some g,l⟩ env h K Q
  | some false=>K (aY env d (.tup [])) h
  | none=>False):=rfl
@[simp ↓] theorem codeWp_skip:bD C .skip Q env h=Q .normal env h:=rfl
@[simp ↓] theorem codeWp_reg {l:List AItem}:bD C (.reg l) Q env h=opsWp C l Q env h:=rfl
@[simp ↓] theorem codeWp_dreg {l:List (Bool × AItem)}:bD C (.dreg l) Q env h=aq C [] l Q env h:=rfl
@[simp ↓] theorem codeWp_ereg {l:List (Bool × AItem)} {es:List ESet}:bD C (.ereg l es) Q env h=(C.ro=none /\ aq C [] l (rowP C es Q) env h):=rfl
@[simp] theorem rowP_normal {es:List ESet}:rowP C es Q .normal env h=setsWp C es Q env h:=rfl
@[simp] theorem setsWp_nil:setsWp C [] Q env h=Q .normal env h:=rfl
@[simp] theorem setsWp_cons {x:ESet} {r:List ESet}:setsWp C (x :: r) Q env h=(env.get x.e=none /\ env.get x.s=none /\ (match aA C.G env h (.mapUpd x.ks x.m x.k x.v) with | some (_,h')=>setsWp C r Q env h' | none=>False)):=rfl
@[simp ↓] theorem codeWp_seq {a b:ACode}:bD C (.seq a b) Q env h=bD C a (thenP (codeK C b Q) Q) env h:=rfl
@[simp ↓] theorem codeWp_block {id:Nat} {a:ACode}:bD C (.block id a) Q env h=bD C a (blockP id Q) env h:=rfl
@[simp ↓] theorem codeWp_scope {a:ACode}:bD C (.scope a) Q env h=(match bN a with
  | true=>AWp C (.scope a) Q env h
  | false=>bD C a (noGotoP Q) env h):=by
 simp only [bD]
 cases bN a <;> rfl
@[simp ↓] theorem codeWp_label {l:Nat}:bD C (.label l) Q env h=Q .normal env h:=rfl
@[simp ↓] theorem codeWp_goto {l:Nat}:bD C (.goto l) Q env h=Q (.goto l) env h:=rfl
@[simp] theorem topLabel_seq {a b:ACode}:bN (.seq a b)=(bN a || bN b):=rfl
@[simp] theorem topLabel_label {l:Nat}:bN (.label l)=true:=rfl
@[simp] theorem topLabel_goto {l:Nat}:bN (.goto l)=false:=rfl
@[simp] theorem topLabel_skip:bN .skip=false:=rfl
@[simp] theorem topLabel_reg {l:List AItem}:bN (.reg l)=false:=rfl
@[simp] theorem topLabel_dreg {l:List (Bool × AItem)}:bN (.dreg l)=false:=rfl
@[simp] theorem topLabel_ereg {l:List (Bool × AItem)} {es:List ESet}:bN (.ereg l es)=false:=rfl
@[simp] theorem topLabel_cond {c:Opd} {a b:ACode}:bN (.cond c a b)=false:=rfl
@[simp] theorem topLabel_block {i:Nat} {a:ACode}:bN (.block i a)=false:=rfl
@[simp] theorem topLabel_loop {a:ACode}:bN (.loop a)=false:=rfl
@[simp] theorem topLabel_scope {a:ACode}:bN (.scope a)=false:=rfl
@[simp] theorem topLabel_rangeF {g:Opd} {ps:List Nat} {a b:ACode}:bN (.rangeF g ps a b)=false:=rfl
@[simp] theorem topLabel_exit {i:Nat}:bN (.exit i)=false:=rfl
@[simp] theorem topLabel_ret:bN .ret=false:=rfl
@[simp ↓] theorem noGotoP_normal:noGotoP Q .normal env h=Q .normal env h:=rfl
@[simp ↓] theorem noGotoP_exit {i:Nat}:noGotoP Q (.exit i) env h=Q (.exit i) env h:=rfl
@[simp ↓] theorem noGotoP_ret:noGotoP Q .ret env h=Q .ret env h:=rfl
@[simp ↓] theorem noGotoP_pan {v:AV}:noGotoP Q (.pan v) env h=Q (.pan v) env h:=rfl
@[simp ↓] theorem noGotoP_goto {l:Nat}:noGotoP Q (.goto l) env h=False:=rfl
@[simp ↓] theorem thenP_goto {i:Nat}:thenP K Q (.goto i) env h=Q (.goto i) env h:=rfl
@[simp ↓] theorem blockP_goto {id i:Nat}:blockP id Q (.goto i) env h=Q (.goto i) env h:=rfl
@[simp ↓] theorem jumpP_normal {l:Nat} {J:Env -> AHeap -> Prop}:jumpP l J Q .normal env h=Q .normal env h:=rfl
@[simp ↓] theorem jumpP_exit {l i:Nat} {J:Env -> AHeap -> Prop}:jumpP l J Q (.exit i) env h=Q (.exit i) env h:=rfl
@[simp ↓] theorem jumpP_ret {l:Nat} {J:Env -> AHeap -> Prop}:jumpP l J Q .ret env h=Q .ret env h:=rfl
@[simp ↓] theorem jumpP_pan {l:Nat} {J:Env -> AHeap -> Prop} {v:AV}:jumpP l J Q (.pan v) env h=Q (.pan v) env h:=rfl
@[simp ↓] theorem jumpP_goto {l i:Nat} {J:Env -> AHeap -> Prop}:jumpP l J Q (.goto i) env h=(i=l /\ J env h):=rfl
@[simp ↓] theorem codeWp_exit {id:Nat}:bD C (.exit id) Q env h=Q (.exit id) env h:=rfl
@[simp ↓] theorem codeWp_ret:bD C .ret Q env h=Q .ret env h:=rfl
@[simp ↓] theorem codeWp_loop {a:ACode}:bD C (.loop a) Q env h=AWp C (.loop a) Q env h:=rfl
@[simp ↓] theorem codeWp_rangeF {g:Opd} {ps:List Nat} {a b:ACode}:bD C (.rangeF g ps a b) Q env h=AWp C (.rangeF g ps a b) Q env h:=rfl
@[simp ↓] theorem codeWp_cond {c:Opd} {a b:ACode}:bD C (.cond c a b) Q env h=(match aD C.G env c with
  | some (.sc (.bool t))=>condP t (codeK C a Q env h) (codeK C b Q env h)
  | _=>False):=by
 simp only [bD,condP,codeK]
 cases aD C.G env c with
 | none=>simp
 | some v =>
  cases v with
  | sc x =>
   cases x with
   | bool t=>simp
   | _=>simp
  | _=>simp
@[simp ↓] theorem condP_true {A B:Prop}:condP true A B=A:=by simp [condP]
@[simp ↓] theorem condP_false {A B:Prop}:condP false A B=B:=by simp [condP]
@[simp ↓] theorem condP_dec {p A B:Prop} [Decidable p]:condP (decide p) A B=((p -> A) /\ (¬ p -> B)):=by simp [condP]
@[simp ↓] theorem condP_beq {α:Type} [BEq α] [LawfulBEq α] {a b:α} {A B:Prop}:condP (a == b) A B=((a=b -> A) /\ (¬ a=b -> B)):=by simp [condP]
@[simp ↓] theorem condP_bne {α:Type} [BEq α] [LawfulBEq α] {a b:α} {A B:Prop}:condP (a != b) A B=((¬ a=b -> A) /\ (a=b -> B)):=by simp [condP]
@[simp ↓] theorem condP_not {b:Bool} {A B:Prop}:condP (!b) A B=condP b B A:=by cases b <;> simp [condP]
@[simp] theorem condP_b {b:Bool} {A B:Prop}:condP b A B=((b=true -> A) /\ (b=false -> B)):=rfl
@[simp ↓] theorem thenP_normal:thenP K Q .normal env h=K env h:=rfl
@[simp ↓] theorem thenP_exit {i:Nat}:thenP K Q (.exit i) env h=Q (.exit i) env h:=rfl
@[simp ↓] theorem thenP_ret:thenP K Q .ret env h=Q .ret env h:=rfl
@[simp ↓] theorem thenP_pan {v:AV}:thenP K Q (.pan v) env h=Q (.pan v) env h:=rfl
@[simp ↓] theorem blockP_normal {id:Nat}:blockP id Q .normal env h=Q .normal env h:=rfl
@[simp ↓] theorem blockP_exit {id i:Nat}:blockP id Q (.exit i) env h=if i=id then Q .normal env h else Q (.exit i) env h:=rfl
@[simp ↓] theorem blockP_ret {id:Nat}:blockP id Q .ret env h=Q .ret env h:=rfl
@[simp ↓] theorem blockP_pan {id:Nat} {v:AV}:blockP id Q (.pan v) env h=Q (.pan v) env h:=rfl
end
def evW (o:Option (AV × AHeap)) (d:Option Nat) (env:Env) (K:Env -> AHeap -> Prop):Prop:=match o with
 | some (v,h')=>K (aY env d v) h'
 | none=>False
@[simp] theorem evW_some {v:AV} {h:AHeap} {d:Option Nat} {env:Env} {K:Env -> AHeap -> Prop}:evW (some (v,h)) d env K=K (aY env d v) h:=rfl
@[simp] theorem evW_none {d:Option Nat} {env:Env} {K:Env -> AHeap -> Prop}:evW none d env K=False:=rfl
def appW (C:Cx) (k b:Nat) (x y:Opd) (d:Option Nat) (env:Env) (h:AHeap) (K:Env -> AHeap -> Prop):Prop:=evW (aA C.G env h (.append k b x y)) d env K
def goOn (dst:Option Nat) (env:Env) (K:Env -> AHeap -> Prop) (Q:APost):AEnd -> AHeap -> Prop
 | .ret v,h'=>K (aY env dst v) h'
 | .pan v,h'=>Q (.pan v) env h'
@[simp] theorem goOn_ret {dst:Option Nat} {env:Env} {K:Env -> AHeap -> Prop} {Q:APost} {v:AV} {h:AHeap}:goOn dst env K Q (.ret v) h=K (aY env dst v) h:=rfl
@[simp] theorem goOn_pan {dst:Option Nat} {env:Env} {K:Env -> AHeap -> Prop} {Q:APost} {v:AV} {h:AHeap}:goOn dst env K Q (.pan v) h=Q (.pan v) env h:=rfl
def callW (C:Cx) (f:FuncId) (args:List AV) (dst:Option Nat) (env:Env) (h:AHeap) (K:Env -> AHeap -> Prop) (Q:APost):Prop :=
 ∃ R,ACalls C.P C.G f args h R /\ ∀ r h',R r h' -> goOn dst env K Q r h'
def yieldW (C:Cx) (o:Nat) (args:List AV) (dst:Option Nat) (env:Env) (h:AHeap) (K:Env -> AHeap -> Prop) (Q:APost):Prop :=
 ∃ R,AYields C.P C.G o args h R /\ ∀ r h',R r h' -> goOn dst env K Q r h'
section
variable {C:Cx} {Q:APost} {env:Env} {h:AHeap} {K:Env -> AHeap -> Prop} {d:Option Nat} {l:List Nat} {g:Option (Nat × Bool)}
@[simp ↓] theorem opWp_call {f:Opd} {args:List Opd}:bJ C ⟨d,.call f args,g,l⟩ env h K Q=(match aD C.G env f,mapM' (aD C.G env) args with
  | some (.fn (.func fid) a b),some vs=>callW C fid (a++vs++b) d env h K Q
  | some (.yld o),some vs=>isLoop h o=true /\ yieldW C o vs d env h K Q
  | _,_=>False):=by
 simp only [bJ]
 split
 .rename_i h1 h2
  rw [h1,h2]
  exact propext ⟨fun ⟨R,a,b⟩=>⟨R,a,fun r h' hr=>by have:=b r h' hr; cases r <;> exact this⟩,fun ⟨R,a,b⟩=>⟨R,a,fun r h' hr=>by have:=b r h' hr; cases r <;> exact this⟩⟩
 .rename_i h1 h2
  rw [h1,h2]
  exact propext ⟨fun ⟨l,R,a,b⟩=>⟨l,R,a,fun r h' hr=>by have:=b r h' hr; cases r <;> exact this⟩,fun ⟨l,R,a,b⟩=>⟨l,R,a,fun r h' hr=>by have:=b r h' hr; cases r <;> exact this⟩⟩
 .rename_i h1 h2
  split
  .rename_i h3 h4; exact (h1 _ _ _ _ h3 h4).elim
  .rename_i h3 h4; exact (h2 _ _ h3 h4).elim
  .rfl
@[simp ↓] theorem opWp_pnew {n:Nat}:bJ C ⟨d,.pnew n,g,l⟩ env h K Q=(match d with
  | some d=>K (env.put d (.pend n)) h
  | none=>False):=rfl
@[simp ↓] theorem opWp_pstore {n t:Nat} {x:Opd}:bJ C ⟨d,.pstore n t x,g,l⟩ env h K Q=(match env.get t,oneOpd C.G env x with
  | some (.pend n'),some v=>n'=n /\ v.cells.length=n /\ d=none /\ K (env.put t (.ip v)) h
  | _,_=>False):=rfl
@[simp ↓] theorem opWp_defer {f:Opd} {args:List Opd}:bJ C ⟨d,.defer f args,g,l⟩ env h K Q=(match aD C.G env f,mapM' (aD C.G env) args,deferred env with
  | some (.fn (.func fid) a b),some vs,some l=>C.ro=none /\ d=none /\ K (env.put dslot (.tup (.tup (.fn (.func fid) a b :: vs) :: l))) h
  | _,_,_=>False):=rfl
@[simp ↓] theorem opWp_panic {x:Opd}:bJ C ⟨d,.panic x,g,l⟩ env h K Q=(match aD C.G env x with
  | some (.ifc t v)=>Q (.pan (.ifc t v)) env h
  | _=>False):=rfl
@[simp ↓] theorem opWp_mv (a0:Opd):bJ C ⟨d,.mv a0,g,l⟩ env h K Q=evW (aA C.G env h (.mv a0)) d env K:=rfl
@[simp ↓] theorem opWp_pick (a0 a1 a2:Opd):bJ C ⟨d,.pick a0 a1 a2,g,l⟩ env h K Q=evW (aA C.G env h (.pick a0 a1 a2)) d env K:=rfl
@[simp ↓] theorem opWp_new (a0:List AV):bJ C ⟨d,.new a0,g,l⟩ env h K Q=evW (aA C.G env h (.new a0)) d env K:=rfl
@[simp ↓] theorem opWp_box (a0:Opd):bJ C ⟨d,.box a0,g,l⟩ env h K Q=evW (aA C.G env h (.box a0)) d env K:=rfl
@[simp ↓] theorem opWp_boxm (a0:Opd):bJ C ⟨d,.boxm a0,g,l⟩ env h K Q=evW (aA C.G env h (.boxm a0)) d env K:=rfl
@[simp ↓] theorem opWp_build (a0:List AV) (a1:List (Nat × Nat × Opd)):bJ C ⟨d,.build a0 a1,g,l⟩ env h K Q=evW (aA C.G env h (.build a0 a1)) d env K:=rfl
@[simp ↓] theorem opWp_bslice (a0 a1:Nat) (a2:AV) (a3:List (Nat × Opd)):bJ C ⟨d,.bslice a0 a1 a2 a3,g,l⟩ env h K Q=evW (aA C.G env h (.bslice a0 a1 a2 a3)) d env K:=rfl
@[simp ↓] theorem opWp_mslice (a0 a1:Nat) (a2:AV) (a3:List (Nat × Opd)):bJ C ⟨d,.mslice a0 a1 a2 a3,g,l⟩ env h K Q=evW (aA C.G env h (.mslice a0 a1 a2 a3)) d env K:=rfl
@[simp ↓] theorem opWp_load (a0:Ty) (a1:Opd):bJ C ⟨d,.load a0 a1,g,l⟩ env h K Q=evW (aA C.G env h (.load a0 a1)) d env K:=rfl
@[simp ↓] theorem opWp_store (a0:Nat) (a1 a2:Opd):bJ C ⟨d,.store a0 a1 a2,g,l⟩ env h K Q=evW (aA C.G env h (.store a0 a1 a2)) d env K:=rfl
@[simp ↓] theorem opWp_bin (a0:BinOp) (a1 a2:Opd):bJ C ⟨d,.bin a0 a1 a2,g,l⟩ env h K Q=evW (aA C.G env h (.bin a0 a1 a2)) d env K:=rfl
@[simp ↓] theorem opWp_eqb (a0:Bool) (a1 a2:Opd):bJ C ⟨d,.eqb a0 a1 a2,g,l⟩ env h K Q=evW (aA C.G env h (.eqb a0 a1 a2)) d env K:=rfl
@[simp ↓] theorem opWp_eqnil (a0:NilK) (a1:Bool) (a2 a3:Opd):bJ C ⟨d,.eqnil a0 a1 a2 a3,g,l⟩ env h K Q=evW (aA C.G env h (.eqnil a0 a1 a2 a3)) d env K:=rfl
@[simp ↓] theorem opWp_eqagg (a0:List Nat) (a1:Bool) (a2 a3:Opd):bJ C ⟨d,.eqagg a0 a1 a2 a3,g,l⟩ env h K Q=evW (aA C.G env h (.eqagg a0 a1 a2 a3)) d env K:=rfl
@[simp ↓] theorem opWp_un (a0:UnOp) (a1:Opd):bJ C ⟨d,.un a0 a1,g,l⟩ env h K Q=evW (aA C.G env h (.un a0 a1)) d env K:=rfl
@[simp ↓] theorem opWp_conv (a0:IntKind) (a1:Opd):bJ C ⟨d,.conv a0 a1,g,l⟩ env h K Q=evW (aA C.G env h (.conv a0 a1)) d env K:=rfl
@[simp ↓] theorem opWp_nilc (a0:Opd):bJ C ⟨d,.nilc a0,g,l⟩ env h K Q=evW (aA C.G env h (.nilc a0)) d env K:=rfl
@[simp ↓] theorem opWp_clearM (a0:Opd):bJ C ⟨d,.clearM a0,g,l⟩ env h K Q=evW (aA C.G env h (.clearM a0)) d env K:=rfl
@[simp ↓] theorem opWp_clearS (a0:Nat) (a1:List AV) (a2:Opd):bJ C ⟨d,.clearS a0 a1 a2,g,l⟩ env h K Q=evW (aA C.G env h (.clearS a0 a1 a2)) d env K:=rfl
@[simp ↓] theorem opWp_delM (a0:KeyK) (a1 a2:Opd):bJ C ⟨d,.delM a0 a1 a2,g,l⟩ env h K Q=evW (aA C.G env h (.delM a0 a1 a2)) d env K:=rfl
@[simp ↓] theorem opWp_entryM (a0:Opd):bJ C ⟨d,.entryM a0,g,l⟩ env h K Q=evW (aA C.G env h (.entryM a0)) d env K:=rfl
@[simp ↓] theorem opWp_capn (a0:Opd):bJ C ⟨d,.capn a0,g,l⟩ env h K Q=evW (aA C.G env h (.capn a0)) d env K:=rfl
@[simp ↓] theorem opWp_rangeS (a0:Opd):bJ C ⟨d,.rangeS a0,g,l⟩ env h K Q=evW (aA C.G env h (.rangeS a0)) d env K:=rfl
@[simp ↓] theorem opWp_nextS (a0:Opd):bJ C ⟨d,.nextS a0,g,l⟩ env h K Q=evW (aA C.G env h (.nextS a0)) d env K:=rfl
@[simp ↓] theorem opWp_convRS (a0:Opd):bJ C ⟨d,.convRS a0,g,l⟩ env h K Q=evW (aA C.G env h (.convRS a0)) d env K:=rfl
@[simp ↓] theorem opWp_same (a0:Opd):bJ C ⟨d,.same a0,g,l⟩ env h K Q=evW (aA C.G env h (.same a0)) d env K:=rfl
@[simp ↓] theorem opWp_mkIface (a0:TypeId) (a1:Opd):bJ C ⟨d,.mkIface a0 a1,g,l⟩ env h K Q=evW (aA C.G env h (.mkIface a0 a1)) d env K:=rfl
@[simp ↓] theorem opWp_mkFunc (a0:Fn) (a1 a2:List Opd):bJ C ⟨d,.mkFunc a0 a1 a2,g,l⟩ env h K Q=evW (aA C.G env h (.mkFunc a0 a1 a2)) d env K:=rfl
@[simp ↓] theorem opWp_mkMap :bJ C ⟨d,.mkMap ,g,l⟩ env h K Q=evW (aA C.G env h (.mkMap )) d env K:=rfl
@[simp ↓] theorem opWp_mkSlice (a0 a1:Nat) (a2:List AV) (a3 a4:Opd):bJ C ⟨d,.mkSlice a0 a1 a2 a3 a4,g,l⟩ env h K Q=evW (aA C.G env h (.mkSlice a0 a1 a2 a3 a4)) d env K:=rfl
@[simp ↓] theorem opWp_faddr (a0:Nat) (a1:Ty) (a2:Opd):bJ C ⟨d,.faddr a0 a1 a2,g,l⟩ env h K Q=evW (aA C.G env h (.faddr a0 a1 a2)) d env K:=rfl
@[simp ↓] theorem opWp_field (a0:Nat) (a1:Ty) (a2:Opd):bJ C ⟨d,.field a0 a1 a2,g,l⟩ env h K Q=evW (aA C.G env h (.field a0 a1 a2)) d env K:=rfl
@[simp ↓] theorem opWp_iaddr (a0:Nat) (a1 a2:Opd):bJ C ⟨d,.iaddr a0 a1 a2,g,l⟩ env h K Q=evW (aA C.G env h (.iaddr a0 a1 a2)) d env K:=rfl
@[simp ↓] theorem opWp_iaddrA (a0:Nat) (a1:Ty) (a2 a3:Opd):bJ C ⟨d,.iaddrA a0 a1 a2 a3,g,l⟩ env h K Q=evW (aA C.G env h (.iaddrA a0 a1 a2 a3)) d env K:=rfl
@[simp ↓] theorem opWp_index (a0:Nat) (a1:Ty) (a2 a3:Opd):bJ C ⟨d,.index a0 a1 a2 a3,g,l⟩ env h K Q=evW (aA C.G env h (.index a0 a1 a2 a3)) d env K:=rfl
@[simp ↓] theorem opWp_indexS (a0 a1:Opd):bJ C ⟨d,.indexS a0 a1,g,l⟩ env h K Q=evW (aA C.G env h (.indexS a0 a1)) d env K:=rfl
@[simp ↓] theorem opWp_lookup (a0:KeyK) (a1:AV) (a2:Bool) (a3 a4:Opd):bJ C ⟨d,.lookup a0 a1 a2 a3 a4,g,l⟩ env h K Q=evW (aA C.G env h (.lookup a0 a1 a2 a3 a4)) d env K:=rfl
@[simp ↓] theorem opWp_mapUpd (a0:KeyK) (a1 a2 a3:Opd):bJ C ⟨d,.mapUpd a0 a1 a2 a3,g,l⟩ env h K Q=evW (aA C.G env h (.mapUpd a0 a1 a2 a3)) d env K:=rfl
@[simp ↓] theorem opWp_extract (a0:Opd) (a1:Nat):bJ C ⟨d,.extract a0 a1,g,l⟩ env h K Q=evW (aA C.G env h (.extract a0 a1)) d env K:=rfl
@[simp ↓] theorem opWp_len (a0:LenK) (a1:Opd):bJ C ⟨d,.len a0 a1,g,l⟩ env h K Q=evW (aA C.G env h (.len a0 a1)) d env K:=rfl
@[simp ↓] theorem opWp_happend (kk b:Nat) (x y:Opd):bJ C ⟨d,.happend kk b x y,g,l⟩ env h K Q=(match aD C.G env x,(aD C.G env y).bind (elems h kk) with
  | some (.sl q [] .nil),some xs=>xs ≠ [] /\ xs.length <= maxLenA /\ K (aY env d (.rf h.length 0 0 xs.length (.own kk))) (h++[.cells 0 (xs.flatMap AV.cells)])
  | some (.rf o g 0 len (.own k')),some xs=>match h[o]? with
   | some (.cells g' cs)=>k'=kk /\ g'=g /\ (if (len+xs.length) * kk <= cs.length then K (aY env d (.rf o g 0 (len+xs.length) (.own kk))) (h.set o (.cells g (cs.take (len * kk)++xs.flatMap AV.cells++cs.drop ((len+xs.length) * kk))))
     else len * kk <= cs.length /\ xs ≠ [] /\ len+xs.length <= maxLenA /\
     K (aY env d (.rf o g 0 (len+xs.length) (.own kk))) (h.set o (.cells g (cs.take (len * kk)++xs.flatMap AV.cells))) /\
     K (aY env d (.rf h.length 0 0 (len+xs.length) (.own kk))) (h++[.cells 0 (cs.take (len * kk)++xs.flatMap AV.cells)]))
   | _=>False
  | _,_=>False):=rfl
@[simp ↓] theorem opWp_kslice (kk:Nat) (x:Opd) (lo hi mx:Option Opd):bJ C ⟨d,.kslice kk x lo hi mx,g,l⟩ env h K Q=(match aD C.G env x,bt 0 (lo.map (aD C.G env)) with
  | some (.rf o g off len rc),some l=>match bt len (hi.map (aD C.G env)) with
   | some r=>match mx with
    | none=>rc=.own kk /\ off=0 /\ l <= r /\ (match h[o]? with | some (.cells g' cs)=>g'=g /\ r * kk <= cs.length | _=>False) /\ K (aY env d (.rf o g (l * kk) (r - l) .any)) h
    | some y=>match bt 0 (some (aD C.G env y)) with
     | some q=>hi.isSome=true /\ l <= r /\ r <= q /\ q <= len /\ K (aY env d (.rf o g (off+l * kk) (r - l) .any)) h
     | none=>False
   | none=>False
  | _,_=>False):=rfl
@[simp ↓] theorem opWp_mappend (a0 a1:Nat) (a2 a3:Opd):bJ C ⟨d,.mappend a0 a1 a2 a3,g,l⟩ env h K Q=evW (aA C.G env h (.mappend a0 a1 a2 a3)) d env K:=rfl
@[simp ↓] theorem opWp_zappend (a0 a1:Nat) (a2:List AV) (a3 a4:Opd):bJ C ⟨d,.zappend a0 a1 a2 a3 a4,g,l⟩ env h K Q=evW (aA C.G env h (.zappend a0 a1 a2 a3 a4)) d env K:=rfl
@[simp ↓] theorem opWp_append (a0 a1:Nat) (a2 a3:Opd):bJ C ⟨d,.append a0 a1 a2 a3,g,l⟩ env h K Q=appW C a0 a1 a2 a3 d env h K:=rfl
@[simp ↓] theorem opWp_copy (a0:Nat) (a1 a2:Opd):bJ C ⟨d,.copy a0 a1 a2,g,l⟩ env h K Q=evW (aA C.G env h (.copy a0 a1 a2)) d env K:=rfl
@[simp ↓] theorem opWp_mx (a0:Bool) (a1 a2:Opd):bJ C ⟨d,.mx a0 a1 a2,g,l⟩ env h K Q=evW (aA C.G env h (.mx a0 a1 a2)) d env K:=rfl
@[simp ↓] theorem opWp_rangeM {x:Opd}:bJ C ⟨d,.rangeM x,g,l⟩ env h K Q=(match aD C.G env x with
  | some (.sc (.map none))=>K (aY env d (.it h.length)) (h++[.miter none 0 0 []])
  | some (.mp mo)=>match h[mo]? with
   | some (.amap es)=>∀ (bs:List Nat) (clock:Nat),bs.length=es.length -> bs.Nodup -> (∀ b ∈ bs,b < clock) -> K (aY env d (.it h.length)) (h.set mo (.bmap es bs clock)++[.miter (some mo) clock clock []])
   | _=>False
  | _=>False):=rfl
@[simp ↓] theorem opWp_nextM {x:Opd}:bJ C ⟨d,.nextM x,g,l⟩ env h K Q=(match aD C.G env x with
  | some (.it io)=>match h[io]? with
   | some (.miter none since c0 seen)=>K (aY env d (.tup [.sc (.bool false)])) h
   | some (.miter (some mo) since c0 seen)=>match h[mo]? with
    | some (.bmap es bs clock)=>(∀ b ∈ bs,b < since) /\ since <= c0 /\ ((∀ b ∈ bs,b ∈ seen) -> K (aY env d (.tup [.sc (.bool false)])) (h.set mo (.amap es))) /\
      ∀ (i:Nat) (p:AV × AV) (b:Nat),es[i]?=some p -> bs[i]?=some b -> b ∉ seen -> K (aY env d (.tup [.sc (.bool true),p.1,p.2])) (h.set io (.miter (some mo) since clock (seen++[b])))
    | _=>False
   | _=>False
  | _=>False):=rfl
@[simp ↓] theorem opWp_slice (a0:SlK) (a1:Opd) (a2 a3 a4:Option Opd):bJ C ⟨d,.slice a0 a1 a2 a3 a4,g,l⟩ env h K Q=evW (aA C.G env h (.slice a0 a1 a2 a3 a4)) d env K:=rfl
@[simp ↓] theorem opWp_tassert (a0:TypeId) (a1:AV) (a2:Bool) (a3:Opd):bJ C ⟨d,.tassert a0 a1 a2 a3,g,l⟩ env h K Q=evW (aA C.G env h (.tassert a0 a1 a2 a3)) d env K:=rfl
@[simp ↓] theorem opWp_recover :bJ C ⟨d,.recover ,g,l⟩ env h K Q=evW (aA C.G env h (.recover )) d env K:=rfl
end
noncomputable def mulU (a b:BitVec 64):BitVec 64:=Classical.choose (show ∃ c,c=a * b from ⟨a * b,rfl⟩)
theorem mulU_eq (a b:BitVec 64):mulU a b=a * b:=Classical.choose_spec (show ∃ c,c=a * b from ⟨a * b,rfl⟩)
def nv (b:BitVec 64):Nat:=b.toNat
abbrev u64 (b:BitVec 64):AV:=.sc (v64 b)
@[simp] theorem v64_one (b:BitVec 64):(v64 b).oneCell'=true:=rfl
abbrev i64 (n:Int):AV:=.sc (.int .i64 n)
abbrev bool (b:Bool):AV:=.sc (.bool b)
abbrev str (s:ByteArray):AV:=.sc (.string s)
theorem wrap_u64_nat (n:Nat):IntKind.u64.wrap (n:Int)=((BitVec.ofNat 64 n).toNat:Int):=by
 rw [IntKind.wrap_u64]; simp
theorem mul_pow_nat (x n:Nat):(x:Int) * 2 ^ n=((x * 2 ^ n:Nat):Int):=by
 rw [Int.natCast_mul,Int.natCast_pow]; rfl
theorem shift_u64 (b:BitVec 64) (n:Nat):IntKind.u64.wrap ((b.toNat:Int) * 2 ^ (min n 64))=((b <<< n).toNat:Int):=by
 rw [mul_pow_nat,wrap_u64_nat]
 congr 2
 apply BitVec.eq_of_toNat_eq
 rw [BitVec.toNat_ofNat,BitVec.toNat_shiftLeft,Nat.shiftLeft_eq]
 rcases Nat.le_total n 64 with h | h
 .rw [Nat.min_eq_left h]
 .rw [Nat.min_eq_right h]
  have h1:b.toNat * 2 ^ n=(b.toNat * 2 ^ (n - 64)) * 2 ^ 64:=by
   rw [Nat.mul_assoc,<- Nat.pow_add]; congr 2; omega
  rw [h1,Nat.mul_mod_left,Nat.mul_mod_left]
section
variable (a b:BitVec 64)
theorem u64_and:intV .and .u64 (a.toNat:Int) (b.toNat:Int)=some (.int .u64 ((a &&& b).toNat:Int)):=by
 simp only [intV,BitVec.ofInt_natCast,IntKind.bits,BitVec.ofNat_toNat,BitVec.setWidth_eq]
 rw [wrap_u64_nat,BitVec.ofNat_toNat,BitVec.setWidth_eq]
 rfl
theorem u64_or:intV .or .u64 (a.toNat:Int) (b.toNat:Int)=some (.int .u64 ((a ||| b).toNat:Int)):=by
 simp only [intV,BitVec.ofInt_natCast,IntKind.bits,BitVec.ofNat_toNat,BitVec.setWidth_eq]
 rw [wrap_u64_nat,BitVec.ofNat_toNat,BitVec.setWidth_eq]
 rfl
theorem u64_xor:intV .xor .u64 (a.toNat:Int) (b.toNat:Int)=some (.int .u64 ((a ^^^ b).toNat:Int)):=by
 simp only [intV,BitVec.ofInt_natCast,IntKind.bits,BitVec.ofNat_toNat,BitVec.setWidth_eq]
 rw [wrap_u64_nat,BitVec.ofNat_toNat,BitVec.setWidth_eq]
 rfl
theorem u64_andNot:intV .andNot .u64 (a.toNat:Int) (b.toNat:Int)=some (.int .u64 ((a &&& ~~~ b).toNat:Int)):=by
 simp only [intV,BitVec.ofInt_natCast,IntKind.bits,BitVec.ofNat_toNat,BitVec.setWidth_eq]
 rw [wrap_u64_nat,BitVec.ofNat_toNat,BitVec.setWidth_eq]
 rfl
theorem u64_add:intV .add .u64 (a.toNat:Int) (b.toNat:Int)=some (.int .u64 ((a+b).toNat:Int)):=by
 simp only [intV]
 rw [<- Int.natCast_add,wrap_u64_nat,BitVec.ofNat_add,BitVec.ofNat_toNat,BitVec.ofNat_toNat,BitVec.setWidth_eq,BitVec.setWidth_eq]
theorem u64_sub:intV .sub .u64 (a.toNat:Int) (b.toNat:Int)=some (.int .u64 ((a - b).toNat:Int)):=by
 simp only [intV]
 rw [IntKind.wrap_u64,BitVec.toNat_sub]
 have:=a.isLt; have:=b.isLt
 congr 2
 omega
theorem u64_eql:intV .eql .u64 (a.toNat:Int) (b.toNat:Int)=some (.bool (a == b)):=by
 simp only [intV]
 congr 2
 rw [Bool.eq_iff_iff]
 simp only [beq_iff_eq,bne_iff_ne,ne_eq,Int.natCast_inj,BitVec.toNat_inj]
theorem u64_neq:intV .neq .u64 (a.toNat:Int) (b.toNat:Int)=some (.bool (a != b)):=by
 simp only [intV]
 congr 2
 rw [Bool.eq_iff_iff]
 simp only [beq_iff_eq,bne_iff_ne,ne_eq,Int.natCast_inj,BitVec.toNat_inj]
@[simp] theorem v64_and:binV .and (v64 a) (v64 b)=some (v64 (a &&& b)):=by
 simp only [v64,binV,isShift,if_true,Bool.false_eq_true,if_false,u64_and]
@[simp] theorem v64_or:binV .or (v64 a) (v64 b)=some (v64 (a ||| b)):=by
 simp only [v64,binV,isShift,if_true,Bool.false_eq_true,if_false,u64_or]
@[simp] theorem v64_xor:binV .xor (v64 a) (v64 b)=some (v64 (a ^^^ b)):=by
 simp only [v64,binV,isShift,if_true,Bool.false_eq_true,if_false,u64_xor]
@[simp] theorem v64_andNot:binV .andNot (v64 a) (v64 b)=some (v64 (a &&& ~~~ b)):=by
 simp only [v64,binV,isShift,if_true,Bool.false_eq_true,if_false,u64_andNot]
@[simp] theorem v64_add:binV .add (v64 a) (v64 b)=some (v64 (a+b)):=by
 simp only [v64,binV,isShift,if_true,Bool.false_eq_true,if_false,u64_add]
@[simp] theorem v64_sub:binV .sub (v64 a) (v64 b)=some (v64 (a - b)):=by
 simp only [v64,binV,isShift,if_true,Bool.false_eq_true,if_false,u64_sub]
@[simp] theorem v64_eql:binV .eql (v64 a) (v64 b)=some (.bool (decide (a=b))):=by
 have:(a == b)=decide (a=b):=by rw [Bool.eq_iff_iff]; simp
 simp only [v64,binV,isShift,if_true,Bool.false_eq_true,if_false,u64_eql,this]
@[simp] theorem v64_neq:binV .neq (v64 a) (v64 b)=some (.bool (!decide (a=b))):=by
 have:(a != b)=!decide (a=b):=by rw [Bool.eq_iff_iff]; simp
 simp only [v64,binV,isShift,if_true,Bool.false_eq_true,if_false,u64_neq,this]
@[simp] theorem v64_shl (k:IntKind) (n:Nat):binV .shl (v64 a) (.int k (n:Int))=some (v64 (a <<< n)):=by
 have h0:¬ ((n:Int) < 0):=by omega
 simp only [v64,binV,isShift,if_true,shiftV,if_neg h0,Int.toNat_natCast,IntKind.bits]
 rw [shift_u64]
@[simp] theorem v64_shr (k:IntKind) (n:Nat):binV .shr (v64 a) (.int k (n:Int))=some (v64 (a >>> n)):=by
 have h0:¬ ((n:Int) < 0):=by omega
 simp only [v64,binV,isShift,if_true,shiftV,if_neg h0,Int.toNat_natCast,IntKind.bits]
 congr 2
 have h1:(2:Int) ^ (min n 64)=((2 ^ (min n 64):Nat):Int):=by rw [Int.natCast_pow]; rfl
 rw [h1,Int.fdiv_eq_ediv_of_nonneg _ (Int.natCast_nonneg _),<- Int.natCast_ediv,BitVec.toNat_ushiftRight,Nat.shiftRight_eq_div_pow]
 congr 1
 rcases Nat.le_total n 64 with h | h
 .rw [Nat.min_eq_left h]
 .rw [Nat.min_eq_right h]
  have:=a.isLt
  rw [Nat.div_eq_of_lt this,Nat.div_eq_of_lt (Nat.lt_of_lt_of_le this (Nat.pow_le_pow_right (by omega) h))]
@[simp] theorem unV_neg (k:IntKind) (n:Int):unV .neg (.int k n)=some (.int k (k.wrap (0 - n))):=rfl
@[simp] theorem unV_not (b:Bool):unV .not (.bool b)=some (.bool !b):=rfl
@[simp] theorem v64_mul:binV .mul (v64 a) (v64 b)=some (v64 (mulU a b)):=by
 rw [mulU_eq]
 simp only [v64,binV,isShift,if_true,Bool.false_eq_true,if_false,intV]
 rw [<- Int.natCast_mul,wrap_u64_nat,BitVec.toNat_ofNat,BitVec.toNat_mul]
@[simp] theorem v64_neg:unV .neg (v64 a)=some (v64 (-a)):=by
 simp only [v64,unV]
 congr 2
 rw [IntKind.wrap_u64,BitVec.toNat_neg]
 have:=a.isLt
 congr 1
 omega
@[simp] theorem v64_lss:binV .lss (v64 a) (v64 b)=some (.bool (decide (nv a < nv b))):=by
 have h:((a.toNat:Int) < (b.toNat:Int)) ↔ nv a < nv b:=by simp [nv]
 exact congrArg (fun b=>some (Value.bool b)) (decide_eq_decide.2 h)
@[simp] theorem v64_leq:binV .leq (v64 a) (v64 b)=some (.bool (decide (nv a <= nv b))):=by
 have h:((a.toNat:Int) <= (b.toNat:Int)) ↔ nv a <= nv b:=by simp [nv]
 exact congrArg (fun b=>some (Value.bool b)) (decide_eq_decide.2 h)
@[simp] theorem v64_gtr:binV .gtr (v64 a) (v64 b)=some (.bool (decide (nv b < nv a))):=by
 have h:((a.toNat:Int) > (b.toNat:Int)) ↔ nv b < nv a:=by simp [nv]
 exact congrArg (fun b=>some (Value.bool b)) (decide_eq_decide.2 h)
@[simp] theorem v64_geq:binV .geq (v64 a) (v64 b)=some (.bool (decide (nv b <= nv a))):=by
 have h:((a.toNat:Int) >= (b.toNat:Int)) ↔ nv b <= nv a:=by simp [nv]
 exact congrArg (fun b=>some (Value.bool b)) (decide_eq_decide.2 h)
@[simp] theorem v64_shlV:binV .shl (v64 a) (v64 b)=some (v64 (a <<< nv b)):=v64_shl a .u64 b.toNat
@[simp] theorem v64_shrV:binV .shr (v64 a) (v64 b)=some (v64 (a >>> nv b)):=v64_shr a .u64 b.toNat
@[simp] theorem nv_ofNat (n:Nat):nv (BitVec.ofNat 64 n)=n % 18446744073709551616:=by simp [nv]
@[simp] theorem asNat_v64:asNat (.sc (v64 a))=some (nv a):=by simp [asNat,v64,nv]
@[simp] theorem conv_u64 (n:Int):Value.int .u64 (IntKind.u64.wrap n)=v64 (BitVec.ofInt 64 n):=by
 simp only [v64,IntKind.wrap_u64,BitVec.toNat_ofInt]
 congr 1
 omega
end
@[simp] theorem binV_int (op:BinOp) (k k':IntKind) (a b:Int):binV op (.int k a) (.int k' b)=if isShift op then shiftV op k a b else if k=k' then intV op k a b else none:=rfl
@[simp] theorem binV_str (op:BinOp) (a b:ByteArray):binV op (.string a) (.string b)=strV op a b:=rfl
section
variable (k:IntKind) (x y:Int)
@[simp] theorem intV_add:intV .add k x y=some (.int k (k.wrap (x+y))):=rfl
@[simp] theorem intV_sub:intV .sub k x y=some (.int k (k.wrap (x - y))):=rfl
@[simp] theorem intV_mul:intV .mul k x y=some (.int k (k.wrap (x * y))):=rfl
@[simp] theorem intV_quo:intV .quo k x y=if y=0 then none else some (.int k (k.wrap (x.tdiv y))):=rfl
@[simp] theorem intV_rem:intV .rem k x y=if y=0 then none else some (.int k (x.tmod y)):=rfl
@[simp] theorem intV_and:intV .and k x y=some (.int k (k.wrap (BitVec.ofInt k.bits x &&& BitVec.ofInt k.bits y).toNat)):=rfl
@[simp] theorem intV_or:intV .or k x y=some (.int k (k.wrap (BitVec.ofInt k.bits x ||| BitVec.ofInt k.bits y).toNat)):=rfl
@[simp] theorem intV_eql:intV .eql k x y=some (.bool (decide (x=y))):=by
 have:(x == y)=decide (x=y):=by rw [Bool.eq_iff_iff]; simp
 simp only [intV,this]
@[simp] theorem intV_neq:intV .neq k x y=some (.bool (!decide (x=y))):=by
 have:(x != y)=!decide (x=y):=by rw [Bool.eq_iff_iff]; simp
 simp only [intV,this]
@[simp] theorem intV_lss:intV .lss k x y=some (.bool (decide (x < y))):=rfl
@[simp] theorem intV_leq:intV .leq k x y=some (.bool (decide (x <= y))):=rfl
@[simp] theorem intV_gtr:intV .gtr k x y=some (.bool (decide (x > y))):=rfl
@[simp] theorem intV_geq:intV .geq k x y=some (.bool (decide (x >= y))):=rfl
end
attribute [simp] IntWalk.i64_in
@[simp] theorem asNat_sc (k:IntKind) (n:Int):asNat (.sc (.int k n))=if 0 <= n then some n.toNat else none:=rfl
def leOk:Env -> Env -> Prop
 | [],_=>True
 | (k,v) :: r,e=>e.get k=some v /\ leOk r e
theorem leOk_get:∀ {e e':Env},leOk e e' -> ∀ t v,e.get t=some v -> e'.get t=some v
 | (k,u) :: r,e',⟨h1,h2⟩,t,v,h=>by
  simp only [Env.get] at h
  split at h
  .rename_i e; subst e; simp at h; subst h; exact h1
  .exact leOk_get h2 t v h
theorem EnvLe.of {e e':Env} (h:leOk e e') (hd:e.get dslot=e'.get dslot):EnvLe e e':=⟨leOk_get h,hd⟩
attribute [simp] leOk
theorem AWp.scan {C:Cx} {x:ACode} {Q:APost} {env:Env} {h:AHeap} (n:Nat) (E:Nat -> Env) (H:Nat -> AHeap) (Z:Nat -> Prop) (hm:C.P.follows .mixedOrders=true) (z0:Z 0) (h0:EnvLe (E 0) env) (hH:h=H 0)
  (round:∀ i,i < n -> Z i -> bD C x (thenP (fun env' h'=>Z (i+1) /\ EnvLe (E (i+1)) env' /\ h'=H (i+1)) Q) (E i) (H i))
  (last:Z n -> bD C x (thenP (fun _ _=>False) Q) (E n) (H n)):AWp C (.loop x) Q env h:=by
 refine .loop (fun k env h=>∃ i,i <= n /\ k=n - i /\ Z i /\ EnvLe (E i) env /\ h=H i) (n0:=n) ⟨0,Nat.zero_le n,by simp,z0,h0,hH⟩ ?_
 rintro k env h ⟨i,hi,rfl,hz,he,rfl⟩
 refine AWp.weaken ?_ he
 by_cases hlt:i < n
 .refine (aB hm (round i hlt hz)).mono fun e env' h' hp=>?_
  cases e with
  | normal=>exact ⟨n - (i+1),by omega,i+1,by omega,rfl,hp.1,hp.2.1,hp.2.2⟩
  | _=>exact hp
 .have:i=n:=by omega
  subst this
  refine (aB hm (last hz)).mono fun e env' h' hp=>?_
  cases e with
  | normal=>exact hp.elim
  | _=>exact hp
theorem bx {P:Program} {G:Globs} {h0:AHeap} {rs:List ResA} {R:AEnd -> AHeap -> Prop} {env:Env} {h:AHeap} {v:AV} (hd:deferred env=some []) (hv:aN G env h rs=some v) (hR:R (.ret v) h):bw P G h0 rs R .ret env h:=by
 simp only [bw,hd]
 exact ⟨v,hv,.inl hR⟩
theorem retCut {P:Program} {G:Globs} {h0:AHeap} {rs:List ResA} {R:AEnd -> AHeap -> Prop} {env:Env} {h:AHeap} {v:AV} (n:Nat) (hd:deferred env=some []) (hv:aN G env h rs=some v) (h1:h0.length <= n) (h2:n <= h.length) (h3:v.strip.inb n=true)
  (h4:Cl h0 h n) (hR:R (.ret v.strip) (h.take n)):bw P G h0 rs R .ret env h:=by
 simp only [bw,hd]
 exact ⟨v,hv,.inr ⟨n,h1,h2,h3,h4,hR⟩⟩
end Go.Apx
end
section
namespace Go.Apx
def Env.pick (e:Env):List Nat -> Env
 | []=>[]
 | k :: r=>match e.get k with
  | some v=>(k,v) :: Env.pick e r
  | none=>Env.pick e r
attribute [simp] Env.pick
theorem AWp.cnt {C:Cx} {x:ACode} {Q:APost} {env:Env} {h:AHeap} (n:Nat) (ks:List Nat) (V:Nat -> Env) (H:Nat -> AHeap) (Z:Nat -> Prop) (hm:C.P.follows .mixedOrders=true)
  (z0:Z 0) (h0:EnvLe (V 0++env.pick ks) env) (hH:h=H 0)
  (round:∀ i,i < n -> Z i -> bD C x (thenP (fun env' h'=>Z (i+1) /\ EnvLe (V (i+1)++env.pick ks) env' /\ h'=H (i+1)) Q) (V i++env.pick ks) (H i))
  (last:Z n -> bD C x (thenP (fun _ _=>False) Q) (V n++env.pick ks) (H n)):AWp C (.loop x) Q env h :=
 AWp.scan n (fun i=>V i++env.pick ks) H Z hm z0 h0 hH round last
theorem AWp.keep {C:Cx} {x:ACode} {Q:APost} {env:Env} {h:AHeap} (ks:List Nat) (hle:EnvLe (env.pick ks) env) (hw:AWp C x Q (env.pick ks) h):AWp C x Q env h:=hw.weaken hle
theorem iterk {P:Program} {G:Globs} {f:FuncId} {args args':List AV} {h h':AHeap} {K K':AEnd -> AHeap -> Prop} (hw:∃ R,ACalls P G f args' h' R /\ ∀ r h',R r h' -> K' r h') (ha:args=args') (hh:h=h') (hk:∀ r h',K' r h' -> K r h') :
  ∃ R,ACalls P G f args h R /\ ∀ r h',R r h' -> K r h':=by
 subst ha hh
 obtain ⟨R,h1,h2⟩:=hw
 exact ⟨R,h1,fun r h' hr=>hk r h' (h2 r h' hr)⟩
theorem AWp.till {C:Cx} {x:ACode} {Q:APost} {env:Env} {h:AHeap} {S:Type} (s0:S) (m:S -> Nat) (ks:List Nat) (V:S -> Env) (H:S -> AHeap) (Z:S -> Prop) (hm:C.P.follows .mixedOrders=true)
  (z0:Z s0) (h0:EnvLe (V s0++env.pick ks) env) (hH:h=H s0)
  (round:∀ s,Z s -> bD C x (thenP (fun env' h'=>∃ s',m s' < m s /\ Z s' /\ EnvLe (V s'++env.pick ks) env' /\ h'=H s') Q) (V s++env.pick ks) (H s)):AWp C (.loop x) Q env h:=by
 refine .loop (fun k env' h'=>∃ s,k=m s /\ Z s /\ EnvLe (V s++env.pick ks) env' /\ h'=H s) (n0:=m s0) ⟨s0,rfl,z0,h0,hH⟩ ?_
 rintro k env' h' ⟨s,rfl,hz,he,rfl⟩
 refine AWp.weaken ?_ he
 refine (aB hm (round s hz)).mono fun e env' h' hp=>?_
 cases e with
 | normal=>obtain ⟨s',h1,h2,h3,h4⟩:=hp; exact ⟨m s',h1,s',rfl,h2,h3,h4⟩
 | _=>exact hp
theorem aP {C:Cx} {f:FuncId} {args args':List AV} {h h1 h0:AHeap} {r0:AEnd} {dst:Option Nat} {env:Env} {K:Env -> AHeap -> Prop} {Q:APost} (hc:ACalls C.P C.G f args' h1 (fun r h'=>r=r0 /\ h'=h0)) (ha:args=args') (hh:h=h1)
  (hk:goOn dst env K Q r0 h0):callW C f args dst env h K Q:=by
 subst ha hh
 exact ⟨_,hc,fun r h' ⟨e,e'⟩=>by subst e e'; exact hk⟩
theorem be {C:Cx} {f:FuncId} {args args':List AV} {h h1:AHeap} {R:AEnd -> AHeap -> Prop} {dst:Option Nat} {env:Env} {K:Env -> AHeap -> Prop} {Q:APost} (hc:ACalls C.P C.G f args' h1 R) (ha:args=args') (hh:h=h1)
  (hk:∀ r h',R r h' -> goOn dst env K Q r h'):callW C f args dst env h K Q:=by
 subst ha hh
 exact ⟨R,hc,hk⟩
theorem yieldk {C:Cx} {o:Nat} {args:List AV} {h:AHeap} {R:AEnd -> AHeap -> Prop} {dst:Option Nat} {env:Env} {K:Env -> AHeap -> Prop} {Q:APost} (hc:AYields C.P C.G o args h R)
  (hk:∀ r h',R r h' -> goOn dst env K Q r h'):yieldW C o args dst env h K Q:=⟨R,hc,hk⟩
abbrev AEx (P:Program) (G:Globs) (f:FuncId) (args:List AV) (h:AHeap) (r0:AEnd) (h0:AHeap):Prop:=ACalls P G f args h (fun r h'=>r=r0 /\ h'=h0)
theorem aI {e e':Env} (h:leOk e e' /\ e.get dslot=e'.get dslot):EnvLe e e':=EnvLe.of h.1 h.2
theorem aZ {P:Program} {G:Globs} {hh0:AHeap} {rs:List ResA} {env:Env} {h h0:AHeap} {v:AV} {r0:AEnd} (hd:deferred env=some []) (hv:aN G env h rs=some v) (hr:AEnd.ret v=r0) (hh:h=h0) :
  bw P G hh0 rs (fun r h'=>r=r0 /\ h'=h0) .ret env h:=bx hd hv ⟨hr,hh⟩
end Go.Apx
end
section
namespace Go.Apx
attribute [simp] Env.get_put
section
variable {α:Type} {h l:List α} {a b:α} {n:Nat}
@[simp] theorem getE_end:(h++a :: l)[h.length]?=some a:=by simp
@[simp] theorem getE_add:(h++l)[h.length+n]?=l[n]?:=by
 rw [List.getElem?_append_right (by omega)]; congr 1; omega
@[simp] theorem set_end:(h++a :: l).set h.length b=h++b :: l:=by simp
@[simp] theorem set_add:(h++l).set (h.length+n) b=h++l.set n b:=by
 rw [List.set_append_right _ _ (by omega)]; congr 2; omega
@[simp] theorem take_end:(h++l).take h.length=h:=by simp
end
section
variable {α:Type}
def bF:List (ByteArray × α) -> ByteArray -> Option α
 | [],_=>none
 | (k,v) :: r,s=>if s=k then some v else bF r s
def bE:List (ByteArray × α) -> ByteArray -> α -> List (ByteArray × α)
 | [],s,v=>[(s,v)]
 | (k,u) :: r,s,v=>if s=k then (s,v) :: r else (k,u) :: bE r s v
def aS (f:α -> AV) (l:List (ByteArray × α)):List (AV × AV):=l.map fun p=>(.sc (.string p.1),f p.2)
@[simp] theorem smap_nil (f:α -> AV):aS f []=[]:=rfl
@[simp] theorem amapFind_smap (f:α -> AV) (l:List (ByteArray × α)) (s:ByteArray):amapFind (.sc (.string s)) (aS f l)=some ((bF l s).map f):=by
 induction l with
 | nil=>rfl
 | cons p r ih =>
  obtain ⟨k,v⟩:=p
  simp only [aS,List.map_cons,amapFind,keyEq,bF] at ih ⊢
  by_cases e:s=k
  .subst e; simp
  .simp [e,ih]
@[simp] theorem amapSet_smap (f:α -> AV) (l:List (ByteArray × α)) (s:ByteArray) (v:α):amapSet (.sc (.string s)) (f v) (aS f l)=some (aS f (bE l s v)):=by
 induction l with
 | nil=>rfl
 | cons p r ih =>
  obtain ⟨k,u⟩:=p
  simp only [aS,List.map_cons,amapSet,keyEq,bE] at ih ⊢
  by_cases e:s=k
  .subst e; simp
  .simp [e,ih]
def iv (n:Int):AV:=.sc (.int .i64 n)
def bv (b:Bool):AV:=.sc (.bool b)
def uv (b:BitVec 64):AV:=.sc (v64 b)
def sv (b:ByteArray):AV:=.sc (.string b)
@[simp] theorem iv_app (n:Int):iv n=.sc (.int .i64 n):=rfl
@[simp] theorem bv_app (b:Bool):bv b=.sc (.bool b):=rfl
@[simp] theorem uv_app (b:BitVec 64):uv b=.sc (v64 b):=rfl
@[simp] theorem sv_app (b:ByteArray):sv b=.sc (.string b):=rfl
@[simp] theorem getD_iv (o:Option Int) (n:Int):(o.map iv).getD (.sc (.int .i64 n))=.sc (.int .i64 (o.getD n)):=by cases o <;> rfl
@[simp] theorem getD_bv (o:Option Bool) (n:Bool):(o.map bv).getD (.sc (.bool n))=.sc (.bool (o.getD n)):=by cases o <;> rfl
@[simp] theorem getD_uv (o:Option (BitVec 64)) (n:BitVec 64):(o.map uv).getD (.sc (v64 n))=.sc (v64 (o.getD n)):=by cases o <;> rfl
@[simp] theorem isSome_map' {α:Type} {f:α -> AV} (o:Option α):(o.map f).isSome=o.isSome:=by cases o <;> rfl
@[simp] theorem amapSet_iv (l:List (ByteArray × Int)) (s:ByteArray) (n:Int):amapSet (.sc (.string s)) (.sc (.int .i64 n)) (aS iv l)=some (aS iv (bE l s n)):=amapSet_smap iv l s n
@[simp] theorem amapSet_bv (l:List (ByteArray × Bool)) (s:ByteArray) (n:Bool):amapSet (.sc (.string s)) (.sc (.bool n)) (aS bv l)=some (aS bv (bE l s n)):=amapSet_smap bv l s n
@[simp] theorem amapSet_uv (l:List (ByteArray × BitVec 64)) (s:ByteArray) (n:BitVec 64):amapSet (.sc (.string s)) (.sc (v64 n)) (aS uv l)=some (aS uv (bE l s n)):=amapSet_smap uv l s n
theorem sfind_sset (l:List (ByteArray × α)) (s t:ByteArray) (v:α):bF (bE l s v) t=if t=s then some v else bF l t:=by
 induction l with
 | nil=>simp [bE,bF]
 | cons p r ih =>
  obtain ⟨k,u⟩:=p
  simp only [bE]
  by_cases e:s=k
  .subst e
   by_cases e2:t=s <;> simp [bF,e2]
  .simp only [if_neg e,bF,ih]
   by_cases e2:t=k
   .subst e2; simp [Ne.symm e]
   .simp [e2]
theorem sset_none (l:List (ByteArray × α)) (s:ByteArray) (v:α) (h:bF l s=none):bE l s v=l++[(s,v)]:=by
 induction l with
 | nil=>rfl
 | cons p r ih =>
  obtain ⟨k,u⟩:=p
  simp only [bF] at h
  split at h
  .cases h
  .rename_i e
   simp only [bE,if_neg e,ih h,List.cons_append]
end
def AVLe (u v:AV):Prop:=∀ I m x,AVRel I m u x -> AVRel I m v x
def ArgsLe (us vs:List AV):Prop:=∀ I m xs,AVRels I m us xs -> AVRels I m vs xs
theorem AVLe.refl (u:AV):AVLe u u:=fun _ _ _ h=>h
theorem AVLe.nil (j k:Nat):AVLe (.sl j [] .nil) (.sl k [] .nil):=fun I m x h=>by
 cases h with
 | slnil=>exact .slnil k
 | sl _ _ _ a cap vs hc=>exact absurd rfl hc
theorem ArgsLe.cons {u v:AV} {us vs:List AV} (h:AVLe u v) (hs:ArgsLe us vs):ArgsLe (u :: us) (v :: vs):=fun I m xs hx=>by
 obtain ⟨y,ys,rfl,h1,h2⟩:=AVRels.cons_iff.1 hx
 exact .cons (h I m y h1) (hs I m ys h2)
theorem ArgsLe.refl (us:List AV):ArgsLe us us:=fun _ _ _ h=>h
theorem ACalls.args {P:Program} {G:Globs} {f:FuncId} {args args':List AV} {h:AHeap} {R:AEnd -> AHeap -> Prop} (hc:ACalls P G f args' h R) (ha:ArgsLe args args'):ACalls P G f args h R :=
 ⟨hc.1,fun I m w vs hi hv=>hc.2 I m w vs hi (ha I m vs hv)⟩
def apd (k:Nat) (es:List AV) (t:Nat):AV:=.sl (if es=[] then 0 else k) es (if es=[] then .nil else .tok t)
def apdH (n:Nat):AHeap:=match n with | 0=>[] | n+1=>[.tok (n+1)]
@[simp] theorem apd_nil (k t:Nat):apd k [] t=.sl 0 [] .nil:=rfl
@[simp] theorem apd_cons (k t:Nat) (x:AV) (xs:List AV):apd k (x :: xs) t=.sl k (x :: xs) (.tok t):=rfl
@[simp] theorem isPend_apd (k t:Nat) (es:List AV):(apd k es t).isPend=false:=by cases es <;> rfl
@[simp] theorem one_apd (k t:Nat) (es:List AV):(apd k es t).one=true:=by cases es <;> rfl
@[simp] theorem cells_apd (k t:Nat) (es:List AV):(apd k es t).cells=[apd k es t]:=by cases es <;> rfl
@[simp] theorem apdH_zero:apdH 0=[]:=rfl
@[simp] theorem apdH_succ (n:Nat):apdH (n+1)=[.tok (n+1)]:=rfl
theorem len_tok {n:Nat} (h:n <= 4294967296):n <= maxLenA:=h
def aW (k:Nat) (es:List AV):AV:=.sl (if es=[] then 0 else k) es (if es=[] then .nil else .any)
@[simp] theorem isPend_grown (k:Nat) (es:List AV):(aW k es).isPend=false:=by cases es <;> rfl
@[simp] theorem one_grown (k:Nat) (es:List AV):(aW k es).one=true:=by cases es <;> rfl
@[simp] theorem cells_grown (k:Nat) (es:List AV):(aW k es).cells=[aW k es]:=by cases es <;> rfl
theorem Cl.app (h0 x:AHeap):Cl h0 (h0++x) h0.length:=by
 intro i o hi ho
 rw [List.getElem?_append_left hi] at ho
 exact .inl ho
@[simp] theorem retPost_normal {P:Program} {G:Globs} {h0:AHeap} {rs:List ResA} {R:AEnd -> AHeap -> Prop} {env:Env} {h:AHeap}:bw P G h0 rs R .normal env h=bw P G h0 rs R .ret env h:=rfl
theorem retD {P:Program} {G:Globs} {h0 x h1:AHeap} {rs:List ResA} {env:Env} {v:AV} {r0:AEnd} (hd:deferred env=some []) (hv:aN G env (h0++x) rs=some v) (h3:v.strip.inb h0.length=true)
  (hR:.ret v.strip=r0) (hh:h0=h1):bw P G h0 rs (fun r h'=>r=r0 /\ h'=h1) .ret env (h0++x) :=
 retCut h0.length hd hv (Nat.le_refl _) (by simp) h3 (Cl.app h0 x) ⟨hR,by simpa using hh⟩
theorem retG {P:Program} {G:Globs} {h0 h h1:AHeap} {rs:List ResA} {env:Env} {v:AV} {r0:AEnd} (n:Nat) (hd:deferred env=some []) (hv:aN G env h rs=some v) (hk:h0.length <= n) (hn:n <= h.length) (h3:v.strip.inb n=true) (hc:Cl h0 h n)
  (hR:.ret v.strip=r0) (hh:h.take n=h1):bw P G h0 rs (fun r h'=>r=r0 /\ h'=h1) .ret env h :=
 retCut n hd hv hk hn h3 hc ⟨hR,hh⟩
theorem retDefer {P:Program} {G:Globs} {h0 h:AHeap} {rs:List ResA} {R:AEnd -> AHeap -> Prop} {env:Env} (l:List AV) (hd:deferred env=some l) (hl:leaveP P G h0 rs R env l .ret h):bw P G h0 rs R .ret env h:=by
 simp only [bw,hd]; exact hl
theorem leaveD {P:Program} {G:Globs} {h0 x h1:AHeap} {rs:List ResA} {env:Env} {v:AV} {r0:AEnd} (hv:aN G env (h0++x) rs=some v) (h3:v.strip.inb h0.length=true)
  (hR:.ret v.strip=r0) (hh:h0=h1):leaveP P G h0 rs (fun r h'=>r=r0 /\ h'=h1) env [] .ret (h0++x) :=
 ⟨v,hv,.inr ⟨h0.length,Nat.le_refl _,by simp,h3,Cl.app h0 x,hR,by simpa using hh⟩⟩
theorem leaveIt {P:Program} {G:Globs} {h0 h:AHeap} {rs:List ResA} {R:AEnd -> AHeap -> Prop} {env:Env} {l:List AV} {o:Nat} {md:AMode} (hq:isQueue h o=true) (hl:leaveP P G h0 rs R env l md (h.set o .dead)):leaveP P G h0 rs R env (.it o :: l) md h:=by
 rw [leaveP]
 exact ⟨hq,hl⟩
@[simp] theorem evalRes_one {G:Globs} {env:Env} {h:AHeap} {r:ResA} {v:AV} (hr:aK G env h r=some v):aN G env h [r]=some v:=by simp [aN,hr]
end Go.Apx
end
section
namespace Go.Apx
def frz1 (i g k:Nat) (cs:List AV) (o g' off len:Nat) (rc:RCap):AV :=
 if o=i /\ g'=g /\ off+len * k <= cs.length /\ 0 < k then .sl k (rows k len (cs.drop off)) .any else .rf o g' off len rc
mutual
def AV.frz (i g k:Nat) (cs:List AV):AV -> AV
 | .sc v=>.sc v
 | .agg xs=>.agg (frzL i g k cs xs)
 | .tup xs=>.tup (frzL i g k cs xs)
 | .sl q es c=>.sl q (frzL i g k cs es) c
 | .ip v=>.ip (v.frz i g k cs)
 | .ptr o g' off=>.ptr o g' off
 | .rf o g' off len rc=>frz1 i g k cs o g' off len rc
 | .mp o=>.mp o
 | .it o=>.it o
 | .yld o=>.yld o
 | .fn f a b=>.fn f (frzL i g k cs a) (frzL i g k cs b)
 | .ifc t v=>.ifc t (v.frz i g k cs)
 | .pend n=>.pend n
def frzL (i g k:Nat) (cs:List AV):List AV -> List AV
 | []=>[]
 | v :: r=>v.frz i g k cs :: frzL i g k cs r
end
section
variable {i g k:Nat} {cs:List AV}
theorem frzL_eq:∀ l,frzL i g k cs l=l.map (AV.frz i g k cs)
 | []=>rfl
 | v :: r=>by simp [frzL,frzL_eq r]
theorem frz1_cells (o g' off len:Nat) (rc:RCap):(frz1 i g k cs o g' off len rc).cells=[frz1 i g k cs o g' off len rc]:=by
 unfold frz1; split <;> rfl
theorem frz1_one (o g' off len:Nat) (rc:RCap):(frz1 i g k cs o g' off len rc).one=true:=by
 unfold frz1; split <;> rfl
theorem frz_cells (v:AV):(v.frz i g k cs).cells=v.cells.map (AV.frz i g k cs):=by
 cases v <;> first
  | simp [AV.frz,AV.cells,frzL_eq]; done
  | exact frz1_cells ..
theorem frz_one (v:AV):(v.frz i g k cs).one=v.one:=by
 cases v <;> first | rfl | exact frz1_one ..
theorem flatMap_frz (es:List AV):(es.map (AV.frz i g k cs)).flatMap AV.cells=(es.flatMap AV.cells).map (AV.frz i g k cs):=by
 induction es with
 | nil=>rfl
 | cons e es ih=>simp [ih,frz_cells]
theorem AVRel.frz {I I':Imm} {m m':aQ} (hI:ImmLe I I') (hm:LocsLe m m')
  (hrf:∀ o g' off len rc x,AVRel I m (.rf o g' off len rc) x -> AVRel I' m' (frz1 i g k cs o g' off len rc) x) {v:AV} {x:Value} (h:AVRel I m v x):AVRel I' m' (v.frz i g k cs) x:=by
 induction h with
 | sc x=>exact .sc x
 | agg cs vs hl h1 h ih =>
  simp only [AV.frz,frzL_eq]
  have:=map_rel hl ih
  exact .agg _ vs this.1 (fun c hc=>by obtain ⟨d,hd,rfl⟩:=List.mem_map.1 hc; rw [frz_one]; exact h1 d hd) this.2
 | tup cs vs hl h ih =>
  simp only [AV.frz,frzL_eq]
  have:=map_rel hl ih
  exact .tup _ vs this.1 this.2
 | slnil k=>exact .slnil k
 | sl q es c a cap vs hc hle hk hw h1 hl h hI2 hsp hcap ih =>
  simp only [AV.frz,frzL_eq]
  have:=map_rel hl ih
  rw [<- flatMap_frz] at this
  have hlen:(es.map (AV.frz i g k cs)).length=es.length:=by simp
  rw [<- hlen] at hle hcap ⊢
  refine .sl q _ _ a cap vs hc hle hk (fun e he=>?_) (fun c hc=>?_) this.1 this.2 (fun j y hy=>hI _ _ _ (hI2 j y hy)) (fun hne=>hsp (by simpa using hne)) (hcap.mono hm)
  .obtain ⟨d,hd,rfl⟩:=List.mem_map.1 he; rw [frz_cells]; simpa using hw d hd
  .rw [flatMap_frz] at hc
   obtain ⟨d,hd,rfl⟩:=List.mem_map.1 hc; rw [frz_one]; exact h1 d hd
 | ip v a vs h1 hl h hI2 hsp ih =>
  have:=map_rel hl ih
  rw [<- frz_cells] at this
  exact .ip _ a vs (fun c hc=>by rw [frz_cells] at hc; obtain ⟨d,hd,rfl⟩:=List.mem_map.1 hc; rw [frz_one]; exact h1 d hd) this.1 this.2 (fun j y hy=>hI _ _ _ (hI2 j y hy)) hsp
 | ptr o g off a ho h=>exact AVRel.mono hI hm (AVRel.ptr (I:=I) o g off a ho h)
 | rf o g off len rc a cap ho hle hf h=>exact hrf o g off len rc _ (AVRel.rf o g off len rc a cap ho hle hf h)
 | mp o r ho h=>exact AVRel.mono hI hm (AVRel.mp (I:=I) o r ho h)
 | it o r ho h=>exact AVRel.mono hI hm (AVRel.it (I:=I) o r ho h)
 | yld o r ho h=>exact AVRel.mono hI hm (AVRel.yld (I:=I) o r ho h)
 | fn f first captured fs cs hl hl' h h' ih ih' =>
  simp only [AV.frz,frzL_eq]
  have h1:=map_rel hl ih
  have h2:=map_rel hl' ih'
  exact .fn f _ _ fs cs h1.1 h2.1 h1.2 h2.2
 | ifc t v x h ih=>exact .ifc t _ x ih
end
theorem Inv.freeze {G:Globs} {I:Imm} {m:aQ} {h:AHeap} {w:World} (hv:Inv G I m h w) {i g:Nat} {cs:List AV} (ho:h[i]?=some (.cells g cs)) (k:Nat) :
  ∃ I',Inv G I' (m.set i .dead) (h.set i .dead) w /\ (∀ q,Trans q I m w I' (m.set i .dead) w) /\ ImmLe I I' /\ LocsLe m (m.set i .dead) /\
   (∀ v x,AVRel I m v x -> AVRel I' (m.set i .dead) (v.frz i g k cs) x):=by
 have hil:i < h.length:=(List.getElem?_eq_some_iff.1 ho).1
 have him:i < m.length:=by rw [hv.len]; exact hil
 obtain ⟨b,lo,n,vs,e,hle,hvs,hone,hcv,hall⟩:=hv.obj i _ m[i] ho (List.getElem?_eq_getElem him)
 have hl:m[i]?=some (.cells g b lo n):=by rw [List.getElem?_eq_getElem him,e]
 let I':Imm:=fun b' o=>if b'=b /\ lo <= o /\ o < lo+n then w.cell? ⟨b',o,none⟩ else I b' o
 have hII:ImmLe I I':=by
  intro b' o y hy
  simp only [I']
  split
  .exact hv.imm b' o y hy
  .exact hy
 have hmm:LocsLe m (m.set i .dead):=by
  intro j l hj
  rw [List.getElem?_set]
  by_cases hij:i=j
  .subst hij; simp [him,LocLe.dead]
  .simp [hij,hj,LocLe.refl]
 have hnot:∀ (j:Nat) (l:Loc) (b' o:Nat),(m.set i .dead)[j]?=some l -> l.owns b' o -> j ≠ i /\ m[j]?=some l:=by
  intro j l b' o hj hown
  rw [List.getElem?_set] at hj
  by_cases hij:i=j
  .subst hij
   simp [him] at hj
   subst hj
   exact hown.elim
  .simp [hij] at hj
   exact ⟨Ne.symm hij,hj⟩
 refine ⟨I',?_,fun q=>?_,hII,hmm,fun v x hx=>hx.frz hII hmm ?_⟩
 .exact
  {len:=by simp [hv.len]
   obj:=fun j o l hj hlj=>by
    rw [List.getElem?_set] at hj hlj
    by_cases hij:i=j
    .subst hij
     simp [hil] at hj
     simp [him] at hlj
     subst hj hlj
     rfl
    .simp [hij] at hj hlj
     exact (hv.obj j o l hj hlj).mono hII hmm (fun _ _ _=>⟨rfl,rfl⟩) (fun _ _=>rfl)
   imm:=fun b' o v hx=>by
    simp only [I'] at hx
    split at hx
    .exact hx
    .exact hv.imm b' o v hx
   disj:=fun j j' l l' b' o h1 h2 o1 o2=>hv.disj j j' l l' b' o (hnot j l b' o h1 o1).2 (hnot j' l' b' o h2 o2).2 o1 o2
   immd:=fun j l b' o h1 o1=>by
    obtain ⟨hne,h1'⟩:=hnot j l b' o h1 o1
    simp only [I']
    split
    .rename_i hc
     obtain ⟨rfl,h3,h4⟩:=hc
     exact (hne (hv.disj j i l _ b' o h1' hl o1 ⟨rfl,h3,h4⟩)).elim
    .exact hv.immd j l b' o h1' o1
   lt:=fun j l b' o h1 o1=>hv.lt j l b' o (hnot j l b' o h1 o1).2 o1
   glob:=fun g' v hg m'=>(hv.glob g' v hg []).mono hII (by intro q l hq; simp at hq) }
 .exact
  {os:=rfl,tape:=rfl,output:=rfl,size:=Nat.le_refl _
   cell:=fun _ _ _ _=>rfl
   froz:=fun _ _=>rfl
   blk:=fun _ _ _=>rfl
   imm:=hII
   own:=fun j l b' o h1 o1 _=>⟨j,l,(hnot j l b' o h1 o1).2,o1⟩
   immNew:=fun b' o hb hx=>by
    simp only [I'] at hx
    split at hx
    .rename_i hc
     obtain ⟨rfl,h3,h4⟩:=hc
     exact .inr ⟨i,_,hl,rfl,h3,h4⟩
    .exact .inl hx
   loc:=fun j l _ hj=>hmm j l hj }
 .intro o g' off len rc x hx
  unfold frz1
  split
  .rename_i hc
   obtain ⟨rfl,rfl,hlen,hk⟩:=hc
   cases hx with
   | rf _ _ _ _ _ a cap ho' hle' hf hp =>
    obtain ⟨r1,r2,r3⟩:=rows_spec hk len (cs.drop off) (by rw [List.length_drop]; omega) (fun c hc=>hone c (List.mem_of_mem_drop hc))
    have hrel:AVRels I' (m.set o .dead) ((rows k len (cs.drop off)).flatMap AV.cells) ((vs.drop off).take (len * k)):=by
     rw [r3]
     exact ((hvs.drop off).take (len * k)).mono hII hmm
    have hvl:((vs.drop off).take (len * k)).length=len * k:=by rw [List.length_take,List.length_drop]; have:=hvs.1; omega
    have hle2:(rows k len (cs.drop off)).length <= cap:=by rw [r1]; exact hle'
    rw [show Value.slice (some a) len cap=Value.slice (some a) (rows k len (cs.drop off)).length cap by rw [r1]]
    refine .sl k _ .any a cap ((vs.drop off).take (len * k)) (by simp) hle2 hk r2 (fun c hc=>?_) hrel.1 hrel.2 (fun q y hy=>?_) (fun hne=>?_) trivial
    .rw [r3] at hc
     exact hone c (List.mem_of_mem_drop (List.mem_of_mem_take hc))
    .have hq:q < len * k:=by have:=(List.getElem?_eq_some_iff.1 hy).1; omega
     have hl0:len ≠ 0:=by intro e; subst e; simp at hq
     have ha:=(hp hl0 _ _ _ _ hl).2 rfl
     subst ha
     rw [List.getElem?_take,if_pos hq,List.getElem?_drop] at hy
     have hlt:=(List.getElem?_eq_some_iff.1 hy).1
     have:=hvs.1
     have hI3:I' b (lo+off+q)=w.cell? ⟨b,lo+off+q,none⟩:=if_pos ⟨rfl,by omega,by omega⟩
     show I' b (lo+off+q)=some y
     rw [hI3]
     have:=hcv (off+q) y hy
     rw [show lo+(off+q)=lo+off+q by omega] at this
     exact this
    .have hl0:len ≠ 0:=by intro e; subst e; simp [rows] at hne
     have ha:=(hp hl0 _ _ _ _ hl).2 rfl
     subst ha
     rfl
  .exact AVRel.mono hII hmm hx
section
variable {P:Program} {G:Globs} {f:FuncId} {args:List AV} {h H:AHeap} {v:AV}
end
end Go.Apx
end
section
namespace Go.Apx
theorem ar {α:Type} {l:List α} {i:Nat} {x:α} (h:l[i]?=some x):i < l.length:=(List.getElem?_eq_some_iff.1 h).1
mutual
def AV.pur:AV -> Bool
 | .sc _=>true
 | .agg cs=>purL cs
 | .tup cs=>purL cs
 | .sl _ es c=>purL es && (match c with | .tok _=>false | _=>true)
 | .ip v=>v.pur
 | .fn _ a b=>purL a && purL b
 | .ifc _ v=>v.pur
 | .pend _=>true
 | _=>false
def purL:List AV -> Bool
 | []=>true
 | v :: r=>v.pur && purL r
end
mutual
theorem pur_strip:∀ {v:AV},v.pur=true -> v.strip=v
 | .sc _,_=>rfl
 | .agg cs,h=>by simp only [AV.pur] at h; simp only [AV.strip,purL_strip h]
 | .tup cs,h=>by simp only [AV.pur] at h; simp only [AV.strip,purL_strip h]
 | .sl _ es c,h=>by
  simp only [AV.pur,Bool.and_eq_true] at h
  simp only [AV.strip,purL_strip h.1]
  cases c <;> first | rfl | simp at h
 | .ip v,h=>by simp only [AV.pur] at h; simp only [AV.strip,pur_strip h]
 | .fn _ a b,h=>by simp only [AV.pur,Bool.and_eq_true] at h; simp only [AV.strip,purL_strip h.1,purL_strip h.2]
 | .ifc _ v,h=>by simp only [AV.pur] at h; simp only [AV.strip,pur_strip h]
 | .pend _,_=>rfl
 | .ptr _ _ _,h=>by simp [AV.pur] at h
 | .rf _ _ _ _ _,h=>by simp [AV.pur] at h
 | .mp _,h=>by simp [AV.pur] at h
 | .it _,h=>by simp [AV.pur] at h
 | .yld _,h=>by simp [AV.pur] at h
theorem purL_strip:∀ {l:List AV},purL l=true -> aj l=l
 | [],_=>rfl
 | v :: r,h=>by simp only [purL,Bool.and_eq_true] at h; simp only [aj,pur_strip h.1,purL_strip h.2]
end
mutual
theorem pur_inb (n:Nat):∀ {v:AV},v.pur=true -> v.inb n=true
 | .sc _,_=>rfl
 | .agg cs,h=>by simp only [AV.pur] at h; simp only [AV.inb,purL_inb n h]
 | .tup cs,h=>by simp only [AV.pur] at h; simp only [AV.inb,purL_inb n h]
 | .sl _ es c,h=>by
  simp only [AV.pur,Bool.and_eq_true] at h
  simp only [AV.inb,purL_inb n h.1,Bool.true_and]
  cases c <;> first | rfl | simp at h
 | .ip v,h=>by simp only [AV.pur] at h; simp only [AV.inb,pur_inb n h]
 | .fn _ a b,h=>by simp only [AV.pur,Bool.and_eq_true] at h; simp only [AV.inb,purL_inb n h.1,purL_inb n h.2]; rfl
 | .ifc _ v,h=>by simp only [AV.pur] at h; simp only [AV.inb,pur_inb n h]
 | .pend _,_=>rfl
 | .ptr _ _ _,h=>by simp [AV.pur] at h
 | .rf _ _ _ _ _,h=>by simp [AV.pur] at h
 | .mp _,h=>by simp [AV.pur] at h
 | .it _,h=>by simp [AV.pur] at h
 | .yld _,h=>by simp [AV.pur] at h
theorem purL_inb (n:Nat):∀ {l:List AV},purL l=true -> inbL n l=true
 | [],_=>rfl
 | v :: r,h=>by simp only [purL,Bool.and_eq_true] at h; simp only [inbL,pur_inb n h.1,purL_inb n h.2]; rfl
end
theorem purL_map {α:Type} {f:α -> AV} (h:∀ a,(f a).pur=true):∀ l:List α,purL (l.map f)=true
 | []=>rfl
 | a :: l=>by simp only [List.map_cons,purL,h a,purL_map h l]; rfl
@[simp] theorem pur_sc (v:Value):(AV.sc v).pur=true:=rfl
theorem strip_apd (k:Nat) (es es':List AV) (T:Nat) (h:aj es=es'):(apd k es T).strip=aW k es':=by
 subst h
 cases es with
 | nil=>rfl
 | cons a es=>simp only [apd_cons,AV.strip]; rfl
def Low (base:Nat) (H H':AHeap):Prop:=∀ (z:Nat) (x:AObj),z < base -> H[z]?=some x -> H'[z]?=some x
theorem Low.refl (b:Nat) (H:AHeap):Low b H H:=fun _ _ _ h=>h
theorem Low.trans {b:Nat} {H H' H'':AHeap} (h:Low b H H') (h':Low b H' H''):Low b H H'':=fun z x hz hx=>h' z x hz (h z x hz hx)
theorem Low.app (b:Nat) (H K:AHeap):Low b H (H++K):=fun z x _ h=>by rw [List.getElem?_append_left (List.getElem?_eq_some_iff.1 h).1]; exact h
theorem Low.set {b:Nat} {H:AHeap} {o:Nat} {x:AObj} (ho:b <= o):Low b H (H.set o x):=fun z y hz h=>by
 rw [List.getElem?_set_ne (by omega)]; exact h
theorem Low.mono {b b':Nat} {H H':AHeap} (h:Low b H H') (hb:b' <= b):Low b' H H':=fun z x hz hx=>h z x (Nat.lt_of_lt_of_le hz hb) hx
theorem Low.cl {h H:AHeap} (hl:Low h.length h H):Cl h H h.length:=by
 intro i o hi ho
 have:h[i]?=some h[i]:=by simp [hi]
 have h2:=hl i h[i] hi this
 rw [ho] at h2
 left
 rw [<- h2] at this
 exact this
theorem Low.take {h H:AHeap} (hl:Low h.length h H):H.take h.length=h:=by
 refine List.ext_getElem? fun i=>?_
 by_cases hi:i < h.length
 .rw [List.getElem?_take,if_pos hi,hl i h[i] hi (by simp [hi])]; simp [hi]
 .rw [List.getElem?_take,if_neg hi,List.getElem?_eq_none (by omega)]
theorem Low.len {h H:AHeap} (hl:Low h.length h H):h.length <= H.length:=by
 rcases Nat.lt_or_ge H.length h.length with h1 | h1
 .have:=hl H.length h[H.length] h1 (by simp [h1])
  simp at this
 .exact h1
def apG (H:AHeap) (n m T:Nat):AHeap:=if m=0 then H else if n=0 then H++[.tok m] else H.set T (.tok (n+m))
def apT (H:AHeap) (n m T:Nat):Nat:=if m=0 then T else if n=0 then H.length else T
theorem appG {C:Cx} {k b:Nat} {x y:Opd} {d:Option Nat} {env:Env} {H:AHeap} {K:Env -> AHeap -> Prop} (es xs:List AV) (T:Nat) (hx:aD C.G env x=some (apd k es T)) (hy:(aD C.G env y).bind (elems H k)=some xs)
  (hT:es ≠ [] -> H[T]?=some (.tok es.length)) (hm:es.length+xs.length <= maxLenA) (hK:K (aY env d (apd k (es++xs) (apT H es.length xs.length T))) (apG H es.length xs.length T)):appW C k b x y d env H K:=by
 unfold appW
 by_cases hxs:xs=[]
 .subst hxs
  have he:aA C.G env H (.append k b x y)=some (apd k es T,H):=by
   simp only [aA,hx,hy]
   cases es with
   | nil=>simp [apd_nil]
   | cons a es=>simp [apd_cons]
  rw [he]
  simpa [apG,apT] using hK
 .have hl:xs.length ≠ 0:=by simpa using hxs
  cases es with
  | nil =>
   have he:aA C.G env H (.append k b x y)=some (.sl k xs (.tok H.length),H++[.tok xs.length]):=by
    simp only [aA,hx,hy,apd_nil]
    simp at hm
    simp [hxs,hm]
   rw [he]
   cases xs with
   | nil=>exact (hxs rfl).elim
   | cons a xs=>simpa [apG,apT] using hK
  | cons a es =>
   have he:aA C.G env H (.append k b x y)=some (.sl k (a :: es++xs) (.tok T),H.set T (.tok ((a :: es).length+xs.length))):=by
    simp only [aA,hx,hy,apd_cons]
    simp at hm
    have:=hT (by simp)
    simp at this
    simp [hxs,hm,this]
   rw [he]
   simp only [evW_some]
   simpa [apG,apT,hl] using hK
def apf (k:Nat) (es:List AV) (T:Nat):AV:=.sl k es (if es=[] then .full else .tok T)
@[simp] theorem apf_nil (k T:Nat):apf k [] T=.sl k [] .full:=rfl
@[simp] theorem apf_cons (k T:Nat) (x:AV) (xs:List AV):apf k (x :: xs) T=.sl k (x :: xs) (.tok T):=rfl
@[simp] theorem isPend_apf (k T:Nat) (es:List AV):(apf k es T).isPend=false:=rfl
@[simp] theorem one_apf (k T:Nat) (es:List AV):(apf k es T).one=true:=rfl
@[simp] theorem cells_apf (k T:Nat) (es:List AV):(apf k es T).cells=[apf k es T]:=rfl
def apfV (k:Nat) (es:List AV):AV:=.sl k es (if es=[] then .full else .any)
@[simp] theorem isPend_apfV (k:Nat) (es:List AV):(apfV k es).isPend=false:=rfl
@[simp] theorem one_apfV (k:Nat) (es:List AV):(apfV k es).one=true:=rfl
@[simp] theorem cells_apfV (k:Nat) (es:List AV):(apfV k es).cells=[apfV k es]:=rfl
theorem strip_apf (k:Nat) (es es':List AV) (T:Nat) (h:aj es=es'):(apf k es T).strip=apfV k es':=by
 subst h
 cases es with
 | nil=>rfl
 | cons a es=>rfl
theorem pur_apfV (k:Nat) {es:List AV} (h:purL es=true):(apfV k es).pur=true:=by
 unfold apfV
 simp only [AV.pur,h]
 by_cases e:es=[]
 .rw [if_pos e]; rfl
 .rw [if_neg e]; rfl
theorem appF {C:Cx} {k b:Nat} {x y:Opd} {d:Option Nat} {env:Env} {H:AHeap} {K:Env -> AHeap -> Prop} (es xs:List AV) (T:Nat) (hx:aD C.G env x=some (apf k es T)) (hy:(aD C.G env y).bind (elems H k)=some xs)
  (hT:es ≠ [] -> H[T]?=some (.tok es.length)) (hm:es.length+xs.length <= maxLenA) (hK:K (aY env d (apf k (es++xs) (apT H es.length xs.length T))) (apG H es.length xs.length T)):appW C k b x y d env H K:=by
 unfold appW
 by_cases hxs:xs=[]
 .subst hxs
  have he:aA C.G env H (.append k b x y)=some (apf k es T,H):=by
   simp only [aA,hx,hy]
   cases es with
   | nil=>simp [apf_nil]
   | cons a es=>simp [apf_cons]
  rw [he]
  simpa [apG,apT] using hK
 .have hl:xs.length ≠ 0:=by simpa using hxs
  cases es with
  | nil =>
   have he:aA C.G env H (.append k b x y)=some (.sl k xs (.tok H.length),H++[.tok xs.length]):=by
    simp only [aA,hx,hy,apf_nil]
    simp at hm
    simp [hxs,hm]
   rw [he]
   cases xs with
   | nil=>exact (hxs rfl).elim
   | cons a xs=>simpa [apG,apT] using hK
  | cons a es =>
   have he:aA C.G env H (.append k b x y)=some (.sl k (a :: es++xs) (.tok T),H.set T (.tok ((a :: es).length+xs.length))):=by
    simp only [aA,hx,hy,apf_cons]
    simp at hm
    have:=hT (by simp)
    simp at this
    simp [hxs,hm,this]
   rw [he]
   simp only [evW_some]
   simpa [apG,apT,hl] using hK
theorem apG_tok {H:AHeap} {n m T:Nat} (hT:n ≠ 0 -> H[T]?=some (.tok n)) (hs:n+m ≠ 0):(apG H n m T)[apT H n m T]?=some (.tok (n+m)):=by
 unfold apG apT
 by_cases hm:m=0
 .subst hm; simpa using hT (by omega)
 .by_cases hn:n=0
  .subst hn; simp [hm]
  .rw [if_neg hm,if_neg hm,if_neg hn,if_neg hn,List.getElem?_set_self (ar (hT hn))]
theorem apG_len (H:AHeap) (n m T:Nat):H.length <= (apG H n m T).length:=by unfold apG; split <;> (try split) <;> simp
theorem Low.apG {b:Nat} {H:AHeap} {n m T:Nat} (hT:n ≠ 0 -> b <= T) (hb:b <= H.length):Low b H (apG H n m T):=by
 unfold Go.Apx.apG
 split
 .exact Low.refl _ _
 .split
  .exact Low.app _ _ _
  .rename_i hn; exact Low.set (hT hn)
theorem retP {P:Program} {G:Globs} {h h1 H:AHeap} {rs:List ResA} {env:Env} {v v':AV} {r0:AEnd} (hd:deferred env=some []) (hv:aN G env H rs=some v) (hs:v.strip=v') (hp:v'.pur=true) (hl:Low h.length h H) (hr:AEnd.ret v'=r0) (hh:h=h1) :
  bw P G h rs (fun r h'=>r=r0 /\ h'=h1) .ret env H:=by
 subst hs hh hr
 refine retCut (v:=v) h.length hd hv (Nat.le_refl _) hl.len (pur_inb _ hp) hl.cl ?_
 rw [hl.take]
 exact ⟨rfl,rfl⟩
end Go.Apx
end
section
namespace Go.Apx
open Go.RowKit (Below)
theorem Inv.below {G:Globs} {I:Imm} {m:aQ} {h:AHeap} {w w':World} (hv:Inv G I m h w) (hb:Below w.heap.size w w'):Inv G I m h w' /\ ∀ k,Trans k I m w I m w':=by
 constructor
 .exact
  {len:=hv.len
   obj:=fun j o l hj hl=>(hv.obj j o l hj hl).mono (.refl I) (.refl m) (fun b p hp=>⟨hb.cell (p:=⟨b,p,none⟩) (hv.lt j l b p hl hp),hb.frozen (p:=⟨b,p,none⟩) (hv.lt j l b p hl hp)⟩)
    (fun b e=>by subst e; exact hb.block b (hv.lt j _ b 0 hl rfl))
   imm:=fun b o v hx=>by rw [hb.cell (p:=⟨b,o,none⟩) (hv.imm_lt hx)]; exact hv.imm b o v hx
   disj:=hv.disj
   immd:=hv.immd
   lt:=fun j l b o hl hp=>Nat.lt_of_lt_of_le (hv.lt j l b o hl hp) hb.size
   glob:=hv.glob }
 .intro k
  exact
  {os:=hb.os,tape:=hb.tape,output:=hb.output,size:=hb.size
   cell:=fun b o hlt _=>hb.cell (p:=⟨b,o,none⟩) hlt
   froz:=fun a ha=>hb.frozen ha
   blk:=fun b hlt _=>hb.block b hlt
   imm:=.refl I
   own:=fun i l b o hl ho _=>⟨i,l,hl,ho⟩
   immNew:=fun b o _ hn=>.inl hn
   loc:=fun i l _ hl=>⟨l,hl,.refl l⟩ }
end Go.Apx
end
