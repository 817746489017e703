/- Readings of statements, words and pairs; the tied variables. -/
import Derived.Test.YtmgajcmigkcmdaaGreatDoorND
import Derived.Test.YtmgajcmigkcmdaaGreatDoorAmD
import Derived.Test.YtmgajcmigkcmdaaGreatDoorNC
import Derived.LaidHandle
import Derived.Lib.SmallJoins
import Derived.Test.YtmgajcmigkcmdaaGreatDoorCards
import Derived.Test.YtmgajcmigkcmdaaGreatDoorTie
set_option linter.unusedVariables false
set_option linter.unusedSimpArgs false
set_option linter.unnecessarySimpa false
namespace Go.Apx
open Go.Proofs
open Go.ChangeShapes Go.WideShapes Go.ChangeAt Go.RowKit
set_option maxRecDepth 100000
section
variable {P:Program} {W:World} {fuel:Nat} {t e:TypeId}
theorem cells_two {l:List Value} {a b:Nat}:l.drop a=(l.drop a).take b++l.drop (a+b):=by
 conv=>lhs; rw [<- List.take_append_drop b (l.drop a)]
 rw [List.drop_drop]
theorem Rd.struct4 {α β γ δ:Type} {g:α -> AV} {sz:α -> Nat} {ok:α -> Prop} {g':β -> AV} {sz':β -> Nat} {ok':β -> Prop} {g2:γ -> AV} {sz2:γ -> Nat} {ok2:γ -> Prop} {g3:δ -> AV} {sz3:δ -> Nat} {ok3:δ -> Prop} {f0 f1 f2 f3:Field} {c0 c1 c2 c3:Nat}
  (ht:P.underlying t=some (.struct #[f0,f1,f2,f3])) (ho:f0.offset=0) (ho1:f1.offset=c0) (ho2:f2.offset=c0+c1) (ho3:f3.offset=c0+c1+c2)
  (hc0:P.cellsOf f0.type=c0) (hc1:P.cellsOf f1.type=c1) (hc2:P.cellsOf f2.type=c2) (hc3:P.cellsOf f3.type=c3) (hct:P.cellsOf t=c0+c1+c2+c3)
  (h0:∀ n,n < fuel -> Rd P W n f0.type g sz ok) (h1:∀ n,n < fuel -> Rd P W n f1.type g' sz' ok') (h2:∀ n,n < fuel -> Rd P W n f2.type g2 sz2 ok2) (h3:∀ n,n < fuel -> Rd P W n f3.type g3 sz3 ok3) :
  Rd P W fuel t (fun a:α × β × γ × δ=>.agg ((g a.1).cells++((g' a.2.1).cells++((g2 a.2.2.1).cells++(g3 a.2.2.2).cells)))) (fun a=>sz a.1+sz' a.2.1+sz2 a.2.2.1+sz3 a.2.2.2+1) (fun a=>ok a.1 /\ ok' a.2.1 /\ ok2 a.2.2.1 /\ ok3 a.2.2.2):=by
 intro H enc cs d ps h
 obtain ⟨xs,n,rfl,e,hlen,hxl,hx⟩:=DataW.trod_struct ht h
 cases e
 have e0:=hx 0 f0 rfl
 have e1:=hx 1 f1 rfl
 have e2:=hx 2 f2 rfl
 have e3:=hx 3 f3 rfl
 rw [ho,hc0,List.drop_zero] at e0
 rw [ho1,hc1] at e1
 rw [ho2,hc2] at e2
 rw [ho3,hc3,List.take_of_length_le (by simp; omega)] at e3
 match xs,hxl,e0,e1,e2,e3 with
 | [(d0,p0),(d1,p1),(d2,p2),(d3,p3)],_,e0,e1,e2,e3 =>
  obtain ⟨a,a1,a2,a3⟩:=h0 n (by omega) H enc _ d0 p0 e0
  obtain ⟨b,b1,b2,b3⟩:=h1 n (by omega) H enc _ d1 p1 e1
  obtain ⟨c,q1,q2,q3⟩:=h2 n (by omega) H enc _ d2 p2 e2
  obtain ⟨u,u1,u2,u3⟩:=h3 n (by omega) H enc _ d3 p3 e3
  refine ⟨(a,b,c,u),⟨a1,b1,q1,u1⟩,?_,by simp [bulk,bulkL]; omega⟩
  have:=a2.append (b2.append (q2.append u2))
  rw [<- cells_two,<- cells_two,List.take_append_drop] at this
  exact this
end
abbrev capB (b:Bool):Cap:=if b=true then .any else .nil
theorem sum_ge {α:Type} (l:List α) (sz:α -> Nat) (h:∀ a,1 <= sz a):l.length <= (l.map sz).sum:=by
 induction l with
 | nil=>simp
 | cons x l ih=>have:=h x; simp only [List.map_cons,List.sum_cons,List.length_cons]; omega
def szW (p:List ByteArray × Bool):Nat:=p.1.length+(p.1.map (·.size)).sum+1
theorem sum_szS (l:List ByteArray):(l.map fun s=>s.size+1).sum=l.length+(l.map (·.size)).sum:=by
 induction l with
 | nil=>rfl
 | cons a l ih=>simp only [List.map_cons,List.sum_cons,List.length_cons,ih]; omega
theorem rd_words (W:World) (fuel:Nat):Rd PP W fuel 28 (fun p:List ByteArray × Bool=>.sl 1 (p.1.map sv) (capB p.2)) szW (fun p=>p.2=false -> p.1=[]) :=
 (Rd.slice (sz:=fun s:ByteArray=>s.size+1) (g:=sv) Tryz.underlying28 (show PP.cellsOf 9=1 by kernel_rfl) (by omega) (fun _=>rfl) (fun a c hc=>by simp [AV.cells,sv] at hc; subst hc; rfl) (fun n _=>Rd.string Tryz.underlying9)).map id (fun _=>rfl)
  (fun a=>by simp only [id,szW,sum_szS]; omega) (fun a h=>h.2)
def StOk (s:St):Prop:=(IntKind.i64.min <= s.kind /\ s.kind <= IntKind.i64.max) /\ (s.tc=.any \/ (s.tc=.nil /\ s.text=[])) /\ (s.pc=.any \/ (s.pc=.nil /\ s.proof=[]))
theorem capB_ok (b:Bool) (l:List ByteArray) (h:b=false -> l=[]):capB b=.any \/ (capB b=.nil /\ l=[]):=by
 cases b with
 | true=>exact .inl rfl
 | false=>exact .inr ⟨rfl,h rfl⟩
def szSt (s:St):Nat:=s.label.size+(s.text.length+(s.text.map (·.size)).sum)+(s.proof.length+(s.proof.map (·.size)).sum)+4
theorem rd_st (W:World) (fuel:Nat):Rd PP W fuel 41 encSt szSt StOk :=
 (Rd.struct4 Tryz.underlying41 rfl rfl rfl rfl (show PP.cellsOf 3=1 by kernel_rfl) (show PP.cellsOf 9=1 by kernel_rfl) (show PP.cellsOf 28=1 by kernel_rfl) (show PP.cellsOf 28=1 by kernel_rfl) (show PP.cellsOf 41=1+1+1+1 by kernel_rfl)
  (fun n _=>Rd.int Tryz.underlying3) (fun n _=>Rd.string Tryz.underlying9) (fun n _=>rd_words W n) (fun n _=>rd_words W n)).map
  (fun a=>⟨a.1,a.2.1,a.2.2.1.1,a.2.2.2.1,capB a.2.2.1.2,capB a.2.2.2.2⟩) (fun _=>rfl) (fun a=>by simp only [szSt,szW]; omega) (fun a h=>⟨h.1,capB_ok _ _ h.2.2.1,capB_ok _ _ h.2.2.2⟩)
theorem one_encSt' (s:St):∀ c ∈ (encSt s).cells,c.one=true:=by
 intro c hc
 simp [encSt,AV.cells] at hc
 rcases hc with rfl | rfl | rfl | rfl <;> rfl
theorem rd_sts (W:World) (fuel:Nat):Rd PP W fuel 22 (fun p:List St × Bool=>.sl 4 (p.1.map encSt) (capB p.2)) (fun p=>(p.1.map szSt).sum+1) (fun p=>(∀ s ∈ p.1,StOk s) /\ (p.2=false -> p.1=[])) :=
 (Rd.slice (sz:=szSt) (g:=encSt) Tryz.underlying22 (show PP.cellsOf 41=4 by kernel_rfl) (by omega) (fun _=>rfl) one_encSt' (fun n _=>rd_st W n)).map id (fun _=>rfl) (fun a=>Nat.le_refl _) (fun a h=>h)
theorem sts_len (l:List St):l.length <= (l.map szSt).sum:=sum_ge l szSt fun a=>by unfold szSt; omega
mutual
theorem bulk_eq {H:Type}:∀ d:DataW H,YtmgajcmigkcmdaaGreatDoor.Rows.uptoBulk d=bulk d
 | .lit (.string bytes)=>rfl
 | .lit (.bool _)=>rfl
 | .lit (.int _ _)=>rfl
 | .lit (.float _ _)=>rfl
 | .lit .nil=>rfl
 | .nil=>rfl
 | .ptr d=>by simp only [YtmgajcmigkcmdaaGreatDoor.Rows.uptoBulk,bulk,bulk_eq d]
 | .slice elems spare=>by simp only [YtmgajcmigkcmdaaGreatDoor.Rows.uptoBulk,bulk,bulkL_eq elems,bulkL_eq spare]
 | .agg parts=>by simp only [YtmgajcmigkcmdaaGreatDoor.Rows.uptoBulk,bulk,bulkL_eq parts]
 | .iface _ d=>by simp only [YtmgajcmigkcmdaaGreatDoor.Rows.uptoBulk,bulk,bulk_eq d]
 | .map entries=>by simp only [YtmgajcmigkcmdaaGreatDoor.Rows.uptoBulk,bulk,bulkE_eq entries]
 | .held _=>rfl
theorem bulkL_eq {H:Type}:∀ l:List (DataW H),YtmgajcmigkcmdaaGreatDoor.Rows.uptoBulkAll l=bulkL l
 | []=>rfl
 | d :: r=>by simp only [YtmgajcmigkcmdaaGreatDoor.Rows.uptoBulkAll,bulkL,bulk_eq d,bulkL_eq r]
theorem bulkE_eq {H:Type}:∀ l:List (Lit × DataW H),YtmgajcmigkcmdaaGreatDoor.Rows.uptoBulkEntries l=bulkE l
 | []=>rfl
 | x :: r=>by simp only [YtmgajcmigkcmdaaGreatDoor.Rows.uptoBulkEntries,bulkE,bulkP_eq x,bulkE_eq r]
theorem bulkP_eq {H:Type}:∀ x:Lit × DataW H,YtmgajcmigkcmdaaGreatDoor.Rows.uptoBulkEntry x=bulkP x
 | (.string bytes,d)=>by simp only [YtmgajcmigkcmdaaGreatDoor.Rows.uptoBulkEntry,bulkP,bulk_eq d]
 | (.bool _,d)=>by simp only [YtmgajcmigkcmdaaGreatDoor.Rows.uptoBulkEntry,bulkP,bulk_eq d]
 | (.int _ _,d)=>by simp only [YtmgajcmigkcmdaaGreatDoor.Rows.uptoBulkEntry,bulkP,bulk_eq d]
 | (.float _ _,d)=>by simp only [YtmgajcmigkcmdaaGreatDoor.Rows.uptoBulkEntry,bulkP,bulk_eq d]
 | (.nil,d)=>by simp only [YtmgajcmigkcmdaaGreatDoor.Rows.uptoBulkEntry,bulkP,bulk_eq d]
end
theorem bulk_small {H:Type} {ds:List (DataW H)} (h:YtmgajcmigkcmdaaGreatDoor.Rows.uptoSmall H ds=true):bulkL ds <= 1048576:=by
 rw [<- bulkL_eq]
 exact of_decide_eq_true h
def formV (x:ByteArray × Bool × Nat × Nat):List Value:=[.string x.1,.bool x.2.1,.int .i64 (x.2.2.1:Int),.int .i64 (x.2.2.2:Int)]
def formD (x:ByteArray × Bool × Nat × Nat):DataW Unit:=.agg [.lit (.string x.1.data.toList),.lit (.bool x.2.1),.lit (.int .i64 (x.2.2.1:Int)),.lit (.int .i64 (x.2.2.2:Int))]
theorem form_cells {W:World} {fuel:Nat} {cs:List Value} {p:List MemPlace} {x:ByteArray × Bool × Nat × Nat} (h:DataW.trod (fun _=>()) PP W 0 (fun _=>true) false fuel 173 cs=some (formD x,p)):cs=formV x:=by
 obtain ⟨y0,y1,y2,y3,n,e,hl,h0,h1,h2,h3⟩:=Joins.trod_struct4 Tryz.underlying173 h
 simp only [formD,Prod.mk.injEq,DataW.agg.injEq,List.cons.injEq,and_true] at e
 obtain ⟨⟨e0,e1,e2,e3⟩,_⟩:=e
 have hc:cs.length=4:=by rw [hl]; kernel_rfl
 match cs,hc with
 | [c0,c1,c2,c3],_ =>
  obtain ⟨s,g0,d0,_⟩:=DataW.trod_string Tryz.underlying9 h0
  obtain ⟨b,g1,d1⟩:=DataW.trod_bool Tryz.underlying4 h1
  obtain ⟨m,g2,d2,_⟩:=DataW.trod_int Tryz.underlying3 h2
  obtain ⟨k,g3,d3,_⟩:=DataW.trod_int Tryz.underlying3 h3
  rw [d0] at e0; rw [d1] at e1; rw [d2] at e2; rw [d3] at e3
  simp only [DataW.lit.injEq,Lit.string.injEq,Lit.bool.injEq,Lit.int.injEq,true_and] at e0 e1 e2 e3
  have hs:s=x.1:=by
   have:x.1.data=s.data:=Array.ext' e0
   cases hx:x.1; cases s; simp_all
  subst hs e1 e2 e3
  have k0:[c0]=[.string x.1]:=g0
  have k1:[c1]=[.bool x.2.1]:=g1
  have k2:[c2]=[.int .i64 (x.2.2.1:Int)]:=g2
  have k3:[c3]=[.int .i64 (x.2.2.2:Int)]:=g3
  simp only [List.cons.injEq,and_true] at k0 k1 k2 k3
  subst k0 k1 k2 k3
  rfl
theorem drop_split {α:Type} (l:List α) (k:Nat):∀ n,l.length=n * k -> l=(List.range n).flatMap fun i=>(l.drop (i * k)).take k:=by
 intro n
 induction n generalizing l with
 | zero=>intro h; simp at h; subst h; rfl
 | succ n ih =>
  intro h
  have hl:(l.drop k).length=n * k:=by rw [List.length_drop,h,Nat.add_mul]; omega
  have:=ih _ hl
  rw [List.range_succ_eq_map,List.flatMap_cons,List.flatMap_map]
  simp only [Nat.zero_mul,List.drop_zero]
  conv=>lhs; rw [<- List.take_append_drop k l]
  congr 1
  rw [this]
  refine congrArg List.flatten (List.map_congr_left fun i _=>?_)
  simp only [Nat.succ_eq_add_one,Nat.add_mul,Nat.one_mul]
  rw [List.drop_drop,Nat.add_comm k]
theorem forms_cells {W:World} {fuel:Nat} {cs:List Value} {p:List MemPlace} (h:DataW.trod (fun _=>()) PP W 0 (fun _=>true) false fuel 174 cs=some (.agg (formT.map formD),p)):cs=formT.flatMap formV:=by
 obtain ⟨xs,m,_,e,hl,hxl,hx⟩:=DataW.trod_array Tryz.underlying174 h
 simp only [Prod.mk.injEq,DataW.agg.injEq] at e
 have hce:PP.cellsOf 173=4:=by kernel_rfl
 have hcl:cs.length=10 * 4:=by rw [hl]; kernel_rfl
 rw [drop_split cs 4 10 hcl,show formT.flatMap formV=(List.range 10).flatMap fun i=>formV (formT.getD i (⟨#[]⟩,false,0,0)) by rfl]
 refine congrArg List.flatten (List.map_congr_left fun i hi=>?_)
 have hi':i < 10:=List.mem_range.1 hi
 have h1:=hx i hi'
 rw [hce] at h1
 have hxi:i < xs.length:=by omega
 have h2:(xs.map (·.1))[i]?=(formT.map formD)[i]?:=by rw [<- e.1]
 have hfl:formT.length=10:=rfl
 rw [List.getElem?_map,List.getElem?_map,List.getElem?_eq_getElem hxi,List.getElem?_eq_getElem (by omega)] at h2
 simp only [Option.map_some,Option.some.injEq] at h2
 rw [List.getElem?_eq_getElem hxi] at h1
 have h3:DataW.trod (fun _=>()) PP W 0 (fun _=>true) false m 173 ((cs.drop (i * 4)).take 4)=some (formD (formT[i]'(by omega)),xs[i].2):=by rw [h1,<- h2]
 rw [form_cells h3]
 congr 1
 simp [List.getD,hfl,hi']
def laidL:List (String × DataW Unit):=[("errors.errorType",YtmgajcmigkcmdaaGreatDoor.Rows.laid_errors_errorType),("apodixis/layout.forms",YtmgajcmigkcmdaaGreatDoor.Rows.laid_apodixis_layout_forms)]
theorem et:PP.globalNamed "errors.errorType"=some 0:=by kernel_rfl
theorem lf:PP.globalNamed "apodixis/layout.forms"=some 1:=by kernel_rfl
theorem rtyp:(PP.cutTypes.find? (·.1 == "internal/reflectlite.rtype")).map (·.2)=some 142:=by kernel_rfl
theorem oneRow:((List.range 227).filter fun t=>PP.rowNamed t [101,114,114,111,114])=[62]:=by kernel_rfl
theorem tsize:PP.types.size=227:=by kernel_rfl
theorem handle_of_laid {W:World} (h:laidMetH PP laidL W):W.cell? ⟨0,0,none⟩=some (.iface 142 (.agg #[.pointer (some ⟨3,62,none⟩)])):=by
 have h':laidMet PP [("apodixis/layout.forms",YtmgajcmigkcmdaaGreatDoor.Rows.laid_apodixis_layout_forms)] W /\ handlesMet PP [("errors.errorType",YtmgajcmigkcmdaaGreatDoor.Rows.laid_errors_errorType)] W:=h
 obtain ⟨name,u,ty,e1,e2,e3,e4,e5⟩:=h'.2 _ (List.mem_singleton.2 rfl)
 have en:name=[101,114,114,111,114]:=(Option.some.inj e1).symm
 subst en
 obtain rfl:=Option.some.inj (rtyp.symm.trans e2)
 have hm:ty ∈ (List.range 227).filter fun t=>PP.rowNamed t [101,114,114,111,114]:=List.mem_filter.2 ⟨List.mem_range.2 (by rw [<- tsize]; exact e3),e4⟩
 rw [oneRow] at hm
 obtain rfl:=List.mem_singleton.1 hm
 have hh:typeHandle PP 62=.pointer (some ⟨3,62,none⟩):=by kernel_rfl
 rw [hh] at e5
 simpa using World.var?_cell et e5 0
theorem forms_of_laid {W:World} (h:laidMetH PP laidL W):∃ cs:Array Value,cs.toList=formT.flatMap formV /\ W.var? PP "apodixis/layout.forms"=some cs:=by
 have h':laidMet PP [("apodixis/layout.forms",YtmgajcmigkcmdaaGreatDoor.Rows.laid_apodixis_layout_forms)] W /\ handlesMet PP [("errors.errorType",YtmgajcmigkcmdaaGreatDoor.Rows.laid_errors_errorType)] W:=h
 obtain ⟨ps,⟨g',t',cs,fuel,p,q,hg',ht',hvar,hd,_,_⟩,_⟩:=h'.1
 obtain rfl:=Option.some.inj (lf.symm.trans hg')
 have hty:(PP.globals[1]?).map (·.type)=some 174:=by kernel_rfl
 obtain rfl:=Option.some.inj (hty.symm.trans ht')
 exact ⟨cs,forms_cells hd,hvar⟩
theorem glob_met {W:World} (h:laidMetH PP laidL W):∀ g v,Gl g=some v -> ∀ m',AVRel (I0 W) m' v (.pointer (some ⟨g,0,none⟩)):=by
 intro g v hg m'
 unfold Gl at hg
 split at hg
 .rename_i e
  subst e
  cases hg
  obtain ⟨cs,hcs,hvar⟩:=forms_of_laid h
  have hcell:∀ i,W.cell? ⟨1,i,none⟩=(formT.flatMap formV)[i]?:=fun i=>by
   rw [World.var?_cell lf hvar i,<- hcs]; simp
  refine .ip _ _ (formT.flatMap formV) (fun c hc=>?_) rfl (fun i a x ha hx=>?_) (fun i x hx=>?_) rfl
  .have hc':c ∈ formT.flatMap fun x=>[AV.sc (.string x.1),.sc (.bool x.2.1),.sc (.int .i64 (x.2.2.1:Int)),.sc (.int .i64 (x.2.2.2:Int))]:=hc
   obtain ⟨x,_,hx⟩:=List.mem_flatMap.1 hc'
   simp at hx
   rcases hx with rfl | rfl | rfl | rfl <;> rfl
  .have hsc:∀ (l:List (ByteArray × Bool × Nat × Nat)) (i:Nat) (a:AV) (x:Value),(l.flatMap fun x=>[AV.sc (.string x.1),.sc (.bool x.2.1),.sc (.int .i64 (x.2.2.1:Int)),.sc (.int .i64 (x.2.2.2:Int))])[i]?=some a -> (l.flatMap formV)[i]?=some x -> a=.sc x:=by
    intro l
    have:(l.flatMap fun x=>[AV.sc (.string x.1),.sc (.bool x.2.1),.sc (.int .i64 (x.2.2.1:Int)),.sc (.int .i64 (x.2.2.2:Int))])=(l.flatMap formV).map AV.sc:=by
     induction l with
     | nil=>rfl
     | cons y l ih=>simp [ih,formV]
    intro i a x ha hx
    rw [this,List.getElem?_map,hx] at ha
    exact (Option.some.inj ha).symm
   rw [hsc formT i a x ha hx]
   exact .sc x
  .show I0 W 1 (0+i)=some x
   rw [Nat.zero_add]
   exact (hcell i).trans hx
 .split at hg
  .rename_i e
   subst e
   cases hg
   have hc:=handle_of_laid h
   refine .ip _ _ [.iface 142 (.agg #[.pointer (some ⟨3,62,none⟩)])] (fun c hc=>by simp [AV.cells] at hc; subst hc; rfl) rfl (fun i a x ha hx=>?_) (fun i x hx=>?_) rfl
   .cases i with
    | zero =>
     simp [AV.cells] at ha hx
     subst ha hx
     exact .ifc _ _ _ (.agg _ [_] rfl (by simp) (fun i a x ha hx=>by
      cases i with
      | zero=>simp at ha hx; subst ha hx; exact .sc _
      | succ i=>simp at ha))
    | succ i=>simp [AV.cells] at ha
   .cases i with
    | zero=>simp at hx; subst hx; exact hc
    | succ i=>simp at hx
  .cases hg
noncomputable def laidWorld (os:Os):World :=
 {World.holding PP os ⟨#[],#[],[]⟩ with
  heap:=((World.holding PP os ⟨#[],#[],[]⟩).heap.modify 0 fun
   | .cells _ t frozen=>.cells #[.iface 142 (.agg #[.pointer (some ⟨3,62,none⟩)])] t frozen
   | o=>o).modify 1 (fun
   | .cells _ t frozen=>.cells (formT.flatMap formV).toArray t frozen
   | o=>o) }
theorem laid_met (os:Os) (args:Array Value):laidMetH PP laidL ((laidWorld os).forCall (fun _ _=>0) ⟨#[],args,[]⟩).memory :=
 laidMetH_of_parts (laidMet_of_run' 8 (by kernel_rfl) (by kernel_rfl)) (by kernel_rfl)
end Go.Apx
