/- Readings of grammars, for the claims on texts. -/
import Derived.Test.YtdiemjjfkoccfaaGreatDoorEA
import Derived.Test.YtdiemjjfkoccfaaGreatDoorAmD
import Derived.Test.YtdiemjjfkoccfaaGreatDoorRows
set_option linter.unusedVariables false
set_option linter.unusedSimpArgs false
set_option linter.unnecessarySimpa false
namespace Go.Apx
open Go.Proofs
open Go.ChangeShapes Go.WideShapes Go.ChangeAt Go.RowKit
set_option maxRecDepth 100000
section
variable {P:Program} {W:World} {fuel:Nat} {t e:TypeId}
theorem cells_two {l:List Value} {a b:Nat}:l.drop a=(l.drop a).take b++l.drop (a+b):=by
 conv=>lhs; rw [<- List.take_append_drop b (l.drop a)]
 rw [List.drop_drop]
theorem Rd.struct3 {α β γ:Type} {g:α -> AV} {sz:α -> Nat} {ok:α -> Prop} {g':β -> AV} {sz':β -> Nat} {ok':β -> Prop} {g2:γ -> AV} {sz2:γ -> Nat} {ok2:γ -> Prop} {f0 f1 f2:Field} {c0 c1 c2:Nat}
  (ht:P.underlying t=some (.struct #[f0,f1,f2])) (ho:f0.offset=0) (ho1:f1.offset=c0) (ho2:f2.offset=c0+c1)
  (hc0:P.cellsOf f0.type=c0) (hc1:P.cellsOf f1.type=c1) (hc2:P.cellsOf f2.type=c2) (hct:P.cellsOf t=c0+c1+c2)
  (h0:∀ n,n < fuel -> Rd P W n f0.type g sz ok) (h1:∀ n,n < fuel -> Rd P W n f1.type g' sz' ok') (h2:∀ n,n < fuel -> Rd P W n f2.type g2 sz2 ok2) :
  Rd P W fuel t (fun a:α × β × γ=>.agg ((g a.1).cells++((g' a.2.1).cells++(g2 a.2.2).cells))) (fun a=>sz a.1+sz' a.2.1+sz2 a.2.2+1) (fun a=>ok a.1 /\ ok' a.2.1 /\ ok2 a.2.2):=by
 intro H enc cs d ps h
 obtain ⟨xs,n,rfl,e,hlen,hxl,hx⟩:=DataW.trod_struct ht h
 cases e
 have e0:=hx 0 f0 rfl
 have e1:=hx 1 f1 rfl
 have e2:=hx 2 f2 rfl
 rw [ho,hc0,List.drop_zero] at e0
 rw [ho1,hc1] at e1
 rw [ho2,hc2,List.take_of_length_le (by simp; omega)] at e2
 match xs,hxl,e0,e1,e2 with
 | [(d0,p0),(d1,p1),(d2,p2)],_,e0,e1,e2 =>
  obtain ⟨a,a1,a2,a3⟩:=h0 n (by omega) H enc _ d0 p0 e0
  obtain ⟨b,b1,b2,b3⟩:=h1 n (by omega) H enc _ d1 p1 e1
  obtain ⟨c,q1,q2,q3⟩:=h2 n (by omega) H enc _ d2 p2 e2
  refine ⟨(a,b,c),⟨a1,b1,q1⟩,?_,by simp [bulk,bulkL]; omega⟩
  have:=a2.append (b2.append q2)
  rw [<- cells_two,List.take_append_drop] at this
  exact this
theorem Rd.struct4 {α β γ δ:Type} {g:α -> AV} {sz:α -> Nat} {ok:α -> Prop} {g':β -> AV} {sz':β -> Nat} {ok':β -> Prop} {g2:γ -> AV} {sz2:γ -> Nat} {ok2:γ -> Prop} {g3:δ -> AV} {sz3:δ -> Nat} {ok3:δ -> Prop} {f0 f1 f2 f3:Field} {c0 c1 c2 c3:Nat}
  (ht:P.underlying t=some (.struct #[f0,f1,f2,f3])) (ho:f0.offset=0) (ho1:f1.offset=c0) (ho2:f2.offset=c0+c1) (ho3:f3.offset=c0+c1+c2)
  (hc0:P.cellsOf f0.type=c0) (hc1:P.cellsOf f1.type=c1) (hc2:P.cellsOf f2.type=c2) (hc3:P.cellsOf f3.type=c3) (hct:P.cellsOf t=c0+c1+c2+c3)
  (h0:∀ n,n < fuel -> Rd P W n f0.type g sz ok) (h1:∀ n,n < fuel -> Rd P W n f1.type g' sz' ok') (h2:∀ n,n < fuel -> Rd P W n f2.type g2 sz2 ok2) (h3:∀ n,n < fuel -> Rd P W n f3.type g3 sz3 ok3) :
  Rd P W fuel t (fun a:α × β × γ × δ=>.agg ((g a.1).cells++((g' a.2.1).cells++((g2 a.2.2.1).cells++(g3 a.2.2.2).cells)))) (fun a=>sz a.1+sz' a.2.1+sz2 a.2.2.1+sz3 a.2.2.2+1) (fun a=>ok a.1 /\ ok' a.2.1 /\ ok2 a.2.2.1 /\ ok3 a.2.2.2):=by
 intro H enc cs d ps h
 obtain ⟨xs,n,rfl,e,hlen,hxl,hx⟩:=DataW.trod_struct ht h
 cases e
 have e0:=hx 0 f0 rfl
 have e1:=hx 1 f1 rfl
 have e2:=hx 2 f2 rfl
 have e3:=hx 3 f3 rfl
 rw [ho,hc0,List.drop_zero] at e0
 rw [ho1,hc1] at e1
 rw [ho2,hc2] at e2
 rw [ho3,hc3,List.take_of_length_le (by simp; omega)] at e3
 match xs,hxl,e0,e1,e2,e3 with
 | [(d0,p0),(d1,p1),(d2,p2),(d3,p3)],_,e0,e1,e2,e3 =>
  obtain ⟨a,a1,a2,a3⟩:=h0 n (by omega) H enc _ d0 p0 e0
  obtain ⟨b,b1,b2,b3⟩:=h1 n (by omega) H enc _ d1 p1 e1
  obtain ⟨c,q1,q2,q3⟩:=h2 n (by omega) H enc _ d2 p2 e2
  obtain ⟨u,u1,u2,u3⟩:=h3 n (by omega) H enc _ d3 p3 e3
  refine ⟨(a,b,c,u),⟨a1,b1,q1,u1⟩,?_,by simp [bulk,bulkL]; omega⟩
  have:=a2.append (b2.append (q2.append u2))
  rw [<- cells_two,<- cells_two,List.take_append_drop] at this
  exact this
end
abbrev capB (b:Bool):Cap:=if b=true then .any else .nil
theorem capB_strip (b:Bool):(capB b).strip=capB b:=by cases b <;> rfl
theorem sum_ge {α:Type} (l:List α) (sz:α -> Nat) (h:∀ a,1 <= sz a):l.length <= (l.map sz).sum:=by
 induction l with
 | nil=>simp
 | cons x l ih=>have:=h x; simp only [List.map_cons,List.sum_cons,List.length_cons]; omega
theorem rd_strings (W:World) (fuel:Nat):Rd PP W fuel 22 (fun p:List ByteArray × Bool=>.sl 1 (p.1.map sv) (capB p.2)) (fun p=>p.1.length+1) (fun _=>True) :=
 (Rd.slice (sz:=fun s:ByteArray=>s.size+1) (g:=sv) Tryz.underlying22 (show PP.cellsOf 9=1 by kernel_rfl) (by omega) (fun _=>rfl) (fun a c hc=>by simp [AV.cells,sv] at hc; subst hc; rfl) (fun n _=>Rd.string Tryz.underlying9)).map id (fun _=>rfl)
  (fun a=>by simp only [id]; have:=sum_ge a.1 (fun s:ByteArray=>s.size+1) (fun s=>by omega); omega) (fun a h=>trivial)
theorem rd_part (W:World) (fuel:Nat):Rd PP W fuel 65 encP (fun _=>1) (fun _=>True) :=
 (Rd.struct3 Tryz.underlying65 rfl rfl rfl (show PP.cellsOf 9=1 by kernel_rfl) (show PP.cellsOf 9=1 by kernel_rfl) (show PP.cellsOf 3=1 by kernel_rfl) (show PP.cellsOf 65=1+1+1 by kernel_rfl)
  (fun n _=>Rd.string Tryz.underlying9) (fun n _=>Rd.string Tryz.underlying9) (fun n _=>Rd.int Tryz.underlying3)).map
  (fun a=>(⟨a.1,a.2.1,a.2.2⟩:Pt)) (fun _=>rfl) (fun a=>by omega) (fun _ _=>trivial)
theorem rd_parts (W:World) (fuel:Nat):Rd PP W fuel 50 (fun p:List Pt × Bool=>.sl 3 (p.1.map encP) (capB p.2)) (fun p=>p.1.length+1) (fun _=>True) :=
 (Rd.slice Tryz.underlying50 (show PP.cellsOf 65=3 by kernel_rfl) (by omega) (fun _=>rfl) (fun a c hc=>by simp [encP,AV.cells] at hc; rcases hc with rfl | rfl | rfl <;> rfl) (fun n _=>rd_part W n)).map id (fun _=>rfl)
  (fun a=>by simp only [id]; have:=sum_ge a.1 (fun _=>1) (fun _=>Nat.le_refl _); omega) (fun a h=>trivial)
theorem rd_rule (W:World) (fuel:Nat):Rd PP W fuel 52 ab (fun r=>r.parts.length+1) (fun _=>True) :=
 (Rd.struct4 Tryz.underlying52 rfl rfl rfl rfl (show PP.cellsOf 9=1 by kernel_rfl) (show PP.cellsOf 9=1 by kernel_rfl) (show PP.cellsOf 50=1 by kernel_rfl) (show PP.cellsOf 4=1 by kernel_rfl) (show PP.cellsOf 52=1+1+1+1 by kernel_rfl)
  (fun n _=>Rd.string Tryz.underlying9) (fun n _=>Rd.string Tryz.underlying9) (fun n _=>rd_parts W n) (fun n _=>Rd.bool Tryz.underlying4)).map
  (fun a=>(⟨a.1,a.2.1,a.2.2.1.1,a.2.2.2,capB a.2.2.1.2⟩:Rl)) (fun _=>rfl) (fun a=>by simp only; omega) (fun _ _=>trivial)
theorem rd_rules (W:World) (fuel:Nat):Rd PP W fuel 23 (fun p:List Rl × Bool=>.sl 4 (p.1.map ab) (capB p.2)) (fun p=>(p.1.map fun r=>r.parts.length+1).sum+1) (fun _=>True) :=
 (Rd.slice Tryz.underlying23 (show PP.cellsOf 52=4 by kernel_rfl) (by omega) (fun _=>rfl) (fun a c hc=>by simp [ab,AV.cells] at hc; rcases hc with rfl | rfl | rfl | rfl <;> rfl) (fun n _=>rd_rule W n)).map id (fun _=>rfl)
  (fun a=>Nat.le_refl _) (fun _ _=>trivial)
theorem rd_grammar (W:World) (fuel:Nat):Rd PP W fuel 25 aM (fun g=>g.sorts.length+(g.rules.map fun r=>r.parts.length+1).sum+1) (fun g=>g.sc.strip=g.sc) :=
 (Rd.struct2 Tryz.underlying25 rfl rfl (show PP.cellsOf 22=1 by kernel_rfl) (show PP.cellsOf 23=1 by kernel_rfl) (show PP.cellsOf 25=1+1 by kernel_rfl) (fun n _=>rd_strings W n) (fun n _=>rd_rules W n)).map
  (fun a=>({ sorts:=a.1.1,rules:=a.2.1,sc:=capB a.1.2,rc:=capB a.2.2 }:Gr)) (fun _=>rfl) (fun a=>by simp only; omega) (fun a h=>capB_strip _)
mutual
theorem bulk_eq {H:Type}:∀ d:DataW H,YtdiemjjfkoccfaaGreatDoor.Rows.uptoBulk d=bulk d
 | .lit (.string bytes)=>rfl
 | .lit (.bool _)=>rfl
 | .lit (.int _ _)=>rfl
 | .lit (.float _ _)=>rfl
 | .lit .nil=>rfl
 | .nil=>rfl
 | .ptr d=>by simp only [YtdiemjjfkoccfaaGreatDoor.Rows.uptoBulk,bulk,bulk_eq d]
 | .slice elems spare=>by simp only [YtdiemjjfkoccfaaGreatDoor.Rows.uptoBulk,bulk,bulkL_eq elems,bulkL_eq spare]
 | .agg parts=>by simp only [YtdiemjjfkoccfaaGreatDoor.Rows.uptoBulk,bulk,bulkL_eq parts]
 | .iface _ d=>by simp only [YtdiemjjfkoccfaaGreatDoor.Rows.uptoBulk,bulk,bulk_eq d]
 | .map entries=>by simp only [YtdiemjjfkoccfaaGreatDoor.Rows.uptoBulk,bulk,bulkE_eq entries]
 | .held _=>rfl
theorem bulkL_eq {H:Type}:∀ l:List (DataW H),YtdiemjjfkoccfaaGreatDoor.Rows.uptoBulkAll l=bulkL l
 | []=>rfl
 | d :: r=>by simp only [YtdiemjjfkoccfaaGreatDoor.Rows.uptoBulkAll,bulkL,bulk_eq d,bulkL_eq r]
theorem bulkE_eq {H:Type}:∀ l:List (Lit × DataW H),YtdiemjjfkoccfaaGreatDoor.Rows.uptoBulkEntries l=bulkE l
 | []=>rfl
 | x :: r=>by simp only [YtdiemjjfkoccfaaGreatDoor.Rows.uptoBulkEntries,bulkE,bulkP_eq x,bulkE_eq r]
theorem bulkP_eq {H:Type}:∀ x:Lit × DataW H,YtdiemjjfkoccfaaGreatDoor.Rows.uptoBulkEntry x=bulkP x
 | (.string bytes,d)=>by simp only [YtdiemjjfkoccfaaGreatDoor.Rows.uptoBulkEntry,bulkP,bulk_eq d]
 | (.bool _,d)=>by simp only [YtdiemjjfkoccfaaGreatDoor.Rows.uptoBulkEntry,bulkP,bulk_eq d]
 | (.int _ _,d)=>by simp only [YtdiemjjfkoccfaaGreatDoor.Rows.uptoBulkEntry,bulkP,bulk_eq d]
 | (.float _ _,d)=>by simp only [YtdiemjjfkoccfaaGreatDoor.Rows.uptoBulkEntry,bulkP,bulk_eq d]
 | (.nil,d)=>by simp only [YtdiemjjfkoccfaaGreatDoor.Rows.uptoBulkEntry,bulkP,bulk_eq d]
end
theorem bulk_small {H:Type} {ds:List (DataW H)} (h:YtdiemjjfkoccfaaGreatDoor.Rows.uptoSmall H ds=true):bulkL ds <= 1048576:=by
 rw [<- bulkL_eq]
 exact of_decide_eq_true h
theorem glob_none {W:World}:∀ g v,Gl g=some v -> ∀ m',AVRel (I0 W) m' v (.pointer (some ⟨g,0,none⟩)):=fun g v h=>by cases h
theorem mem_sum {l:List Rl} {r:Rl} (h:r ∈ l):r.parts.length <= (l.map fun r=>r.parts.length+1).sum:=by
 induction l with
 | nil=>cases h
 | cons x l ih =>
  simp only [List.map_cons,List.sum_cons]
  rcases List.mem_cons.1 h with rfl | h
  .omega
  .have:=ih h; omega
end Go.Apx
