/- ABSTRACT MACHINE, part 29: the heap without the records of loops; what an operation leaves as it was. -/
import Derived.Test.YtdiemjjfkoccfaaGreatDoorAmA
set_option linter.unusedVariables false
set_option linter.unusedSimpArgs false
set_option linter.unnecessarySimpa false
namespace Go.Apx
def X0:LoopX:=⟨0,#[],#[],.skip,.skip⟩
def AObj.er:AObj -> AObj
 | .loop env _ st pd=>.loop env X0 st pd
 | o=>o
def er (h:AHeap):AHeap:=h.map AObj.er
@[simp] theorem er_get (h:AHeap) (i:Nat):(er h)[i]?=(h[i]?).map AObj.er:=by simp [er]
@[simp] theorem er_length (h:AHeap):(er h).length=h.length:=by simp [er]
@[simp] theorem er_append (h h':AHeap):er (h++h')=er h++er h':=by simp [er]
@[simp] theorem er_nil:er []=[]:=rfl
@[simp] theorem er_cons (o:AObj) (h:AHeap):er (o :: h)=o.er :: er h:=rfl
theorem er_set (h:AHeap) (i:Nat) (o:AObj):er (h.set i o)=(er h).set i o.er:=by simp [er,List.map_set]
theorem er_take (h:AHeap) (n:Nat):er (h.take n)=(er h).take n:=by simp [er,List.map_take]
theorem er_cells {x:Option AObj} {g:Nat} {cs:List AV}:x.map AObj.er=some (.cells g cs) ↔ x=some (.cells g cs):=by
 rcases x with _ | (_ | _ | _ | _ | _ | _ | _) <;> simp [AObj.er]
theorem er_tok {x:Option AObj} {n:Nat}:x.map AObj.er=some (.tok n) ↔ x=some (.tok n):=by
 rcases x with _ | (_ | _ | _ | _ | _ | _ | _) <;> simp [AObj.er]
theorem er_amap {x:Option AObj} {es:List (AV × AV)}:x.map AObj.er=some (.amap es) ↔ x=some (.amap es):=by
 rcases x with _ | (_ | _ | _ | _ | _ | _ | _) <;> simp [AObj.er]
inductive HStep (h:AHeap):AHeap -> Prop
 | same:HStep h h
 | add (o:AObj):HStep h (h++[o])
 | set (i:Nat) (a b:AObj) (ha:h[i]?=some a) (hn:∀ en x st pd,a ≠ .loop en x st pd):HStep h (h.set i b)
theorem elems_er (h:AHeap) (k:Nat):elems (er h) k=elems h k:=by
 funext v
 cases v
 case rf o g off len rc =>
  simp only [elems,er_get]
  rcases h[o]? with _ | (_ | _ | _ | _ | _ | _ | _) <;> rfl
 all_goals rfl
theorem entryM_same {G:Globs} {env:Env} {h h':AHeap} {x:Opd} {v:AV} (he:aA G env h (.entryM x)=some (v,h')):h'=h:=by
 simp only [aA] at he
 repeat' split at he
 all_goals first
  | (cases he; done)
  | (
    simp only [Option.bind_eq_some_iff,Option.map_eq_some_iff,Prod.mk.injEq] at he
    obtain ⟨_,_,_,_,_,rfl⟩:=he
    rfl)
theorem evalOp_step {G:Globs} {env:Env} {h h':AHeap} {op:AOp} {v:AV} (he:aA G env h op=some (v,h')):HStep h h':=by
 cases op
 case entryM x=>rw [entryM_same he]; exact .same
 all_goals simp only [aA] at he
 all_goals (repeat' split at he)
 all_goals simp only [Option.map_eq_some_iff,Prod.mk.injEq,Option.some.injEq,reduceCtorEq,exists_and_left,exists_eq_right_right,false_and,and_false,exists_const] at he
 all_goals first
  | (cases he; done)
  | (obtain ⟨_,rfl⟩:=he; exact .same)
  | (obtain ⟨_,_,rfl⟩:=he; exact .same)
  | (obtain ⟨_,_,_,rfl⟩:=he; exact .same)
  | (obtain ⟨_,rfl⟩:=he; exact .add _)
  | (obtain ⟨_,_,_,rfl⟩:=he; exact .add _)
  | (obtain ⟨_,rfl⟩:=he; exact .set _ _ _ (by assumption) (by simp))
  | (obtain ⟨_,_,_,rfl⟩:=he; exact .set _ _ _ (by assumption) (by simp))
theorem evalOp_er (G:Globs) (env:Env) (h:AHeap) (op:AOp):aA G env (er h) op=(aA G env h op).map fun p=>(p.1,er p.2):=by
 cases op
 case lookup ks z ok m k =>
  simp only [aA]
  split
  .rename_i a b ha hb
   split
   .cases a
    case sc v =>
     cases v
     case map r=>cases r <;> rfl
     all_goals rfl
    case mp o =>
     simp only [er_get]
     rcases h[o]? with _ | (_ | _ | _ | es | _ | _ | _)
     case some.amap =>
      simp only [Option.map,AObj.er]
      split <;> rfl
     all_goals rfl
    all_goals rfl
   .rfl
  .rfl
 case copy k x y =>
  simp only [aA,elems_er]
  split
  .rename_i o g off len rc xs hx hy
   simp only [er_get]
   rcases h[o]? with _ | (_ | ⟨g',cs⟩ | _ | _ | _ | _ | _)
   case some.cells =>
    simp only [Option.map,AObj.er]
    by_cases hc:g'=g /\ off+min xs.length len * k <= cs.length /\ len ≠ 0
    .simp only [hc,and_self,if_true,ne_eq,not_false_eq_true,er_set,AObj.er]
    .rw [if_neg hc,if_neg hc]
   all_goals rfl
  .rfl
 case mappend k b x y =>
  simp only [aA,elems_er]
  split
  .split
   .simp [er]; rfl
   .split <;> rfl
  .split
   .simp [er]; rfl
   .split <;> rfl
  .rename_i o g len k' xs hx hy
   by_cases hx0:xs=[]
   .rw [if_pos hx0,if_pos hx0]; rfl
   rw [if_neg hx0,if_neg hx0]
   simp only [er_get]
   rcases h[o]? with _ | (_ | ⟨g',cs⟩ | _ | _ | _ | _ | _)
   case some.cells =>
    simp only [Option.map,AObj.er]
    by_cases hc:k'=k /\ g'=g /\ len * k <= cs.length /\ xs ≠ [] /\ len+xs.length <= maxLenA
    .rw [if_pos hc,if_pos hc]; simp only [er_set,AObj.er]
    .rw [if_neg hc,if_neg hc]
   all_goals rfl
  .rfl
 case nextS x =>
  simp only [aA]
  split
  .rename_i o hx
   simp only [er_get]
   rcases h[o]? with _ | (_ | _ | _ | _ | _ | _ | ⟨s,p⟩)
   case some.siter =>
    simp only [Option.map,AObj.er]
    by_cases hp:p < s.size
    .rw [if_pos hp,if_pos hp]; simp only [er_set,AObj.er]
    .rw [if_neg hp,if_neg hp]
   all_goals rfl
  .rfl
 case entryM x =>
  simp only [aA]
  split
  .rename_i o hx
   simp only [er_get]
   rcases h[o]? with _ | (_ | _ | _ | _ | _ | _ | _ | _ | ⟨mo,_,c0,seen⟩)
   case some.miter =>
    simp only [Option.map,AObj.er]
    rcases mo with _ | mo
    .rfl
    .simp only [er_get]
     rcases h[mo]? with _ | (_ | _ | _ | _ | _ | _ | _ | ⟨es,bs,clock⟩ | _)
     case some.bmap =>
      simp only [Option.map,AObj.er]
      cases seen.getLast? with
      | none=>rfl
      | some b =>
       simp only
       split
       .cases bs.findIdx? (· == b) with
        | none=>rfl
        | some i=>simp only [Option.bind]; cases es[i]? <;> rfl
       .rfl
     all_goals rfl
   all_goals rfl
  .rfl
 case clearS k z x =>
  simp only [aA]
  split
  .rfl
  .rename_i o g off len rc hx
   split
   .rfl
   .simp only [er_get]
    rcases h[o]? with _ | (_ | ⟨g',cs⟩ | _ | _ | _ | _ | _)
    case some.cells =>
     simp only [Option.map,AObj.er]
     by_cases hc:g'=g /\ off+len * k <= cs.length
     .rw [if_pos hc,if_pos hc]; simp only [er_set,AObj.er]
     .rw [if_neg hc,if_neg hc]
    all_goals rfl
  .rfl
 all_goals simp only [aA,er_get,er_length,elems_er]
 all_goals (repeat' split)
 all_goals (try simp only [er_cells,er_tok,er_amap] at *)
 all_goals simp_all [er_set,AObj.er,Function.comp_def]
 all_goals omega
end Go.Apx
