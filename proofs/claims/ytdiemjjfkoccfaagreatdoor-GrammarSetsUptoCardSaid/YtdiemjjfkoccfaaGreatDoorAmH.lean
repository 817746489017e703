/- ABSTRACT MACHINE, part 35: an entry of a map is made, its value is stored later: together a plain assignment. -/
import Derived.Test.YtdiemjjfkoccfaaGreatDoorAmA
import Derived.WideKeyEntry
set_option linter.unusedVariables false
set_option linter.unusedSimpArgs false
set_option linter.unnecessarySimpa false
namespace Go.Apx
section
variable {P:Program} {G:Globs} {N S k:Nat} {D:Ro} {o:Oper} {a:Act} {I:Imm} {m:aQ} {w:World} {env:Env} {h:AHeap} {ann:List Nat}
theorem snd_entry {t kt e:TypeId} {ks:KeyK} {x y z:Operand} {x' y' z':Opd} {v:AV} {h':AHeap} {zv:Value} (ht:P.underlying t=some (.map kt e)) (hkt:bc P kt=some ks) (hzv:∀ u:World,(zeroValue e).run P u=.ok zv u)
  (hx:aF x=some x') (hy:aF y=some y') (hz:aF z=some z')
  (hr:Rel G N D S I m env h a w) (he:aA G env h (.mapUpd ks x' y' z')=some (v,h')):∃ (v0:Value) (st:Nat) (w1 w3:World),(Instr.mapEntry t (a.eval x) (a.eval y)).run P w=.ok (.tuple #[v0,goInt st]) w1 /\ (Instr.entryStore t (a.eval x) (goInt st) (a.eval z)).run P w1=.ok () w3 /\ v=.tup [] /\ Inv G I m h' w3 /\ ∀ k,Trans k I m w I m w3:=by
 obtain ⟨d,hd⟩:=keyKind_under hkt
 simp only [aA] at he
 split at he
 .rename_i ob kv vv hu hu' hu2
  split at he
  .rename_i hkey
   split at he
   .rename_i es hob
    simp only [Option.map_eq_some_iff,Prod.mk.injEq] at he
    obtain ⟨es',hes',rfl,rfl⟩:=he
    have hkrel:=aG hy hr hu'
    have hvrel:=aG hz hr hu2
    have hp:=aG hx hr hu
    generalize hax:a.eval x=ax at hp
    have hlt:ob < m.length:=by rw [hr.inv.len]; exact (List.getElem?_eq_some_iff.1 hob).1
    obtain ⟨b,ents,clock,hl,hb,hrel⟩:=hr.inv.obj ob _ m[ob] hob (by simp [hlt])
    have hm:m[ob]?=some (.whole b):=by rw [<- hl]; simp [hlt]
    obtain ⟨hlen,hent,hborn,hpw⟩:=hrel
    cases hp with
    | mp _ rr _ hrr =>
     have:=hrr b hm
     subst this
     have hfind:∀ {oi:Option Nat},bM kv es=some oi -> (Instr.findKey kt (a.eval y) ents.toList).run P w=.ok (entAt ents.toList 0 oi) w:=fun h=>run_findKey (w:=w) hkt hd hkrel hkey ⟨hlen,hent⟩ h
     rcases amapSet_idx kv vv es es' hes' with ⟨g1,g2⟩ | ⟨i,p0,g1,gp,ge,g4⟩
     .obtain ⟨h1,h2⟩:=hr.inv.setMap hob hm (es':=es') (ents':=ents.push { key:=a.eval y,val:=a.eval z,born:=clock }) (clock':=clock+1) (by
       refine ⟨by rw [g2]; simp [hlen],fun i p en hp hen=>?_,fun en hen=>?_,?_⟩
       .rw [g2] at hp
        rw [Array.toList_push] at hen
        rcases getElem?_append_one hp with hp1 | ⟨hi,rfl⟩
        .rcases getElem?_append_one hen with hen1 | ⟨hi',_⟩
         .exact hent i p en hp1 hen1
         .have:=(List.getElem?_eq_some_iff.1 hp1).1; omega
        .rcases getElem?_append_one hen with hen1 | ⟨hi',rfl⟩
         .have:=(List.getElem?_eq_some_iff.1 hen1).1; omega
         .exact ⟨hkrel,hvrel⟩
       .rw [Array.toList_push] at hen
        rcases List.mem_append.1 hen with hen | hen
        .have:=hborn en hen; omega
        .simp at hen; subst hen; simp
       .rw [Array.toList_push,List.pairwise_append]
        refine ⟨hpw,by simp,fun a' ha' b' hb'=>?_⟩
        simp at hb'; subst hb'
        have:=hborn a' ha'
        simp only
        omega)
      have hlb:rr < w.heap.size:=(Array.getElem?_eq_some_iff.1 hb).1
      refine ⟨zv,clock,{ w with heap:=w.heap.setIfInBounds rr (.map (ents.push { key:=a.eval y,val:=zv,born:=clock }) (clock+1)) },_,?_,?_,rfl,h1,h2⟩
      .simp only [hax,Instr.mapEntry,Sem.run_bind,aH ht,Result.andThen_ok,getObj,Sem.run,hb,run_checkKey hkt hkrel hkey,hfind g1,entAt,hzv]
       simp [setObj,Sem.run,hb,goInt]
      .have hidx:(ents.push { key:=a.eval y,val:=zv,born:=clock }).findIdx? (fun e=>((e.born:Nat):Int) == ((clock:Nat):Int))=some ents.size:=by
        rw [WideElems.findIdx_arr]
        have:=WideElems.findIdx_born (l:=(ents.push { key:=a.eval y,val:=zv,born:=clock }).toList) (j:=ents.size) (e0:={ key:=a.eval y,val:=zv,born:=clock }) (by
         simp only [Array.toList_push,List.map_append,List.map_cons,List.map_nil]
         refine List.nodup_append.2 ⟨List.pairwise_map.2 hpw,by simp,fun q hq c hc e1=>?_⟩
         simp only [List.mem_singleton] at hc
         obtain ⟨u,hu1,rfl⟩:=List.mem_map.1 hq
         have:=hborn u hu1
         omega) (by simp)
        exact this
       have hmod:(ents.push { key:=a.eval y,val:=zv,born:=clock }).modify ents.size (fun e=>{ e with val:=a.eval z })=ents.push { key:=a.eval y,val:=a.eval z,born:=clock }:=by
        apply Array.ext'
        rw [Array.toList_modify,Array.toList_push,Array.toList_push,<- Array.length_toList,WideElems.modify_last]
       simp only [hax,Instr.entryStore,Sem.run_bind,getObj,Sem.run,Array.getElem?_setIfInBounds_self_of_lt hlb,Result.andThen_ok]
       simp [asInt,asIntOf,goInt,hidx,hmod,setObj,Sem.run,Result.andThen,hlb]
     .have hi:i < ents.size:=by have:=(List.getElem?_eq_some_iff.1 gp).1; rw [hlen] at this; simpa using this
      obtain ⟨en,g2⟩:∃ en,ents.toList[i]?=some en:=⟨ents.toList[i]'(by simpa using hi),by simp⟩
      have g3:=keyEq_same ge hkrel (hent i p0 en gp g2).1
      have hgi:ents[i]?=some en:=by rw [<- Array.getElem?_toList]; exact g2
      obtain ⟨h1,h2⟩:=hr.inv.setMap hob hm (es':=es') (ents':=ents.modify i fun e=>{ e with key:=a.eval y,val:=a.eval z }) (clock':=clock) (by
       refine ⟨by rw [g4]; simp [hlen],fun j p en' hp hen=>?_,fun en' hen=>?_,?_⟩
       .rw [g4] at hp
        rw [Array.toList_modify,List.getElem?_modify] at hen
        rw [List.getElem?_set] at hp
        by_cases hij:i=j
        .subst hij
         simp only [if_true] at hp hen
         rw [if_pos (by rw [hlen]; simpa using hi)] at hp
         simp at hp; subst hp
         rw [g2] at hen
         simp at hen; subst hen
         exact ⟨hkrel,hvrel⟩
        .simp only [hij,if_false] at hp hen
         have hen':ents.toList[j]?=some en':=by
          cases hq:ents.toList[j]? with
          | none=>rw [hq] at hen; simp at hen
          | some q=>rw [hq] at hen; simpa using hen
         exact hent j p en' hp hen'
       .obtain ⟨j,hj⟩:=List.getElem?_of_mem hen
        rw [Array.toList_modify,List.getElem?_modify] at hj
        cases hq:ents.toList[j]? with
        | none=>rw [hq] at hj; simp at hj
        | some q =>
         rw [hq] at hj
         have hqm:=hborn q (List.mem_of_getElem? hq)
         simp only [Option.map_eq_map,Option.map_some,Option.some.injEq] at hj
         split at hj <;> subst hj <;> exact hqm
       .rw [Array.toList_modify]
        have hmap:∀ (l:List MapEntry) (j:Nat) (f:MapEntry -> MapEntry),(∀ e,(f e).born=e.born) -> (l.modify j f).map (·.born)=l.map (·.born):=by
         intro l
         induction l with
         | nil=>intro j f hf; simp
         | cons e l ih =>
          intro j f hf
          cases j with
          | zero=>simp [hf]
          | succ j=>simp [ih j f hf]
        have h3:(ents.toList.map (·.born)).Pairwise (· ≠ ·):=List.pairwise_map.2 hpw
        rw [<- hmap ents.toList i (fun e=>{ e with key:=a.eval y,val:=a.eval z }) (fun e=>rfl)] at h3
        exact List.pairwise_map.1 h3)
      have hlb:rr < w.heap.size:=(Array.getElem?_eq_some_iff.1 hb).1
      have hkeep:(Instr.keyThatStays (((ents[i]?).map (·.key)).getD (a.eval y)) (a.eval y)).run P w=.ok (a.eval y) w:=by
       simp [hgi,Instr.keyThatStays,g3]
      refine ⟨en.val,en.born,{ w with heap:=w.heap.setIfInBounds rr (.map (ents.modify i fun e=>{ e with key:=a.eval y }) clock) },_,?_,?_,rfl,h1,h2⟩
      .simp only [hax,Instr.mapEntry,Sem.run_bind,aH ht,Result.andThen_ok,getObj,Sem.run,hb,run_checkKey hkt hkrel hkey,hfind g1,entAt,g2,Option.map_some,Nat.zero_add,hkeep]
       simp [setObj,Sem.run,hb,goInt,hgi]
      .have hidx:(ents.modify i fun e=>{ e with key:=a.eval y }).findIdx? (fun e=>((e.born:Nat):Int) == ((en.born:Nat):Int))=some i:=by
        rw [WideElems.findIdx_arr]
        refine WideElems.findIdx_born (l:=(ents.modify i fun e=>{ e with key:=a.eval y }).toList) (j:=i) (e0:={ en with key:=a.eval y }) ?_ ?_
        .rw [Array.toList_modify]
         have hmap:∀ (l:List MapEntry) (j:Nat) (f:MapEntry -> MapEntry),(∀ e,(f e).born=e.born) -> (l.modify j f).map (·.born)=l.map (·.born):=by
          intro l
          induction l with
          | nil=>intro j f hf; simp
          | cons e l ih =>
           intro j f hf
           cases j with
           | zero=>simp [hf]
           | succ j=>simp [ih j f hf]
         rw [hmap ents.toList i (fun e=>{ e with key:=a.eval y }) (fun _=>rfl)]
         exact List.pairwise_map.2 hpw
        .rw [Array.toList_modify,List.getElem?_modify,g2]; simp
       have hmod:(ents.modify i fun e=>{ e with key:=a.eval y }).modify i (fun e=>{ e with val:=a.eval z })=ents.modify i fun e=>{ e with key:=a.eval y,val:=a.eval z }:=by
        apply Array.ext'
        rw [Array.toList_modify,Array.toList_modify,Array.toList_modify]
        refine List.ext_getElem? fun j=>?_
        simp only [List.getElem?_modify]
        by_cases hij:i=j
        .subst hij; rw [g2]; simp
        .simp [hij]
       simp only [hax,Instr.entryStore,Sem.run_bind,getObj,Sem.run,Array.getElem?_setIfInBounds_self_of_lt hlb,Result.andThen_ok]
       simp [asInt,asIntOf,goInt,hidx,hmod,setObj,Sem.run,Result.andThen,hlb]
   .cases he
  .cases he
 .cases he
end
end Go.Apx
