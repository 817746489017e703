/- Walks: the classes of bytes. -/
import Derived.Test.YtmgajcmigkcmdaaGreatDoorCode
import Derived.Test.YtmgajcmigkcmdaaGreatDoorAmC
set_option linter.unusedVariables false
set_option linter.unusedSimpArgs false
set_option linter.unnecessarySimpa false
namespace Go.Apx
open Go.Proofs
set_option maxRecDepth 4000
def cls (b:Nat):Nat :=
 if b=32 \/ (9 <= b /\ b <= 13 /\ b ≠ 11) then 1 else if b=36 then 4
 else if (48 <= b /\ b <= 57) \/ (65 <= b /\ b <= 90) \/ (97 <= b /\ b <= 122) \/ b=45 \/ b=95 \/ b=46 then 2 else if 32 < b /\ b <= 126 then 3 else 0
def u8c (n:Nat):AV:=.sc (.int .u8 (n:Int))
def clsC (i:Nat):List AV:=(List.range 256).map fun j=>u8c (if j < i then cls j else 0)
theorem clsC_len (i:Nat):(clsC i).length=256:=by simp [clsC]
theorem clsC_same {i:Nat} (h:cls i=0):clsC i=clsC (i+1):=by
 unfold clsC
 refine List.map_congr_left fun j _=>?_
 by_cases h1:j < i
 .rw [if_pos h1,if_pos (by omega)]
 .by_cases h2:j=i
  .subst h2; rw [if_neg h1,if_pos (by omega),h]
  .rw [if_neg h1,if_neg (by omega)]
theorem clsC_set {i c:Nat} (h:cls i=c):(clsC i).set i (u8c c)=clsC (i+1):=by
 subst h
 refine List.ext_getElem? fun j=>?_
 rw [List.getElem?_set]
 unfold clsC
 by_cases e:i=j
 .subst e
  simp only [if_true,List.length_map,List.length_range,List.getElem?_map,List.getElem?_range]
  by_cases hi:i < 256
  .simp [hi]
  .simp [hi]
 .rw [if_neg e,List.getElem?_map,List.getElem?_map]
  by_cases hj:j < 256
  .rw [List.getElem?_range hj]
   simp only [Option.map_some]
   by_cases h1:j < i
   .rw [if_pos h1,if_pos (by omega)]
   .rw [if_neg h1,if_neg (by omega)]
  .rw [List.getElem?_eq_none (by simp; omega)]; rfl
theorem clsC_strip (i:Nat):stripL (clsC i)=clsC i:=by
 unfold clsC
 induction List.range 256 with
 | nil=>rfl
 | cons a l ih=>rw [List.map_cons,stripL,ih]; rfl
theorem clsC_inb (n i:Nat):inbL n (clsC i)=true:=by
 unfold clsC
 induction List.range 256 with
 | nil=>rfl
 | cons a l ih=>rw [List.map_cons,inbL,ih]; rfl
theorem clsC_one (i:Nat):∀ x ∈ clsC i,x.one=true:=by
 intro x hx
 obtain ⟨j,_,rfl⟩:=List.mem_map.1 hx
 rfl
theorem classes_code:code_140=.seq (.reg [⟨some 0,.new (clsC 0),none,[]⟩]) (.seq (.seq (.reg [⟨some 3,.mv (.c (.sc (.int .i64 0))),none,[]⟩]) (.block 0 (.loop lp0_140))) (.seq (.reg [⟨some 77,.load (.agg 256) (.t 0),none,[]⟩,⟨none,.store 256 (.t 0) (.t 77),none,[0,0]⟩]) .ret)):=by kernel_rfl
set_option maxHeartbeats 16000000 in
theorem classes_c {h:AHeap}:AEx PP Gl 140 [] h (.ret (.agg (clsC 256))) h:=by
 refine enter_140 (by simp) ?_
 rw [classes_code]
 have hl:=clsC_len
 obtain ⟨C0,hC0⟩:∃ f:Nat -> List AV,f=clsC:=⟨_,rfl⟩
 rw [<- hC0] at hl ⊢
 have hset:∀ {i c:Nat},cls i=c -> (C0 i).set i (.sc (.int .u8 (c:Int)))=C0 (i+1):=fun h=>by rw [hC0]; exact clsC_set h
 have hsame:∀ {i:Nat},cls i=0 -> C0 i=C0 (i+1):=fun h=>by rw [hC0]; exact clsC_same h
 simp -implicitDefEqProofs [res_140,ann_140]
 refine AWp.cnt 256 [0] (fun i=>[(3,i64 (i:Int))]) (fun i=>h++[.cells 0 (C0 i)]) (fun _=>True) mixed trivial (le_of (by simp [dslot])) (by simp) ?_ ?_
 .intro i hi _
  have h1:(i:Int) < 256:=by omega
  have w1:=IntWalk.u8_in (i:Int) (by omega)
  have w2:=IntWalk.i64_in ((i:Int)+1) (by omega)
  have hli:i < (C0 i).length:=by rw [hl]; exact hi
  have h255:i <= 255:=by omega
  have hT:∀ c:Nat,cls i=c -> List.take i (C0 i)++AV.sc (.int .u8 (c:Int)) :: List.drop (i+1) (C0 i)=C0 (i+1):=fun c hc=>by
   rw [<- hset hc,List.set_eq_take_append_cons_drop,if_pos hli]
  have hT1:cls i=1 -> List.take i (C0 i)++AV.sc (.int .u8 1) :: List.drop (i+1) (C0 i)=C0 (i+1):=hT 1
  have hT2:cls i=2 -> List.take i (C0 i)++AV.sc (.int .u8 2) :: List.drop (i+1) (C0 i)=C0 (i+1):=hT 2
  have hT3:cls i=3 -> List.take i (C0 i)++AV.sc (.int .u8 3) :: List.drop (i+1) (C0 i)=C0 (i+1):=hT 3
  have hT4:cls i=4 -> List.take i (C0 i)++AV.sc (.int .u8 4) :: List.drop (i+1) (C0 i)=C0 (i+1):=hT 4
  have hcut:i <= 8 \/ (9 <= i /\ i <= 10) \/ i=11 \/ (12 <= i /\ i <= 13) \/ (14 <= i /\ i <= 31) \/ i=32 \/ (33 <= i /\ i <= 35) \/ i=36 \/ (37 <= i /\ i <= 44) \/ i=45 \/ i=46 \/ i=47 \/ (48 <= i /\ i <= 57) \/ (58 <= i /\ i <= 64) \/ (65 <= i /\ i <= 90) \/ (91 <= i /\ i <= 94) \/ i=95 \/ i=96 \/ (97 <= i /\ i <= 122) \/ (123 <= i /\ i <= 126) \/ 127 <= i:=by omega
  rcases hcut with c | c | c | c | c | c | c | c | c | c | c | c | c | c | c | c | c | c | c | c | c
  all_goals
   first | have p0:((i:Int)=32)=True:=eq_true (by omega) | have p0:((i:Int)=32)=False:=eq_false (by omega)
   first | have p1:(9 <= (i:Int))=True:=eq_true (by omega) | have p1:(9 <= (i:Int))=False:=eq_false (by omega)
   first | have p2:((i:Int) <= 13)=True:=eq_true (by omega) | have p2:((i:Int) <= 13)=False:=eq_false (by omega)
   first | have p3:((i:Int)=11)=True:=eq_true (by omega) | have p3:((i:Int)=11)=False:=eq_false (by omega)
   first | have p4:((i:Int)=36)=True:=eq_true (by omega) | have p4:((i:Int)=36)=False:=eq_false (by omega)
   first | have p5:(48 <= (i:Int))=True:=eq_true (by omega) | have p5:(48 <= (i:Int))=False:=eq_false (by omega)
   first | have p6:((i:Int) <= 57)=True:=eq_true (by omega) | have p6:((i:Int) <= 57)=False:=eq_false (by omega)
   first | have p7:(65 <= (i:Int))=True:=eq_true (by omega) | have p7:(65 <= (i:Int))=False:=eq_false (by omega)
   first | have p8:((i:Int) <= 90)=True:=eq_true (by omega) | have p8:((i:Int) <= 90)=False:=eq_false (by omega)
   first | have p9:(97 <= (i:Int))=True:=eq_true (by omega) | have p9:(97 <= (i:Int))=False:=eq_false (by omega)
   first | have p10:((i:Int) <= 122)=True:=eq_true (by omega) | have p10:((i:Int) <= 122)=False:=eq_false (by omega)
   first | have p11:((i:Int)=45)=True:=eq_true (by omega) | have p11:((i:Int)=45)=False:=eq_false (by omega)
   first | have p12:((i:Int)=95)=True:=eq_true (by omega) | have p12:((i:Int)=95)=False:=eq_false (by omega)
   first | have p13:((i:Int)=46)=True:=eq_true (by omega) | have p13:((i:Int)=46)=False:=eq_false (by omega)
   first | have p14:(32 < (i:Int))=True:=eq_true (by omega) | have p14:(32 < (i:Int))=False:=eq_false (by omega)
   first | have p15:((i:Int) <= 126)=True:=eq_true (by omega) | have p15:((i:Int) <= 126)=False:=eq_false (by omega)
   first | have hc:cls i=0:=by (unfold cls; rw [if_neg (by omega),if_neg (by omega),if_neg (by omega),if_neg (by omega)]) | have hc:cls i=1:=by (unfold cls; rw [if_pos (by omega)]) | have hc:cls i=4:=by (unfold cls; rw [if_neg (by omega),if_pos (by omega)]) | have hc:cls i=2:=by (unfold cls; rw [if_neg (by omega),if_neg (by omega),if_pos (by omega)]) | have hc:cls i=3:=by (unfold cls; rw [if_neg (by omega),if_neg (by omega),if_neg (by omega),if_pos (by omega)])
   first | have hs:=hsame hc | have hs:=hT1 hc | have hs:=hT2 hc | have hs:=hT3 hc | have hs:=hT4 hc
   simp -implicitDefEqProofs [lp0_140,h1,hi,h255,hs,w1,w2,hl,p0,p1,p2,p3,p4,p5,p6,p7,p8,p9,p10,p11,p12,p13,p14,p15]
   first | exact le_of (by simp [dslot]) | exact ⟨le_of (by simp [dslot]),hs⟩
 .intro _
  have ht:List.take 256 (C0 256)=C0 256:=List.take_of_length_le (by rw [hl]; exact Nat.le_refl _)
  have ho:∀ x ∈ C0 256,x.one=true:=by rw [hC0]; exact clsC_one 256
  have hst:stripL (C0 256)=C0 256:=by rw [hC0]; exact clsC_strip 256
  have hin:inbL h.length (C0 256)=true:=by rw [hC0]; exact clsC_inb _ _
  simp -implicitDefEqProofs [lp0_140,hl,ht]
  rw [if_pos ho]
  simp -implicitDefEqProofs [lp0_140,hl,ht]
  refine retD (v:=.agg (C0 256)) (by simp [deferred,dslot]) (by simp [evalRes,evalRes1,hl,ht]) ?_ ?_ rfl
  .simp only [AV.strip,hst,AV.inb,hin]
  .simp only [AV.strip,hst]
end Go.Apx
