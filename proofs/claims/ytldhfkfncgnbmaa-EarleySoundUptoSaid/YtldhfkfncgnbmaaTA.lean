/- The heap keeps what it had. -/
import Derived.Test.YtldhfkfncgnbmaaEA
import Derived.Test.YtldhfkfncgnbmaaCode
import Derived.Test.YtldhfkfncgnbmaaPE
set_option linter.unusedVariables false
set_option linter.unusedSimpArgs false
set_option linter.unnecessarySimpa false
section
namespace Go.Apx
open Go.Proofs
def Kp (H H':AHeap):Prop:=∀ (z:Nat) (x:AObj),H[z]?=some x -> H'[z]?=some x
theorem Kp.trans {a b c:AHeap} (h:Kp a b) (h':Kp b c):Kp a c:=fun z x hz=>h' z x (h z x hz)
theorem Kp.app (H J:AHeap):Kp H (H++J):=fun z x hz=>by rw [List.getElem?_append_left (List.getElem?_eq_some_iff.1 hz).1]; exact hz
end Go.Apx
end
section
namespace Go.Apx
open Go.Proofs
set_option maxRecDepth 100000
def cp0_earley_counted:ACode :=
 .reg [⟨(some 1),.box (.t 0),none,[]⟩,
  ⟨(some 2),.mv (.c (.sc (.pointer none))),none,[]⟩,
  ⟨(some 3),.mv (.c (.sc (.int .i64 0))),none,[1]⟩]
def cp1_earley_counted:ACode :=
 .seq (.reg [⟨(some 11),.faddr 0 .one (.t 1),none,[]⟩,
   ⟨(some 12),.load .one (.t 11),none,[0]⟩,
   ⟨(some 13),.len .sl (.t 12),none,[1]⟩,
   ⟨(some 14),.bin .eql (.t 13) (.c (.sc (.int .i64 0))),none,[2]⟩]) (
 .cond (.t 14) (.seq (.reg [⟨(some 2),.mv (.c (.sc (.pointer none))),none,[]⟩,
   ⟨(some 3),.mv (.c (.sc (.int .i64 2))),none,[0,0]⟩]) (
  .ret)) (
 .skip))
def cp2_earley_counted:ACode :=
 .seq (.reg [⟨(some 15),.faddr 0 .one (.t 1),none,[]⟩,
   ⟨(some 16),.load .one (.t 15),none,[0]⟩,
   ⟨(some 17),.len .sl (.t 16),none,[1]⟩,
   ⟨(some 18),.mv (.c (.sc (.int .i64 0))),none,[]⟩]) (
 .block 0 (.loop lp0_earley_counted))
def cp3_earley_counted:ACode :=
 .dreg [(true,⟨(some 48),.load (.agg 1) (.t 1),none,[]⟩),
  (true,⟨(some 49),.faddr 0 .one (.t 1),none,[]⟩),
  (true,⟨(some 50),.load .one (.t 49),none,[1]⟩),
  (true,⟨(some 51),.len .sl (.t 50),none,[2]⟩),
  (true,⟨(some 53),.faddr 0 .one (.t 1),none,[]⟩),
  (true,⟨(some 54),.load .one (.t 53),none,[5]⟩),
  (true,⟨(some 55),.len .sl (.t 54),none,[6]⟩),
  (true,⟨(some 52),.mkSlice 1 8 [(.sc (.int .i64 0))] (.t 51) (.t 51),none,[3,3]⟩),
  (false,⟨(some 56),.mkSlice 1 8 [(.sc (.int .i64 0))] (.t 55) (.t 55),none,[7,7]⟩),
  (false,⟨(some 57),.build [(.sl 0 [] .nil),(.sl 0 [] .nil),(.sl 0 [] .nil)] [(0,1,(.t 48)),(1,1,(.t 52)),(2,1,(.t 56))],none,[0,4,8]⟩),
  (false,⟨(some 58),.boxm (.t 57),none,[9]⟩),
  (false,⟨(some 10),.mv (.t 58),none,[10,0,1,2,3,4,5,6,7,8,9,10]⟩)]
def cp4_earley_counted:ACode :=
 .seq (.reg [⟨(some 59),.mv (.t 10),none,[]⟩,
   ⟨(some 60),.call (.c (.fn (.func 82) [] [])) [(.t 59),(.c (.sc (.int .i64 0)))],none,[0]⟩,
   ⟨(some 61),.un .not (.t 60),none,[1]⟩]) (
 .cond (.t 61) (.seq (.reg [⟨(some 2),.mv (.c (.sc (.pointer none))),none,[]⟩,
   ⟨(some 3),.mv (.c (.sc (.int .i64 161))),none,[0,0]⟩]) (
  .ret)) (
 .skip))
def cp5_earley_counted:ACode :=
 .reg [⟨(some 62),.mv (.t 10),none,[]⟩,
  ⟨(some 2),.mv (.t 62),none,[0,0]⟩,
  ⟨(some 3),.mv (.c (.sc (.int .i64 0))),none,[1,0,1]⟩]
def tl6_earley_counted:ACode:=.ret
def tl5_earley_counted:ACode:=.seq cp5_earley_counted tl6_earley_counted
def tl4_earley_counted:ACode:=.seq cp4_earley_counted tl5_earley_counted
def tl3_earley_counted:ACode:=.seq cp3_earley_counted tl4_earley_counted
def tl2_earley_counted:ACode:=.seq cp2_earley_counted tl3_earley_counted
def tl1_earley_counted:ACode:=.seq cp1_earley_counted tl2_earley_counted
def tl0_earley_counted:ACode:=.seq cp0_earley_counted tl1_earley_counted
end Go.Apx
end
section
namespace Go.Apx
open Go.Proofs
set_option maxRecDepth 4000
abbrev WF:=Nat -> List (Int × List Nat)
def Stp (ws:WF) (i k:Nat):Prop:=∃ w ∈ ws i,k ∈ w.2
inductive Rch (ws:WF):Nat -> Nat -> Prop
 | one {i k:Nat} (h:Stp ws i k):Rch ws i k
 | cons {i k j:Nat} (h:Stp ws i k) (h':Rch ws k j):Rch ws i j
theorem Rch.trans {ws:WF} {i k j:Nat} (h:Rch ws i k) (h':Rch ws k j):Rch ws i j:=by
 induction h with
 | one h=>exact .cons h h'
 | cons h _ ih=>exact .cons h (ih h')
inductive Wl (ws:WF):Nat -> Prop
 | mk (i:Nat) (h:∀ k,Stp ws i k -> Wl ws k):Wl ws i
theorem Wl.kid {ws:WF} {i k:Nat} (h:Wl ws i) (hk:Stp ws i k):Wl ws k:=by
 cases h with
 | mk _ h=>exact h k hk
theorem Wl.irr {ws:WF} {i:Nat} (h:Wl ws i):¬ Rch ws i i:=by
 induction h with
 | mk i h ih =>
  intro hr
  cases hr with
  | one h1=>exact ih i h1 (.one h1)
  | @cons _ k _ h1 h2=>exact ih k h1 (h2.trans (.one h1))
theorem wl_of {ws:WF}:∀ (n i:Nat) (S:List Nat),S.length <= n -> (∀ j,Rch ws i j -> j ∈ S) -> (∀ j,Rch ws i j -> ¬ Rch ws j j) -> Wl ws i
 | 0,i,S,hn,hS,hc=>.mk i fun k hk=>by
  have:=hS k (.one hk)
  rw [List.eq_nil_of_length_eq_zero (by omega:S.length=0)] at this
  cases this
 | n+1,i,S,hn,hS,hc=>.mk i fun k hk=>by
  have hkS:=hS k (.one hk)
  refine wl_of n k (S.erase k) (by rw [List.length_erase_of_mem hkS]; omega) (fun j hj=>?_) fun j hj=>hc j (.cons hk hj)
  have hjS:=hS j (.cons hk hj)
  refine (List.mem_erase_of_ne ?_).2 hjS
  rintro rfl
  exact hc _ (.one hk) hj
inductive RT where
 | node (r:Int) (kids:List RT)
def RT.r:RT -> Int | .node r _=>r
mutual
def sizeR:RT -> Nat
 | .node _ ks=>1+sizesR ks
def sizesR:List RT -> Nat
 | []=>0
 | t :: r=>sizeR t+sizesR r
end
mutual
def deepR:RT -> Nat
 | .node _ ks=>1+deepsR ks
def deepsR:List RT -> Nat
 | []=>0
 | t :: r=>max (deepR t) (deepsR r)
end
mutual
def okR (n:Nat):RT -> Bool
 | .node r ks=>decide (0 <= r /\ r < n) && oksR n ks
def oksR (n:Nat):List RT -> Bool
 | []=>true
 | t :: r=>okR n t && oksR n r
end
theorem oksR_all {n:Nat}:∀ {l:List RT},oksR n l=true ↔ ∀ t ∈ l,okR n t=true
 | []=>by simp [oksR]
 | t :: r=>by simp [oksR,oksR_all (l:=r)]
theorem deepsR_le {n:Nat}:∀ {l:List RT},(∀ t ∈ l,deepR t <= n) -> deepsR l <= n
 | [],_=>Nat.zero_le _
 | t :: r,h=>by
  have h1:=h t (by simp)
  have h2:=deepsR_le (l:=r) fun x hx=>h x (by simp [hx])
  simp only [deepsR]; omega
theorem deepsR_mem {t:RT}:∀ {l:List RT},t ∈ l -> deepR t <= deepsR l
 | x :: r,h=>by
  simp only [deepsR]
  rcases List.mem_cons.1 h with rfl | h
  .omega
  .have:=deepsR_mem h; omega
def combos (L:Nat -> List RT):List Nat -> List (List RT)
 | []=>[[]]
 | k :: ks=>(L k).flatMap fun t=>(combos L ks).map (t :: ·)
def stepL (L:Nat -> List RT) (wl:List (Int × List Nat)):List RT:=wl.flatMap fun w=>(combos L w.2).map (RT.node w.1)
theorem combos_congr {L L':Nat -> List RT}:∀ {ks:List Nat},(∀ k ∈ ks,L k=L' k) -> combos L ks=combos L' ks
 | [],_=>rfl
 | k :: ks,h=>by
  simp only [combos,h k (by simp),combos_congr (ks:=ks) fun x hx=>h x (by simp [hx])]
theorem flatMap_congr' {α β:Type} {l:List α} {f g:α -> List β} (h:∀ a ∈ l,f a=g a):l.flatMap f=l.flatMap g:=by
 induction l with
 | nil=>rfl
 | cons a l ih=>simp only [List.flatMap_cons,h a (by simp),ih fun x hx=>h x (by simp [hx])]
theorem stepL_congr {L L':Nat -> List RT} {wl:List (Int × List Nat)} (h:∀ w ∈ wl,∀ k ∈ w.2,L k=L' k):stepL L wl=stepL L' wl :=
 flatMap_congr' fun w hw=>by rw [combos_congr (h w hw)]
def LFu (ws:WF):Nat -> Nat -> List RT
 | 0,_=>[]
 | d+1,i=>stepL (LFu ws d) (ws i)
theorem le_all (d:Nat -> Nat):∀ l:List Nat,∃ E,∀ k ∈ l,d k <= E
 | []=>⟨0,by simp⟩
 | a :: l=>by
  obtain ⟨E,hE⟩:=le_all d l
  refine ⟨max (d a) E,fun k hk=>?_⟩
  rcases List.mem_cons.1 hk with rfl | hk
  .omega
  .have:=hE k hk; omega
theorem kids_mem {ws:WF} {i k:Nat}:k ∈ (ws i).flatMap (·.2) ↔ Stp ws i k:=by
 unfold Stp
 rw [List.mem_flatMap]
theorem LFu_stable {ws:WF} {i:Nat} (h:Wl ws i):∃ d,∀ e,d <= e -> LFu ws e i=LFu ws d i:=by
 induction h with
 | mk i h ih =>
  have h1:∀ k,∃ d,Stp ws i k -> ∀ e,d <= e -> LFu ws e k=LFu ws d k:=fun k=>by
   by_cases hk:Stp ws i k
   .obtain ⟨d,hd⟩:=ih k hk; exact ⟨d,fun _=>hd⟩
   .exact ⟨0,fun h=>(hk h).elim⟩
  obtain ⟨d,hd⟩:=Classical.axiomOfChoice h1
  obtain ⟨E,hE⟩:=le_all d ((ws i).flatMap (·.2))
  refine ⟨E+1,fun e he=>?_⟩
  obtain ⟨e',rfl⟩:∃ e',e=e'+1:=⟨e - 1,by omega⟩
  refine stepL_congr fun w hw k hk=>?_
  have hs:Stp ws i k:=⟨w,hw,hk⟩
  have:=hE k (kids_mem.2 hs)
  rw [hd k hs e' (by omega),hd k hs E this]
theorem exists_L (ws:WF):∃ L:Nat -> List RT,∀ i,Wl ws i -> L i=stepL L (ws i):=by
 have h1:∀ i,∃ d,Wl ws i -> ∀ e,d <= e -> LFu ws e i=LFu ws d i:=fun i=>by
  by_cases hi:Wl ws i
  .obtain ⟨d,hd⟩:=LFu_stable hi; exact ⟨d,fun _=>hd⟩
  .exact ⟨0,fun h=>(hi h).elim⟩
 obtain ⟨d,hd⟩:=Classical.axiomOfChoice h1
 refine ⟨fun i=>LFu ws (d i) i,fun i hi=>?_⟩
 obtain ⟨E,hE⟩:=le_all d ((ws i).flatMap (·.2))
 show LFu ws (d i) i=_
 rw [<- hd i hi (max (d i) E+1) (by omega)]
 refine stepL_congr fun w hw k hk=>?_
 have hs:Stp ws i k:=⟨w,hw,hk⟩
 have:=hE k (kids_mem.2 hs)
 exact hd k (hi.kid hs) _ (by omega)
theorem stepL_mem {L:Nat -> List RT} {wl:List (Int × List Nat)} {t:RT}:t ∈ stepL L wl ↔ ∃ w ∈ wl,∃ p ∈ combos L w.2,t=.node w.1 p:=by
 unfold stepL
 simp only [List.mem_flatMap,List.mem_map]
 constructor
 .rintro ⟨w,hw,p,hp,rfl⟩; exact ⟨w,hw,p,hp,rfl⟩
 .rintro ⟨w,hw,p,hp,rfl⟩; exact ⟨w,hw,p,hp,rfl⟩
theorem combos_mem {L:Nat -> List RT}:∀ {ks:List Nat} {p:List RT},p ∈ combos L ks -> ∀ t ∈ p,∃ k ∈ ks,t ∈ L k
 | [],p,h=>by simp [combos] at h; subst h; simp
 | k :: ks,p,h=>by
  simp only [combos,List.mem_flatMap,List.mem_map] at h
  obtain ⟨t,ht,q,hq,rfl⟩:=h
  intro x hx
  rcases List.mem_cons.1 hx with rfl | hx
  .exact ⟨k,by simp,ht⟩
  .obtain ⟨k',h1,h2⟩:=combos_mem hq x hx
   exact ⟨k',by simp [h1],h2⟩
theorem deep_le {ws:WF} {L:Nat -> List RT} (hL:∀ i,Wl ws i -> L i=stepL L (ws i)):∀ (n i:Nat) (S:List Nat),Wl ws i -> S.length <= n -> (∀ j,Rch ws i j -> j ∈ S) -> ∀ t ∈ L i,deepR t <= n+1
 | n,i,S,hi,hn,hS,t,ht=>by
  rw [hL i hi] at ht
  obtain ⟨w,hw,p,hp,rfl⟩:=stepL_mem.1 ht
  have h1:∀ x ∈ p,deepR x <= n:=fun x hx=>by
   obtain ⟨k,hk,hxk⟩:=combos_mem hp x hx
   have hs:Stp ws i k:=⟨w,hw,hk⟩
   have hkS:=hS k (.one hs)
   match n with
   | 0=>rw [List.eq_nil_of_length_eq_zero (by omega:S.length=0)] at hkS; cases hkS
   | n+1 =>
    refine deep_le hL n k (S.erase k) (hi.kid hs) (by rw [List.length_erase_of_mem hkS]; omega) (fun j hj=>?_) x hxk
    refine (List.mem_erase_of_ne ?_).2 (hS j (.cons hs hj))
    rintro rfl
    exact (hi.kid hs).irr hj
  have:=deepsR_le h1
  simp only [deepR]; omega
def many:Nat:=1000000001
def cnt (L:Nat -> List RT) (i:Nat):Nat:=min (L i).length many
def prodF (c:Nat -> Nat) (ks:List Nat):Nat:=ks.foldl (fun m k=>min (m * c k) many) 1
def sumF (c:Nat -> Nat) (wl:List (Int × List Nat)):Nat:=wl.foldl (fun n w=>min (n+prodF c w.2) many) 0
theorem prodF_step {c:Nat -> Nat} {ks:List Nat} {i k:Nat} (h:ks[i]?=some k):prodF c (ks.take (i+1))=min (prodF c (ks.take i) * c k) many:=by
 unfold prodF
 rw [List.take_add_one,h,List.foldl_append]; rfl
theorem sumF_step {c:Nat -> Nat} {wl:List (Int × List Nat)} {i:Nat} {w:Int × List Nat} (h:wl[i]?=some w):sumF c (wl.take (i+1))=min (sumF c (wl.take i)+prodF c w.2) many:=by
 unfold sumF
 rw [List.take_add_one,h,List.foldl_append]; rfl
theorem prodF_le (c:Nat -> Nat) (ks:List Nat):prodF c ks <= many:=by
 rcases List.eq_nil_or_concat ks with rfl | ⟨l,a,rfl⟩
 .show 1 <= many; decide
 .unfold prodF; rw [List.concat_eq_append,List.foldl_append]; exact Nat.min_le_right _ _
theorem sumF_le (c:Nat -> Nat) (wl:List (Int × List Nat)):sumF c wl <= many:=by
 rcases List.eq_nil_or_concat wl with rfl | ⟨l,a,rfl⟩
 .exact Nat.zero_le _
 .unfold sumF; rw [List.concat_eq_append,List.foldl_append]; exact Nat.min_le_right _ _
theorem cnt_le (L:Nat -> List RT) (i:Nat):cnt L i <= many:=Nat.min_le_right _ _
theorem sat_mul (a b:Nat):min (min a many * min b many) many=min (a * b) many:=by
 rcases Nat.lt_or_ge a many with ha | ha <;> rcases Nat.lt_or_ge b many with hb | hb
 .rw [Nat.min_eq_left (Nat.le_of_lt ha),Nat.min_eq_left (Nat.le_of_lt hb)]
 .rw [Nat.min_eq_left (Nat.le_of_lt ha),Nat.min_eq_right hb]
  rcases Nat.eq_zero_or_pos a with rfl | h0
  .simp
  .rw [Nat.min_eq_right (Nat.le_mul_of_pos_left _ h0),Nat.min_eq_right (Nat.le_trans hb (Nat.le_mul_of_pos_left _ h0))]
 .rw [Nat.min_eq_right ha,Nat.min_eq_left (Nat.le_of_lt hb)]
  rcases Nat.eq_zero_or_pos b with rfl | h0
  .simp
  .rw [Nat.min_eq_right (Nat.le_mul_of_pos_right _ h0),Nat.min_eq_right (Nat.le_trans ha (Nat.le_mul_of_pos_right _ h0))]
 .rw [Nat.min_eq_right ha,Nat.min_eq_right hb,Nat.min_eq_right (Nat.le_mul_of_pos_right _ (by decide)),Nat.min_eq_right (Nat.le_trans ha (Nat.le_mul_of_pos_right _ (Nat.lt_of_lt_of_le (by decide) hb)))]
theorem combos_len {L:Nat -> List RT} {k:Nat} {ks:List Nat}:(combos L (k :: ks)).length=(L k).length * (combos L ks).length:=by
 simp only [combos]
 induction L k with
 | nil=>simp
 | cons a l ih=>simp only [List.flatMap_cons,List.length_append,List.length_map,List.length_cons,ih,Nat.add_mul,Nat.one_mul]; omega
theorem prodF_from (L:Nat -> List RT):∀ (ks:List Nat) (a:Nat),ks.foldl (fun m k=>min (m * cnt L k) many) (min a many)=min (a * (combos L ks).length) many
 | [],a=>by simp [combos]
 | k :: ks,a=>by
  simp only [List.foldl_cons]
  unfold cnt
  rw [sat_mul]
  have:=prodF_from L ks (a * (L k).length)
  unfold cnt at this
  rw [this,combos_len,Nat.mul_assoc]
theorem prodF_eq (L:Nat -> List RT) (ks:List Nat):prodF (cnt L) ks=min (combos L ks).length many:=by
 have:=prodF_from L ks 1
 rw [Nat.one_mul] at this
 exact this
theorem sumF_from (L:Nat -> List RT):∀ (wl:List (Int × List Nat)) (a:Nat),wl.foldl (fun n w=>min (n+prodF (cnt L) w.2) many) (min a many)=min (a+(stepL L wl).length) many
 | [],a=>by simp [stepL]
 | w :: wl,a=>by
  simp only [List.foldl_cons,prodF_eq]
  have h1:min (min a many+min (combos L w.2).length many) many=min (a+(combos L w.2).length) many:=by omega
  have:=sumF_from L wl (a+(combos L w.2).length)
  simp only [prodF_eq] at this
  rw [h1,this]
  simp only [stepL,List.flatMap_cons,List.length_append,List.length_map]
  congr 1; omega
theorem cnt_eq {ws:WF} {L:Nat -> List RT} (hL:∀ i,Wl ws i -> L i=stepL L (ws i)) {i:Nat} (h:Wl ws i):cnt L i=sumF (cnt L) (ws i):=by
 have:=sumF_from L (ws i) 0
 simp only [Nat.zero_min,Nat.zero_add] at this
 unfold sumF
 rw [this,<- hL i h]; rfl
theorem flat_at {α β:Type} {f:α -> List β} {m:Nat} (hm:0 < m):∀ (l:List α),(∀ a ∈ l,(f a).length=m) -> ∀ n,(l.flatMap f)[n]?=(l[n / m]?).bind fun a=>(f a)[n % m]?
 | [],_,n=>by simp
 | a :: l,h,n=>by
  have ha:=h a (by simp)
  rw [List.flatMap_cons]
  by_cases hn:n < m
  .rw [List.getElem?_append_left (by omega),Nat.div_eq_of_lt hn,Nat.mod_eq_of_lt hn]; rfl
  .rw [List.getElem?_append_right (by omega),flat_at hm l (fun x hx=>h x (by simp [hx])),ha]
   have h1:n / m=(n - m) / m+1:=by rw [Nat.div_eq_sub_div hm (by omega)]
   have h2:n % m=(n - m) % m:=Nat.mod_eq_sub_mod (by omega)
   rw [h1,h2,List.getElem?_cons_succ]
theorem combos_nz {L:Nat -> List RT} {ks:List Nat} {n:Nat} {p:List RT} (h:(combos L ks)[n]?=some p):0 < (combos L ks).length:=by
 have:=(List.getElem?_eq_some_iff.1 h).1; omega
theorem drop_dvd {L:Nat -> List RT} {ks:List Nat} {j k:Nat} (h:ks[j]?=some k):(L k).length * (combos L (ks.drop (j+1))).length=(combos L (ks.drop j)).length:=by
 have e:ks.drop j=k :: ks.drop (j+1):=by
  obtain ⟨h1,h2⟩:=List.getElem?_eq_some_iff.1 h
  rw [List.drop_eq_getElem_cons h1,h2]
 rw [e,combos_len]
theorem dvd_all {L:Nat -> List RT}:∀ (ks:List Nat) (j:Nat),(combos L (ks.drop j)).length ∣ (combos L ks).length
 | ks,0=>⟨1,by simp⟩
 | [],j+1=>⟨1,by simp⟩
 | k :: ks,j+1=>by
  rw [List.drop_succ_cons,combos_len]
  exact Nat.dvd_trans (dvd_all ks j) (Nat.dvd_mul_left _ _)
theorem digit {L:Nat -> List RT}:∀ (ks:List Nat) (n:Nat) (p:List RT),(combos L ks)[n]?=some p -> p.length=ks.length /\ ∀ j k,ks[j]?=some k -> (L k)[n / (combos L (ks.drop (j+1))).length % (L k).length]?=p[j]?
 | [],n,p,h=>by
  simp only [combos] at h
  have:=List.mem_of_getElem? h
  simp at this; subst this
  exact ⟨rfl,fun j k hk=>by simp at hk⟩
 | k :: ks,n,p,h=>by
  have hz:=combos_nz h
  rw [combos_len] at hz
  have hm:0 < (combos L ks).length:=Nat.pos_of_mul_pos_left hz
  have hn:=(List.getElem?_eq_some_iff.1 h).1
  rw [combos_len] at hn
  simp only [combos] at h
  rw [flat_at hm (L k) (fun a _=>by simp)] at h
  cases ht:(L k)[n / (combos L ks).length]? with
  | none=>rw [ht] at h; cases h
  | some t =>
   rw [ht] at h
   simp only [Option.bind_some,List.getElem?_map,Option.map_eq_some_iff] at h
   obtain ⟨q,hq,rfl⟩:=h
   obtain ⟨h1,h2⟩:=digit ks _ q hq
   refine ⟨by simp [h1],fun j x hx=>?_⟩
   cases j with
   | zero =>
    simp only [List.getElem?_cons_zero,Option.some.injEq] at hx
    subst hx
    rw [List.drop_succ_cons,List.drop_zero,Nat.mod_eq_of_lt (Nat.div_lt_of_lt_mul (by rw [Nat.mul_comm]; exact hn)),ht]; rfl
   | succ j =>
    rw [List.getElem?_cons_succ] at hx
    have h3:=h2 j x hx
    rw [List.getElem?_cons_succ,List.drop_succ_cons,<- h3]
    have hd:(combos L (ks.drop (j+1))).length * (L x).length ∣ (combos L ks).length:=by
     rw [Nat.mul_comm,drop_dvd hx]; exact dvd_all ks j
    obtain ⟨r,hr⟩:=hd
    rw [hr,Nat.mul_assoc,Nat.mod_mul_right_div_self,Nat.mod_mod_of_dvd _ (Nat.dvd_mul_right _ _)]
theorem stepL_get {L:Nat -> List RT} {w:Int × List Nat} {wl:List (Int × List Nat)} {n:Nat}:(stepL L (w :: wl))[n]?=if n < (combos L w.2).length then ((combos L w.2)[n]?).map (RT.node w.1) else (stepL L wl)[n - (combos L w.2).length]?:=by
 simp only [stepL,List.flatMap_cons]
 split
 .rename_i h; rw [List.getElem?_append_left (by simpa using h),List.getElem?_map]
 .rename_i h; rw [List.getElem?_append_right (by simpa using h)]; simp
theorem mod_cnt {L:Nat -> List RT} {k n:Nat} (h:n < many):n % cnt L k=n % (L k).length /\ n / cnt L k=n / (L k).length:=by
 unfold cnt
 rcases Nat.lt_or_ge (L k).length many with h1 | h1
 .rw [Nat.min_eq_left (Nat.le_of_lt h1)]; exact ⟨rfl,rfl⟩
 .rw [Nat.min_eq_right h1,Nat.mod_eq_of_lt h,Nat.mod_eq_of_lt (by omega),Nat.div_eq_of_lt h,Nat.div_eq_of_lt (by omega)]; exact ⟨rfl,rfl⟩
end Go.Apx
end
section
namespace Go.Apx
open Go.Proofs
set_option maxRecDepth 4000
structure FW where
 rule:Int
 kids:List Int
 cap:Cap
structure FN where
 sort:ByteArray
 fr:Int
 to:Int
 ways:List FW
 cap:Cap
structure FO where
 nodes:List FN
 cap:Cap
def ints (l:List Int):List AV:=l.map fun n=>i64 n
def encFW (w:FW):AV:=.agg [i64 w.rule,.sl 1 (ints w.kids) w.cap]
def encFN (n:FN):AV:=.agg [.sc (.string n.sort),i64 n.fr,i64 n.to,.sl 2 (n.ways.map encFW) n.cap]
def encFO (f:FO):AV:=.agg [.sl 4 (f.nodes.map encFN) f.cap]
@[simp] theorem ints_len (l:List Int):(ints l).length=l.length:=by simp [ints]
@[simp] theorem ints_get (l:List Int) (i:Nat):(ints l)[i]?=(l[i]?).map fun n=>i64 n:=by simp [ints]
@[simp] theorem ints_getE (l:List Int) (i:Nat) (h:i < (ints l).length):(ints l)[i]'h=i64 (l[i]'(by simpa using h)):=by simp [ints]
def CapOk (c:Cap):Prop:=c.strip=c /\ ∀ n,c.inb n=true
structure FoOk (f:FO):Prop where
 cap:CapOk f.cap
 n:f.nodes.length <= 1100000
 ncap:∀ n ∈ f.nodes,CapOk n.cap /\ n.ways.length <= 1100000
 wcap:∀ n ∈ f.nodes,∀ w ∈ n.ways,CapOk w.cap /\ w.kids.length <= 1100000
end Go.Apx
end
section
namespace Go.Apx
open Go.Proofs
set_option maxRecDepth 4000
def kidOk (N:Nat) (k:Int):Bool:=decide (0 <= k /\ k < N)
def wayIn (N:Nat) (w:FW):Bool:=w.kids.all (kidOk N)
def nodeIn (N:Nat) (n:FN):Bool:=n.ways.all (wayIn N)
def fmdF (f:FO):Bool:=f.nodes.all (nodeIn f.nodes.length)
theorem all_bad {α:Type} {l:List α} {p:α -> Bool} {i:Nat} {x:α} (hx:l[i]?=some x) (h:p x=false):l.all p=false:=by
 rw [List.all_eq_false]
 exact ⟨x,List.mem_of_getElem? hx,by simp [h]⟩
theorem all_good {α:Type} {l:List α} {p:α -> Bool} (h:∀ x ∈ l.take l.length,p x=true):l.all p=true:=by
 rw [List.all_eq_true]
 intro x hx
 exact h x (by rw [List.take_length]; exact hx)
theorem wrap1 {n:Nat} (h:n <= 2 ^ 32):IntKind.i64.wrap ((n:Int)+1)=(n:Int)+1:=IntWalk.i64_in _ (by omega)
end Go.Apx
end
section
namespace Go.Apx
open Go.Proofs
set_option maxRecDepth 4000
def meet1 (f:FO) (tx:List ByteArray) (top:Int) (kids:List Int) (p:Pt) (a:Int):Option Int :=
 if p.sort=emp then (if a < top /\ tx[a.toNat]?=some p.sym then some (a+1) else none)
 else match kids[p.arg.toNat]? with
  | none=>none
  | some k=>if k < 0 then none else match f.nodes[k.toNat]? with
   | none=>none
   | some n=>if n.sort=p.sort /\ n.fr=a /\ a <= n.to /\ n.to <= top then some n.to else none
def meetF (f:FO) (tx:List ByteArray) (top:Int) (kids:List Int):List Pt -> Int -> Option Int
 | [],a=>some a
 | p :: ps,a=>(meet1 f tx top kids p a).bind (meetF f tx top kids ps)
section
variable {f:FO} {tx:List ByteArray} {top top':Int} {kids:List Int} {ps:List Pt} {p:Pt} {a b e:Int} {i:Nat}
theorem meet1_le (h:meet1 f tx top kids p a=some b) (ha:a <= top):a <= b /\ b <= top:=by
 unfold meet1 at h
 split at h
 .split at h
  .simp only [Option.some.injEq] at h; omega
  .cases h
 .split at h
  .cases h
  .split at h
   .cases h
   .split at h
    .cases h
    .split at h
     .simp only [Option.some.injEq] at h; omega
     .cases h
theorem meetF_le:∀ {ps:List Pt} {a e:Int},meetF f tx top kids ps a=some e -> a <= top -> a <= e /\ e <= top
 | [],a,e,h,ha=>by simp only [meetF,Option.some.injEq] at h; omega
 | p :: ps,a,e,h,ha=>by
  simp only [meetF,Option.bind_eq_some_iff] at h
  obtain ⟨b,h1,h2⟩:=h
  have:=meet1_le h1 ha
  have:=meetF_le h2 this.2
  omega
theorem meetF_append:∀ {ps qs:List Pt} {a:Int},meetF f tx top kids (ps++qs) a=(meetF f tx top kids ps a).bind (meetF f tx top kids qs)
 | [],qs,a=>rfl
 | p :: ps,qs,a=>by
  simp only [List.cons_append,meetF]
  cases meet1 f tx top kids p a with
  | none=>rfl
  | some b=>exact meetF_append
theorem meetF_take (hp:ps[i]?=some p) (hz:meetF f tx top kids (ps.take i) a=some b):meetF f tx top kids (ps.take (i+1)) a=meet1 f tx top kids p b:=by
 rw [List.take_add_one,hp,meetF_append,hz]
 simp only [Option.toList_some,Option.bind_some,meetF]
 cases meet1 f tx top kids p b <;> rfl
theorem meetF_none (hp:ps[i]?=some p) (hz:meetF f tx top kids (ps.take i) a=some b) (h:meet1 f tx top kids p b=none):meetF f tx top kids ps a=none:=by
 have h1:=meetF_take hp hz
 rw [h] at h1
 conv=>lhs; rw [<- List.take_append_drop (i+1) ps]
 rw [meetF_append,h1]; rfl
end
def ruleNo (g:Gr) (r:Int):Option Rl:=if r < 0 then none else g.rules[r.toNat]?
def soundF (g:Gr) (tx:List ByteArray) (f:FO) (top:Int) (n:FN) (w:FW):Bool :=
 match ruleNo g w.rule with
 | none=>false
 | some R=>decide (R.sort=n.sort) && (decide (argsF R.parts=w.kids.length) && decide (meetF f tx top w.kids R.parts n.fr=some n.to))
structure SoS where
 i:Nat
 a:Nat
set_option maxHeartbeats 8000000 in
theorem sound_c (g:Gr) (tx:List ByteArray) (tc:Cap) (f:FO) (n:FN) (w:FW) (hf:FoOk f) (hck:checkF g=0) (h0:0 <= n.fr) (h1:n.fr <= tx.length) (hw:w.kids.length <= 1100000) (ht:tx.length <= 2 ^ 31) {h:AHeap} :
  AEx PP Gl 48 [encG g,.sl 1 (tx.map sv) tc,encFO f,encFN n,encFW w] h (.ret (bl (soundF g tx f tx.length n w))) h:=by
 obtain ⟨rule,kids,kc⟩:=w
 obtain ⟨srt,fr,to,wys,nc⟩:=n
 simp only at h0 h1 hw
 obtain ⟨a0,rfl⟩:∃ a0:Nat,fr=(a0:Int):=⟨fr.toNat,by omega⟩
 have hret:∀ (b:Bool),AEnd.ret (bl b)=.ret (bl b):=fun _=>rfl
 refine enter_earley_sound (by simp) ?_
 by_cases c1:rule < 0
 .have hF:soundF g tx f tx.length ⟨srt,a0,to,wys,nc⟩ ⟨rule,kids,kc⟩=false:=by simp [soundF,ruleNo,c1]
  simp -implicitDefEqProofs [code_earley_sound,res_earley_sound,ann_earley_sound,encG,encFO,encFN,encFW,c1]
  exact retE (by simp [deferred,dslot]) rfl (by rw [hF]) rfl
 obtain ⟨r,rfl⟩:∃ r:Nat,rule=(r:Int):=⟨rule.toNat,by omega⟩
 by_cases c2:r < g.rules.length
 case neg =>
  have hno:(g.rules.length:Int) <= r:=by omega
  have hF:soundF g tx f tx.length ⟨srt,a0,to,wys,nc⟩ ⟨r,kids,kc⟩=false:=by simp [soundF,ruleNo,c1,List.getElem?_eq_none (Nat.le_of_not_lt c2)]
  simp -implicitDefEqProofs [code_earley_sound,res_earley_sound,ann_earley_sound,encG,encFO,encFN,encFW,c1,hno]
  exact retE (by simp [deferred,dslot]) rfl (by rw [hF]) rfl
 have hlt:¬ (g.rules.length:Int) <= r:=by omega
 obtain ⟨R,hR⟩:∃ R,g.rules[r]?=some R:=⟨g.rules[r],by simp [c2]⟩
 have hFe:soundF g tx f tx.length ⟨srt,a0,to,wys,nc⟩ ⟨r,kids,kc⟩=(decide (R.sort=srt) && (decide (argsF R.parts=kids.length) && decide (meetF f tx tx.length kids R.parts a0=some to))):=by simp [soundF,ruleNo,c1,hR]
 by_cases c3:R.sort=srt
 case neg =>
  simp -implicitDefEqProofs [code_earley_sound,res_earley_sound,ann_earley_sound,encG,encFO,encFN,encFW,c1,hlt,hR,encR,c3]
  exact retE (by simp [deferred,dslot]) rfl (by rw [hFe]; simp [c3]) rfl
 simp -implicitDefEqProofs [code_earley_sound,res_earley_sound,ann_earley_sound,encG,encFO,encFN,encFW,c1,hlt,hR,encR,c3]
 have hpl:=(check_ok hck).2.1 R (List.mem_of_getElem? hR)
 have hon:=once_arg (check_rule hck R (List.mem_of_getElem? hR)).2.2
 have hfn:=hf.n
 have hal:=argsF_le R.parts
 refine AWp.till (S:=SoS) ⟨0,a0⟩ (fun st=>R.parts.length - st.i) [1,7,8,9,47,48] (fun st=>[(11,i64 (st.a:Int)),(12,i64 (argsF (R.parts.take st.i):Int)),(49,i64 (st.i:Int))]) (fun _=>h)
  (fun st=>st.i <= R.parts.length /\ st.a <= tx.length /\ meetF f tx tx.length kids (R.parts.take st.i) a0=some (st.a:Int)) mixed ⟨by simp,by simp; omega,by simp [meetF]⟩ (le_of (by simp [dslot,argsF])) rfl ?_
 rintro ⟨i,a⟩ ⟨z1,z2,z3⟩
 simp only at z1 z2 z3
 by_cases hi:i < R.parts.length
 case neg =>
  have hno:¬ (i:Int) < R.parts.length:=by omega
  have hii:R.parts.take i=R.parts:=List.take_of_length_le (by omega)
  rw [hii] at z3 ⊢
  by_cases e1:argsF R.parts=kids.length
  .by_cases e2:(a:Int)=to
   .simp -implicitDefEqProofs [lp0_earley_sound,hno,e1,e2]
    exact retE (by simp [deferred,dslot]) rfl (by rw [hFe]; simp [c3,e1,z3,e2]) rfl
   .simp -implicitDefEqProofs [lp0_earley_sound,hno,e1,e2]
    exact retE (by simp [deferred,dslot]) rfl (by rw [hFe]; simp [c3,e1,z3,e2]) rfl
  .have e1':¬ (argsF R.parts:Int)=kids.length:=by omega
   simp -implicitDefEqProofs [lp0_earley_sound,hno,e1,e1']
   exact retE (by simp [deferred,dslot]) rfl (by rw [hFe]; simp [e1]) rfl
 obtain ⟨p,hp⟩:∃ p,R.parts[i]?=some p:=⟨R.parts[i],by simp [hi]⟩
 have hpm:=List.mem_of_getElem? hp
 have hlti:(i:Int) < R.parts.length:=by omega
 have hpne:R.parts ≠ []:=by intro e; rw [e] at hi; simp at hi
 have wi:=wrap1 (n:=i) (by omega)
 have wa:=wrap1 (n:=a) (by omega)
 have hat:=argsF_take hp
 have hbad:meet1 f tx tx.length kids p a=none -> (decide (R.sort=srt) && (decide (argsF R.parts=kids.length) && decide (meetF f tx tx.length kids R.parts a0=some to)))=false:=fun hb=>by
  rw [meetF_none hp z3 hb]; simp
 have hgo:∀ b:Int,meet1 f tx tx.length kids p a=some b -> meetF f tx tx.length kids (R.parts.take (i+1)) a0=some b:=fun b hb=>by rw [meetF_take hp z3,hb]
 obtain ⟨sym,sort,arg⟩:=p
 simp only at hat
 by_cases hs:sort=(⟨#[]⟩:ByteArray)
 .rw [if_pos hs] at hat
  by_cases e1:a < tx.length
  case neg =>
   have e1':(tx.length:Int) <= a:=by omega
   have hb:=hbad (by simp [meet1,hs,emp]; omega)
   simp -implicitDefEqProofs [lp0_earley_sound,hlti,hp,encP,hs,e1']
   exact retE (by simp [deferred,dslot]) rfl (by rw [hFe,hb]) rfl
  have e1':¬ (tx.length:Int) <= a:=by omega
  obtain ⟨y,hy⟩:∃ y,tx[a]?=some y:=⟨tx[a],by simp [e1]⟩
  have hy2:tx[a]'e1=y:=(List.getElem?_eq_some_iff.1 hy).2
  by_cases e2:y=sym
  case neg =>
   have hb:=hbad (by simp [meet1,hs,emp,hy,hy2,e2])
   simp -implicitDefEqProofs [lp0_earley_sound,hlti,hp,encP,hs,e1',e1,hy,hy2,sv,e2]
   exact retE (by simp [deferred,dslot]) rfl (by rw [hFe,hb]) rfl
  have hg:=hgo (a+1) (by simp [meet1,hs,emp,hy,hy2,e2,e1])
  simp -implicitDefEqProofs [lp0_earley_sound,hlti,hp,encP,hs,e1',e1,hy,hy2,sv,e2,wa,wi]
  exact ⟨⟨i+1,a+1⟩,by simp; omega,⟨by simp; omega,by simp; omega,by simpa using hg⟩,le_of (by simp [dslot,hat])⟩
 rw [if_neg hs] at hat
 have harg:=hon _ hpm hs
 simp only at harg
 obtain ⟨q,rfl⟩:∃ q:Nat,arg=(q:Int):=⟨arg.toNat,by omega⟩
 have hal2:argsF (R.parts.take i) <= 200:=by
  have:=argsF_le (R.parts.take i); simp at this; omega
 have wc:=wrap1 (n:=argsF (R.parts.take i)) (by omega)
 by_cases e1:q < kids.length
 case neg =>
  have e1':(kids.length:Int) <= q:=by omega
  have hb:=hbad (by simp [meet1,hs,emp,List.getElem?_eq_none (Nat.le_of_not_lt e1)])
  simp -implicitDefEqProofs [lp0_earley_sound,hlti,hp,encP,hs,e1',wc]
  exact retE (by simp [deferred,dslot]) rfl (by rw [hFe,hb]) rfl
 have e1':¬ (kids.length:Int) <= q:=by omega
 obtain ⟨k,hk⟩:∃ k,kids[q]?=some k:=⟨kids[q],by simp [e1]⟩
 have hk2:kids[q]'e1=k:=(List.getElem?_eq_some_iff.1 hk).2
 by_cases e2:k < 0
 .have hb:=hbad (by simp [meet1,hs,emp,hk,hk2,e2])
  simp -implicitDefEqProofs [lp0_earley_sound,hlti,hp,encP,hs,e1',e1,hk,hk2,e2,wc]
  exact retE (by simp [deferred,dslot]) rfl (by rw [hFe,hb]) rfl
 obtain ⟨m,rfl⟩:∃ m:Nat,k=(m:Int):=⟨k.toNat,by omega⟩
 by_cases e3:m < f.nodes.length
 case neg =>
  have e3':(f.nodes.length:Int) <= m:=by omega
  have hb:=hbad (by simp [meet1,hs,emp,hk,hk2,e2,List.getElem?_eq_none (Nat.le_of_not_lt e3)])
  simp -implicitDefEqProofs [lp0_earley_sound,hlti,hp,encP,hs,e1',e1,hk,hk2,e2,e3',wc]
  exact retE (by simp [deferred,dslot]) rfl (by rw [hFe,hb]) rfl
 have e3':¬ (f.nodes.length:Int) <= m:=by omega
 obtain ⟨x,hx⟩:∃ x,f.nodes[m]?=some x:=⟨f.nodes[m],by simp [e3]⟩
 have hm1:meet1 f tx tx.length kids ⟨sym,sort,q⟩ a=if x.sort=sort /\ x.fr=(a:Int) /\ (a:Int) <= x.to /\ x.to <= tx.length then some x.to else none:=by
  simp [meet1,hs,emp,hk,hk2,hx,e2]
 obtain ⟨xs,xf,xt,xw,xc⟩:=x
 simp only at hm1
 by_cases e4:xs=sort
 case neg =>
  have hb:=hbad (by rw [hm1,if_neg fun hh=>e4 hh.1])
  simp -implicitDefEqProofs [lp0_earley_sound,hlti,hp,encP,hs,e1',e1,hk,hk2,e2,e3',hx,encFN,e4,wc]
  exact retE (by simp [deferred,dslot]) rfl (by rw [hFe,hb]) rfl
 by_cases e5:xf=(a:Int)
 case neg =>
  have hb:=hbad (by rw [hm1,if_neg fun hh=>e5 hh.2.1])
  simp -implicitDefEqProofs [lp0_earley_sound,hlti,hp,encP,hs,e1',e1,hk,hk2,e2,e3',hx,encFN,e4,e5,wc]
  exact retE (by simp [deferred,dslot]) rfl (by rw [hFe,hb]) rfl
 by_cases e6:xt < (a:Int)
 .have hb:=hbad (by rw [hm1,if_neg fun hh=>by omega])
  simp -implicitDefEqProofs [lp0_earley_sound,hlti,hp,encP,hs,e1',e1,hk,hk2,e2,e3',hx,encFN,e4,e5,e6,wc]
  exact retE (by simp [deferred,dslot]) rfl (by rw [hFe,hb]) rfl
 by_cases e7:(tx.length:Int) < xt
 .have hb:=hbad (by rw [hm1,if_neg fun hh=>by omega])
  simp -implicitDefEqProofs [lp0_earley_sound,hlti,hp,encP,hs,e1',e1,hk,hk2,e2,e3',hx,encFN,e4,e5,e6,e7,wc]
  exact retE (by simp [deferred,dslot]) rfl (by rw [hFe,hb]) rfl
 obtain ⟨b,rfl⟩:∃ b:Nat,xt=(b:Int):=⟨xt.toNat,by omega⟩
 have hg:=hgo b (by rw [hm1,if_pos ⟨e4,e5,by omega,by omega⟩])
 simp -implicitDefEqProofs [lp0_earley_sound,hlti,hp,encP,hs,e1',e1,hk,hk2,e2,e3',hx,encFN,e4,e5,e6,e7,wc,wi]
 exact ⟨⟨i+1,b⟩,by simp; omega,⟨by simp; omega,by simp; omega,by simpa using hg⟩,le_of (by simp [dslot,hat])⟩
end Go.Apx
end
section
namespace Go.Apx
open Go.Proofs
set_option maxRecDepth 4000
structure SpI where
 s:ByteArray
 i:Int
 j:Int
deriving DecidableEq
def encSI (x:SpI):AV:=.agg [.sc (.string x.s),i64 x.i,i64 x.j]
theorem keySI:KeyF encSI:=fun a b=>by
 obtain ⟨r,d,h⟩:=a
 obtain ⟨r',d',h'⟩:=b
 simp only [encSI,keyEq,List.map_cons,List.map_nil,kindOf,cellsEq,cellEq,if_true,str_eq]
 congr 1
 rw [Bool.eq_iff_iff]
 simp only [Bool.and_eq_true,beq_iff_eq,decide_eq_true_eq,SpI.mk.injEq,and_true]
def spanI (n:FN):SpI:=⟨n.sort,n.fr,n.to⟩
def nodeOkF (g:Gr) (tx:List ByteArray) (f:FO) (n:FN):Bool :=
 decide (0 <= n.fr /\ n.fr <= n.to /\ n.to <= tx.length /\ n.ways ≠ []) && n.ways.all (soundF g tx f tx.length n)
def fcheckF (g:Gr) (tx:List ByteArray) (f:FO):Int :=
 if checkF g=0 then (if f.nodes.length < 1 \/ 4000 < f.nodes.length then 4 else if f.nodes.all (nodeOkF g tx f)=true /\ (f.nodes.map spanI).Nodup then 0 else 2) else checkF g
theorem nodup_take {α:Type} {l:List α} {i:Nat} {x:α} (hx:l[i]?=some x) (h:(l.take i).Nodup) (hn:x ∉ l.take i):(l.take (i+1)).Nodup:=by
 rw [List.take_add_one,hx,List.nodup_append]
 refine ⟨h,by simp,fun a ha b hb=>?_⟩
 simp at hb; subst hb
 rintro rfl; exact hn ha
theorem not_nodup {α:Type} {l:List α} {i:Nat} {x:α} (hx:l[i]?=some x) (hm:x ∈ l.take i):¬ l.Nodup:=fun h=>by
 have h1:(l.take (i+1)).Nodup:=h.sublist (List.take_sublist _ _)
 rw [List.take_add_one,hx,List.nodup_append] at h1
 exact h1.2.2 x hm x (by simp) rfl
set_option maxHeartbeats 8000000 in
theorem fcheck_c (g:Gr) (tx:List ByteArray) (tc:Cap) (f:FO) (hf:FoOk f) (hc:∀ h:AHeap,AEx PP Gl 47 [encG g] h (.ret (i64 (checkF g))) h) (ht:tx.length <= 2 ^ 31) {h:AHeap} :
  AEx PP Gl 16 [encG g,.sl 1 (tx.map sv) tc,encFO f] h (.ret (i64 (fcheckF g tx f))) h:=by
 have hfn:=hf.n
 refine enter_earley_Check (by simp) ?_
 simp -implicitDefEqProofs [code_earley_Check,res_earley_Check,ann_earley_Check,encG,encFO]
 refine callk (hc _) (by simp [encG]) rfl ?_
 by_cases hck:checkF g=0
 case neg =>
  simp -implicitDefEqProofs [hck]
  exact retE (by simp [deferred,dslot]) rfl (by simp [fcheckF,hck]) rfl
 by_cases c1:f.nodes.length < 1
 .have c1':(f.nodes.length:Int) < 1:=by omega
  simp -implicitDefEqProofs [hck,c1']
  exact retE (by simp [deferred,dslot]) rfl (by simp [fcheckF,hck,show f.nodes.length < 1 from c1]) rfl
 have c1':¬ (f.nodes.length:Int) < 1:=by omega
 by_cases c2:4000 < f.nodes.length
 .have c2':(4000:Int) < f.nodes.length:=by omega
  simp -implicitDefEqProofs [hck,c1',c2']
  exact retE (by simp [deferred,dslot]) rfl (by simp [fcheckF,hck,c2]) rfl
 have c2':¬ (4000:Int) < f.nodes.length:=by omega
 simp -implicitDefEqProofs [hck,c1',c2']
 have hF:fcheckF g tx f=if f.nodes.all (nodeOkF g tx f)=true /\ (f.nodes.map spanI).Nodup then 0 else 2:=by
  unfold fcheckF; rw [if_pos hck,if_neg (by omega)]
 have hbad:∀ {i:Nat} {n:FN},f.nodes[i]?=some n -> (nodeOkF g tx f n=false \/ spanI n ∈ (f.nodes.map spanI).take i) -> fcheckF g tx f=2:=fun {i n} hn hb=>by
  rw [hF,if_neg]
  rintro ⟨h1,h2⟩
  rcases hb with hb | hb
  .rw [all_bad hn hb] at h1; cases h1
  .exact not_nodup (by rw [List.getElem?_map,hn]; rfl) hb h2
 refine AWp.cnt f.nodes.length [1,3,5,8,31,32] (fun i=>[(33,i64 (i:Int))]) (fun i=>h++[.amap (amapOf encSI boolV (tkeys ((f.nodes.map spanI).take i)))]) (fun i=>(∀ n ∈ f.nodes.take i,nodeOkF g tx f n=true) /\ ((f.nodes.map spanI).take i).Nodup) mixed ⟨by simp,by simp⟩ (le_of (by simp [dslot])) (by simp [amapOf,tkeys]) ?_ ?_
 .rintro i hi ⟨hz1,hz2⟩
  obtain ⟨n,hni⟩:∃ n,f.nodes[i]?=some n:=⟨f.nodes[i],by simp [hi]⟩
  have hlt:(i:Int) < f.nodes.length:=by omega
  have wi:=wrap1 (n:=i) (by omega)
  have hnm:=List.mem_of_getElem? hni
  have hwl:=(hf.ncap n hnm).2
  have hsp:(f.nodes.map spanI)[i]?=some (spanI n):=by rw [List.getElem?_map,hni]; rfl
  have hfind:amapFind (.agg [.sc (.string n.sort),i64 n.fr,i64 n.to]) (amapOf encSI boolV (tkeys ((f.nodes.map spanI).take i)))=some ((afind (tkeys ((f.nodes.map spanI).take i)) (spanI n)).map boolV):=amapFind_of keySI boolV (tkeys ((f.nodes.map spanI).take i)) (spanI n)
  have hset:amapSet (.agg [.sc (.string n.sort),i64 n.fr,i64 n.to]) (.sc (.bool true)) (amapOf encSI boolV (tkeys ((f.nodes.map spanI).take i)))=some (amapOf encSI boolV (aset (tkeys ((f.nodes.map spanI).take i)) (spanI n) true)):=amapSet_of keySI boolV (tkeys ((f.nodes.map spanI).take i)) (spanI n) true
  rw [tkeys_find] at hfind
  by_cases b1:spanI n ∈ (f.nodes.map spanI).take i
  .have hb:=hbad hni (.inr b1)
   rw [if_pos b1] at hfind
   simp only [Option.map_some,boolV] at hfind
   simp -implicitDefEqProofs [lp0_earley_Check,hlt,hni,encFN,hfind]
   exact retD (h0:=h) (x:=[.amap (amapOf encSI boolV (tkeys ((f.nodes.map spanI).take i)))]) (by simp [deferred,dslot]) rfl rfl (by rw [hb]; rfl) rfl
  rw [if_neg b1] at hfind
  simp only [Option.map_none] at hfind
  rw [tkeys_set _ _ b1] at hset
  have hst:(f.nodes.map spanI).take i++[spanI n]=(f.nodes.map spanI).take (i+1):=by rw [List.take_add_one,hsp]; rfl
  by_cases b2:n.ways.length=0
  .have hb:=hbad hni (.inl (by simp [nodeOkF,List.eq_nil_of_length_eq_zero b2]))
   simp -implicitDefEqProofs [lp0_earley_Check,hlt,hni,encFN,hfind,b2]
   exact retD (h0:=h) (x:=[.amap (amapOf encSI boolV (tkeys ((f.nodes.map spanI).take i)))]) (by simp [deferred,dslot]) rfl rfl (by rw [hb]; rfl) rfl
  have b2':n.ways ≠ []:=by intro e; rw [e] at b2; simp at b2
  by_cases b3:n.fr < 0
  .have hb:=hbad hni (.inl (by simp [nodeOkF]; intro; omega))
   simp -implicitDefEqProofs [lp0_earley_Check,hlt,hni,encFN,hfind,b2,b2',b3]
   exact retD (h0:=h) (x:=[.amap (amapOf encSI boolV (tkeys ((f.nodes.map spanI).take i)))]) (by simp [deferred,dslot]) rfl rfl (by rw [hb]; rfl) rfl
  by_cases b4:n.to < n.fr
  .have hb:=hbad hni (.inl (by simp [nodeOkF]; intro; omega))
   simp -implicitDefEqProofs [lp0_earley_Check,hlt,hni,encFN,hfind,b2,b2',b3,b4]
   exact retD (h0:=h) (x:=[.amap (amapOf encSI boolV (tkeys ((f.nodes.map spanI).take i)))]) (by simp [deferred,dslot]) rfl rfl (by rw [hb]; rfl) rfl
  by_cases b5:(tx.length:Int) < n.to
  .have hb:=hbad hni (.inl (by simp [nodeOkF]; intro; omega))
   simp -implicitDefEqProofs [lp0_earley_Check,hlt,hni,encFN,hfind,b2,b2',b3,b4,b5]
   exact retD (h0:=h) (x:=[.amap (amapOf encSI boolV (tkeys ((f.nodes.map spanI).take i)))]) (by simp [deferred,dslot]) rfl rfl (by rw [hb]; rfl) rfl
  simp -implicitDefEqProofs [lp0_earley_Check,hlt,hni,encFN,hfind,b2,b2',b3,b4,b5,hset]
  refine AWp.cnt n.ways.length [1,3,5,8,10,31,32,33,75,76] (fun k=>[(77,i64 (k:Int))]) (fun _=>h++[.amap (amapOf encSI boolV (tkeys ((f.nodes.map spanI).take (i+1))))]) (fun k=>∀ w ∈ n.ways.take k,soundF g tx f tx.length n w=true) mixed (by simp) (le_of (by simp [dslot])) (by rw [<- hst]) ?_ ?_
  .intro k hk hy
   obtain ⟨w,hwk⟩:∃ w,n.ways[k]?=some w:=⟨n.ways[k],by simp [hk]⟩
   have hltk:(k:Int) < n.ways.length:=by omega
   have wk:=wrap1 (n:=k) (by omega)
   simp -implicitDefEqProofs [lp1_earley_Check,hltk,hwk,b2',encFW]
   refine callk (sound_c g tx tc f n w hf hck (by omega) (by omega) (hf.wcap n hnm w (List.mem_of_getElem? hwk)).2 ht) (by simp [encG,encFO,encFN,encFW]) rfl ?_
   cases hsd:soundF g tx f tx.length n w with
   | false =>
    have hb:=hbad hni (.inl (by simp only [nodeOkF,all_bad hwk hsd,Bool.and_false]))
    simp -implicitDefEqProofs
    exact retD (h0:=h) (x:=[.amap (amapOf encSI boolV (tkeys ((f.nodes.map spanI).take (i+1))))]) (by simp [deferred,dslot]) rfl rfl (by rw [hb]; rfl) rfl
   | true =>
    simp -implicitDefEqProofs [wk]
    exact ⟨take_ext hwk (q:=fun w=>soundF g tx f tx.length n w=true) hy hsd,le_of (by simp [dslot])⟩
  .intro hy
   simp -implicitDefEqProofs [lp1_earley_Check,wi]
   refine ⟨⟨take_ext hni (q:=fun n=>nodeOkF g tx f n=true) hz1 ?_,nodup_take hsp hz2 b1⟩,le_of (by simp [dslot])⟩
   have:=all_good hy
   unfold nodeOkF
   rw [this]; simp [b2']; omega
 .rintro ⟨hz1,hz2⟩
  have h1:=all_good hz1
  rw [List.take_of_length_le (by simp)] at hz2
  simp -implicitDefEqProofs [lp0_earley_Check]
  exact retD (h0:=h) (x:=[.amap (amapOf encSI boolV (tkeys ((f.nodes.map spanI).take f.nodes.length)))]) (by simp [deferred,dslot]) rfl rfl (by rw [hF,if_pos ⟨h1,hz2⟩]; rfl) rfl
end Go.Apx
end
section
namespace Go.Apx
open Go.Proofs
set_option maxRecDepth 4000
def wnF (w:FW):Int × List Nat:=(w.rule,w.kids.map Int.toNat)
def wsF (f:FO):WF:=fun i=>((f.nodes[i]?).map fun n=>n.ways.map wnF).getD []
theorem wsF_at {f:FO} {i:Nat} {n:FN} (h:f.nodes[i]?=some n):wsF f i=n.ways.map wnF:=by simp [wsF,h]
theorem fmd_kid {f:FO} (hF:fmdF f=true) {i:Nat} {n:FN} {w:FW} (hn:f.nodes[i]?=some n) (hw:w ∈ n.ways):∀ k ∈ w.kids,0 <= k /\ k < f.nodes.length:=fun k hk=>by
 have h1:=List.all_eq_true.1 hF n (List.mem_of_getElem? hn)
 have h2:=List.all_eq_true.1 h1 w hw
 have h3:=List.all_eq_true.1 h2 k hk
 simpa [kidOk] using h3
theorem stp_lt {f:FO} (hF:fmdF f=true) {i k:Nat} (h:Stp (wsF f) i k):k < f.nodes.length:=by
 obtain ⟨w,hw,hk⟩:=h
 cases hn:f.nodes[i]? with
 | none=>simp [wsF,hn] at hw
 | some n =>
  rw [wsF_at hn] at hw
  obtain ⟨w',hw',rfl⟩:=List.mem_map.1 hw
  obtain ⟨x,hx,rfl⟩:=List.mem_map.1 hk
  have:=fmd_kid hF hn hw' x hx
  omega
theorem stp_of {f:FO} {i:Nat} {n:FN} {w:FW} {k:Nat} (hn:f.nodes[i]?=some n) (hw:w ∈ n.ways) (hk:(k:Int) ∈ w.kids):Stp (wsF f) i k :=
 ⟨wnF w,by rw [wsF_at hn]; exact List.mem_map.2 ⟨w,hw,rfl⟩,List.mem_map.2 ⟨(k:Int),hk,by simp⟩⟩
structure TI (f:FO) (L:Nat -> List RT) (st tr:List Nat):Prop where
 sl:st.length=f.nodes.length
 tl:tr.length=f.nodes.length
 s2:∀ i ∈ st,i <= 2
 fin:∀ i:Nat,st[i]?=some 2 -> Wl (wsF f) i /\ tr[i]?=some (cnt L i)
 clo:∀ i k:Nat,st[i]?=some 2 -> Stp (wsF f) i k -> st[k]?=some 2
def freshN (st:List Nat):Nat:=st.countP (· == 0)
structure CtPost (f:FO) (L:Nat -> List RT) (n:Nat) (st tr st' tr':List Nat):Prop where
 ci:TI f L st' tr'
 n2:st'[n]?=some 2
 s1:∀ i:Nat,st'[i]?=some 1 ↔ st[i]?=some 1
 s2:∀ i:Nat,st[i]?=some 2 -> st'[i]?=some 2
 fr:freshN st' <= freshN st
theorem fresh_set {st:List Nat} {i x:Nat} (h:st[i]?=some 0) (hx:x ≠ 0):freshN (st.set i x)+1=freshN st:=by
 obtain ⟨h1,h2⟩:=List.getElem?_eq_some_iff.1 h
 unfold freshN
 rw [List.countP_set h1]
 have h3:0 < st.countP (· == 0):=List.countP_pos_iff.2 ⟨st[i],List.getElem_mem h1,by simp [h2]⟩
 simp [h2,hx]; omega
theorem fresh_set2 {st:List Nat} {i x y:Nat} (h:st[i]?=some y) (hy:y ≠ 0) (hx:x ≠ 0):freshN (st.set i x)=freshN st:=by
 obtain ⟨h1,h2⟩:=List.getElem?_eq_some_iff.1 h
 unfold freshN
 rw [List.countP_set h1]
 simp [h2,hx,hy]
structure CM (f:FO) (oc oS oT gS gT:Nat) (rS rT:RCap) (st tr:List Nat) (H:AHeap):Prop where
 c:H[oc]?=some (.cells 0 [.sl 4 (f.nodes.map encFN) f.cap,.rf oS gS 0 f.nodes.length rS,.rf oT gT 0 f.nodes.length rT])
 s:H[oS]?=some (.cells gS (i64s st))
 t:H[oT]?=some (.cells gT (i64s tr))
 n1:oS ≠ oT
 n2:oS ≠ oc
 n3:oT ≠ oc
def Oth (a b:Nat) (H H':AHeap):Prop:=H'.length=H.length /\ ∀ z,z ≠ a -> z ≠ b -> H'[z]?=H[z]?
theorem Oth.refl (a b:Nat) (H:AHeap):Oth a b H H:=⟨rfl,fun _ _ _=>rfl⟩
theorem Oth.trans {a b:Nat} {H H' H2:AHeap} (h:Oth a b H H') (h':Oth a b H' H2):Oth a b H H2:=⟨h'.1.trans h.1,fun z h1 h2=>(h'.2 z h1 h2).trans (h.2 z h1 h2)⟩
theorem Oth.setA {a b:Nat} {H:AHeap} (x:AObj):Oth a b H (H.set a x):=⟨by simp,fun z h1 _=>by rw [List.getElem?_set_ne (Ne.symm h1)]⟩
theorem Oth.setB {a b:Nat} {H:AHeap} (x:AObj):Oth a b H (H.set b x):=⟨by simp,fun z _ h2=>by rw [List.getElem?_set_ne (Ne.symm h2)]⟩
theorem i64s_at {l:List Nat} {i x:Nat} (h:l[i]?=some x):(i64s l)[i]?=some (i64 (x:Int)):=by simp [i64s,h]
theorem i64s_setN (l:List Nat) (i x:Nat):(i64s l).set i (i64 (x:Int))=i64s (l.set i x):=by simp [i64s,List.map_set]
@[simp] theorem i64s_lenN (l:List Nat):(i64s l).length=l.length:=by simp [i64s]
section
variable {f:FO} {oc oS oT gS gT:Nat} {rS rT:RCap} {st tr:List Nat} {H:AHeap}
theorem CM.setS (h:CM f oc oS oT gS gT rS rT st tr H) (i x:Nat):CM f oc oS oT gS gT rS rT (st.set i x) tr (H.set oS (.cells gS (i64s (st.set i x)))) :=
 ⟨by rw [List.getElem?_set_ne h.n2]; exact h.c,by rw [List.getElem?_set_self (lt_of h.s)],by rw [List.getElem?_set_ne h.n1]; exact h.t,h.n1,h.n2,h.n3⟩
theorem CM.setT (h:CM f oc oS oT gS gT rS rT st tr H) (i x:Nat):CM f oc oS oT gS gT rS rT st (tr.set i x) (H.set oT (.cells gT (i64s (tr.set i x)))) :=
 ⟨by rw [List.getElem?_set_ne h.n3]; exact h.c,by rw [List.getElem?_set_ne h.n1.symm]; exact h.s,by rw [List.getElem?_set_self (lt_of h.t)],h.n1,h.n2,h.n3⟩
end
def CountR (f:FO) (L:Nat -> List RT) (oc oS oT gS gT:Nat) (rS rT:RCap) (n:Nat) (st tr:List Nat) (H:AHeap) (r:AEnd) (H':AHeap):Prop :=
 ∃ st' tr',CM f oc oS oT gS gT rS rT st' tr' H' /\ Oth oS oT H H' /\
  ((r=.ret (bl true) /\ CtPost f L n st tr st' tr') \/ (r=.ret (bl false) /\ ¬ Wl (wsF f) n))
structure CS1 where
 i:Nat
 st:List Nat
 tr:List Nat
 H:AHeap
def Dn (l:List Int) (st:List Nat):Prop:=∀ k ∈ l,st[k.toNat]?=some 2
structure LoI (f:FO) (L:Nat -> List RT) (oc oS oT gS gT:Nat) (rS rT:RCap) (n:Nat) (st:List Nat) (H:AHeap) (st1 tr1:List Nat) (H1:AHeap):Prop where
 ti:TI f L st1 tr1
 cm:CM f oc oS oT gS gT rS rT st1 tr1 H1
 ot:Oth oS oT H H1
 s1:∀ j:Nat,st1[j]?=some 1 ↔ (st.set n 1)[j]?=some 1
 s2:∀ j:Nat,st[j]?=some 2 -> st1[j]?=some 2
 fr:freshN st1 <= freshN (st.set n 1)
theorem LoI.next {f:FO} {L:Nat -> List RT} {oc oS oT gS gT:Nat} {rS rT:RCap} {n k:Nat} {st:List Nat} {H:AHeap} {st1 tr1 st2 tr2:List Nat} {H1 H2:AHeap} (h:LoI f L oc oS oT gS gT rS rT n st H st1 tr1 H1) (hc:CM f oc oS oT gS gT rS rT st2 tr2 H2) (ho:Oth oS oT H1 H2) (hp:CtPost f L k st1 tr1 st2 tr2) :
  LoI f L oc oS oT gS gT rS rT n st H st2 tr2 H2 :=
 ⟨hp.ci,hc,h.ot.trans ho,fun j=>(hp.s1 j).trans (h.s1 j),fun j hj=>hp.s2 j (h.s2 j hj),Nat.le_trans hp.fr h.fr⟩
theorem mx_many (a:Nat) (x:Int) (hx:x=a):(if 1000000001 < x then 1000000001 else x)=((min a many:Nat):Int):=by
 subst hx; unfold many; split <;> omega
set_option maxHeartbeats 8000000 in
theorem count_c (f:FO) (hf:FoOk f) (hF:fmdF f=true) (L:Nat -> List RT) (hL:∀ i,Wl (wsF f) i -> L i=stepL L (wsF f i)) (oc oS oT gS gT:Nat) (rS rT:RCap) :
  ∀ (fr n:Nat) (st tr:List Nat) {H:AHeap},freshN st <= fr -> n < f.nodes.length -> TI f L st tr -> (∀ i,st[i]?=some 1 -> Rch (wsF f) i n) -> CM f oc oS oT gS gT rS rT st tr H ->
   ACalls PP Gl 82 [.ptr oc 0 0,i64 (n:Int)] H (CountR f L oc oS oT gS gT rS rT n st tr H):=by
 intro fr
 induction fr with
 | zero=>?_
 | succ fr ih=>?_
 all_goals intro n st tr H hfr hn hti hrc hcm
 all_goals
  obtain ⟨x,hx⟩:∃ x,st[n]?=some x:=⟨st[n]'(by have:=hti.sl; omega),by simp⟩
  have hx2:=hti.s2 x (List.mem_of_getElem? hx)
  have hax:=i64s_at hx
  have hnl:n < st.length:=(List.getElem?_eq_some_iff.1 hx).1
  have hcc:=hcm.c
  have hcs:=hcm.s
  by_cases e1:x=1
  .subst e1
   refine enter_earley_counter_count (by simp) ?_
   simp -implicitDefEqProofs [code_earley_counter_count,res_earley_counter_count,ann_earley_counter_count,hcc,hcs,hax,hn]
   exact ret1 (v:=bl false) (by simp [deferred,dslot]) (by simp [evalRes,evalRes1]) ⟨st,tr,hcm,Oth.refl _ _ _,.inr ⟨rfl,fun hw=>hw.irr (hrc n hx)⟩⟩
  by_cases e2:x=2
  .subst e2
   refine enter_earley_counter_count (by simp) ?_
   simp -implicitDefEqProofs [code_earley_counter_count,res_earley_counter_count,ann_earley_counter_count,hcc,hcs,hax,hn]
   exact ret1 (v:=bl true) (by simp [deferred,dslot]) (by simp [evalRes,evalRes1]) ⟨st,tr,hcm,Oth.refl _ _ _,.inl ⟨rfl,hti,hx,fun _=>Iff.rfl,fun _ h=>h,Nat.le_refl _⟩⟩
  obtain rfl:x=0:=by omega
  have hfs:=fresh_set hx (x:=1) (by omega)
 .omega
 obtain ⟨nd,hnd⟩:∃ nd,f.nodes[n]?=some nd:=⟨f.nodes[n],by simp [hn]⟩
 have hnd2:f.nodes[n]'hn=nd:=(List.getElem?_eq_some_iff.1 hnd).2
 have hwl:=(hf.ncap nd (List.mem_of_getElem? hnd)).2
 have hws:=wsF_at hnd
 have hcm1:=hcm.setS n 1
 have hss:=i64s_setN st n 1
 have hfn:=hf.n
 have hq1:n+1 <= st.length:=hnl
 have hput:List.take n (i64s st)++AV.sc (Value.int IntKind.i64 1) :: List.drop (n+1) (i64s st)=i64s (st.set n 1):=by
  rw [<- hss]; exact (put_eq (i64s st) n (i64 1) (by simpa using hnl))
 have hc1:=hcm1.c
 refine enter_earley_counter_count (by simp) ?_
 simp -implicitDefEqProofs [code_earley_counter_count,res_earley_counter_count,ann_earley_counter_count,hcc,hcs,hax,hn,hq1,hput,hc1,hnd,hnd2,encFN]
 refine AWp.till (S:=CS1) ⟨0,st.set n 1,tr,H.set oS (.cells gS (i64s (st.set n 1)))⟩ (fun s=>nd.ways.length - s.i) [0,1,36,37] (fun s=>[(5,i64 (sumF (cnt L) ((wsF f n).take s.i):Nat)),(38,i64 (s.i:Int))]) (fun s=>s.H)
  (fun s=>s.i <= nd.ways.length /\ LoI f L oc oS oT gS gT rS rT n st H s.st s.tr s.H /\ ∀ w ∈ nd.ways.take s.i,Dn w.kids s.st) mixed ⟨by simp,⟨?_,hcm1,Oth.setA _,fun _=>Iff.rfl,?_,Nat.le_refl _⟩,by simp⟩ (le_of (by simp [dslot,sumF])) rfl ?_
 .refine ⟨by simp [hti.sl],hti.tl,fun i hi=>?_,fun i hi=>?_,fun i k hi hk=>?_⟩
  .rcases List.mem_or_eq_of_mem_set hi with h1 | h1
   .exact hti.s2 i h1
   .omega
  .rw [List.getElem?_set] at hi
   split at hi
   .simp at hi
   .exact hti.fin i hi
  .rw [List.getElem?_set] at hi
   split at hi
   .simp at hi
   .have:=hti.clo i k hi hk
    rw [List.getElem?_set_ne]
    .exact this
    .rintro rfl; rw [hx] at this; cases this
 .intro j hj
  rw [List.getElem?_set_ne]
  .exact hj
  .rintro rfl; rw [hx] at hj; cases hj
 rintro ⟨i,st1,tr1,H1⟩ ⟨z1,z2,z3⟩
 simp only at z1 z2 z3
 have hs1n:st1[n]?=some 1:=(z2.s1 n).2 (by rw [List.getElem?_set_self hnl])
 have hsl:=sumF_le (cnt L) ((wsF f n).take i)
 by_cases hi:i < nd.ways.length
 case neg =>
  have hno:¬ (i:Int) < nd.ways.length:=by omega
  have hii:(wsF f n).take i=wsF f n:=List.take_of_length_le (by rw [hws]; simp; omega)
  have hcc1:=z2.cm.c
  have hcs1:=z2.cm.s
  have hn1:n+1 <= st1.length:=(List.getElem?_eq_some_iff.1 hs1n).1
  have hnt:n+1 <= tr1.length:=by rw [z2.ti.tl]; exact hn
  have hwl1:Wl (wsF f) n:=.mk n fun k hk=>by
   obtain ⟨w,hw,hkw⟩:=hk
   rw [hws] at hw
   obtain ⟨w',hw',rfl⟩:=List.mem_map.1 hw
   obtain ⟨x,hxm,rfl⟩:=List.mem_map.1 hkw
   exact (z2.ti.fin _ (z3 w' (by rw [List.take_of_length_le (by omega)]; exact hw') x hxm)).1
  have hdone:∀ k,Stp (wsF f) n k -> st1[k]?=some 2:=fun k hk=>by
   obtain ⟨w,hw,hkw⟩:=hk
   rw [hws] at hw
   obtain ⟨w',hw',rfl⟩:=List.mem_map.1 hw
   obtain ⟨x,hxm,rfl⟩:=List.mem_map.1 hkw
   exact z3 w' (by rw [List.take_of_length_le (by omega)]; exact hw') x hxm
  have hput1:List.take n (i64s st1)++AV.sc (Value.int IntKind.i64 2) :: List.drop (n+1) (i64s st1)=i64s (st1.set n 2):=by
   rw [<- i64s_setN]; exact (put_eq (i64s st1) n (i64 2) (by simp; omega))
  have hput2:List.take n (i64s tr1)++i64 ((sumF (cnt L) (wsF f n):Nat):Int) :: List.drop (n+1) (i64s tr1)=i64s (tr1.set n (sumF (cnt L) (wsF f n))):=by
   rw [<- i64s_setN]; exact (put_eq (i64s tr1) n (i64 _) (by simp; omega))
  have cm2:=z2.cm.setS n 2
  have cm3:=cm2.setT n (sumF (cnt L) (wsF f n))
  have hc2:=cm2.c
  have ht2:=cm2.t
  rw [hii]
  simp -implicitDefEqProofs [lp0_earley_counter_count,hno,hcc1,hn,hcs1,hn1,hput1,hc2,ht2,hnt,hput2]
  refine ret1 (v:=bl true) (by simp [deferred,dslot]) (by simp [evalRes,evalRes1]) ⟨_,_,cm3,z2.ot.trans ((Oth.setA _).trans (Oth.setB _)),.inl ⟨rfl,?_,?_,fun j=>?_,fun j hj=>?_,?_⟩⟩
  .refine ⟨by simp [z2.ti.sl],by simp [z2.ti.tl],fun j hj=>?_,fun j hj=>?_,fun j k hj hk=>?_⟩
   .rcases List.mem_or_eq_of_mem_set hj with h1 | h1
    .exact z2.ti.s2 j h1
    .omega
   .by_cases e:n=j
    .subst e
     exact ⟨hwl1,by rw [List.getElem?_set_self (by omega),cnt_eq hL hwl1]⟩
    .rw [List.getElem?_set_ne e] at hj ⊢
     exact z2.ti.fin j hj
   .by_cases e2:n=k
    .subst e2; rw [List.getElem?_set_self (by omega)]
    .rw [List.getElem?_set_ne e2]
     by_cases e:n=j
     .subst e; exact hdone k hk
     .rw [List.getElem?_set_ne e] at hj
      exact z2.ti.clo j k hj hk
  .rw [List.getElem?_set_self (by omega)]
  .by_cases e:n=j
   .subst e; rw [List.getElem?_set_self (by omega),hx]; simp
   .rw [List.getElem?_set_ne e,z2.s1 j,List.getElem?_set_ne e]
  .by_cases e:n=j
   .subst e; rw [List.getElem?_set_self (by omega)]
   .rw [List.getElem?_set_ne e]; exact z2.s2 j hj
  .rw [fresh_set2 hs1n (by omega) (by omega)]
   have:=z2.fr; omega
 obtain ⟨w,hwi⟩:∃ w,nd.ways[i]?=some w:=⟨nd.ways[i],by simp [hi]⟩
 have hwm:=List.mem_of_getElem? hwi
 have hlt:(i:Int) < nd.ways.length:=by omega
 have hne:nd.ways ≠ []:=by intro e; rw [e] at hi; simp at hi
 have wi:=wrap1 (n:=i) (by omega)
 have hkl:=(hf.wcap nd (List.mem_of_getElem? hnd) w hwm).2
 have hkin:=fmd_kid hF hnd hwm
 have hwsi:(wsF f n)[i]?=some (wnF w):=by rw [hws,List.getElem?_map,hwi]; rfl
 simp -implicitDefEqProofs [lp0_earley_counter_count,hlt,hwi,hne,encFW]
 refine AWp.till (S:=CS1) ⟨0,st1,tr1,H1⟩ (fun s=>w.kids.length - s.i) [0,1,5,36,37,38,43,44] (fun s=>[(8,i64 (prodF (cnt L) ((wnF w).2.take s.i):Nat)),(45,i64 (s.i:Int))]) (fun s=>s.H)
  (fun s=>s.i <= w.kids.length /\ LoI f L oc oS oT gS gT rS rT n st H s.st s.tr s.H /\ (∀ w ∈ nd.ways.take i,Dn w.kids s.st) /\ Dn (w.kids.take s.i) s.st) mixed ⟨by simp,z2,z3,by simp [Dn]⟩ (le_of (by simp [dslot,prodF])) rfl ?_
 rintro ⟨j,st2,tr2,H2⟩ ⟨y1,y2,y3,y4⟩
 simp only at y1 y2 y3 y4
 have hpl:=prodF_le (cnt L) ((wnF w).2.take j)
 by_cases hj:j < w.kids.length
 case neg =>
  have hno:¬ (j:Int) < w.kids.length:=by omega
  have hjj:(wnF w).2.take j=(wnF w).2:=List.take_of_length_le (by simp [wnF]; omega)
  rw [hjj] at hpl ⊢
  have wsum:IntKind.i64.wrap ((sumF (cnt L) ((wsF f n).take i):Int)+(prodF (cnt L) (wnF w).2:Int))=(sumF (cnt L) ((wsF f n).take i):Int)+(prodF (cnt L) (wnF w).2:Int):=IntWalk.i64_in _ (by unfold many at *; omega)
  have hmx:=mx_many (sumF (cnt L) ((wsF f n).take i)+prodF (cnt L) (wnF w).2) _ (Int.natCast_add _ _).symm
  have hst:=sumF_step (c:=cnt L) hwsi
  rw [<- hst] at hmx
  simp -implicitDefEqProofs [lp1_earley_counter_count,hno,wi,wsum,hmx]
  refine ⟨⟨i+1,st2,tr2,H2⟩,by simp; omega,⟨by simp; omega,y2,fun w' hw'=>?_⟩,le_of (by simp [dslot]),rfl⟩
  simp only at hw'
  rw [List.take_add_one,hwi] at hw'
  rcases List.mem_append.1 hw' with h1 | h1
  .exact y3 w' h1
  .simp at h1; subst h1
   rw [List.take_of_length_le (by omega)] at y4
   exact y4
 obtain ⟨x,hxj⟩:∃ x,w.kids[j]?=some x:=⟨w.kids[j],by simp [hj]⟩
 have hxm:=List.mem_of_getElem? hxj
 have hxin:=hkin x hxm
 obtain ⟨m,rfl⟩:∃ m:Nat,x=(m:Int):=⟨x.toNat,by omega⟩
 have hltj:(j:Int) < w.kids.length:=by omega
 have wj:=wrap1 (n:=j) (by omega)
 have hstp:Stp (wsF f) n m:=stp_of hnd hwm hxm
 have hrc2:∀ q,st2[q]?=some 1 -> Rch (wsF f) q m:=fun q hq=>by
  have:=(y2.s1 q).1 hq
  rw [List.getElem?_set] at this
  split at this
  .rename_i e; subst e; exact .one hstp
  .exact (hrc q this).trans (.one hstp)
 have hcall:=ih m st2 tr2 (by have:=y2.fr; omega) (by omega) y2.ti hrc2 y2.cm
 simp -implicitDefEqProofs [lp1_earley_counter_count,hltj,hxj]
 refine callr hcall rfl rfl ?_
 rintro r H3 ⟨st3,tr3,hcm3,hot3,⟨rfl,hpo⟩ | ⟨rfl,hnw⟩⟩
 .have hcc3:=hcm3.c
  have hct3:=hcm3.t
  have hm2:=hpo.ci.fin m hpo.n2
  have ham:=i64s_at hm2.2
  have hml:m < f.nodes.length:=by omega
  have hmt:m < tr3.length:=by rw [hpo.ci.tl]; exact hml
  have hcl:=cnt_le L m
  have hnxt:=y2.next hcm3 hot3 hpo
  have hmul:prodF (cnt L) ((wnF w).2.take j) * cnt L m <= 1000000001 * 1000000001:=Nat.mul_le_mul hpl hcl
  have wmul:IntKind.i64.wrap ((prodF (cnt L) ((wnF w).2.take j):Int) * (cnt L m:Int))=(prodF (cnt L) ((wnF w).2.take j):Int) * (cnt L m:Int):=IntWalk.i64_in _ (by
   rw [<- Int.natCast_mul]; omega)
  have hkj:(wnF w).2[j]?=some m:=by simp [wnF,hxj]
  have hmx:=mx_many (prodF (cnt L) ((wnF w).2.take j) * cnt L m) _ (Int.natCast_mul _ _).symm
  rw [<- prodF_step (c:=cnt L) hkj] at hmx
  simp -implicitDefEqProofs [hcc3,hct3,ham,hml,wj,wmul,hmx]
  refine ⟨⟨j+1,st3,tr3,H3⟩,by simp; omega,⟨by simp; omega,hnxt,fun w' hw' k hk=>hpo.s2 _ (y3 w' hw' k hk),fun k hk=>?_⟩,le_of (by simp [dslot]),rfl⟩
  simp only at hk
  rw [List.take_add_one,hxj] at hk
  rcases List.mem_append.1 hk with h1 | h1
  .exact hpo.s2 _ (y4 k h1)
  .simp at h1; subst h1
   exact hpo.n2
 .simp -implicitDefEqProofs
  exact ret1 (v:=bl false) (by simp [deferred,dslot]) (by simp [evalRes,evalRes1]) ⟨st3,tr3,hcm3,y2.ot.trans hot3,.inr ⟨rfl,fun hw=>hnw (hw.kid hstp)⟩⟩
end Go.Apx
end
section
namespace Go.Apx
open Go.Proofs
set_option maxRecDepth 4000
def Rz (f:FO) (i:Nat):Prop:=i=0 \/ Rch (wsF f) 0 i
theorem Rz.kid {f:FO} {i k:Nat} (h:Rz f i) (hk:Stp (wsF f) i k):Rz f k:=by
 rcases h with rfl | h
 .exact .inr (.one hk)
 .exact .inr (h.trans (.one hk))
structure CX (f:FO) (L:Nat -> List RT) (oc:Nat) (H:AHeap):Prop where
 ex:∃ oS oT gS gT rS rT tr,H[oc]?=some (.cells 0 [.sl 4 (f.nodes.map encFN) f.cap,.rf oS gS 0 f.nodes.length rS,.rf oT gT 0 f.nodes.length rT]) /\ H[oT]?=some (.cells gT (i64s tr)) /\ tr.length=f.nodes.length /\ ∀ i,Rz f i -> tr[i]?=some (cnt L i)
theorem CX.keep {f:FO} {L:Nat -> List RT} {oc:Nat} {H H':AHeap} (h:CX f L oc H) (hk:Kp H H'):CX f L oc H':=by
 obtain ⟨oS,oT,gS,gT,rS,rT,tr,h1,h2,h3⟩:=h
 exact ⟨oS,oT,gS,gT,rS,rT,tr,hk _ _ h1,hk _ _ h2,h3⟩
theorem TI.at {f:FO} {L:Nat -> List RT} {st tr:List Nat} (h:TI f L st tr) (h0:st[0]?=some 2):∀ i,Rz f i -> tr[i]?=some (cnt L i):=by
 have h1:∀ i j,Rch (wsF f) i j -> st[i]?=some 2 -> st[j]?=some 2:=fun i j hr=>by
  induction hr with
  | one hs=>exact fun hi=>h.clo _ _ hi hs
  | cons hs _ ih=>exact fun hi=>ih (h.clo _ _ hi hs)
 rintro i (rfl | hi)
 .exact (h.fin 0 h0).2
 .exact (h.fin i (h1 0 i hi h0)).2
def CountedR (f:FO) (L:Nat -> List RT) (h:AHeap) (r:AEnd) (h':AHeap):Prop :=
 Kp h h' /\ (((fmdF f=false \/ f.nodes.length=0) /\ r=.ret (.tup [.sc (.pointer none),i64 2])) \/
  (fmdF f=true /\ 0 < f.nodes.length /\ ¬ Wl (wsF f) 0 /\ r=.ret (.tup [.sc (.pointer none),i64 161])) \/
  (fmdF f=true /\ 0 < f.nodes.length /\ Wl (wsF f) 0 /\ ∃ oc,h.length <= oc /\ CX f L oc h' /\ r=.ret (.tup [.ptr oc 0 0,i64 0])))
theorem GoC {a b c:ACode} {k:Nat} {Q:APost} {env:Env} {h:AHeap} (e:c=.seq a b) (hw:codeWp ⟨PP,Gl,63,ann_earley_counted,k,none⟩ a (thenP (fun env' h'=>AWp ⟨PP,Gl,63,ann_earley_counted,k,none⟩ b Q env' h') Q) env h):AWp ⟨PP,Gl,63,ann_earley_counted,k,none⟩ c Q env h:=by
 subst e; exact AWp.seq (codeWp_sound mixed hw)
set_option maxHeartbeats 8000000 in
theorem counted3 (f:FO) (hf:FoOk f) (L:Nat -> List RT) (hL:∀ i,Wl (wsF f) i -> L i=stepL L (wsF f i)) (hF:fmdF f=true) (hN:0 < f.nodes.length) {h:AHeap} :
  AWp ⟨PP,Gl,63,ann_earley_counted,h.length,none⟩ tl3_earley_counted (retPost PP Gl h res_earley_counted (CountedR f L h)) [(1,.ip (encFO f))] h:=by
 have hfn:=hf.n
 refine AWp.ghosts 2 ?_
 show AWp _ (.seq cp3_earley_counted tl4_earley_counted) _ _ _
 refine AWp.seq (AWp.dregG mixed (by rfl) ?_)
 simp -implicitDefEqProofs [drawG,mkG,isMk,encFO]
 refine ⟨h.length,_,_,_,⟨by unfold maxLenA; omega,rfl,rfl,rfl⟩,by simp,h.length+1,_,_,_,⟨by unfold maxLenA; omega,rfl,rfl,rfl⟩,by simp,?_⟩
 have hz:List.replicate f.nodes.length (AV.sc (Value.int IntKind.i64 0))=i64s (List.replicate f.nodes.length 0):=by simp [i64s]
 rw [hz]
 obtain ⟨H1,hH1⟩:∃ H1,H1=(List.set (h++[AObj.cells 0 [],AObj.cells 0 []]) h.length (AObj.cells 1 (i64s (List.replicate f.nodes.length 0)))).set (h.length+1) (AObj.cells 1 (i64s (List.replicate f.nodes.length 0))) ++
   [AObj.cells 0 [AV.sl 4 (List.map encFN f.nodes) f.cap,AV.rf h.length 1 0 f.nodes.length .full,AV.rf (h.length+1) 1 0 f.nodes.length .full]]:=⟨_,rfl⟩
 rw [<- hH1]
 have hk1:Kp h H1:=fun z x hz=>by
  have hzl:=lt_of hz
  rw [hH1,List.getElem?_append_left (by simp; omega),List.getElem?_set_ne (by omega),List.getElem?_set_ne (by omega),List.getElem?_append_left hzl]; exact hz
 have hlen:H1.length=h.length+3:=by rw [hH1]; simp
 have hcm:CM f (h.length+2) h.length (h.length+1) 1 1 .full .full (List.replicate f.nodes.length 0) (List.replicate f.nodes.length 0) H1:=by
  refine ⟨?_,?_,?_,by omega,by omega,by omega⟩
  .rw [hH1,List.getElem?_append_right (by simp)]; simp
  .rw [hH1,List.getElem?_append_left (by simp),List.getElem?_set_ne (by omega),List.getElem?_set_self (by simp)]
  .rw [hH1,List.getElem?_append_left (by simp),List.getElem?_set_self (by simp)]
 have hti:TI f L (List.replicate f.nodes.length 0) (List.replicate f.nodes.length 0):=by
  have hno:∀ (i y:Nat),(List.replicate f.nodes.length 0)[i]?=some y -> y=0:=fun i y hy=>by
   have:=List.mem_of_getElem? hy
   exact (List.mem_replicate.1 this).2
  refine ⟨by simp,by simp,fun i hi=>by have:=(List.mem_replicate.1 hi).2; omega,fun i hi=>?_,fun i k hi=>?_⟩
  .have:=hno i _ hi; omega
  .have:=hno i _ hi; omega
 refine GoC (a:=cp4_earley_counted) (b:=tl5_earley_counted) rfl ?_
 simp -implicitDefEqProofs [cp4_earley_counted]
 refine callr (count_c f hf hF L hL (h.length+2) h.length (h.length+1) 1 1 .full .full f.nodes.length 0 _ _ (by unfold freshN; have:=List.countP_le_length (p:=(· == 0)) (l:=List.replicate f.nodes.length 0); simpa using this) hN hti (fun i hi=>by
  have:=List.mem_of_getElem? hi
  have:=(List.mem_replicate.1 this).2; omega) hcm) rfl rfl ?_
 rintro r H2 ⟨st,tr,hcm2,hot,⟨rfl,hpo⟩ | ⟨rfl,hnw⟩⟩
 all_goals
  have hk2:Kp h H2:=fun z x hz=>by
   have hzl:=lt_of hz
   rw [hot.2 z (by omega) (by omega)]; exact hk1 z x hz
 .simp -implicitDefEqProofs
  refine GoC (a:=cp5_earley_counted) (b:=tl6_earley_counted) rfl ?_
  simp -implicitDefEqProofs [cp5_earley_counted]
  refine codeWp_sound mixed ?_
  simp -implicitDefEqProofs [tl6_earley_counted,res_earley_counted]
  refine ret1 (v:=.tup [.ptr (h.length+2) 0 0,i64 0]) (by simp [deferred,dslot]) (by simp [evalRes,evalRes1]) ⟨hk2,.inr (.inr ⟨hF,hN,(hpo.ci.fin 0 hpo.n2).1,h.length+2,by omega,⟨_,_,_,_,_,_,tr,hcm2.c,hcm2.t,hpo.ci.tl,hpo.ci.at hpo.n2⟩,rfl⟩)⟩
 .simp -implicitDefEqProofs [res_earley_counted]
  exact ret1 (v:=.tup [.sc (.pointer none),i64 161]) (by simp [deferred,dslot]) (by simp [evalRes,evalRes1]) ⟨hk2,.inr (.inl ⟨hF,hN,hnw,rfl⟩)⟩
set_option maxHeartbeats 8000000 in
theorem counted_c (f:FO) (hf:FoOk f) (L:Nat -> List RT) (hL:∀ i,Wl (wsF f) i -> L i=stepL L (wsF f i)) {h:AHeap} :
  ACalls PP Gl 50 [encFO f] h (CountedR f L h):=by
 have hfn:=hf.n
 have hkr:Kp h h:=fun _ _ hz=>hz
 refine acalls_of_code Try.func50 body_earley_counted comp_earley_counted resc_earley_counted (by simp) (by simp [dslot]) ?_
 show AWp _ tl0_earley_counted _ _ _
 refine GoC (a:=cp0_earley_counted) (b:=tl1_earley_counted) rfl ?_
 simp -implicitDefEqProofs [cp0_earley_counted,ann_earley_counted,encFO]
 refine GoC (a:=cp1_earley_counted) (b:=tl2_earley_counted) rfl ?_
 by_cases c0:f.nodes.length=0
 .have c0':f.nodes=[]:=List.eq_nil_of_length_eq_zero c0
  simp -implicitDefEqProofs [cp1_earley_counted,res_earley_counted,c0,c0']
  exact ret1 (v:=.tup [.sc (.pointer none),i64 2]) (by simp [deferred,dslot]) (by simp [evalRes,evalRes1]) ⟨hkr,.inl ⟨.inr c0,rfl⟩⟩
 have c0':f.nodes ≠ []:=by intro e; rw [e] at c0; simp at c0
 simp -implicitDefEqProofs [cp1_earley_counted,c0,c0']
 refine GoC (a:=cp2_earley_counted) (b:=tl3_earley_counted) rfl ?_
 simp -implicitDefEqProofs [cp2_earley_counted]
 refine AWp.cnt f.nodes.length [1,16,17] (fun i=>[(18,i64 (i:Int))]) (fun _=>h) (fun i=>∀ n ∈ f.nodes.take i,nodeIn f.nodes.length n=true) mixed (by simp) (le_of (by simp [dslot])) rfl ?_ ?_
 .intro i hi hz
  obtain ⟨n,hni⟩:∃ n,f.nodes[i]?=some n:=⟨f.nodes[i],by simp [hi]⟩
  have hni2:f.nodes[i]'hi=n:=(List.getElem?_eq_some_iff.1 hni).2
  have hlt:(i:Int) < f.nodes.length:=by omega
  have hwl:=(hf.ncap n (List.mem_of_getElem? hni)).2
  have wi:=wrap1 (n:=i) (by omega)
  simp -implicitDefEqProofs [lp0_earley_counted,hlt,hni,hni2,hi,encFN]
  refine AWp.cnt n.ways.length [1,16,17,18,23,24] (fun k=>[(25,i64 (k:Int))]) (fun _=>h) (fun k=>∀ w ∈ n.ways.take k,wayIn f.nodes.length w=true) mixed (by simp) (le_of (by simp [dslot])) rfl ?_ ?_
  .intro k hk hy
   obtain ⟨w,hwk⟩:∃ w,n.ways[k]?=some w:=⟨n.ways[k],by simp [hk]⟩
   have hwk2:n.ways[k]'hk=w:=(List.getElem?_eq_some_iff.1 hwk).2
   have hltk:(k:Int) < n.ways.length:=by omega
   have hkl:=(hf.wcap n (List.mem_of_getElem? hni) w (List.mem_of_getElem? hwk)).2
   have wk:=wrap1 (n:=k) (by omega)
   simp -implicitDefEqProofs [lp1_earley_counted,hltk,hwk,hwk2,hk,encFW]
   refine AWp.cnt w.kids.length [1,16,17,18,23,24,25,30,31] (fun j=>[(32,i64 (j:Int))]) (fun _=>h) (fun j=>∀ x ∈ w.kids.take j,kidOk f.nodes.length x=true) mixed (by simp) (le_of (by simp [dslot])) rfl ?_ ?_
   .intro j hj hx
    obtain ⟨x,hxj⟩:∃ x,w.kids[j]?=some x:=⟨w.kids[j],by simp [hj]⟩
    have hxj2:w.kids[j]'hj=x:=(List.getElem?_eq_some_iff.1 hxj).2
    have hltj:(j:Int) < w.kids.length:=by omega
    have wj:=wrap1 (n:=j) (by omega)
    have hbad:kidOk f.nodes.length x=false -> fmdF f=false:=fun hb=>all_bad hni (all_bad hwk (all_bad hxj hb))
    by_cases h1:x < 0
    .have hb:=hbad (by simp [kidOk]; omega)
     simp -implicitDefEqProofs [lp2_earley_counted,hltj,hxj,hxj2,hj,h1,res_earley_counted]
     exact ret1 (v:=.tup [.sc (.pointer none),i64 2]) (by simp [deferred,dslot]) (by simp [evalRes,evalRes1]) ⟨hkr,.inl ⟨.inl hb,rfl⟩⟩
    by_cases h2:(f.nodes.length:Int) <= x
    .have hb:=hbad (by simp [kidOk]; omega)
     simp -implicitDefEqProofs [lp2_earley_counted,hltj,hxj,hxj2,hj,h1,h2,res_earley_counted]
     exact ret1 (v:=.tup [.sc (.pointer none),i64 2]) (by simp [deferred,dslot]) (by simp [evalRes,evalRes1]) ⟨hkr,.inl ⟨.inl hb,rfl⟩⟩
    simp -implicitDefEqProofs [lp2_earley_counted,hltj,hxj,hxj2,hj,h1,h2,wj]
    refine ⟨take_ext hxj (q:=fun y=>kidOk f.nodes.length y=true) hx (by simp [kidOk]; omega),le_of (by simp [dslot])⟩
   .intro hx
    simp -implicitDefEqProofs [lp2_earley_counted,wk]
    refine ⟨take_ext hwk (q:=fun y=>wayIn f.nodes.length y=true) hy (all_good hx),le_of (by simp [dslot])⟩
  .intro hy
   simp -implicitDefEqProofs [lp1_earley_counted,wi]
   refine ⟨take_ext hni (q:=fun y=>nodeIn f.nodes.length y=true) hz (all_good hy),le_of (by simp [dslot])⟩
 .intro hz
  have hF:fmdF f=true:=all_good hz
  have hN:0 < f.nodes.length:=by omega
  simp -implicitDefEqProofs [lp0_earley_counted]
  exact (counted3 f hf L hL hF hN).weaken (le_of (by simp [dslot,encFO]))
end Go.Apx
end
section
namespace Go.Apx
open Go.Proofs
set_option maxRecDepth 4000
def CntE (f:FO) (L:Nat -> List RT) (n e:Int):Prop :=
 ((fmdF f=false \/ f.nodes.length=0) /\ n=0 /\ e=2) \/
 (fmdF f=true /\ 0 < f.nodes.length /\ ((¬ Wl (wsF f) 0 /\ n=0 /\ e=161) \/ (Wl (wsF f) 0 /\ ((many <= cnt L 0 /\ n=0 /\ e=15) \/ (cnt L 0 < many /\ n=(cnt L 0:Int) /\ e=0)))))
def CountVR (f:FO) (L:Nat -> List RT) (h:AHeap) (r:AEnd) (h':AHeap):Prop:=Kp h h' /\ ∃ n e,r=.ret (.tup [i64 n,i64 e]) /\ CntE f L n e
set_option maxHeartbeats 8000000 in
theorem eCount_c (f:FO) (hf:FoOk f) (L:Nat -> List RT) (hL:∀ i,Wl (wsF f) i -> L i=stepL L (wsF f i)) {h:AHeap}:ACalls PP Gl 18 [encFO f] h (CountVR f L h):=by
 refine enter_earley_Count (by simp) ?_
 simp -implicitDefEqProofs [code_earley_Count,res_earley_Count,ann_earley_Count,encFO]
 refine callr (counted_c f hf L hL) (by simp [encFO]) rfl ?_
 rintro r H ⟨hk,⟨h1,rfl⟩ | ⟨h1,h2,h3,rfl⟩ | ⟨h1,h2,h3,oc,h4,⟨oS,oT,gS,gT,rS,rT,tr,c1,c2,c3,c4⟩,rfl⟩⟩
 .simp -implicitDefEqProofs
  exact ret1 (v:=.tup [i64 0,i64 2]) (by simp [deferred,dslot]) (by simp [evalRes,evalRes1]) ⟨hk,0,2,rfl,.inl ⟨h1,rfl,rfl⟩⟩
 .simp -implicitDefEqProofs
  exact ret1 (v:=.tup [i64 0,i64 161]) (by simp [deferred,dslot]) (by simp [evalRes,evalRes1]) ⟨hk,0,161,rfl,.inr ⟨h1,h2,.inl ⟨h3,rfl,rfl⟩⟩⟩
 .have h0:=i64s_at (c4 0 (.inl rfl))
  have h0h:(i64s tr).head?=some (i64 (cnt L 0:Int)):=by rw [List.head?_eq_getElem?]; exact h0
  have hne:f.nodes ≠ []:=by intro e; rw [e] at h2; simp at h2
  by_cases hm:(1000000000:Int) < cnt L 0
  .simp -implicitDefEqProofs [c1,c2,h0,h0h,h2,hm]
   exact ret1 (v:=.tup [i64 0,i64 15]) (by simp [deferred,dslot]) (by simp [evalRes,evalRes1]) ⟨hk,0,15,rfl,.inr ⟨h1,h2,.inr ⟨h3,.inl ⟨by unfold many; omega,rfl,rfl⟩⟩⟩⟩
  .simp -implicitDefEqProofs [c1,c2,h0,h0h,h2,hm]
   exact ret1 (v:=.tup [i64 (cnt L 0:Int),i64 0]) (by simp [deferred,dslot]) (by simp [evalRes,evalRes1]) ⟨hk,_,0,rfl,.inr ⟨h1,h2,.inr ⟨h3,.inr ⟨by unfold many; omega,rfl,rfl⟩⟩⟩⟩
structure LM (f:FO) (L:Nat -> List RT) (g:Gr) (oc ol:Nat) (H:AHeap):Prop where
 l:H[ol]?=some (.cells 0 [.ptr oc 0 0,.sl 1 (g.sorts.map sv) g.sc,.sl 4 (g.rules.map encR) g.rc])
 x:CX f L oc H
theorem LM.keep {f:FO} {L:Nat -> List RT} {g:Gr} {oc ol:Nat} {H H':AHeap} (h:LM f L g oc ol H) (hk:Kp H H'):LM f L g oc ol H':=⟨hk _ _ h.l,h.x.keep hk⟩
theorem kid_rz {f:FO} {i:Nat} {n:FN} {w:FW} (hF:fmdF f=true) (hr:Rz f i) (hn:f.nodes[i]?=some n) (hw:w ∈ n.ways):∀ k ∈ w.kids,0 <= k /\ k < f.nodes.length /\ Rz f k.toNat:=fun k hk=>by
 have h1:=fmd_kid hF hn hw k hk
 exact ⟨h1.1,h1.2,hr.kid (stp_of hn hw (by rw [Int.toNat_of_nonneg h1.1]; exact hk))⟩
set_option maxHeartbeats 8000000 in
theorem product_c (f:FO) (hfn:f.nodes.length <= 1100000) (L:Nat -> List RT) (g:Gr) (oc ol:Nat) (w:FW) (hkl:w.kids.length <= 1100000) (hk:∀ k ∈ w.kids,0 <= k /\ k < f.nodes.length /\ Rz f k.toNat) {h:AHeap} (hm:LM f L g oc ol h) :
  AEx PP Gl 84 [.ptr ol 0 0,encFW w] h (.ret (i64 (prodF (cnt L) (wnF w).2:Int))) h:=by
 obtain ⟨oS,oT,gS,gT,rS,rT,tr,c1,c2,c3,c4⟩:=hm.x
 have hml:=hm.l
 refine enter_earley_lister_product (by simp) ?_
 simp -implicitDefEqProofs [code_earley_lister_product,res_earley_lister_product,ann_earley_lister_product,encFW]
 refine AWp.cnt w.kids.length [0,9,10] (fun i=>[(5,i64 (prodF (cnt L) ((wnF w).2.take i):Int)),(11,i64 (i:Int))]) (fun _=>h) (fun _=>True) mixed trivial (le_of (by simp [dslot,prodF])) rfl ?_ ?_
 .intro j hj _
  obtain ⟨x,hxj⟩:∃ x,w.kids[j]?=some x:=⟨w.kids[j],by simp [hj]⟩
  have hxj2:w.kids[j]'hj=x:=(List.getElem?_eq_some_iff.1 hxj).2
  obtain ⟨k1,k2,k3⟩:=hk x (List.mem_of_getElem? hxj)
  obtain ⟨m,rfl⟩:∃ m:Nat,x=(m:Int):=⟨x.toNat,by omega⟩
  have hltj:(j:Int) < w.kids.length:=by omega
  have wj:=wrap1 (n:=j) (by omega)
  have hm2:=c4 m (by simpa using k3)
  have ham:=i64s_at hm2
  have hml2:m < f.nodes.length:=by omega
  have hmt:m < tr.length:=by omega
  have hpl:=prodF_le (cnt L) ((wnF w).2.take j)
  have hcl:=cnt_le L m
  have hmul:prodF (cnt L) ((wnF w).2.take j) * cnt L m <= 1000000001 * 1000000001:=Nat.mul_le_mul hpl hcl
  have wmul:IntKind.i64.wrap ((prodF (cnt L) ((wnF w).2.take j):Int) * (cnt L m:Int))=(prodF (cnt L) ((wnF w).2.take j):Int) * (cnt L m:Int):=IntWalk.i64_in _ (by
   rw [<- Int.natCast_mul]; omega)
  have hkj:(wnF w).2[j]?=some m:=by simp [wnF,hxj]
  have hmx:=mx_many (prodF (cnt L) ((wnF w).2.take j) * cnt L m) _ (Int.natCast_mul _ _).symm
  rw [<- prodF_step (c:=cnt L) hkj] at hmx
  simp -implicitDefEqProofs [lp0_earley_lister_product,hltj,hxj,hxj2,hj,hml,c1,c2,ham,hml2,wj,wmul,hmx]
  exact le_of (by simp [dslot])
 .intro _
  have hjj:(wnF w).2.take w.kids.length=(wnF w).2:=List.take_of_length_le (by simp [wnF])
  simp -implicitDefEqProofs [lp0_earley_lister_product,hjj]
  exact retE (by simp [deferred,dslot]) rfl rfl rfl
structure Ms where
 nodes:Nat
 deep:Nat
 ok:Bool
def encMs (v:Ms):AV:=.agg [i64 (v.nodes:Int),i64 (v.deep:Int),.sc (.bool v.ok)]
structure MOk (R:Nat) (t:RT) (v:Ms):Prop where
 ok:v.ok=okR R t
 n:v.nodes <= 4001
 d:v.deep <= deepR t
 eq:v.ok=true -> v.nodes=min (sizeR t) 4001 /\ v.deep=deepR t
structure K2 where
 i:Nat
 n:Nat
deriving DecidableEq
def encK2 (x:K2):AV:=.agg [i64 (x.i:Int),i64 (x.n:Int)]
theorem keyK2:KeyF encK2:=fun a b=>by
 obtain ⟨r,d⟩:=a
 obtain ⟨r',d'⟩:=b
 simp only [encK2,keyEq,List.map_cons,List.map_nil,kindOf,cellsEq,cellEq,if_true]
 congr 1
 rw [Bool.eq_iff_iff]
 simp
 omega
def MemoM (R:Nat) (L:Nat -> List RT) (Mk:List (K2 × Ms)):Prop:=∀ x v,afind Mk x=some v -> ∀ t,(L x.i)[x.n]?=some t -> MOk R t v
def Kx (o:Nat) (H H':AHeap):Prop:=∀ (z:Nat) (x:AObj),z ≠ o -> H[z]?=some x -> H'[z]?=some x
theorem Kx.refl (o:Nat) (H:AHeap):Kx o H H:=fun _ _ _ h=>h
theorem Kx.trans {o:Nat} {H H' H2:AHeap} (h:Kx o H H') (h':Kx o H' H2):Kx o H H2:=fun z x hz hx=>h' z x hz (h z x hz hx)
theorem LM.keepx {f:FO} {L:Nat -> List RT} {g:Gr} {oc ol om:Nat} {H H':AHeap} (h:LM f L g oc ol H) (hk:Kx om H H') (hm:∃ es,H[om]?=some (.amap es)):LM f L g oc ol H':=by
 obtain ⟨es,hm⟩:=hm
 have ne:∀ {z:Nat} {g:Nat} {cs:List AV},H[z]?=some (.cells g cs) -> z ≠ om:=fun {z g cs} hz e=>by subst e; rw [hm] at hz; cases hz
 obtain ⟨oS,oT,gS,gT,rS,rT,tr,c1,c2,c3⟩:=h.x
 exact ⟨hk _ _ (ne h.l) h.l,oS,oT,gS,gT,rS,rT,tr,hk _ _ (ne c1) c1,hk _ _ (ne c2) c2,c3⟩
def MeasR (R:Nat) (L:Nat -> List RT) (t:RT) (om:Nat) (H:AHeap) (r:AEnd) (H':AHeap):Prop :=
 ∃ v Mk,r=.ret (encMs v) /\ MOk R t v /\ MemoM R L Mk /\ H'[om]?=some (.amap (amapOf encK2 encMs Mk)) /\ Kx om H H' /\ H.length <= H'.length
def dvN (L:Nat -> List RT) (ks:List Nat) (m c:Nat):Nat:=m / (combos L (ks.drop c)).length
theorem rch_lt {f:FO} (hF:fmdF f=true) {i k:Nat} (h:Rch (wsF f) i k):k < f.nodes.length:=by
 induction h with
 | one h=>exact stp_lt hF h
 | cons _ _ ih=>exact ih
structure MS1 where
 q:Nat
 n:Nat
structure MS2 where
 c:Nat
 v:Ms
 Mk:List (K2 × Ms)
 H:AHeap
structure MI (R:Nat) (L:Nat -> List RT) (ks:List Nat) (p:List RT) (rok:Bool) (om o12:Nat) (H:AHeap) (s:MS2):Prop where
 c:s.c <= ks.length
 n:s.v.nodes <= 4001
 d:s.v.deep <= 1+deepsR (p.drop s.c)
 ok:s.v.ok=(rok && oksR R (p.drop s.c))
 eq:s.v.ok=true -> s.v.nodes=min (1+sizesR (p.drop s.c)) 4001 /\ s.v.deep=1+deepsR (p.drop s.c)
 mm:MemoM R L s.Mk
 hom:s.H[om]?=some (.amap (amapOf encK2 encMs s.Mk))
 ho:s.H[o12]?=some (.cells 0 [i64 (s.v.nodes:Int),i64 (s.v.deep:Int),.sc (.bool s.v.ok)])
 kx:∀ (z:Nat) (x:AObj),z ≠ om -> z ≠ o12 -> H[z]?=some x -> s.H[z]?=some x
 len:H.length <= s.H.length
set_option maxHeartbeats 8000000 in
theorem measure_c (f:FO) (hf:FoOk f) (hF:fmdF f=true) (L:Nat -> List RT) (hL:∀ i,Wl (wsF f) i -> L i=stepL L (wsF f i)) (g:Gr) (hg:g.rules.length <= 2 ^ 31) (oc ol om:Nat) (i:Nat) (hw:Wl (wsF f) i) :
  ∀ (n:Nat) (t:RT) (Mk:List (K2 × Ms)) {H:AHeap},i < f.nodes.length -> Rz f i -> n < many -> (L i)[n]?=some t -> LM f L g oc ol H -> MemoM g.rules.length L Mk -> H[om]?=some (.amap (amapOf encK2 encMs Mk)) ->
   ACalls PP Gl 53 [.ptr ol 0 0,i64 (i:Int),i64 (n:Int),.mp om] H (MeasR g.rules.length L t om H):=by
 induction hw with
 | mk i hwk ih =>
 have hwi:Wl (wsF f) i:=.mk i hwk
 intro n t Mk H hi hrz hn ht hlm hmm hom
 obtain ⟨nd,hnd⟩:∃ nd,f.nodes[i]?=some nd:=⟨f.nodes[i],by simp [hi]⟩
 have hnd2:f.nodes[i]'hi=nd:=(List.getElem?_eq_some_iff.1 hnd).2
 have hws:=wsF_at hnd
 have hfn:=hf.n
 have hml:=hlm.l
 obtain ⟨oS,oT,gS,gT,rS,rT,tr,c1,c2,c3,c4⟩:=hlm.x
 have hfind:amapFind (.agg [i64 (i:Int),i64 (n:Int)]) (amapOf encK2 encMs Mk)=some ((afind Mk ⟨i,n⟩).map encMs):=amapFind_of keyK2 encMs Mk ⟨i,n⟩
 obtain ⟨H0,hH0⟩:∃ H0,H0=H++[AObj.cells 0 [AV.sc (Value.int IntKind.i64 0),AV.sc (Value.int IntKind.i64 0),AV.sc (Value.bool false)]]:=⟨_,rfl⟩
 have kp0:Kp H H0:=by rw [hH0]; exact Kp.app _ _
 have hl0:H0.length=H.length+1:=by rw [hH0]; simp
 have ho8:H0[H.length]?=some (.cells 0 [i64 0,i64 0,.sc (.bool false)]):=by rw [hH0]; simp
 have hom0:=kp0 _ _ hom
 have homl:=lt_of hom
 refine enter_earley_lister_measure (by simp) ?_
 cases hfd:afind Mk ⟨i,n⟩ with
 | some v =>
  rw [hfd] at hfind
  simp only [Option.map_some,encMs] at hfind
  simp -implicitDefEqProofs [code_earley_lister_measure,res_earley_lister_measure,ann_earley_lister_measure,<- hH0,hom0,hfind,ho8]
  have hg:(H0.set H.length (.cells 0 [i64 (v.nodes:Int),i64 (v.deep:Int),.sc (.bool v.ok)]))[H.length]?=some (.cells 0 [i64 (v.nodes:Int),i64 (v.deep:Int),.sc (.bool v.ok)]):=List.getElem?_set_self (by omega)
  refine ret1 (v:=encMs v) (by simp [deferred,dslot]) (by simp [evalRes,evalRes1,hg,encMs]) ⟨v,Mk,rfl,hmm ⟨i,n⟩ v hfd t ht,hmm,?_,fun z x hz hx=>?_,by simp; omega⟩
  .rw [List.getElem?_set_ne (by omega)]; exact hom0
  .have:=lt_of hx
   rw [List.getElem?_set_ne (by omega)]; exact kp0 z x hx
 | none =>
  rw [hfd] at hfind
  simp only [Option.map_none] at hfind
  obtain ⟨H1,hH1⟩:∃ H1,H1=H0++[AObj.cells 0 [AV.sc (Value.int IntKind.i64 1),AV.sc (Value.int IntKind.i64 1),AV.sc (Value.bool false)]]:=⟨_,rfl⟩
  have kp1:Kp H0 H1:=by rw [hH1]; exact Kp.app _ _
  have hl1:H1.length=H.length+2:=by rw [hH1]; simp [hl0]
  have ho12:H1[H0.length]?=some (.cells 0 [i64 1,i64 1,.sc (.bool false)]):=by rw [hH1]; simp
  have ho81:=kp1 _ _ ho8
  have hom1:=kp1 _ _ hom0
  have hlm1:=hlm.keep (kp0.trans kp1)
  have hml1:=hlm1.l
  have d1:=(kp0.trans kp1) _ _ c1
  have d2:=(kp0.trans kp1) _ _ c2
  simp -implicitDefEqProofs [code_earley_lister_measure,res_earley_lister_measure,ann_earley_lister_measure,<- hH0,hom0,hfind,ho8,<- hH1,hml1,d1,hnd,hnd2,hi,encFN]
  refine AWp.till (S:=MS1) ⟨0,n⟩ (fun st=>nd.ways.length - st.q) [0,3,8,9,12,42,43] (fun st=>[(2,i64 (st.n:Int)),(44,i64 (st.q:Int))]) (fun _=>H1)
   (fun st=>st.q <= nd.ways.length /\ st.n < many /\ (stepL L ((wsF f i).drop st.q))[st.n]?=some t) mixed ⟨by simp,hn,by rw [List.drop_zero,<- hL i hwi]; exact ht⟩ (le_of (by simp [dslot])) rfl ?_
  rintro ⟨q,m⟩ ⟨z1,z2,z3⟩
  simp only at z1 z2 z3
  by_cases hq:q < nd.ways.length
  case neg =>
   rw [List.drop_eq_nil_of_le (by rw [hws]; simp; omega)] at z3
   simp [stepL] at z3
  obtain ⟨w,hwq⟩:∃ w,nd.ways[q]?=some w:=⟨nd.ways[q],by simp [hq]⟩
  have hwq2:nd.ways[q]'hq=w:=(List.getElem?_eq_some_iff.1 hwq).2
  have hwm:=List.mem_of_getElem? hwq
  have hltq:(q:Int) < nd.ways.length:=by omega
  have wq:=wrap1 (n:=q) (by have:=(hf.ncap nd (List.mem_of_getElem? hnd)).2; omega)
  have hkl:=(hf.wcap nd (List.mem_of_getElem? hnd) w hwm).2
  have hkz:=kid_rz hF hrz hnd hwm
  have hdr:(wsF f i).drop q=wnF w :: (wsF f i).drop (q+1):=by
   have:(wsF f i)[q]?=some (wnF w):=by rw [hws,List.getElem?_map,hwq]; rfl
   obtain ⟨h1,h2⟩:=List.getElem?_eq_some_iff.1 this
   rw [List.drop_eq_getElem_cons h1,h2]
  rw [hdr,stepL_get] at z3
  have hpe:=prodF_eq L (wnF w).2
  simp -implicitDefEqProofs [lp0_earley_lister_measure,hltq,hwq,hwq2,hq,encFW]
  refine callk (product_c f hfn L g oc ol w hkl hkz hlm1) (by simp [encFW]) rfl ?_
  by_cases hm:prodF (cnt L) (wnF w).2 <= m
  .have hm':(prodF (cnt L) (wnF w).2:Int) <= m:=by omega
   have hlen:prodF (cnt L) (wnF w).2=(combos L (wnF w).2).length:=by rw [hpe] at hm ⊢; omega
   have wsub:IntKind.i64.wrap ((m:Int) - (prodF (cnt L) (wnF w).2:Int))=((m - prodF (cnt L) (wnF w).2:Nat):Int):=by
    rw [IntWalk.i64_in _ (by unfold many at *; omega)]; omega
   rw [if_neg (by omega)] at z3
   simp -implicitDefEqProofs [hm',wsub,wq]
   exact ⟨⟨q+1,m - prodF (cnt L) (wnF w).2⟩,by simp; omega,⟨by simp; omega,by simp only; omega,by simp only; rw [hlen]; exact z3⟩,le_of (by simp [dslot])⟩
  have hm':¬ (prodF (cnt L) (wnF w).2:Int) <= m:=by omega
  rw [if_pos (by rw [hpe] at hm; omega)] at z3
  obtain ⟨p,hp,rfl⟩:∃ p,(combos L (wnF w).2)[m]?=some p /\ RT.node (wnF w).1 p=t:=by
   cases hp:(combos L (wnF w).2)[m]? with
   | none=>rw [hp] at z3; cases z3
   | some p=>rw [hp] at z3; exact ⟨p,rfl,Option.some.inj z3⟩
  obtain ⟨hpl,hdig⟩:=digit _ _ _ hp
  have hks:(wnF w).2.length=w.kids.length:=by simp [wnF]
  obtain ⟨rok,hrok⟩:∃ rok:Bool,rok=decide (0 <= w.rule /\ w.rule < g.rules.length):=⟨_,rfl⟩
  have hdone:∀ (s:MS2),MI g.rules.length L (wnF w).2 p rok om H0.length H1 s -> (s.c=0 \/ s.v.ok=false) -> MOk g.rules.length (.node (wnF w).1 p) s.v:=fun s hs hc=>by
   have hok:s.v.ok=okR g.rules.length (.node (wnF w).1 p):=by
    rw [hs.ok]
    have hr2:decide (0 <= (wnF w).1 /\ (wnF w).1 < (g.rules.length:Int))=rok:=hrok.symm
    simp only [okR,hr2]
    rcases hc with hc | hc
    .rw [hc,List.drop_zero]
    .have h1:=hs.ok
     rw [hc] at h1
     rw [<- h1]
     cases rok with
     | false=>simp
     | true =>
      simp only [Bool.true_and] at h1 ⊢
      cases h2:oksR g.rules.length p with
      | false=>rfl
      | true =>
       exfalso
       have h3:oksR g.rules.length (p.drop s.c)=true:=oksR_all.2 fun x hx=>oksR_all.1 h2 x (List.mem_of_mem_drop hx)
       rw [h3] at h1; cases h1
   have hdd:deepsR (p.drop s.c) <= deepsR p:=deepsR_le fun x hx=>deepsR_mem (List.mem_of_mem_drop hx)
   refine ⟨hok,hs.n,by have:=hs.d; simp only [deepR]; omega,fun hv=>?_⟩
   rcases hc with hc | hc
   .have:=hs.eq hv
    rw [hc,List.drop_zero] at this
    simpa only [sizeR,deepR] using this
   .rw [hc] at hv; cases hv
  have hst:∀ (b:Bool),(H1.set H0.length (.cells 0 [i64 1,i64 1,.sc (.bool b)]))[H0.length]?=some (.cells 0 [i64 1,i64 1,.sc (.bool b)]):=fun b=>List.getElem?_set_self (by omega)
  have hst2:∀ (b:Bool) (z:Nat) (x:AObj),z ≠ H0.length -> H1[z]?=some x -> (H1.set H0.length (.cells 0 [i64 1,i64 1,.sc (.bool b)]))[z]?=some x:=fun b z x hz hx=>by rw [List.getElem?_set_ne (Ne.symm hz)]; exact hx
  have hrc:(¬ 0 <= w.rule /\ True /\ rok=false) \/ (0 <= w.rule /\ ¬ w.rule < g.rules.length /\ rok=false) \/ (0 <= w.rule /\ w.rule < g.rules.length /\ rok=true):=by
   by_cases e1:0 <= w.rule
   .by_cases e2:w.rule < g.rules.length
    .exact .inr (.inr ⟨e1,e2,by rw [hrok]; simp [e1,e2]⟩)
    .exact .inr (.inl ⟨e1,e2,by rw [hrok]; simp [e2]⟩)
   .exact .inl ⟨e1,trivial,by rw [hrok]; simp [e1]⟩
  have wl1:IntKind.i64.wrap ((w.kids.length:Int) - 1)=(w.kids.length:Int) - 1:=IntWalk.i64_in _ (by omega)
  have hini:∀ rok:Bool,MI g.rules.length L (wnF w).2 p rok om H0.length H1 ⟨w.kids.length,⟨1,1,rok⟩,Mk,H1.set H0.length (.cells 0 [i64 1,i64 1,.sc (.bool rok)])⟩:=fun rok=>by
   have hd:p.drop w.kids.length=[]:=List.drop_eq_nil_of_le (by omega)
   refine ⟨by simp only; omega,by simp,by simp [hd,deepsR],by simp [hd,oksR],fun _=>by simp [hd,deepsR,sizesR],hmm,?_,hst rok,fun z x hz hz2 hx=>hst2 rok z x hz2 hx,by simp⟩
   exact hst2 rok om _ (by omega) hom1
  have hn0:dvN L (wnF w).2 m w.kids.length=m:=by
   unfold dvN; rw [List.drop_eq_nil_of_le (by omega)]; simp [combos]
  rcases hrc with ⟨q1,q2,hro⟩ | ⟨q1,q2,hro⟩ | ⟨q1,q2,hro⟩
  all_goals
   simp -implicitDefEqProofs [hm',q1,q2,hml1,ho12,wl1]
   refine AWp.till (S:=MS2) ⟨w.kids.length,⟨1,1,rok⟩,Mk,H1.set H0.length (.cells 0 [i64 1,i64 1,.sc (.bool rok)])⟩ (fun s=>s.c) [0,3,8,9,12,14] (fun s=>[(2,i64 (dvN L (wnF w).2 m s.c:Int)),(16,i64 ((s.c:Int) - 1))]) (fun s=>s.H)
    (MI g.rules.length L (wnF w).2 p rok om H0.length H1) mixed (hini rok) (le_of (by simp [dslot,hn0])) (by rw [hro]) ?_
   rintro ⟨c,⟨vn,vd,vo⟩,Mk2,H2⟩ hs
   have s1:=hs.c
   have s2:=hs.n
   have s3:=hs.ok
   have s4:=hs.hom
   have s5:=hs.ho
   have s6:=hs.len
   have s7:=hs.mm
   simp only at s1 s2 s3 s4 s5 s6 s7
   have s8:=hs.kx H.length _ (by omega) (by omega) ho81
   simp only at s8
   have hset:amapSet (.agg [i64 (i:Int),i64 (n:Int)]) (.agg [i64 (vn:Int),i64 (vd:Int),.sc (.bool vo)]) (amapOf encK2 encMs Mk2)=some (amapOf encK2 encMs (aset Mk2 ⟨i,n⟩ ⟨vn,vd,vo⟩)):=amapSet_of keyK2 encMs Mk2 ⟨i,n⟩ ⟨vn,vd,vo⟩
   obtain ⟨K3,hK3⟩:∃ K3,K3=List.set H2 om (.amap (amapOf encK2 encMs (aset Mk2 ⟨i,n⟩ ⟨vn,vd,vo⟩))):=⟨_,rfl⟩
   have k5:K3[H0.length]?=some (.cells 0 [i64 (vn:Int),i64 (vd:Int),.sc (.bool vo)]):=by rw [hK3,List.getElem?_set_ne (by omega)]; exact s5
   have k8:K3[H.length]?=some (.cells 0 [i64 0,i64 0,.sc (.bool false)]):=by rw [hK3,List.getElem?_set_ne (by omega)]; exact s8
   have hR:(c=0 \/ vo=false) -> MeasR g.rules.length L (.node (wnF w).1 p) om H (.ret (encMs ⟨vn,vd,vo⟩)) (K3.set H.length (.cells 0 [i64 (vn:Int),i64 (vd:Int),.sc (.bool vo)])):=fun hc=>by
    have hmo:=hdone _ hs hc
    refine ⟨⟨vn,vd,vo⟩,aset Mk2 ⟨i,n⟩ ⟨vn,vd,vo⟩,rfl,hmo,fun x v hx t' ht'=>?_,?_,fun z x hz hx=>?_,by rw [hK3]; simp; omega⟩
    .rw [afind_aset] at hx
     split at hx
     .rename_i e
      subst e
      simp only at ht'
      rw [ht] at ht'
      cases hx; cases ht'; exact hmo
     .exact s7 x v hx t' ht'
    .rw [List.getElem?_set_ne (by omega),hK3,List.getElem?_set_self (lt_of s4)]
    .have hzl:=lt_of hx
     rw [List.getElem?_set_ne (by omega),hK3,List.getElem?_set_ne (Ne.symm hz)]
     exact hs.kx z x hz (by omega) ((kp0.trans kp1) z x hx)
   have k9:(K3.set H.length (.cells 0 [i64 (vn:Int),i64 (vd:Int),.sc (.bool vo)]))[H.length]?=some (.cells 0 [i64 (vn:Int),i64 (vd:Int),.sc (.bool vo)]):=List.getElem?_set_self (by rw [hK3]; simp; omega)
   cases c with
   | zero =>
    simp -implicitDefEqProofs [lp1_earley_lister_measure,s5,s4,hset,<- hK3,k5,k8]
    exact ret1 (v:=encMs ⟨vn,vd,vo⟩) (by simp [deferred,dslot]) (by simp [evalRes,evalRes1,k9,encMs]) (hR (.inl rfl))
   | succ c =>
   cases vo with
   | false =>
    simp -implicitDefEqProofs [lp1_earley_lister_measure,s5,s4,hset,<- hK3,k5,k8]
    exact ret1 (v:=encMs ⟨vn,vd,false⟩) (by simp [deferred,dslot]) (by simp [evalRes,evalRes1,k9,encMs]) (hR (.inr rfl))
   | true =>
   obtain ⟨x,hxc⟩:∃ x,w.kids[c]?=some x:=⟨w.kids[c]'(by omega),by simp⟩
   obtain ⟨x1,x2,x3⟩:=hkz x (List.mem_of_getElem? hxc)
   obtain ⟨k,rfl⟩:∃ k:Nat,x=(k:Int):=⟨x.toNat,by omega⟩
   have hkc:(wnF w).2[c]?=some k:=by simp [wnF,hxc]
   have hstp:Stp (wsF f) i k:=stp_of hnd hwm (List.mem_of_getElem? hxc)
   obtain ⟨tk,htk⟩:∃ tk,p[c]?=some tk:=⟨p[c]'(by omega),by simp⟩
   have hd1:=hdig c k hkc
   rw [htk] at hd1
   have hLk:0 < (L k).length:=by have:=(List.getElem?_eq_some_iff.1 hd1).1; omega
   have hlt:m / (combos L ((wnF w).2.drop (c+1))).length < many:=Nat.lt_of_le_of_lt (Nat.div_le_self _ _) z2
   obtain ⟨mc1,mc2⟩:=mod_cnt (L:=L) (k:=k) hlt
   have hcnt:0 < cnt L k:=by unfold cnt many; omega
   have kx2:Kx om H H2:=fun z x hz hx=>hs.kx z x hz (by have:=lt_of hx; omega) ((kp0.trans kp1) z x hx)
   have hlm2:=hlm.keepx kx2 ⟨_,hom⟩
   have e0:=hlm2.l
   obtain ⟨uS,uT,vS,vT,tS,tT,tr2,e1,e2,e3,e4⟩:=hlm2.x
   have hak:=i64s_at (e4 k (by simpa using x3))
   have hkl2:k < f.nodes.length:=by omega
   obtain ⟨dm,hdm⟩:∃ dm,dm=dvN L (wnF w).2 m (c+1):=⟨_,rfl⟩
   rw [<- hdm]
   have hdm2:m / (combos L ((wnF w).2.drop (c+1))).length=dm:=hdm.symm
   rw [hdm2] at hlt mc1 mc2 hd1
   have hcne:¬ cnt L k=0:=by omega
   obtain ⟨r0,hr0⟩:∃ r0,r0=dm % (L k).length:=⟨_,rfl⟩
   rw [<- hr0] at hd1 mc1
   have htm:(dm:Int).tmod (cnt L k:Int)=(r0:Int):=by rw [<- Int.ofNat_tmod,mc1]
   have hr0m:r0 < many:=Nat.lt_of_le_of_lt (by rw [hr0]; exact Nat.mod_le _ _) hlt
   have hdn:dm / cnt L k=dvN L (wnF w).2 m c:=by
    unfold dvN
    rw [mc2,<- hdm2,Nat.div_div_eq_div_mul,Nat.mul_comm,drop_dvd hkc]
   have htd:(dm:Int).tdiv (cnt L k:Int)=(dvN L (wnF w).2 m c:Int):=by rw [<- Int.ofNat_tdiv,hdn]
   have hdp:deepR tk <= f.nodes.length+1:=deep_le hL f.nodes.length k (List.range f.nodes.length) (hwk k hstp) (by simp) (fun j hj=>List.mem_range.2 (rch_lt hF hj)) tk (List.mem_of_getElem? hd1)
   have wdn:IntKind.i64.wrap (dvN L (wnF w).2 m c:Int)=(dvN L (wnF w).2 m c:Int):=IntWalk.i64_in _ (by have:dvN L (wnF w).2 m c <= m:=Nat.div_le_self _ _; unfold many at z2; omega)
   simp -implicitDefEqProofs [lp1_earley_lister_measure,s5,hxc,e0,e1,e2,hak,hkl2,hcne,htm]
   refine callr (ih k hstp r0 tk Mk2 (by omega) (by simpa using x3) hr0m hd1 hlm2 s7 s4) rfl rfl ?_
   rintro r3 H3 ⟨⟨un,ud,uo⟩,Mk3,rfl,hmo3,hmm3,hom3,kx3,hlen3⟩
   have s5':=kx3 _ _ (by omega) s5
   have hlm3:=hlm.keepx (kx2.trans kx3) ⟨_,hom⟩
   have e0':=hlm3.l
   obtain ⟨uS',uT',vS',vT',tS',tT',tr3,e1',e2',e3',e4'⟩:=hlm3.x
   have hak':=i64s_at (e4' k (by simpa using x3))
   have hu1:=hmo3.n
   have hu2:=hmo3.d
   have hu3:=hmo3.ok
   have hu4:=hmo3.eq
   simp only at hu1 hu2 hu3 hu4
   have ws1:IntKind.i64.wrap ((vn:Int)+(un:Int))=(vn:Int)+(un:Int):=IntWalk.i64_in _ (by omega)
   have ws2:IntKind.i64.wrap ((ud:Int)+1)=(ud:Int)+1:=IntWalk.i64_in _ (by omega)
   have hmn:(if 4001 < (vn:Int)+(un:Int) then 4001 else (vn:Int)+(un:Int))=((min (vn+un) 4001:Nat):Int):=by split <;> omega
   have wc1:IntKind.i64.wrap ((c:Int) - 1)=(c:Int) - 1:=IntWalk.i64_in _ (by omega)
   have hmx:(if (vd:Int) < (ud:Int)+1 then (ud:Int)+1 else (vd:Int))=((max vd (ud+1):Nat):Int):=by split <;> omega
   have hpd:p.drop c=tk :: p.drop (c+1):=by
    obtain ⟨q1,q2⟩:=List.getElem?_eq_some_iff.1 htk
    rw [List.drop_eq_getElem_cons q1,q2]
   have hdl:deepsR (p.drop c)=max (deepR tk) (deepsR (p.drop (c+1))):=by rw [hpd]; rfl
   have hsl:sizesR (p.drop c)=sizeR tk+sizesR (p.drop (c+1)):=by rw [hpd]; rfl
   have hol:oksR g.rules.length (p.drop c)=(okR g.rules.length tk && oksR g.rules.length (p.drop (c+1))):=by rw [hpd]; rfl
   have hsd:=hs.d
   have hse:=hs.eq rfl
   simp only at hsd hse
   have hrk:rok=true /\ oksR g.rules.length (p.drop (c+1))=true:=by
    have:=s3.symm
    simpa using this
   simp -implicitDefEqProofs [encMs,s5',e0',e1',e2',hak',hkl2,hcne,htd,wdn,ws1,ws2,hmn,hmx,wc1]
   refine ⟨⟨c,⟨min (vn+un) 4001,max vd (ud+1),uo⟩,Mk3,H3.set H0.length (.cells 0 [i64 ((min (vn+un) 4001:Nat):Int),i64 ((max vd (ud+1):Nat):Int),.sc (.bool uo)])⟩,by simp,⟨by simp only; omega,by simp only; omega,?_,?_,fun huo=>?_,hmm3,?_,?_,fun z x hz hz2 hx=>?_,?_⟩,le_of (by simp [dslot]),rfl⟩
   .simp only; rw [hdl]; omega
   .simp only; rw [hu3,hol,hrk.1,hrk.2]; simp
   .simp only at huo ⊢
    have:=hu4 huo
    rw [hsl,hdl]; omega
   .simp only; rw [List.getElem?_set_ne (by omega)]; exact hom3
   .simp only; rw [List.getElem?_set_self (lt_of s5')]
   .simp only; rw [List.getElem?_set_ne (Ne.symm hz2)]; exact kx3 z x hz (hs.kx z x hz hz2 hx)
   .simp only; simp; omega
end Go.Apx
end
