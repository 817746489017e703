/- Grammars of the reference: values that may stand for others. -/
import Derived.Test.YtdiemjjfkoccfaaGreatDoorEB
import Derived.Test.YtdiemjjfkoccfaaGreatDoorXC
section
namespace Go.Apx
open Go.Proofs
set_option linter.unusedVariables false
set_option linter.unusedSimpArgs false
set_option linter.unnecessarySimpa false
set_option maxRecDepth 4000
theorem AVLe.agg {cs ds : List AV} (hl : cs.length = ds.length) (h1 : ∀ d ∈ ds,d.one = true) (h : ∀ (i : Nat) (a b : AV),cs[i]? = some a → ds[i]? = some b → AVLe a b) : AVLe (.agg cs) (.agg ds):=fun I m x hx=>by
 cases hx with
 | agg _ vs hl' h1' hr =>
  refine .agg ds vs (by omega) h1 fun i b x hb hx=>?_
  have hi : i < cs.length:=by rw [hl]; exact (List.getElem?_eq_some_iff.1 hb).1
  exact h i _ b (List.getElem?_eq_getElem hi) hb I m x (hr i _ x (List.getElem?_eq_getElem hi) hx)
end Go.Apx
end
section
namespace Go.Apx
open Go.Proofs
set_option linter.unusedVariables false
set_option linter.unusedSimpArgs false
set_option linter.unnecessarySimpa false
set_option maxRecDepth 4000
set_option maxHeartbeats 8000000 in
theorem grows_tail (x g : Gr) (s : ByteArray) (hsub : ∀ R ∈ x.rules,R ∈ g.rules) (hso : x.sorts = g.sorts) (G : GrOk g) (G' : GrOk x) (kx : Nat) (cx : Cap) {h H : AHeap} (hlow : Low h.length h H)
  (hob : H[h.length]? = some (.cells 0 [.sl 1 (g.sorts.map sv) g.sc,.sl kx (x.rules.map encR) cx])) (hle : AVLe (.agg [.sl 1 (g.sorts.map sv) g.sc,.sl kx (x.rules.map encR) cx]) (encG x))
  (hc : AEx PP Gl 23 [encG g] H (.ret (i64 (checkF g))) H) (hcx : AEx PP Gl 23 [encG x] H (.ret (i64 (checkF x))) H) :
  AWp ⟨PP,Gl,223,ann_law13_GrammarGrows,h.length,none⟩ tl5_law13_GrammarGrows (retPost PP Gl h res_law13_GrammarGrows (fun r h'=>r = .ret (bl true) ∧ h' = h)) [(1,sv s),(3,.ip (encG g)),(7,.ptr h.length 0 0)] H:=by
 have hss : sortedF x s = sortedF g s:=by
  unfold sortedF
  rw [G.ck,G'.ck,hso]
 refine AWp.go (a:=cp5_law13_GrammarGrows) (b:=tl6_law13_GrammarGrows) rfl ?_
 simp -implicitDefEqProofs [cp5_law13_GrammarGrows,hob]
 refine callr ((nullP_c G' hcx).args (.cons hle (.refl _))) rfl rfl ?_
 rintro r h' ⟨rfl,lx,hx,lxl,rfl⟩
 simp -implicitDefEqProofs
 refine AWp.go (a:=cp6_law13_GrammarGrows) (b:=tl7_law13_GrammarGrows) rfl ?_
 simp -implicitDefEqProofs [cp6_law13_GrammarGrows,encG]
 refine callr (nullP_c G hc) (by simp [encG]) rfl ?_
 rintro r h' ⟨rfl,lg,hg,lgl,rfl⟩
 simp -implicitDefEqProofs
 refine AWp.go (a:=cp7_law13_GrammarGrows) (b:=tl8_law13_GrammarGrows) rfl ?_
 simp -implicitDefEqProofs [cp7_law13_GrammarGrows]
 refine callk (withinG_c lx lg (by omega) (by omega) (fun y hy=>by have:=(hx y).1 hy; exact (hg y).2 ⟨hso ▸ this.1,gn_mono hsub this.2⟩)) rfl rfl ?_
 simp -implicitDefEqProofs
 refine AWp.weaken (env':=[(1,sv s),(3,.ip (encG g)),(7,.ptr h.length 0 0)]) ?_ (le_of (by simp [dslot,encG]))
 clear hx hg lxl lgl lx lg
 refine AWp.go (a:=cp8_law13_GrammarGrows) (b:=tl9_law13_GrammarGrows) rfl ?_
 simp -implicitDefEqProofs [cp8_law13_GrammarGrows,hob]
 refine callr ((prodP_c G' hcx).args (.cons hle (.refl _))) rfl rfl ?_
 rintro r h' ⟨rfl,lx,hx,lxl,rfl⟩
 simp -implicitDefEqProofs
 refine AWp.go (a:=cp9_law13_GrammarGrows) (b:=tl10_law13_GrammarGrows) rfl ?_
 simp -implicitDefEqProofs [cp9_law13_GrammarGrows,encG]
 refine callr (prodP_c G hc) (by simp [encG]) rfl ?_
 rintro r h' ⟨rfl,lg,hg,lgl,rfl⟩
 simp -implicitDefEqProofs
 refine AWp.go (a:=cp10_law13_GrammarGrows) (b:=tl11_law13_GrammarGrows) rfl ?_
 simp -implicitDefEqProofs [cp10_law13_GrammarGrows]
 refine callk (withinG_c lx lg (by omega) (by omega) (fun y hy=>by obtain ⟨h1,w,h2⟩:=(hx y).1 hy; exact (hg y).2 ⟨hso ▸ h1,w,gn_mono hsub h2⟩)) rfl rfl ?_
 simp -implicitDefEqProofs
 refine AWp.weaken (env':=[(1,sv s),(3,.ip (encG g)),(7,.ptr h.length 0 0)]) ?_ (le_of (by simp [dslot,encG]))
 clear hx hg lxl lgl lx lg
 refine AWp.go (a:=cp11_law13_GrammarGrows) (b:=tl12_law13_GrammarGrows) rfl ?_
 simp -implicitDefEqProofs [cp11_law13_GrammarGrows,hob]
 refine callr ((reachB_c (s:=s) G' hcx).args (.cons hle (.refl _))) rfl rfl ?_
 rintro r h' ⟨rfl,lx,lxl,hx,rfl⟩
 simp -implicitDefEqProofs
 refine AWp.go (a:=cp12_law13_GrammarGrows) (b:=tl13_law13_GrammarGrows) rfl ?_
 simp -implicitDefEqProofs [cp12_law13_GrammarGrows,encG]
 refine callr (reachB_c (s:=s) G hc) (by simp [encG]) rfl ?_
 rintro r h' ⟨rfl,lg,lgl,hg,rfl⟩
 simp -implicitDefEqProofs
 refine AWp.go (a:=cp13_law13_GrammarGrows) (b:=tl14_law13_GrammarGrows) rfl ?_
 simp -implicitDefEqProofs [cp13_law13_GrammarGrows,hss]
 refine callk (withinG_c lx lg lxl lgl (fun y hy=>by
  rw [hso] at hx
  rcases hx with ⟨h1,S,hS,rfl⟩ | ⟨h1,rfl⟩
  ·rcases hg with ⟨_,T,hT,rfl⟩ | ⟨h2,_⟩
   ·simp only [pickS,List.mem_filter,decide_eq_true_eq,hso] at hy ⊢
    exact ⟨hy.1,reach_mono hsub hS hT y hy.2⟩
   ·rw [h1] at h2; cases h2
  ·simp at hy)) rfl rfl ?_
 simp -implicitDefEqProofs
 refine AWp.weaken (env':=[(1,sv s),(3,.ip (encG g)),(7,.ptr h.length 0 0)]) ?_ (le_of (by simp [dslot,encG]))
 clear hx hg lxl lgl lx lg
 refine AWp.go (a:=cp14_law13_GrammarGrows) (b:=tl15_law13_GrammarGrows) rfl ?_
 simp -implicitDefEqProofs [cp14_law13_GrammarGrows,hob]
 refine callr ((firstB_c (s:=s) G' hcx).args (.cons hle (.refl _))) rfl rfl ?_
 rintro r h' ⟨rfl,lx,lxl,hx,rfl⟩
 simp -implicitDefEqProofs
 refine AWp.go (a:=cp15_law13_GrammarGrows) (b:=tl16_law13_GrammarGrows) rfl ?_
 simp -implicitDefEqProofs [cp15_law13_GrammarGrows,encG]
 refine callr (firstB_c (s:=s) G hc) (by simp [encG]) rfl ?_
 rintro r h' ⟨rfl,lg,lgl,hg,rfl⟩
 simp -implicitDefEqProofs
 refine AWp.go (a:=cp16_law13_GrammarGrows) (b:=tl17_law13_GrammarGrows) rfl ?_
 simp -implicitDefEqProofs [cp16_law13_GrammarGrows,hss]
 refine callk (withinG_c lx lg lxl lgl (fun y hy=>by
  rw [hso] at hx
  rcases hx with ⟨h1,h3⟩ | ⟨h1,rfl⟩
  ·rcases hg with ⟨_,h4⟩ | ⟨h2,_⟩
   ·obtain ⟨w,hw⟩:=(h3 y).1 hy
    exact (h4 y).2 ⟨w,gn_mono hsub hw⟩
   ·rw [h1] at h2; cases h2
  ·simp at hy)) rfl rfl ?_
 simp -implicitDefEqProofs
 refine AWp.weaken (env':=[(1,sv s),(3,.ip (encG g)),(7,.ptr h.length 0 0)]) ?_ (le_of (by simp [dslot,encG]))
 clear hx hg lxl lgl lx lg
 refine AWp.go (a:=cp17_law13_GrammarGrows) (b:=tl18_law13_GrammarGrows) rfl ?_
 simp -implicitDefEqProofs [cp17_law13_GrammarGrows,hob]
 refine callr ((leastB_c (s:=s) G' hcx).args (.cons hle (.refl _))) rfl rfl ?_
 rintro r h' ⟨rfl,n,f,hx,rfl⟩
 simp -implicitDefEqProofs
 refine AWp.go (a:=cp18_law13_GrammarGrows) (b:=tl19_law13_GrammarGrows) rfl ?_
 simp -implicitDefEqProofs [cp18_law13_GrammarGrows,encG]
 refine callr (leastB_c (s:=s) G hc) (by simp [encG]) rfl ?_
 rintro r h' ⟨rfl,m,e,hg,rfl⟩
 simp -implicitDefEqProofs
 have hfe : f = 0 → e = 0 ∧ ¬ n < m:=fun hf=>by
  rw [hso] at hx
  rcases hx with ⟨h1,h3⟩ | ⟨h1,h3⟩
  ·rcases hg with ⟨_,h4⟩ | ⟨h2,_⟩
   ·have:=lst_mono hsub h3 h4 hf
    exact ⟨this.1,by omega⟩
   ·rw [h1] at h2; cases h2
  ·omega
 refine AWp.go (a:=cp19_law13_GrammarGrows) (b:=tl20_law13_GrammarGrows) rfl ?_
 have fin : AWp ⟨PP,Gl,223,ann_law13_GrammarGrows,h.length,none⟩ tl20_law13_GrammarGrows (retPost PP Gl h res_law13_GrammarGrows (fun r h'=>r = .ret (bl true) ∧ h' = h)) [(1,sv s),(3,.ip (encG g)),(7,.ptr h.length 0 0)] h':=by
  clear hfe hx hg
  refine AWp.go (a:=cp20_law13_GrammarGrows) (b:=tl21_law13_GrammarGrows) rfl ?_
  simp -implicitDefEqProofs [cp20_law13_GrammarGrows,hob]
  refine callr ((sentB_c (s:=s) (most:=3) G' hcx ⟨by omega,by omega⟩).args (.cons hle (.refl _))) rfl rfl ?_
  rintro r h' ⟨rfl,l,e1,ll,hl,rfl⟩
  simp -implicitDefEqProofs
  refine AWp.go (a:=cp21_law13_GrammarGrows) (b:=tl22_law13_GrammarGrows) rfl ?_
  simp -implicitDefEqProofs [cp21_law13_GrammarGrows,encG]
  refine callr (sentB_c (s:=s) (most:=3) G hc ⟨by omega,by omega⟩) (by simp [encG]) rfl ?_
  rintro r h' ⟨rfl,k,e2,kl,hk,rfl⟩
  simp -implicitDefEqProofs
  refine AWp.go (a:=cp22_law13_GrammarGrows) (b:=tl23_law13_GrammarGrows) rfl ?_
  by_cases h1 : e1 = 0
  ·by_cases h2 : e2 = 0
   ·simp -implicitDefEqProofs [cp22_law13_GrammarGrows,h1,h2]
    obtain ⟨kL,cL,eL,hkL⟩:=grown_sl (l.map encW)
    obtain ⟨kK,cK,eK,hkK⟩:=grown_sl (k.map encW)
    refine (grows_loop x g hsub l k (hl h1) (hk h2) kL kK cL cK hlow (fun h=>hkL (by simpa using h)) (fun h=>hkK (by simpa using h)) ll kl (fun w hw=>by have:=(((hk h2).mem w).1 hw).2; omega)).weaken (le_of (by simp [dslot,eL,eK]))
   ·simp -implicitDefEqProofs [cp22_law13_GrammarGrows,h1,h2]
    refine callk awake_c rfl rfl ?_
    simp -implicitDefEqProofs [res_law13_GrammarGrows]
    exact retCut (v:=bl true) h.length (by simp [deferred,dslot]) (by simp [evalRes,evalRes1]) (Nat.le_refl _) hlow.len rfl hlow.cl ⟨rfl,hlow.take⟩
  ·simp -implicitDefEqProofs [cp22_law13_GrammarGrows,h1]
   refine callk awake_c rfl rfl ?_
   simp -implicitDefEqProofs [res_law13_GrammarGrows]
   exact retCut (v:=bl true) h.length (by simp [deferred,dslot]) (by simp [evalRes,evalRes1]) (Nat.le_refl _) hlow.len rfl hlow.cl ⟨rfl,hlow.take⟩
 by_cases hf : f = 0
 ·obtain ⟨rfl,h2⟩:=hfe hf
  simp -implicitDefEqProofs [cp19_law13_GrammarGrows,hf,h2]
  exact fin.weaken (le_of (by simp [dslot,encG]))
 ·simp -implicitDefEqProofs [cp19_law13_GrammarGrows,hf]
  exact fin.weaken (le_of (by simp [dslot,encG]))
end Go.Apx
end
section
namespace Go.Apx
open Go.Proofs
set_option linter.unusedVariables false
set_option linter.unusedSimpArgs false
set_option linter.unnecessarySimpa false
set_option maxRecDepth 4000
def xV (g : Gr) (xs : List Rl) (T : Nat) : AV:=.sl (apdK 4 (xs.map encR)) (xs.map encR) (apdC (xs.map encR) T)
def xC (xs : List Rl) (T : Nat) : Cap:=apdC (xs.map encR) T
theorem xV_le (g : Gr) (d : Nat) (T : Nat) : AVLe (.agg [.sl 1 (g.sorts.map sv) g.sc,xV g (g.rules.eraseIdx d) T]) (encG (minG g d (xC (g.rules.eraseIdx d) T))):=by
 by_cases e : g.rules.eraseIdx d = []
 ·unfold encG xV xC minG
  simp only [e,List.map_nil,apdK,apdC,if_true]
  refine AVLe.agg rfl (by simp) fun i a b ha hb=>?_
  match i,ha,hb with
  | 0,ha,hb=>simp at ha hb; subst ha hb; exact .refl _
  | 1,ha,hb=>simp at ha hb; subst ha hb; exact .nil 0 4
  | n + 2,ha,hb=>simp at ha
 ·have : xV g (g.rules.eraseIdx d) T = .sl 4 ((g.rules.eraseIdx d).map encR) (xC (g.rules.eraseIdx d) T):=by
   unfold xV apdK xC
   rw [if_neg (by simpa using e)]
  rw [this]
  exact .refl _
set_option maxHeartbeats 8000000 in
theorem grows_c (g : Gr) (s : ByteArray) (u : Int) (hu : 0 ≤ u ∧ u ≤ 255) (hsl : g.sorts.length ≤ 2 ^ 31) (hrl : g.rules.length ≤ 2 ^ 31) {h : AHeap} : AEx PP Gl 6 [encG g,.sc (.string s),.sc (.int .u8 u)] h (.ret (bl true)) h:=by
 refine acalls_of_code Tryz.func6 body_law13_GrammarGrows comp_law13_GrammarGrows resc_law13_GrammarGrows (by simp) (Nat.le_trans (m:=3) (by simp) (by decide)) ?_
 refine AWp.go (a:=cp0_law13_GrammarGrows) (b:=tl1_law13_GrammarGrows) rfl ?_
 simp -implicitDefEqProofs [cp0_law13_GrammarGrows,encG]
 refine AWp.go (a:=cp1_law13_GrammarGrows) (b:=tl2_law13_GrammarGrows) rfl ?_
 simp -implicitDefEqProofs [cp1_law13_GrammarGrows]
 refine callk (small_c g 10 5 hsl hrl) (by simp [encG]) rfl ?_
 by_cases h1 : smallF g 10 5 = true
 case neg =>
  simp -implicitDefEqProofs [h1]
  refine callk awake_c rfl rfl ?_
  simp -implicitDefEqProofs [res_law13_GrammarGrows]
  exact ret1 (v:=bl true) (by simp [deferred,dslot]) (by simp [evalRes,evalRes1]) ⟨rfl,rfl⟩
 by_cases h2 : (300 : Int) < s.size
 ·simp -implicitDefEqProofs [h1,h2]
  refine callk awake_c rfl rfl ?_
  simp -implicitDefEqProofs [res_law13_GrammarGrows]
  exact ret1 (v:=bl true) (by simp [deferred,dslot]) (by simp [evalRes,evalRes1]) ⟨rfl,rfl⟩
 by_cases h3 : g.rules = []
 ·simp -implicitDefEqProofs [h1,h2,h3]
  refine callk awake_c rfl rfl ?_
  simp -implicitDefEqProofs [res_law13_GrammarGrows]
  exact ret1 (v:=bl true) (by simp [deferred,dslot]) (by simp [evalRes,evalRes1]) ⟨rfl,rfl⟩
 have h3' : ¬ (g.rules.length : Int) = 0:=by
  intro e; exact h3 (List.length_eq_zero_iff.1 (by omega))
 obtain ⟨b1,b2,b3⟩:=small_bounds h1 (by omega)
 have hc : ∀ H,AEx PP Gl 23 [encG g] H (.ret (i64 (checkF g))) H:=fun H=>check_c g b3 hsl hrl
 simp -implicitDefEqProofs [h1,h2,h3,h3']
 refine callk (hc h) (by simp [encG]) rfl ?_
 by_cases h5 : checkF g = 0
 case neg =>
  simp -implicitDefEqProofs [h5]
  refine callk awake_c rfl rfl ?_
  simp -implicitDefEqProofs [res_law13_GrammarGrows]
  exact ret1 (v:=bl true) (by simp [deferred,dslot]) (by simp [evalRes,evalRes1]) ⟨rfl,rfl⟩
 simp -implicitDefEqProofs [h5]
 refine AWp.go (a:=cp2_law13_GrammarGrows) (b:=tl3_law13_GrammarGrows) rfl ?_
 simp -implicitDefEqProofs [cp2_law13_GrammarGrows]
 refine AWp.go (a:=cp3_law13_GrammarGrows) (b:=tl4_law13_GrammarGrows) rfl ?_
 simp -implicitDefEqProofs [cp3_law13_GrammarGrows]
 refine AWp.go (a:=cp4_law13_GrammarGrows) (b:=tl5_law13_GrammarGrows) rfl ?_
 simp -implicitDefEqProofs [cp4_law13_GrammarGrows]
 have hlen : (0 : Int) < g.rules.length:=by omega
 obtain ⟨d,hd⟩ : ∃ d : Nat,u.tmod g.rules.length = (d : Int):=⟨(u.tmod g.rules.length).toNat,by have:=Int.tmod_nonneg (g.rules.length : Int) hu.1; omega⟩
 have wu : IntKind.i64.wrap u = u:=IntWalk.i64_in _ (by omega)
 have wd : IntKind.i64.wrap (d : Int) = (d : Int):=IntWalk.i64_in _ (by have:=Int.tmod_lt_of_pos u hlen; omega)
 obtain ⟨rl,hrl'⟩ : ∃ rl : Nat → List Rl,rl = fun i=>(g.rules.take i).eraseIdx d:=⟨_,rfl⟩
 refine AWp.cnt g.rules.length [1,2,3,7] (fun i=>[(8,i64 i)]) (fun i=>h ++ ([.cells 0 [.sl 1 (g.sorts.map sv) g.sc,xV g (rl i) (h.length + 1)]] ++ apdH (rl i).length)) (fun _=>True) mixed trivial (le_of (by simp [dslot])) (by simp [hrl',xV,apdK,apdC]) (fun i hi _=>?_) fun _=>?_
 ·obtain ⟨R,hR⟩ : ∃ R,g.rules[i]? = some R:=⟨g.rules[i],by simp [hi]⟩
  have hlt : (i : Int) < g.rules.length:=by omega
  have wi : IntKind.i64.wrap ((i : Int) + 1) = (i : Int) + 1:=IntWalk.i64_in _ (by omega)
  have hst:=erase_step (d:=d) hR
  by_cases hid : i = d
  ·have hrn : rl (i + 1) = rl i:=by rw [hrl']; simp only; rw [hst,if_pos hid,List.append_nil]
   subst hid
   simp -implicitDefEqProofs [lp0_law13_GrammarGrows,hlt,hR,encR,wu,hd,wd,h3,h3',hrn,wi]
   exact le_of (by simp [dslot])
  ·have hid' : ¬ (i : Int) = (d : Int):=by omega
   have hrn : rl (i + 1) = rl i ++ [R]:=by rw [hrl']; simp only; rw [hst,if_neg hid]
   have hrll : (rl i).length ≤ i:=by rw [hrl']; exact Nat.le_trans (List.length_eraseIdx_le _ _) (by rw [List.length_take]; omega)
   simp -implicitDefEqProofs [lp0_law13_GrammarGrows,hlt,hR,encR,wu,hd,wd,hid,hid',h3,h3']
   refine appkL ((rl i).map encR) [encR R] (h ++ [.cells 0 [.sl 1 (g.sorts.map sv) g.sc,xV g (rl i) (h.length + 1)]]) (by simp [xV,apd_sl]) (by simp [encR]) (by simp) (len_tok (by simp; omega)) ?_
   simp -implicitDefEqProofs [wi,hrn]
   exact ⟨le_of (by simp [dslot]),by simp [xV,apd_sl]⟩
 ·simp -implicitDefEqProofs [lp0_law13_GrammarGrows]
  have hrl9 : rl g.rules.length = g.rules.eraseIdx d:=by rw [hrl']; simp
  rw [hrl9]
  obtain ⟨H,hH⟩ : ∃ H,H = h ++ (AObj.cells 0 [AV.sl 1 (g.sorts.map sv) g.sc,xV g (g.rules.eraseIdx d) (h.length + 1)] :: apdH (g.rules.eraseIdx d).length):=⟨_,rfl⟩
  rw [← hH]
  have hG:=gok h5
  have hG':=gok (minG_check (d:=d) (c:=xC (g.rules.eraseIdx d) (h.length + 1)) h5)
  exact (grows_tail (minG g d (xC (g.rules.eraseIdx d) (h.length + 1))) g s minG_sub rfl hG hG' (apdK 4 ((g.rules.eraseIdx d).map encR)) (xC (g.rules.eraseIdx d) (h.length + 1)) (by rw [hH]; exact Low.app _ _ _) (by rw [hH]; simp; rfl) (xV_le g d (h.length + 1)) (hc H)
   (check_c _ (fun a b r hr=>b3 hG.sorts hG.rules r (minG_sub r hr)) hsl (Nat.le_trans (List.length_eraseIdx_le _ _) hrl))).weaken (le_of (by simp [dslot,encG]))
end Go.Apx
end
