/- The law PickNames; printed by tools/mkpn.py. Conditions: none. -/
import Derived.Test.YtbbdplfkiioppaaGreatPXC
import Derived.Test.YtbbdplfkiioppaaGreatM9
import Derived.Test.YtbbdplfkiioppaaGreatVgLPickNames
import Derived.Test.YtbbdplfkiioppaaGreatFs
set_option linter.unusedVariables false
set_option maxRecDepth 100000
open Go Go.Eng Go.Proofs
namespace Go.Proofs.YtbbdplfkiioppaaGreat

def farF:List Pt:=[(3,0,1048576),(4,0,0)]
def noneP:Ls:=(buildL [] (0,1)).1
def farP:Ls:=(buildL farF (1125899906842624,1)).1
theorem noneB:buildL [] (0,1)=(noneP,0):=Prod.ext rfl (by kernel_rfl)
theorem farB:buildL farF (1125899906842624,1)=(farP,0):=Prod.ext rfl (by kernel_rfl)
theorem noneOk:okLs noneP:=chkLs_zero.1 (by kernel_rfl)
theorem farOk:okLs farP:=chkLs_zero.1 (by kernel_rfl)
def ldA:List Ld:=[((1,1),1),((1,1),2)]
def ldB:List Ld:=[((1,1),1)]
def ldC:List Ld:=[((1,1),-7),((3,1),2)]
theorem fitI {a b:Int} (h1:-9223372036854775808≤a) (h2:a≤9223372036854775807) (h3:-9223372036854775808≤b) (h4:b≤9223372036854775807):fitR (a,b):=⟨by show inI a; unfold inI; omega,by show inI b; unfold inI; omega⟩
theorem fitFar:fitR (1125899906842624,1):=fitI (by omega) (by omega) (by omega) (by omega)
theorem fitLdA:∀ x∈ldA,fitR x.1:=fun x hx=>by
 simp only [ldA,List.mem_cons,List.not_mem_nil,or_false] at hx
 rcases hx with rfl | rfl <;> exact fitI (by omega) (by omega) (by omega) (by omega)
theorem fitLdB:∀ x∈ldB,fitR x.1:=fun x hx=>by
 simp only [ldB,List.mem_cons,List.not_mem_nil,or_false] at hx
 subst hx; exact fitI (by omega) (by omega) (by omega) (by omega)
theorem fitLdC:∀ x∈ldC,fitR x.1:=fun x hx=>by
 simp only [ldC,List.mem_cons,List.not_mem_nil,or_false] at hx
 rcases hx with rfl | rfl <;> exact fitI (by omega) (by omega) (by omega) (by omega)
theorem pn_k1:kthM .zero 0=(0,8):=by kernel_rfl
theorem pn_s1:slcM .zero (-1) 0=([],8):=by kernel_rfl
theorem pn_m1:medM .zero=((0,0),8):=by kernel_rfl
theorem pn_r1:reignM .zero (-1) (0,0)=([],8):=by kernel_rfl
theorem pn_k2:kthM noneP 0=(0,42):=by kernel_rfl
theorem pn_m2:medM noneP=((0,0),42):=by kernel_rfl
theorem pn_r2:reignM noneP 0 (0,1)=([],42):=by kernel_rfl
theorem pn_s2:slcM noneP 0 0=([],0):=by kernel_rfl
theorem pn_k3:kthM exLs 3=(0,2):=by kernel_rfl
theorem pn_k4:kthM exLs (-1)=(0,2):=by kernel_rfl
theorem pn_s3:slcM exLs 2 1=([],2):=by kernel_rfl
theorem pn_s4:slcM exLs (-1) 1=([],2):=by kernel_rfl
theorem pn_s5:slcM exLs 1 4=([],2):=by kernel_rfl
theorem pn_s6:slcM exLs 1 3=([1,5],0):=by kernel_rfl
theorem pn_r3:reignM exLs 3 (0,0)=([],8):=by kernel_rfl
theorem pn_r4:reignM exLs 3 (-1,1)=([],44):=by kernel_rfl
theorem pn_r5:reignM exLs 3 (0,1)=([],2):=by kernel_rfl
theorem pn_m3:medM farP=((0,0),16):=by kernel_rfl
theorem pn_r6:reignM exLs 2 (0,1)=([((0,1),5)],0):=by kernel_rfl
theorem pn_w1:whoM [] (0,1)=(0,8):=by kernel_rfl
theorem pn_w2:whoM ldA (0,1)=(0,8):=by kernel_rfl
theorem pn_w3:whoM ldB (0,1)=(0,44):=by kernel_rfl
theorem pn_w4:whoM ldB (0,0)=(0,8):=by kernel_rfl
theorem pn_w5:whoM ldC (3,1)=(2,0):=by kernel_rfl
theorem pn_w6:whoM ldC (5,2)=(-7,0):=by kernel_rfl
set_option maxHeartbeats 4000000 in
theorem pickNames_of {H:Hp} {x e y:Ls} (fx:fitL x) (fe:fitL e) (fy:fitL y) (ex:∀ {H:Hp},Go.Eng.Fn Tryz.prog F.pelotonlaw30_example #[] H fun v H'=>∃ u:Lu,v=lsV u x∧Hp.le H H'∧RdL H' u x)
  (be:buildL [] (0,1)=(e,0)) (bf:buildL farF (1125899906842624,1)=(y,0))
  (k1:kthM .zero 0=(0,8)) (s1:slcM .zero (-1) 0=([],8)) (m1:medM .zero=((0,0),8)) (r1:reignM .zero (-1) (0,0)=([],8)) (k2:kthM e 0=(0,42)) (m2:medM e=((0,0),42)) (r2:reignM e 0 (0,1)=([],42)) (s2:slcM e 0 0=([],0)) (k3:kthM x 3=(0,2)) (k4:kthM x (-1)=(0,2)) (s3:slcM x 2 1=([],2)) (s4:slcM x (-1) 1=([],2)) (s5:slcM x 1 4=([],2)) (s6:slcM x 1 3=([1,5],0)) (r3:reignM x 3 (0,0)=([],8)) (r4:reignM x 3 (-1,1)=([],44)) (r5:reignM x 3 (0,1)=([],2)) (m3:medM y=((0,0),16)) (r6:reignM x 2 (0,1)=([((0,1),5)],0)) (w1:whoM [] (0,1)=(0,8)) (w2:whoM ldA (0,1)=(0,8)) (w3:whoM ldB (0,1)=(0,44)) (w4:whoM ldB (0,0)=(0,8)) (w5:whoM ldC (3,1)=(2,0)) (w6:whoM ldC (5,2)=(-7,0)) :
  Qf Tryz.prog F.pelotonlaw30_PickNames #[] H (.bool true):=by
 refine pelotonlaw30_PickNames_vc ⟨0,1,law30whole,?_⟩
 have q:=refBuildL (H:=H) (w:=⟨none,0,0⟩) (f:=[]) (t:=(0,1)) (Rd.nil:Rd 3 fD H ⟨none,0,0⟩ []) fit01
 rw [be] at q
 refine q.mono fun v H4 ⟨a,hv,l4,ra⟩=>⟨_,_,a.k.f,_,a.k.cl,a.k.u1,a.k.u2,a.k.u3,a.k.u4,a.k.u5,a.k.d,a.o,a.n,0,hv,fun b19 H20 hb19 hH20=>?_⟩
 have ra:RdL H4 a e:=ra
 have l20:Hp.le H4 H20:=Hp.le_new (Hp.le_refl _) hb19 hH20
 have rf:Rd 3 fD H20 ⟨some ⟨b19,0,none⟩,2,2⟩ farF:=rdConst (k:=3) (f:=fD) (fun _=>rfl) hH20 rfl rfl
 have q:=refBuildL rf fitFar
 rw [bf] at q
 refine ⟨1125899906842624,1,law30whole,q.mono fun v H24 ⟨c,hv,l24,rc⟩=>⟨_,_,c.k.f,_,c.k.cl,c.k.u1,c.k.u2,c.k.u3,c.k.u4,c.k.u5,c.k.d,c.o,c.n,0,hv,?_⟩⟩
 have rc:RdL H24 c y:=rc
 have q:=pickKth (H:=H24) (k:=0) RdL.zero fitZg
 rw [k1] at q
 refine ⟨0,8,q,?_⟩
 have q:=pickSlice (H:=H24) (a:=-1) (b:=0) RdL.zero fitZg
 rw [s1] at q
 refine q.mono fun v H42 ⟨u43,hv,l42,_⟩=>⟨u43,8,hv,?_⟩
 have q:=pickMedian (H:=H42) RdL.zero fitZg
 rw [m1] at q
 refine ⟨0,0,8,q,?_⟩
 have q:=pickReign (H:=H42) (k:=-1) (to:=(0,0)) RdL.zero fitZg fit00g
 rw [r1] at q
 refine q.mono fun v H49 ⟨u50,hv,l49,_⟩=>⟨u50,8,hv,?_⟩
 have ra:=ra.le (Hp.le_trans l20 (Hp.le_trans l24 (Hp.le_trans l42 l49)))
 have q:=pickKth (k:=0) ra fe
 rw [k2] at q
 refine ⟨0,42,q,?_⟩
 have q:=pickMedian ra fe
 rw [m2] at q
 refine ⟨0,0,42,q,0,1,law30whole,?_⟩
 have q:=pickReign (k:=0) (to:=(0,1)) ra fe fit01
 rw [r2] at q
 refine q.mono fun v H60 ⟨u61,hv,l60,_⟩=>⟨l60,u61,42,hv,?_⟩
 have q:=pickSlice (a:=0) (b:=0) (ra.le l60) fe
 rw [s2] at q
 refine q.mono fun v H64 ⟨u65,hv,l64,m65⟩=>⟨u65,0,hv,?_⟩
 have e65:(u65.n:Int)=0:=congrArg Nat.cast m65.rdI.len
 refine ex.mono fun v H68 ⟨x1,hv,lH68,rx1⟩=>⟨_,_,x1.k.f,_,x1.k.cl,x1.k.u1,x1.k.u2,x1.k.u3,x1.k.u4,x1.k.u5,x1.k.d,x1.o,x1.n,hv,?_⟩
 have q:=pickKth (k:=3) rx1 fx
 rw [k3] at q
 refine ⟨0,2,q,?_⟩
 refine ex.mono fun v H85 ⟨x2,hv,lH85,rx2⟩=>⟨_,_,x2.k.f,_,x2.k.cl,x2.k.u1,x2.k.u2,x2.k.u3,x2.k.u4,x2.k.u5,x2.k.d,x2.o,x2.n,hv,?_⟩
 have q:=pickKth (k:=-1) rx2 fx
 rw [k4] at q
 refine ⟨0,2,q,?_⟩
 refine ex.mono fun v H102 ⟨x3,hv,lH102,rx3⟩=>⟨_,_,x3.k.f,_,x3.k.cl,x3.k.u1,x3.k.u2,x3.k.u3,x3.k.u4,x3.k.u5,x3.k.d,x3.o,x3.n,hv,?_⟩
 have q:=pickSlice (a:=2) (b:=1) rx3 fx
 rw [s3] at q
 refine q.mono fun v H117 ⟨u118,hv,lH117,mu118⟩=>⟨u118,2,hv,?_⟩
 refine ex.mono fun v H121 ⟨x4,hv,lH121,rx4⟩=>⟨_,_,x4.k.f,_,x4.k.cl,x4.k.u1,x4.k.u2,x4.k.u3,x4.k.u4,x4.k.u5,x4.k.d,x4.o,x4.n,hv,?_⟩
 have q:=pickSlice (a:=-1) (b:=1) rx4 fx
 rw [s4] at q
 refine q.mono fun v H136 ⟨u137,hv,lH136,mu137⟩=>⟨u137,2,hv,?_⟩
 refine ex.mono fun v H140 ⟨x5,hv,lH140,rx5⟩=>⟨_,_,x5.k.f,_,x5.k.cl,x5.k.u1,x5.k.u2,x5.k.u3,x5.k.u4,x5.k.u5,x5.k.d,x5.o,x5.n,hv,?_⟩
 have q:=pickSlice (a:=1) (b:=4) rx5 fx
 rw [s5] at q
 refine q.mono fun v H155 ⟨u156,hv,lH155,mu156⟩=>⟨u156,2,hv,?_⟩
 refine ex.mono fun v H159 ⟨x6,hv,lH159,rx6⟩=>⟨_,_,x6.k.f,_,x6.k.cl,x6.k.u1,x6.k.u2,x6.k.u3,x6.k.u4,x6.k.u5,x6.k.d,x6.o,x6.n,hv,?_⟩
 have q:=pickSlice (a:=1) (b:=3) rx6 fx
 rw [s6] at q
 refine q.mono fun v H174 ⟨u175,hv,lH174,mu175⟩=>⟨u175,0,hv,?_⟩
 refine ex.mono fun v H178 ⟨x7,hv,lH178,rx7⟩=>⟨_,_,x7.k.f,_,x7.k.cl,x7.k.u1,x7.k.u2,x7.k.u3,x7.k.u4,x7.k.u5,x7.k.d,x7.o,x7.n,hv,?_⟩
 have q:=pickReign (k:=3) (to:=(0,0)) rx7 fx fit00g
 rw [r3] at q
 refine q.mono fun v H193 ⟨u194,hv,lH193,mu194⟩=>⟨u194,8,hv,?_⟩
 refine ex.mono fun v H197 ⟨x8,hv,lH197,rx8⟩=>⟨_,_,x8.k.f,_,x8.k.cl,x8.k.u1,x8.k.u2,x8.k.u3,x8.k.u4,x8.k.u5,x8.k.d,x8.o,x8.n,hv,?_⟩
 refine ⟨-1,1,law30whole,?_⟩
 have q:=pickReign (k:=3) (to:=(-1,1)) rx8 fx (fitI (by omega) (by omega) (by omega) (by omega))
 rw [r4] at q
 refine q.mono fun v H214 ⟨u215,hv,lH214,mu215⟩=>⟨u215,44,hv,?_⟩
 refine ex.mono fun v H218 ⟨x9,hv,lH218,rx9⟩=>⟨_,_,x9.k.f,_,x9.k.cl,x9.k.u1,x9.k.u2,x9.k.u3,x9.k.u4,x9.k.u5,x9.k.d,x9.o,x9.n,hv,?_⟩
 refine ⟨0,1,law30whole,?_⟩
 have q:=pickReign (k:=3) (to:=(0,1)) rx9 fx fit01
 rw [r5] at q
 refine q.mono fun v H235 ⟨u236,hv,lH235,mu236⟩=>⟨u236,2,hv,?_⟩
 have q:=pickMedian (rc.le (Hp.le_trans l42 (Hp.le_trans l49 (Hp.le_trans l60 (Hp.le_trans l64 (Hp.le_trans lH68 (Hp.le_trans lH85 (Hp.le_trans lH102 (Hp.le_trans lH117 (Hp.le_trans lH121 (Hp.le_trans lH136 (Hp.le_trans lH140 (Hp.le_trans lH155 (Hp.le_trans lH159 (Hp.le_trans lH174 (Hp.le_trans lH178 (Hp.le_trans lH193 (Hp.le_trans lH197 (Hp.le_trans lH214 (Hp.le_trans lH218 lH235)))))))))))))))))))) fy
 rw [m3] at q
 refine ⟨0,0,16,q,?_⟩
 refine ex.mono fun v H242 ⟨x10,hv,lH242,rx10⟩=>⟨_,_,x10.k.f,_,x10.k.cl,x10.k.u1,x10.k.u2,x10.k.u3,x10.k.u4,x10.k.u5,x10.k.d,x10.o,x10.n,hv,?_⟩
 refine ⟨0,1,law30whole,?_⟩
 have q:=pickReign (k:=2) (to:=(0,1)) rx10 fx fit01
 rw [r6] at q
 refine q.mono fun v H259 ⟨u260,hv,lH259,mu260⟩=>⟨u260,0,hv,?_⟩
 refine ⟨0,1,law30whole,?_⟩
 have q:=pickWho (H:=H259) (u:=⟨none,0,0⟩) (r:=[]) (t:=(0,1)) (Rd.nil:Rd 3 fL H259 ⟨none,0,0⟩ []) (fun x hx=>by cases hx) fit01 (by decide)
 have ew:whoV [] (0,1)=.tuple #[.int .i64 0,.int .i64 8]:=by
  show Value.tuple #[.int .i64 (whoM _ _).1,.int .i64 (whoM _ _).2]=_
  rw [w1]
 rw [ew] at q
 refine ⟨0,8,q,?_⟩
 refine ⟨1,1,law30whole,1,1,law30whole,fun b270 H271 hb hH=>?_⟩
 have lH271:Hp.le H259 H271:=Hp.le_new (Hp.le_refl _) hb hH
 have rb270:Rd 3 fL H271 ⟨some ⟨b270,0,none⟩,2,2⟩ ldA:=rdConst (k:=3) (f:=fL) (fun _=>rfl) hH rfl rfl
 clear hb hH
 refine ⟨0,1,law30whole,?_⟩
 have q:=pickWho (H:=H271) (t:=(0,1)) rb270 fitLdA fit01 (by first | decide | (show List.length ldA≤1000000; simp [ldA]))
 have ew:whoV ldA (0,1)=.tuple #[.int .i64 (0),.int .i64 8]:=by
  show Value.tuple #[.int .i64 (whoM _ _).1,.int .i64 (whoM _ _).2]=_
  rw [w2]
 rw [ew] at q
 refine ⟨0,8,q,?_⟩
 refine ⟨1,1,law30whole,fun b278 H279 hb hH=>?_⟩
 have lH279:Hp.le H271 H279:=Hp.le_new (Hp.le_refl _) hb hH
 have rb278:Rd 3 fL H279 ⟨some ⟨b278,0,none⟩,1,1⟩ ldB:=rdConst (k:=3) (f:=fL) (fun _=>rfl) hH rfl rfl
 clear hb hH
 refine ⟨0,1,law30whole,?_⟩
 have q:=pickWho (H:=H279) (t:=(0,1)) rb278 fitLdB fit01 (by first | decide | (show List.length ldB≤1000000; simp [ldB]))
 have ew:whoV ldB (0,1)=.tuple #[.int .i64 (0),.int .i64 44]:=by
  show Value.tuple #[.int .i64 (whoM _ _).1,.int .i64 (whoM _ _).2]=_
  rw [w3]
 rw [ew] at q
 refine ⟨0,44,q,?_⟩
 refine ⟨1,1,law30whole,fun b286 H287 hb hH=>?_⟩
 have lH287:Hp.le H279 H287:=Hp.le_new (Hp.le_refl _) hb hH
 have rb286:Rd 3 fL H287 ⟨some ⟨b286,0,none⟩,1,1⟩ ldB:=rdConst (k:=3) (f:=fL) (fun _=>rfl) hH rfl rfl
 clear hb hH
 have q:=pickWho (H:=H287) (t:=(0,0)) rb286 fitLdB fit00g (by first | decide | (show List.length ldB≤1000000; simp [ldB]))
 have ew:whoV ldB (0,0)=.tuple #[.int .i64 (0),.int .i64 8]:=by
  show Value.tuple #[.int .i64 (whoM _ _).1,.int .i64 (whoM _ _).2]=_
  rw [w4]
 rw [ew] at q
 refine ⟨0,8,q,?_⟩
 refine ⟨1,1,law30whole,3,1,law30whole,fun b294 H295 hb hH=>?_⟩
 have lH295:Hp.le H287 H295:=Hp.le_new (Hp.le_refl _) hb hH
 have rb294:Rd 3 fL H295 ⟨some ⟨b294,0,none⟩,2,2⟩ ldC:=rdConst (k:=3) (f:=fL) (fun _=>rfl) hH rfl rfl
 clear hb hH
 refine ⟨3,1,law30whole,?_⟩
 have q:=pickWho (H:=H295) (t:=(3,1)) rb294 fitLdC (fitI (by omega) (by omega) (by omega) (by omega)) (by first | decide | (show List.length ldC≤1000000; simp [ldC]))
 have ew:whoV ldC (3,1)=.tuple #[.int .i64 (2),.int .i64 0]:=by
  show Value.tuple #[.int .i64 (whoM _ _).1,.int .i64 (whoM _ _).2]=_
  rw [w5]
 rw [ew] at q
 refine ⟨2,0,q,?_⟩
 refine ⟨1,1,law30whole,3,1,law30whole,fun b304 H305 hb hH=>?_⟩
 have lH305:Hp.le H295 H305:=Hp.le_new (Hp.le_refl _) hb hH
 have rb304:Rd 3 fL H305 ⟨some ⟨b304,0,none⟩,2,2⟩ ldC:=rdConst (k:=3) (f:=fL) (fun _=>rfl) hH rfl rfl
 clear hb hH
 have q:=pickWho (H:=H305) (t:=(5,2)) rb304 fitLdC (fitI (by omega) (by omega) (by omega) (by omega)) (by first | decide | (show List.length ldC≤1000000; simp [ldC]))
 have ew:whoV ldC (5,2)=.tuple #[.int .i64 (-7),.int .i64 0]:=by
  show Value.tuple #[.int .i64 (whoM _ _).1,.int .i64 (whoM _ _).2]=_
  rw [w6]
 rw [ew] at q
 refine ⟨-7,0,q,true,law30alive,fun _=>fun b309 H310 hb hH=>?_,fun h=>by simp [e65] at h⟩
 have lH310:Hp.le H305 H310:=Hp.le_new (Hp.le_refl _) hb hH
 have c310:RdI H310 ⟨some ⟨b309,0,none⟩,2,2⟩ [1,5]:=rdConst (k:=1) (f:=fI) (fun _=>rfl) hH rfl rfl
 clear hb hH
 have r175:RdI H310 u175 [1,5]:=mu175.rdI.le (Hp.le_trans lH178 (Hp.le_trans lH193 (Hp.le_trans lH197 (Hp.le_trans lH214 (Hp.le_trans lH218 (Hp.le_trans lH235 (Hp.le_trans lH242 (Hp.le_trans lH259 (Hp.le_trans lH271 (Hp.le_trans lH279 (Hp.le_trans lH287 (Hp.le_trans lH295 (Hp.le_trans lH305 lH310)))))))))))))
 have q5:=sameIDs r175 c310 (by decide)
 refine ⟨true,fun _=>q5,0,1,fun _=>law30whole,fun _=>fun b314 H315 hb hH=>?_,fun h=>by simp [e65] at h⟩
 have lH315:Hp.le H310 H315:=Hp.le_new (Hp.le_refl _) hb hH
 have c315:Rd 3 fL H315 ⟨some ⟨b314,0,none⟩,1,1⟩ [((0,1),5)]:=rdConst (k:=3) (f:=fL) (fun _=>rfl) hH rfl rfl
 clear hb hH
 have r260:Rd 3 fL H315 u260 [((0,1),5)]:=mu260.rdLd.le (Hp.le_trans lH271 (Hp.le_trans lH279 (Hp.le_trans lH287 (Hp.le_trans lH295 (Hp.le_trans lH305 (Hp.le_trans lH310 lH315))))))
 have q6:=refSame30' r260 c315 (by simp) rfl
 exact ⟨true,fun _=>q6,by simp [e65],(Hp.le_trans l4 (Hp.le_trans l20 (Hp.le_trans l24 (Hp.le_trans l42 (Hp.le_trans l49 (Hp.le_trans l60 (Hp.le_trans l64 (Hp.le_trans lH68 (Hp.le_trans lH85 (Hp.le_trans lH102 (Hp.le_trans lH117 (Hp.le_trans lH121 (Hp.le_trans lH136 (Hp.le_trans lH140 (Hp.le_trans lH155 (Hp.le_trans lH159 (Hp.le_trans lH174 (Hp.le_trans lH178 (Hp.le_trans lH193 (Hp.le_trans lH197 (Hp.le_trans lH214 (Hp.le_trans lH218 (Hp.le_trans lH235 (Hp.le_trans lH242 (Hp.le_trans lH259 (Hp.le_trans lH271 (Hp.le_trans lH279 (Hp.le_trans lH287 (Hp.le_trans lH295 (Hp.le_trans lH305 (Hp.le_trans lH310 lH315)))))))))))))))))))))))))))))))⟩
theorem pickNames {H:Hp}:Qf Tryz.prog F.pelotonlaw30_PickNames #[] H (.bool true) :=
 pickNames_of exOk.fit noneOk.fit farOk.fit (law30example_of exB) noneB farB pn_k1 pn_s1 pn_m1 pn_r1 pn_k2 pn_m2 pn_r2 pn_s2 pn_k3 pn_k4 pn_s3 pn_s4 pn_s5 pn_s6 pn_r3 pn_r4 pn_r5 pn_m3 pn_r6 pn_w1 pn_w2 pn_w3 pn_w4 pn_w5 pn_w6
end Go.Proofs.YtbbdplfkiioppaaGreat
