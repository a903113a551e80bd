/- The engine, parts DX, DW, AT, RV, put together. Conditions: none. -/
import Derived.Test.YtbbdplfkiioppaaGreatPX1
import Derived.Test.YtbbdplfkiioppaaGreatE7
import Derived.Test.YtbbdplfkiioppaaGreatPK1
import Derived.Lib.ItoaNum
import Derived.Test.YtbbdplfkiioppaaGreatVgStd
import Derived.Test.YtbbdplfkiioppaaGreatFs
import Derived.Test.YtbbdplfkiioppaaGreatP4
import Derived.Test.YtbbdplfkiioppaaGreatVgBase
set_option linter.unusedVariables false
section
/- bits.Len64, as the library has it. Conditions: none. -/
set_option maxRecDepth 100000
open Go Go.Eng Go.Proofs
namespace Go.Proofs.YtbbdplfkiioppaaGreat
theorem len64 {H:Hp} {x:Int} (h0:0≤x) (h1:x≤18446744073709551615):Qf Tryz.prog 132 #[.int .u64 x] H (.int .i64 ((Go.Lib.bitLen x.toNat:Nat):Int)):=fun w hv =>
 (Any.bits_Len64 Tryz.len64 x w h0 h1).mono fun e w' ⟨he,hw⟩=>⟨_,H,he,by rw [hw]; exact Tr.refl hv,rfl,Hp.le_refl _⟩

theorem fdivP {z:Int} {k:Nat} (h0:0≤z) (hk:k≤64):z.fdiv (2 ^ Min.min k IntKind.u64.bits)=z / 2 ^ k:=by
 have:Min.min k IntKind.u64.bits=k:=by show min k 64=k; omega
 rw [this]
 exact Int.fdiv_eq_ediv_of_nonneg _ (Int.le_of_lt (Int.pow_pos (by omega)))
theorem toNatU {z:Int} (h0:0≤z) (h1:z<18446744073709551616):(BitVec.ofInt IntKind.u64.bits z).toNat=z.toNat:=by
 rw [BitVec.toNat_ofInt]
 have:(((2:Nat) ^ IntKind.u64.bits:Nat):Int)=18446744073709551616:=by decide
 rw [this]; omega
theorem orSum {x a:Int} {k:Nat} (hx:0≤x) (ha:0≤a) (ha':a<2 ^ k) (hs:x * 2 ^ k+a<18446744073709551616) :
  IntKind.u64.wrap (↑(BitVec.ofInt IntKind.u64.bits (x * 2 ^ k) ||| BitVec.ofInt IntKind.u64.bits a).toNat:Int)=x * 2 ^ k+a:=by
 obtain ⟨X,rfl⟩:=Int.eq_ofNat_of_zero_le hx
 obtain ⟨A,rfl⟩:=Int.eq_ofNat_of_zero_le ha
 have e:((X:Int) * 2 ^ k)=((2 ^ k * X:Nat):Int):=by rw [Nat.mul_comm]; simp
 have hA:A<2 ^ k:=by
  have:((2:Int) ^ k)=((2 ^ k:Nat):Int):=by simp
  rw [this] at ha'; omega
 rw [e] at hs ⊢
 rw [BitVec.toNat_or,toNatU (by omega) (by omega),toNatU (by omega) (by omega),Int.toNat_natCast,Int.toNat_natCast,← Nat.two_pow_add_eq_or_of_lt hA,wrap_u64,wrapU_id (by omega) (by omega)]
 omega

theorem lead64 {H:Hp} {y:Int} (y1:1≤y) (y2:y<18446744073709551616):∃ k:Nat,k≤63∧Qf Tryz.prog F.math_bits_LeadingZeros64 #[.int .u64 y] H (.int .i64 (k:Int))∧9223372036854775808≤y * 2 ^ k∧y * 2 ^ k<18446744073709551616:=by
 obtain ⟨n,rfl⟩:=Int.eq_ofNat_of_zero_le (show 0≤y by omega)
 have hp:(2:Nat) ^ 64=18446744073709551616:=by decide
 obtain ⟨b1,b2,b3⟩:=Go.Lib.bitLenAux_bounds 64 n (by omega) (by omega)
 have b4:Go.Lib.bitLenAux 64 n≤64:=Go.Lib.bitLenAux_le 64 n 64 (by omega)
 have hq:=len64 (H:=H) (x:=(n:Int)) (by omega) (by omega)
 rw [Int.toNat_natCast] at hq
 have hb:Go.Lib.bitLen n=Go.Lib.bitLenAux 64 n:=rfl
 rw [hb] at hq
 generalize Go.Lib.bitLenAux 64 n=b at *
 refine ⟨64-b,by omega,math_bits_LeadingZeros64_vc ⟨_,hq,by unfold inI; omega,?_,Hp.le_refl _⟩,?_,?_⟩
 ·congr 1; omega
 ·have e:2 ^ (b-1) * 2 ^ (64-b)=9223372036854775808:=by rw [← Nat.pow_add,show b-1+(64-b)=63 by omega]; try decide
  have:=Nat.mul_le_mul_right (2 ^ (64-b)) b2
  rw [e] at this
  have e2:(n:Int) * 2 ^ (64-b)=((n * 2 ^ (64-b):Nat):Int):=by simp
  rw [e2]; omega
 ·have e:2 ^ b * 2 ^ (64-b)=18446744073709551616:=by rw [← Nat.pow_add,show b+(64-b)=64 by omega]; try decide
  have:=Nat.mul_lt_mul_of_pos_right b3 (Nat.pow_pos (n:=64-b) (show 0<2 by omega))
  rw [e] at this
  have e2:(n:Int) * 2 ^ (64-b)=((n * 2 ^ (64-b):Nat):Int):=by simp
  rw [e2]; omega

theorem div2 {post:Value→Hp→Prop} {H:Hp} {v q1 Y y1 y0 l0 s:Int} (hY:Y=y1 * 4294967296+y0) (n:Nrm v l0 y1 y0) (hs:nn (wrapU s))
  (hp:∀ q0:Int,Digit v l0 Y q0→post (Value.tuple #[Value.int .u64 (wrapU (wrapU (q1 * 4294967296)+q0)),Value.int .u64 ((wrapU (wrapU (wrapU (v * 4294967296)+l0)-wrapU (q0 * Y))).fdiv (2 ^ Min.min (wrapU s).toNat IntKind.u64.bits))]) H) :
  nz y1∧∃ (I:Int→Int→Hp→Prop),∃ (m:Int→Int→Hp→Nat),I (wrapU (v-wrapU (wrapU (v.tdiv y1) * y1))) (wrapU (v.tdiv y1)) H∧∀ (n9 n10:Int) (H11:Hp),I n9 n10 H11 →
   ((decide (n10≥4294967296)||decide (wrapU (n10 * y0)>wrapU (wrapU (4294967296 * n9)+l0)))=true →
    (decide (wrapU (n9+y1)≥4294967296)=true→nn (wrapU s)∧post (Value.tuple #[Value.int .u64 (wrapU (wrapU (q1 * 4294967296)+wrapU (n10-1))),Value.int .u64 ((wrapU (wrapU (wrapU (v * 4294967296)+l0)-wrapU (wrapU (n10-1) * Y))).fdiv (2 ^ Min.min (wrapU s).toNat IntKind.u64.bits))]) H11) ∧
    (decide (wrapU (n9+y1)≥4294967296)=false→I (wrapU (n9+y1)) (wrapU (n10-1)) H11∧m (wrapU (n9+y1)) (wrapU (n10-1)) H11<m n9 n10 H11)) ∧
   ((decide (n10≥4294967296)||decide (wrapU (n10 * y0)>wrapU (wrapU (4294967296 * n9)+l0)))=false→nn (wrapU s)∧post (Value.tuple #[Value.int .u64 (wrapU (wrapU (q1 * 4294967296)+n10)),Value.int .u64 ((wrapU (wrapU (wrapU (v * 4294967296)+l0)-wrapU (n10 * Y))).fdiv (2 ^ Min.min (wrapU s).toNat IntKind.u64.bits))]) H11):=by
 obtain ⟨w1,w2⟩:=Dg.startW n
 rw [w1,w2]
 refine ⟨by have:=n.a; unfold nz; omega,fun r q H'=>H'=H∧Dg v l0 y1 y0 q r,fun _ q _=>q.toNat,⟨rfl,Dg.start n⟩,fun r q H' ⟨e,g⟩=>?_⟩
 subst e
 have na:=n.a; have nb:=n.b
 have g1:=g.r0; have g2:=g.r1; have g3:=g.q0; have g4:=g.q1
 rw [wrapU_id (n:=r+y1) (by omega) (by omega)]
 refine ⟨fun hc=>?_,fun hc=>⟨hs,hp q ?_⟩⟩
 ·have hc:=(g.cond n).1 hc
  have k2:=(g.lt_of n hc).2
  rw [wrapU_id (n:=q-1) (by omega) (by omega)]
  refine ⟨fun hb=>⟨hs,hp (q-1) ?_⟩,fun hb=>⟨⟨rfl,g.next n hc ?_⟩,?_⟩⟩
  ·rw [hY]; exact g.done n hc (by simpa using hb)
  ·have:¬ r+y1≥4294967296:=by simpa using hb
   omega
  ·show (q-1).toNat<q.toNat; omega
 ·rw [hY]; exact g.stop fun h=>by rw [(g.cond n).2 h] at hc; cases hc

theorem div64 {H:Hp} {hi lo y:Int} (y1:1≤y) (y2:y<18446744073709551616) (h0:0≤hi) (h1:hi<y) (l0:0≤lo) (l1:lo<18446744073709551616) :
  Qf Tryz.prog F.math_bits_Div64 #[.int .u64 hi,.int .u64 lo,.int .u64 y] H (.tuple #[.int .u64 ((hi * 18446744073709551616+lo) / y),.int .u64 ((hi * 18446744073709551616+lo) % y)]):=by
 refine math_bits_Div64_vc ⟨fun h=>?_,fun _=>⟨fun h=>?_,fun _=>⟨fun hz=>?_,fun hz=>?_⟩⟩⟩
 ·have h:y=0:=by simpa using h
  omega
 ·have h:y≤hi:=by simpa using h
  omega
 ·have hz:hi=0:=by simpa using hz
  subst hz
  have q0:0≤lo / y:=Int.ediv_nonneg l0 (by omega)
  have q1:lo / y≤lo:=Int.ediv_le_self _ l0
  refine ⟨by unfold nz; omega,by unfold nz; omega,?_,Hp.le_refl _⟩
  rw [Int.tdiv_eq_ediv_of_nonneg l0,Int.tmod_eq_emod_of_nonneg l0,wrapU_id q0 (by omega),show (0:Int) * 18446744073709551616+lo=lo by omega]
 ·obtain ⟨k,k63,hlz,k1,k2⟩:=lead64 (H:=H) y1 y2
  have pp:(0:Int)<2 ^ k:=Int.pow_pos (by omega)
  have pr:(0:Int)<2 ^ (64-k):=Int.pow_pos (by omega)
  have epr:(2:Int) ^ k * 2 ^ (64-k)=18446744073709551616:=by rw [← Int.pow_add,show k+(64-k)=64 by omega]; try decide
  obtain ⟨s1,s2,s3,s4,s5,s6⟩:=norm_shift pp pr epr h0 h1 l0 l1
  have wk:wrapU (k:Int)=k:=wrapU_id (by omega) (by omega)
  have wk2:wrapU (64-(k:Int))=((64-k:Nat):Int):=by rw [wrapU_id (by omega) (by omega)]; omega
  have ek:Min.min k IntKind.u64.bits=k:=by show min k 64=k; omega
  have eY:IntKind.u64.wrap (y * 2 ^ Min.min k IntKind.u64.bits)=y * 2 ^ k:=by rw [ek,wrap_u64,wrapU_id (by omega) k2]
  have eH:IntKind.u64.wrap (hi * 2 ^ Min.min k IntKind.u64.bits)=hi * 2 ^ k:=by rw [ek,wrap_u64,wrapU_id s4 (by omega)]
  have eA:lo.fdiv (2 ^ Min.min (64-k) IntKind.u64.bits)=lo / 2 ^ (64-k):=fdivP l0 (by omega)
  have eU:=orSum (x:=hi) (a:=lo / 2 ^ (64-k)) (k:=k) h0 s1 s2 (by omega)
  have eL:IntKind.u64.wrap (lo * 2 ^ Min.min k IntKind.u64.bits)=lo * 2 ^ k % 18446744073709551616:=by rw [ek,wrap_u64]; rfl
  have L0:0≤lo * 2 ^ k % 18446744073709551616:=Int.emod_nonneg _ (by omega)
  have L1:lo * 2 ^ k % 18446744073709551616<18446744073709551616:=Int.emod_lt_of_pos _ (by omega)
  have U0:0≤hi * 2 ^ k+lo / 2 ^ (64-k):=by omega
  have eY1:=shr32 (z:=y * 2 ^ k) (by omega)
  have eY0:=maskU (z:=y * 2 ^ k) (by omega) k2
  have eL1:=shr32 (z:=lo * 2 ^ k % 18446744073709551616) L0
  have eL0:=maskU (z:=lo * 2 ^ k % 18446744073709551616) L0 L1
  have nk:nn (wrapU (k:Int)):=by rw [wk]; unfold nn; omega
  have n1:Nrm (hi * 2 ^ k+lo / 2 ^ (64-k)) (lo * 2 ^ k % 18446744073709551616 / 4294967296) (y * 2 ^ k / 4294967296) (y * 2 ^ k % 4294967296):=by
   generalize hi * 2 ^ k+lo / 2 ^ (64-k)=u at *
   generalize lo * 2 ^ k % 18446744073709551616=L at *
   generalize y * 2 ^ k=Y at *
   exact ⟨by omega,by omega,by omega,by omega,by omega,by omega,by omega,by omega⟩
  obtain ⟨w1,w2⟩:=Dg.startW n1
  have fin:∀ {q1 q0 v l1' l0':Int},(hi * 2 ^ k+lo / 2 ^ (64-k)) * 18446744073709551616+lo * 2 ^ k % 18446744073709551616=((hi * 2 ^ k+lo / 2 ^ (64-k)) * 4294967296+l1') * 4294967296+l0' →
    Digit (hi * 2 ^ k+lo / 2 ^ (64-k)) l1' (y * 2 ^ k) q1→v=(hi * 2 ^ k+lo / 2 ^ (64-k)) * 4294967296+l1'-q1 * (y * 2 ^ k)→Digit v l0' (y * 2 ^ k) q0 →
    wrapU (wrapU (q1 * 4294967296)+q0)=(hi * 18446744073709551616+lo) / y∧(wrapU (wrapU (wrapU (v * 4294967296)+l0')-wrapU (q0 * (y * 2 ^ k)))).fdiv (2 ^ Min.min k IntKind.u64.bits)=(hi * 18446744073709551616+lo) % y:=by
   intro q1 q0 v a0 a1 e6 d1 ev d2
   rw [fdivP (by unfold wrapU; omega) (by omega)]
   exact digits pp (by omega) k2 (by rw [s6]; exact e6) d1 ev d2
  refine ⟨(k:Int),hlz,?_⟩
  simp only [wk,wk2,Int.toNat_natCast,eY,eH,eA,eU,eL,eY1,eY0,eL1,eL0,w1,w2]
  generalize hi * 2 ^ k+lo / 2 ^ (64-k)=u at *
  generalize lo * 2 ^ k % 18446744073709551616=L at *
  generalize y * 2 ^ k=Y at *
  have hY:Y=Y / 4294967296 * 4294967296+Y % 4294967296:=by omega
  have hL:u * 18446744073709551616+L=(u * 4294967296+L / 4294967296) * 4294967296+L % 4294967296:=by omega
  have n2:∀ {v:Int},0≤v→v<Y→Nrm v (L % 4294967296) (Y / 4294967296) (Y % 4294967296):=fun a b=>⟨by omega,by omega,by omega,by omega,a,by omega,by omega,by omega⟩
  have one:∀ q1:Int,Digit u (L / 4294967296) Y q1→∃ v,0≤v∧v<Y∧v=u * 4294967296+L / 4294967296-q1 * Y∧wrapU (wrapU (wrapU (u * 4294967296)+L / 4294967296)-wrapU (q1 * Y))=v:=fun q1 d=>by
   obtain ⟨a,b,c,e⟩:=d
   rw [Int.add_mul,Int.one_mul] at b
   exact ⟨_,by omega,by omega,rfl,wrap_sub3 (by omega) (by omega)⟩
  refine ⟨by unfold nn; omega,by unfold nn; omega,by unfold nn; omega,by unfold nn; omega,by unfold nn; omega,by unfold nn; omega,by unfold nz; omega,
   fun q r H'=>H'=H∧Dg u (L / 4294967296) (Y / 4294967296) (Y % 4294967296) q r,fun q _ _=>q.toNat,⟨rfl,Dg.start n1⟩,fun q r H' ⟨e,g⟩=>?_⟩
  subst e
  have na:=n1.a; have nb:=n1.b
  have g1:=g.r0; have g2:=g.r1; have g3:=g.q0; have g4:=g.q1
  rw [wrapU_id (n:=r+Y / 4294967296) (by omega) (by omega)]
  refine ⟨fun hc=>?_,fun hc=>?_⟩
  ·have hc:=(g.cond n1).1 hc
   have c2:=(g.lt_of n1 hc).2
   rw [wrapU_id (n:=q-1) (by omega) (by omega)]
   refine ⟨fun hb=>?_,fun hb=>⟨⟨rfl,g.next n1 hc ?_⟩,?_⟩⟩
   ·have d:=g.done n1 hc (by simpa using hb)
    rw [← hY] at d
    obtain ⟨v,v0,v1,ev,wv⟩:=one _ d
    rw [wv]
    have key:=div2 (post:=fun v H5=>v=.tuple #[.int .u64 ((hi * 18446744073709551616+lo) / y),.int .u64 ((hi * 18446744073709551616+lo) % y)]∧Hp.le H' H5) (H:=H') (s:=(k:Int)) (q1:=q-1) hY (n2 v0 v1) nk fun q0 d0=>⟨by rw [wk,Int.toNat_natCast]; obtain ⟨z1,z2⟩:=fin hL d ev d0; rw [z1,z2],Hp.le_refl _⟩
    rw [wk,Int.toNat_natCast] at key
    exact key
   ·have:¬ r+Y / 4294967296≥4294967296:=by simpa using hb
    omega
   ·show (q-1).toNat<q.toNat; omega
  ·have d:=g.stop fun h=>by rw [(g.cond n1).2 h] at hc; cases hc
   rw [← hY] at d
   obtain ⟨v,v0,v1,ev,wv⟩:=one _ d
   rw [wv]
   have key:=div2 (post:=fun v H5=>v=.tuple #[.int .u64 ((hi * 18446744073709551616+lo) / y),.int .u64 ((hi * 18446744073709551616+lo) % y)]∧Hp.le H' H5) (H:=H') (s:=(k:Int)) (q1:=q) hY (n2 v0 v1) nk fun q0 d0=>⟨by rw [wk,Int.toNat_natCast]; obtain ⟨z1,z2⟩:=fin hL d ev d0; rw [z1,z2],Hp.le_refl _⟩
   rw [wk,Int.toNat_natCast] at key
   exact key

theorem rem64 {H:Hp} {hi lo y:Int} (y1:1≤y) (y2:y<18446744073709551616) (h0:0≤hi) (l0:0≤lo) (l1:lo<18446744073709551616) :
  Qf Tryz.prog F.math_bits_Rem64 #[.int .u64 hi,.int .u64 lo,.int .u64 y] H (.int .u64 ((hi * 18446744073709551616+lo) % y)):=by
 refine math_bits_Rem64_vc ⟨by unfold nz; omega,_,_,div64 y1 y2 (hi:=hi.tmod y) ?_ ?_ l0 l1,?_,Hp.le_refl _⟩
 ·rw [Int.tmod_eq_emod_of_nonneg h0]; exact Int.emod_nonneg _ (by omega)
 ·rw [Int.tmod_eq_emod_of_nonneg h0]; exact Int.emod_lt_of_pos _ (by omega)
 ·rw [Int.tmod_eq_emod_of_nonneg h0,Int.add_emod,Int.mul_emod,Int.emod_emod,← Int.mul_emod,← Int.add_emod]

def numP (p:Pt) (t:Int × Int):Int:=p.2.1 * t.2+p.2.2 * t.1
def overM (N d:Int):(Int × Int) × Int:=buildM (decide (N<0)) (absI N / gcdA N d) (d / gcdA N d)
def placeM (p:Pt) (t:Int × Int):(Int × Int) × Int:=if okP p∧okR t then overM (numP p t) t.2 else ((0,0),8)
theorem placeM_ok {p:Pt} {t:Int × Int} (h:okP p) (h2:okR t):placeM p t=overM (numP p t) t.2:=if_pos ⟨h,h2⟩
theorem placeM_bad {p:Pt} {t:Int × Int} (h:¬ (okP p∧okR t)):placeM p t=((0,0),8):=if_neg h

theorem numP_lim {p:Pt} {t:Int × Int} (hp:okP p) (ht:okR t):absI (p.2.1 * t.2)≤19342813113834066795298816∧absI (p.2.2 * t.1)≤19342813113834066795298816∧absI (numP p t)<170141183460469231731687303715884105728 / 2:=by
 have h1:=hp.a0; have h1':=hp.a1; have h2:=hp.b0; have h2':=hp.b1
 have h3:=ht.d1; have h4:=ht.d2; have h5:=ht.n1; have h6:=ht.n2
 have q1:=absI_mul_le (x:=p.2.1) (y:=t.2) (m:=1048576) (n:=9223372036854775807) (absI_le (by omega) (by omega)) (absI_le (by omega) (by omega))
 have q2:=absI_mul_le (x:=p.2.2) (y:=t.1) (m:=1048576) (n:=9223372036854775807) (absI_le (by omega) (by omega)) (absI_le (by omega) (by omega))
 have q3:=absI_add_le (p.2.1 * t.2) (p.2.2 * t.1)
 unfold numP
 refine ⟨by omega,by omega,by omega⟩

theorem atTail {post:Value→Hp→Prop} {H:Hp} {hh l d n3 N:Int} (h0:0≤hh) (h1:hh<9223372036854775808) (l0:0≤l) (l1:l<18446744073709551616) (hN:hh * 18446744073709551616+l=absI N) (d1:1≤d) (d2:d≤9223372036854775807) (hs:n3<0↔N<0)
  (hp:post (.tuple #[sI2 (overM N d).1.1 (overM N d).1.2,.int .i64 (overM N d).2]) H) :
  ∃ n7:Int,Qf Tryz.prog F.math_bits_Rem64 #[Value.int .u64 (wrapU hh),Value.int .u64 l,Value.int .u64 (wrapU d)] H (Value.int .u64 n7)∧∃ (I:Int→Int→Hp→Prop),∃ (m:Int→Int→Hp→Nat),I n7 (wrapU d) H∧∀ (n10 n11:Int) (H12:Hp),I n10 n11 H12 →
   (decide (n10>0)=true→nz n10∧I (n11.tmod n10) n10 H12∧m (n11.tmod n10) n10 H12<m n10 n11 H12) ∧
   (decide (n10>0)=false→nz n11∧nz n11∧∃ n13 n14:Int,Qf Tryz.prog F.math_bits_Div64 #[Value.int .u64 ((wrapU hh).tmod n11),Value.int .u64 l,Value.int .u64 n11] H12 (Value.tuple #[Value.int .u64 n13,Value.int .u64 n14]) ∧
    ((decide (wrapU ((wrapU hh).tdiv n11)>0)||decide (n13>9223372036854775807))=true→post (Value.tuple #[(sI2 0 0),Value.int .i64 16]) H12) ∧
    ((decide (wrapU ((wrapU hh).tdiv n11)>0)||decide (n13>9223372036854775807))=false→nz n11 ∧
     (decide (n3<0)=true→inI (0-IntKind.i64.wrap n13)∧post (Value.tuple #[(sI2 (0-IntKind.i64.wrap n13) (IntKind.i64.wrap (wrapU ((wrapU d).tdiv n11)))),Value.int .i64 0]) H12) ∧
     (decide (n3<0)=false→post (Value.tuple #[(sI2 (IntKind.i64.wrap n13) (IntKind.i64.wrap (wrapU ((wrapU d).tdiv n11)))),Value.int .i64 0]) H12))):=by
 rw [wrapU_id (n:=hh) h0 (by omega),wrapU_id (n:=d) (by omega) (by omega)]
 have hX:0≤absI N:=absI_nonneg N
 have r0:0≤absI N % d:=Int.emod_nonneg _ (by omega)
 have rr:=rem64 (H:=H) (y:=d) d1 (by omega) h0 l0 l1
 rw [hN] at rr
 have eg0:Nat.gcd d.toNat (absI N % d).toNat=Nat.gcd (absI N).toNat (absI d).toNat:=by
  have ed:absI d=d:=by unfold absI; rw [if_neg (by omega)]
  rw [ed]
  obtain ⟨x,hx⟩:=Int.eq_ofNat_of_zero_le hX
  obtain ⟨y,hy⟩:=Int.eq_ofNat_of_zero_le (show 0≤d by omega)
  rw [hx,hy]
  show Nat.gcd y (x % y)=Nat.gcd x y
  rw [Nat.gcd_comm y,← Nat.gcd_rec,Nat.gcd_comm]
 refine ⟨_,rr,fun r g H'=>H'=H∧0≤r∧0<g∧Nat.gcd g.toNat r.toNat=Nat.gcd (absI N).toNat (absI d).toNat,fun r _ _=>r.toNat,⟨rfl,r0,by omega,eg0⟩,fun r g H' ⟨e,q1,q2,q3⟩=>?_⟩
 subst e
 refine ⟨fun hc=>?_,fun hc=>?_⟩
 ·have hc:0<r:=by simpa using hc
  obtain ⟨g1,g2,g3⟩:=gcd_step hc (by omega) q3
  exact ⟨by unfold nz; omega,⟨rfl,g1,hc,g3⟩,by show (g.tmod r).toNat<r.toNat; omega⟩
 ·have hr:r=0:=by have:¬ r>0:=by simpa using hc
                  omega
  subst hr
  have eg:g=gcdA N d:=by
   unfold gcdA
   rw [← q3]; simp; omega
  have gle:g≤d:=by
   have:=Nat.gcd_le_right (absI N).toNat (show 0<(absI d).toNat by unfold absI; split <;> omega)
   rw [← q3] at this
   have ed:absI d=d:=by unfold absI; rw [if_neg (by omega)]
   rw [ed] at this
   simp at this; omega
  have t0:0≤hh.tmod g:=by rw [Int.tmod_eq_emod_of_nonneg h0]; exact Int.emod_nonneg _ (by omega)
  have t1:hh.tmod g<g:=by rw [Int.tmod_eq_emod_of_nonneg h0]; exact Int.emod_lt_of_pos _ (by omega)
  have dv:=div64 (H:=H') (hi:=hh.tmod g) (lo:=l) (y:=g) (by omega) (by omega) t0 t1 l0 l1
  refine ⟨by unfold nz; omega,by unfold nz; omega,_,_,dv,?_⟩
  have f0:0≤hh / g:=Int.ediv_nonneg h0 (by omega)
  have f1:hh / g≤hh:=Int.ediv_le_self _ h0
  have ex:absI N / g=hh / g * 18446744073709551616+(hh.tmod g * 18446744073709551616+l) / g:=by
   rw [Int.tmod_eq_emod_of_nonneg h0,← hN]
   have e:=Int.mul_ediv_add_emod hh g
   have:hh * 18446744073709551616+l=(hh % g * 18446744073709551616+l)+g * (hh / g * 18446744073709551616):=by
    rw [← Int.mul_assoc]
    generalize g * (hh / g)=Z at *
    generalize hh % g=W at *
    omega
   rw [this,Int.add_mul_ediv_left _ _ (by omega:g≠0)]; omega
  have z0:0≤(hh.tmod g * 18446744073709551616+l) / g:=Int.ediv_nonneg (by omega) (by omega)
  have dg0:0≤d / g:=Int.ediv_nonneg (by omega) (by omega)
  have dg1:d / g≤d:=Int.ediv_le_self _ (by omega)
  rw [Int.tdiv_eq_ediv_of_nonneg h0,Int.tdiv_eq_ediv_of_nonneg (show 0≤d by omega),wrapU_id f0 (by omega),wrapU_id dg0 (by omega),i64s dg0 (by omega)]
  unfold overM at hp
  rw [← eg,ex] at hp
  generalize (hh.tmod g * 18446744073709551616+l) / g=Z at *
  generalize hh / g=W at *
  unfold buildM at hp
  refine ⟨fun hb=>?_,fun hb=>⟨by unfold nz; omega,fun hn=>?_,fun hn=>?_⟩⟩
  ·simp only [Bool.or_eq_true,decide_eq_true_eq] at hb
   rw [if_pos (by omega)] at hp
   exact hp
  ·simp only [Bool.or_eq_false_iff,decide_eq_false_iff_not] at hb
   have w0:W=0:=by omega
   subst w0
   have hn:n3<0:=by simpa using hn
   rw [if_neg (by omega),decide_eq_true (hs.1 hn),show (0:Int) * 18446744073709551616+Z=Z by omega] at hp
   rw [i64s z0 (by omega)]
   exact ⟨by unfold inI; omega,hp⟩
  ·simp only [Bool.or_eq_false_iff,decide_eq_false_iff_not] at hb
   have w0:W=0:=by omega
   subst w0
   have hn:¬ n3<0:=by simpa using hn
   rw [if_neg (by omega),decide_eq_false (fun h=>hn (hs.2 h)),show (0:Int) * 18446744073709551616+Z=Z by omega] at hp
   rw [i64s z0 (by omega)]
   exact hp

theorem courseAt {H:Hp} {p:Pt} {t:Int × Int} (ht:fitR t) :
  Qf Tryz.prog F.course_At #[sI3 p.1 p.2.1 p.2.2,sI2 t.1 t.2] H (.tuple #[sI2 (placeM p t).1.1 (placeM p t).1.2,.int .i64 (placeM p t).2]):=by
 refine course_At_vc ⟨_,courseCheck,_,ratioCheck ht,fun hc=>?_,fun hc=>?_⟩
 ·have hb:¬ (okP p∧okR t):=fun ⟨a,b⟩=>by rw [chkP_ok a,chkR_ok b] at hc; simp at hc
  rw [placeM_bad hb]
  refine ⟨?_,Hp.le_refl _⟩
  by_cases h1:okP p
  ·have h2:¬ okR t:=fun h=>hb ⟨h1,h⟩
   rw [chkP_ok h1,chkR_bad h2]; rfl
  ·rw [chkP_bad h1]
   by_cases h2:okR t
   ·rw [chkR_ok h2]; rfl
   ·rw [chkR_bad h2]; rfl
 have ok:okP p∧okR t:=by
  by_cases h1:okP p
  ·by_cases h2:okR t
   ·exact ⟨h1,h2⟩
   ·rw [chkP_ok h1,chkR_bad h2] at hc; simp at hc
  ·rw [chkP_bad h1] at hc
   by_cases h2:okR t
   ·rw [chkR_ok h2] at hc; simp at hc
   ·rw [chkR_bad h2] at hc; simp at hc
 obtain ⟨op,or⟩:=ok
 rw [placeM_ok op or]
 obtain ⟨m1,m2,m3⟩:=numP_lim op or
 have h1:=op.a0; have h1':=op.a1; have h2:=op.b0; have h2':=op.b1
 have h3:=or.d1; have h4:=or.d2; have h5:=or.n1; have h6:=or.n2
 have iA:inI p.2.1:=by unfold inI; omega
 have iB:inI p.2.2:=by unfold inI; omega
 obtain ⟨hi,lo,hq,hv,v0,v1⟩:=courseSum (H:=H) iA ht.2 iB ht.1 m1 m2
 have hv:hi * 18446744073709551616+lo=numP p t:=hv
 have av:=absI_iff (numP p t)
 have key:∀ (hh l:Int),0≤hh→hh<9223372036854775808→0≤l→l<18446744073709551616→hh * 18446744073709551616+l=absI (numP p t)→(hi<0↔numP p t<0)→_ :=
  fun hh l x1 x2 x3 x4 x5 x6=>atTail (post:=fun v H5=>v=.tuple #[sI2 (overM (numP p t) t.2).1.1 (overM (numP p t) t.2).1.2,.int .i64 (overM (numP p t) t.2).2]∧Hp.le H H5) (H:=H) (hh:=hh) (l:=l) (d:=t.2) (n3:=hi) (N:=numP p t) x1 x2 x3 x4 x5 h3 h4 x6 ⟨rfl,Hp.le_refl _⟩
 refine ⟨_,_,hq,fun hn=>?_,fun hn=>?_⟩
 ·have hn:hi<0:=by simpa using hn
  have hN:numP p t<0:=by omega
  refine ⟨_,_,sub64c (x:=0) (y:=lo) (b:=0) (by omega) v0 v1 (by omega) (by omega),?_⟩
  have eb:IntKind.i64.wrap (if 0<lo+0 then 1 else 0)=(if 0<lo+0 then 1 else 0):=by split <;> decide
  rw [eb]
  by_cases hl:0<lo+0
  ·rw [if_pos hl]
   exact ⟨by unfold inI; omega,by unfold inI; omega,key (0-hi-1) ((0-lo-0) % 18446744073709551616) (by omega) (by omega) (by omega) (by omega) (by omega) ⟨fun _=>hN,fun _=>hn⟩⟩
  ·rw [if_neg hl]
   exact ⟨by unfold inI; omega,by unfold inI; omega,key (0-hi-0) ((0-lo-0) % 18446744073709551616) (by omega) (by omega) (by omega) (by omega) (by omega) ⟨fun _=>hN,fun _=>hn⟩⟩
 ·have hn:¬ hi<0:=by simpa using hn
  exact key hi lo (by omega) (by omega) v0 v1 (by omega) ⟨fun h=>absurd h hn,fun h=>by omega⟩

end Go.Proofs.YtbbdplfkiioppaaGreat
end
