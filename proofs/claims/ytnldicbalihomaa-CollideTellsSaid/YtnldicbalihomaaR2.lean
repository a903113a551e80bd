/- Contracts of course and pelotonref01, 02. Conditions: none. -/
import Derived.Test.YtnldicbalihomaaR1
import Derived.Test.YtnldicbalihomaaFN
import Derived.Test.YtnldicbalihomaaVgBase
import Derived.Test.YtnldicbalihomaaFs
set_option linter.unusedVariables false
set_option maxRecDepth 100000
open Go Go.Eng Go.Proofs
namespace Go.Proofs.Ytnldicbalihomaa

theorem refProd {H:Hp} {x y:Int} (hx:0≤x) (hx':x<18446744073709551616) (hy:0≤y) (hy':y<18446744073709551616) :
  Qf Try.prog F.pelotonref01_product #[.int .u64 x,.int .u64 y] H (.agg #[.bool false,.int .u64 (x * y / 18446744073709551616),.int .u64 (x * y % 18446744073709551616)]):=by
 refine pelotonref01_product_vc ⟨by unfold nz; omega,by unfold nz; omega,by unfold nz; omega,by unfold nz; omega,by unfold nz; omega,by unfold nz; omega,by unfold nz; omega,by unfold nz; omega,by unfold nz; omega,by unfold nz; omega,?_,Hp.le_refl _⟩
 rw [tdH hx,tdH hy,tmH hx,tmH hy]
 simp only [twd,twm]
 rw [(prodHi hx hx' hy hy').1,(prodHi hx hx' hy hy').2]

theorem refProduct {H:Hp} {a b:Int} (ha:inI a) (hb:inI b):∃ c h l,Qf Try.prog F.pelotonref01_Product #[.int .i64 a,.int .i64 b] H (.agg #[.bool c,.int .u64 h,.int .u64 l])∧BigV c h l (a * b):=by
 have h1:=absB ha; have h2:=absB hb
 have hm:=mulB h1.1 h1.2 h2.1 h2.2
 refine ⟨_,_,_,pelotonref01_Product_vc ⟨_,refSize ha,_,refSize hb,_,_,_,refProd (by omega) (by omega) (by omega) (by omega),rfl,Hp.le_refl _⟩,?_⟩
 rw [absI_mul] at hm ⊢
 have key:(!(decide (a<0)==decide (b<0))&&(a != 0&&b != 0))=decide (a * b<0):=by
  rw [Bool.eq_iff_iff,decide_eq_true_eq,mul_neg_iff]
  simp only [Bool.and_eq_true,Bool.not_eq_true',beq_eq_false_iff_ne,bne_iff_ne]
  by_cases x:a<0 <;> by_cases y:b<0 <;> simp [x,y] <;> omega
 rw [key]
 generalize a * b=v at *
 refine ⟨by omega,by omega,by omega,by omega,fun h=>?_,fun h=>?_⟩
 ·have h:v<0:=by simpa using h
  refine ⟨h,?_⟩
  have:absI v = -v:=by unfold absI; rw [if_pos h]
  omega
 ·have h:¬ v<0:=by simpa using h
  have:absI v=v:=by unfold absI; rw [if_neg h]
  omega

theorem refLess {H:Hp} {c d:Bool} {h1 l1 h2 l2:Int} (a0:0≤l1) (a1:l1<18446744073709551616) (b0:0≤l2) (b1:l2<18446744073709551616) :
  Qf Try.prog F.pelotonref01_less #[.agg #[.bool c,.int .u64 h1,.int .u64 l1],.agg #[.bool d,.int .u64 h2,.int .u64 l2]] H (.int .i64 (cmpI (h1 * 18446744073709551616+l1) (h2 * 18446744073709551616+l2))):=by
 refine pelotonref01_less_vc ⟨fun hc=>⟨fun hl=>⟨?_,Hp.le_refl _⟩,fun hl=>⟨?_,Hp.le_refl _⟩⟩,fun hc=>⟨fun hl=>⟨fun hx=>⟨?_,Hp.le_refl _⟩,fun hx=>⟨?_,Hp.le_refl _⟩⟩,fun hl=>⟨?_,Hp.le_refl _⟩⟩⟩
 ·simp at hc hl; unfold cmpI; rw [if_pos (by omega)]
 ·simp at hc hl; unfold cmpI; rw [if_neg (by omega),if_pos (by omega)]
 ·simp at hc hl hx; unfold cmpI; rw [if_pos (by omega)]
 ·simp at hc hl hx; unfold cmpI; rw [if_neg (by omega),if_pos (by omega)]
 ·simp at hc hl; unfold cmpI; rw [if_neg (by omega),if_neg (by omega)]

theorem refSign {H:Hp} {c:Bool} {h l v:Int} (b:BigV c h l v):Qf Try.prog F.pelotonref01_Sign #[.agg #[.bool c,.int .u64 h,.int .u64 l]] H (.int .i64 (sgn v)):=by
 obtain ⟨p0,p1,p2,p3,p4,p5⟩:=b
 refine pelotonref01_Sign_vc ⟨fun hc=>⟨?_,Hp.le_refl _⟩,fun hc=>⟨fun hn=>⟨?_,Hp.le_refl _⟩,fun hn=>⟨?_,Hp.le_refl _⟩⟩⟩
 ·simp at hc
  have:v=0:=by
   cases c
   ·have:=p5 rfl; omega
   ·have:=p4 rfl; omega
  subst this; rfl
 ·subst hn; have:=p4 rfl; unfold sgn; rw [if_pos this.1]
 ·subst hn; have:=p5 rfl
  simp at hc
  unfold sgn; rw [if_neg (by omega),if_pos (by omega)]

theorem refCompareR {H:Hp} {a b:Int × Int} (ha:okR a) (hb:okR b):Qf Try.prog F.pelotonref01_Compare #[.agg #[.int .i64 a.1,.int .i64 a.2],.agg #[.int .i64 b.1,.int .i64 b.2]] H (.int .i64 (cmpR a b)):=by
  obtain ⟨c,h,l,q1,b1⟩:=refProduct (H:=H) ha.fit.1 hb.fit.2
  obtain ⟨c',h',l',q2,b2⟩:=refProduct (H:=H) hb.fit.1 ha.fit.2
  have s1:=refSign (H:=H) b1
  have s2:=refSign (H:=H) b2
  have p:=b1; have p':=b2
  obtain ⟨p0,p1,p2,p3,p4,p5⟩:=p
  obtain ⟨r0,r1,r2,r3,r4,r5⟩:=p'
  unfold cmpR
  refine pelotonref01_Compare_vc ⟨_,_,_,q1,_,_,_,q2,_,s1,_,s2,fun hc=>⟨_,s1,_,s2,fun hx=>⟨?_,Hp.le_refl _⟩,fun hx=>⟨?_,Hp.le_refl _⟩⟩,fun hc=>⟨_,s1,fun hx=>⟨_,refLess r2 r3 p2 p3,?_,Hp.le_refl _⟩,fun hx=>⟨_,refLess p2 p3 r2 r3,?_,Hp.le_refl _⟩⟩⟩
  · simp only [bne_iff_ne,decide_eq_true_eq] at hc hx
    unfold sgn at hx hc
    unfold cmpI
    rw [if_pos]
    split at hx <;> split at hx <;> omega
  · simp only [bne_iff_ne,decide_eq_false_iff_not] at hc hx
    unfold sgn at hx hc
    unfold cmpI
    rw [if_neg,if_pos]
    · split at hx <;> split at hx <;> omega
    · split at hx <;> split at hx <;> omega
  · simp only [bne_eq_false_iff_eq,decide_eq_true_eq] at hc hx
    have v1:a.1 * b.2<0:=by unfold sgn at hx; split at hx <;> omega
    have v2:b.1 * a.2<0:=by unfold sgn at hx hc; split at hc <;> split at hc <;> omega
    have e1:c=true:=by cases c; · have:=p5 rfl; omega
                       · rfl
    have e2:c'=true:=by cases c'; · have:=r5 rfl; omega
                        · rfl
    rw [(p4 e1).2,(r4 e2).2]
    congr 1
    unfold cmpI
    split
    · rw [if_pos (by omega)]
    · split
      · rw [if_neg (by omega),if_pos (by omega)]
      · rw [if_neg (by omega),if_neg (by omega)]
  · simp only [bne_eq_false_iff_eq,decide_eq_false_iff_not] at hc hx
    have v1:¬ a.1 * b.2<0:=by intro h; unfold sgn at hx; rw [if_pos h] at hx; omega
    have v2:¬ b.1 * a.2<0:=by
      intro h; unfold sgn at hx hc; rw [if_neg v1] at hc hx; rw [if_pos h] at hc; split at hc <;> omega
    have e1:c=false:=by cases c; · rfl
                        · have:=p4 rfl; omega
    have e2:c'=false:=by cases c'; · rfl
                         · have:=r4 rfl; omega
    rw [(p5 e1).2,(r5 e2).2]

end Go.Proofs.Ytnldicbalihomaa
