/- The engine, parts C1, C2, C3, C4, put together. Conditions: none. -/
import Derived.Test.YtnhdkkblehadjabGreatP1
import Derived.Test.YtnhdkkblehadjabGreatE5
import Derived.Test.YtnhdkkblehadjabGreatVgCert
import Derived.Test.YtnhdkkblehadjabGreatVgStd
import Derived.Test.YtnhdkkblehadjabGreatFs
import Derived.Test.YtnhdkkblehadjabGreatVgBase
set_option linter.unusedVariables false
section
/- Contracts of cert and pelotonref08, first part. Conditions: none. -/
open Go Go.Eng Go.Proofs
namespace Go.Proofs.YtnhdkkblehadjabGreat

theorem y4z{H:Hp}{x:Int}:Qf Tryz.prog F.f149 #[.int .i64 x] H (.bool false):=vc149 ⟨by simp,Hp.le_refl _⟩
theorem zpa{H:Hp}{x y:Int}:Qf Tryz.prog F.f91 #[.int .i64 x,.int .i64 y] H (.int .i64 (zn4 x y)):=by
 refine vc91 ⟨_,y4z,_,y4z,λh=>(by cases h),λ_=>⟨λh=>(by cases h),λ_=>⟨λh=>⟨?_,Hp.le_refl _⟩,λh=>⟨λh'=>⟨?_,Hp.le_refl _⟩,λh'=>⟨?_,Hp.le_refl _⟩⟩⟩⟩⟩
 ·have:x<y:=by simpa using h
  unfold zn4;rw[if_pos this]
 ·have h1:¬ x<y:=by simpa using h
  have h2:x>y:=by simpa using h'
  unfold zn4;rw[if_neg h1,if_pos h2]
 ·have h1:¬ x<y:=by simpa using h
  have h2:¬ x>y:=by simpa using h'
  unfold zn4;rw[if_neg h1,if_neg h2]

theorem zda{H:Hp}{x:Int×Int}:Qf Tryz.prog F.f167 #[.agg #[.int .i64 x.1,.int .i64 x.2]] H (.bool (x78 x)):=by
 refine vc167 ⟨?_,Hp.le_refl _⟩
 congr 1
 rw[Bool.eq_iff_iff]
 simp only[x78,Bool.and_eq_true,decide_eq_true_eq,bne_iff_ne]
 split <;> split <;> omega

theorem zmn{H:Hp}{s:Slc}{xs:List (Int×Int×Int)}(hs:Rd 3 fD H s xs)(hl:xs.length<=1000000000) :
  Go.Eng.Fn Tryz.prog F.f122 #[s.v] H λv H'=>∃u:Slc,v=u.v/\Hp.le H H'/\Mine 3 fD T.api_Held H H' u xs :=
 vc122 (zms (k:=3) (f:=fD) (bytes:=24) (by kernel_rfl) (by decide) (λ_=>rfl) hs (by omega) (by omega))

theorem zcs{H:Hp}{u:Slc}{c:Ct}(h:Rd 3 fD H u c.list):Qf Tryz.prog F.f118 #[.agg #[.int .i64 c.next,u.v]] H (.int .i64 (zk7 c)):=by
  have lu:=h.len
  have K:KL Tryz.prog T.api_Cert (λx:Int×Int=>Value.agg #[.int .i64 x.1,.int .i64 x.2]):=KL.pair (t:=T.int) Tryz.underlying148 rfl rfl Tryz.underlying3 rfl rfl (by decide) (by decide) (by kernel_rfl) (by kernel_rfl)
  refine vc118 ⟨λhc=>⟨?_,Hp.le_refl _⟩,λhc b1 H2 hb1 hH2=>?_⟩
  · rw[zk8]
    intro ok
    have:=ok.len;have:=ok.n0;have:=ok.n1
    simp at hc;omega
  · simp at hc
    have le2:Hp.le H H2:=Hp.le_new (Hp.le_refl _) hb1 hH2
    refine⟨λlast n H'=>0<=n/\n<=c.list.length/\Hp.le H H'/\okL c.next (c.list.take n.toNat)/\(∀y∈c.list.take n.toNat,y.1<=last)/\(last = -1\/∃y∈c.list.take n.toNat,y.1=last) /\
        z18 (λx:Int×Int=>Value.agg #[.int .i64 x.1,.int .i64 x.2]) H' b1 ((c.list.take n.toNat).map λy=>(y.2,Value.bool true)),
      λ_ n _=>(c.list.length-n).toNat,⟨by omega,by omega,le2,okL.nil _,by simp,.inl rfl,z18.new hH2⟩,λlast n H' ⟨i0,i1,i2,i3,i4,i5,i6⟩=>⟨λhn=>?_,λhn=>⟨?_,i2⟩⟩⟩
    · have hn:n<c.list.length:=by have:n<u.n:=by simpa using hn
                                  omega
      have hg:=y0r (d:=((0:Int),(0:Int),(0:Int))) i0 hn
      refine(h.le i2).ldD i0 hn ?_
      generalize c.list.getD n.toNat (0,0,0)=x at hg ⊢
      have e1:(n+1).toNat=n.toNat+1:=by omega
      have hts:=x4c hg
      have hget:∀y:Int×Int,y0h ((c.list.take n.toNat).map λy=>(y.2,Value.bool true)) y=if y∈(c.list.take n.toNat).map (·.2) then some (Value.bool true) else none:=λy=>by
        generalize c.list.take n.toNat=l
        unfold y0h
        induction l with
        | nil=>rfl
        | cons p l ih =>
          rw[List.map_cons,List.find?_cons]
          by_cases e:p.2=y
          · simp[e]
          · have e':¬ y=p.2:=λh=>e h.symm
            simp only[e,decide_false,List.map_cons,List.mem_cons,e',false_or]
            exact ih
      refine⟨_,zda (x:=x.2),decide (x.2∈(c.list.take n.toNat).map (·.2)),λ_=>?_,λhb=>⟨?_,i2⟩,λhb=>?_⟩
      · have:=K.look (t:=T.map_api_Cert_bool) (e:=T.bool) (x:=x.2) (z:=.bool false) Tryz.underlying290 (by kernel_rfl) i6
        rw[hget] at this
        by_cases e:x.2∈(c.list.take n.toNat).map (·.2)
        · rw[if_pos e] at this;rw[decide_eq_true e];exact this
        · rw[if_neg e] at this;rw[decide_eq_false e];exact this
      · rw[zk8]
        intro ok
        have hp:=ok.ok.take (n.toNat+1)
        rw[hts,okL.snoc] at hp
        obtain⟨p1,p2,p3,p4,p5,p6⟩:=hp
        simp only[Bool.or_eq_true,Bool.not_eq_true',decide_eq_true_eq] at hb
        rcases hb with((hb|hb)|hb)|hb
        · rw[p2] at hb;cases hb
        · exact p6 hb
        · rcases i5 with i5|⟨y,hy,i5⟩
          · omega
          · have:=p5 y hy;omega
        · omega
      · simp only[Bool.or_eq_false_iff,Bool.not_eq_false',decide_eq_false_iff_not] at hb
        obtain⟨⟨⟨q1,q2⟩,q3⟩,q4⟩:=hb
        have hadd:=K.add (t:=T.map_api_Cert_bool) (e:=T.bool) (x:=x.2) (v:=.bool true) Tryz.underlying290 i6 (by rw[hget,if_neg q2])
        refine hadd.mono λv H14 ⟨o,hH,hm⟩=>⟨v,rfl,by unfold inI;omega,⟨by omega,by omega,by subst hH;exact Hp.le_put i2 hb1,?_,λy hy=>?_,.inr ⟨x,?_,rfl⟩,?_⟩,?_⟩
        · rw[e1,hts,okL.snoc]
          refine⟨i3,q1,?_,by omega,λy hy=>by have:=i4 y hy;omega,q2⟩
          rcases i5 with i5|⟨y,hy,i5⟩
          · omega
          · have:=(i3.each y hy).2.1;omega
        · rw[e1,hts] at hy
          rcases List.mem_append.1 hy with hy|hy
          · have:=i4 y hy;omega
          · simp only[List.mem_singleton] at hy;subst hy;exact Int.le_refl _
        · rw[e1,hts];simp
        · rw[e1,hts,List.map_append];exact hm
        · show ((c.list.length:Int)-(n+1)).toNat<((c.list.length:Int)-n).toNat
          omega
    · have:n=c.list.length:=by have:¬ n<u.n:=by simpa using hn
                               omega
      subst this
      rw[Int.toNat_natCast,List.take_length] at i3
      rw[zk9 ⟨by omega,by omega,by omega,i3⟩]

end Go.Proofs.YtnhdkkblehadjabGreat
end
section
/- Contracts of cert and pelotonref08,second part. Conditions: none. -/
open Go Go.Eng Go.Proofs
namespace Go.Proofs.YtnhdkkblehadjabGreat

theorem yv7{H:Hp}{a b:Slc}{xs ys:List Int}(ha:RdI H a xs)(hb:RdI H b ys)(h63:xs.length<=1000000000):Qf Tryz.prog F.f15 #[a.v,b.v] H (.bool (xs==ys)):=by
 have la:=ha.len
 have lb:=hb.len
 refine vc15 ⟨λh=>⟨?_,Hp.le_refl H⟩,λh=>?_⟩
 ·have hl:(a.n:Int)≠b.n:=by simpa using h
  have:(xs==ys)=false:=by
   rw[beq_eq_false_iff_ne];intro e;subst e;omega
  rw[this]
 ·have hl:(a.n:Int)=b.n:=by simpa using h
  refine upto (N:=xs.length) (J:=λn=>xs.take n.toNat=ys.take n.toNat) (by omega) (by simp) λn h0 h1 h2=>⟨λhn=>?_,λhn=>⟨?_,Hp.le_refl _⟩⟩
  ·have hn:n<a.n:=by simpa using hn
   have gx:=y0g (xs:=xs) h0 (by omega)
   have gy:=y0g (xs:=ys) h0 (by omega)
   refine⟨ha.inN h0 hn,_,ha.get h0 (by omega),hb.inN h0 (by omega),_,hb.get h0 (by omega),λhne=>⟨?_,Hp.le_refl _⟩,λhe=>upto.nx h0 (by omega) (by omega) ?_⟩
   ·have:(xs==ys)=false:=by
     rw[beq_eq_false_iff_ne];intro e;subst e;simp at hne
    rw[this]
   ·have e:(n+1).toNat=n.toNat+1:=by omega
    rw[e]
    exact(x4d gx gy h2).2 (by simpa using he)
  ·have hn:n=xs.length:=by
    have:¬ n<a.n:=by simpa using hn
    omega
   subst hn
   have:xs=ys:=by
    have e1:xs.take xs.length=xs:=List.take_length
    have e2:ys.take xs.length=ys:=by
     have:xs.length=ys.length:=by omega
     rw[this];exact List.take_length
    rw[Int.toNat_natCast] at h2
    rw[← e1,h2,e2]
   subst this;simp

structure z1e(H0 H:Hp)(u:Slc)(c:Ct):Prop where
 le:Hp.le H0 H
 list:Mine 3 fD T.api_Held H0 H u c.list
theorem z1e.rd{H0 H:Hp}{u:Slc}{c:Ct}(h:z1e H0 H u c):Rd 3 fD H u c.list:=h.list.rdD
theorem z1e.zero{H H':Hp}(h:Hp.le H H'):z1e H H' zs .zero:=⟨h,.inl ⟨rfl,rfl⟩⟩
theorem z1e.up{H H' H'':Hp}{u:Slc}{c:Ct}(h:z1e H H' u c)(hl:Hp.le H' H''):z1e H H'' u c:=⟨Hp.le_trans h.le hl,h.list.le hl⟩
theorem z1e.low{H0 H H':Hp}{u:Slc}{c:Ct}(h:z1e H H' u c)(hl:Hp.le H0 H):z1e H0 H' u c:=⟨Hp.le_trans hl h.le,h.list.low hl⟩

theorem y3z{H:Hp}{s:Slc}{xs:List (Int×Int×Int)}{fv:Value}{p:Int×Int×Int->Bool}(h:Rd 3 fD H s xs)(hl:xs.length<=1000000000)
    (hf:∀x,QfV Tryz.prog fv [.agg #[.int .i64 x.1,.int .i64 x.2.1,.int .i64 x.2.2]] H (.bool (p x))):Qf Tryz.prog F.f214 #[s.v,fv] H (.int .i64 (idx p xs)):=by
  have ls:=h.len
  refine vc214 (upto (N:=xs.length) (J:=λn=>∀y∈xs.take n.toNat,p y=false) (by omega) (by simp) λn h0 h1 hJ=>⟨λhn=>?_,λhn=>⟨?_,Hp.le_refl _⟩⟩)
  · have hn:n<xs.length:=by have:n<s.n:=by simpa using hn
                            omega
    have hg:=y0r (d:=((0:Int),(0:Int),(0:Int))) h0 hn
    refine h.ldD h0 hn ⟨_,hf (xs.getD n.toNat (0,0,0)),?_⟩
    generalize xs.getD n.toNat (0,0,0)=x at hg ⊢
    refine⟨λhb=>⟨?_,Hp.le_refl _⟩,λhb=>upto.nx h0 hn (by omega) ?_⟩
    · rw[y3k hg hb hJ,Int.toNat_of_nonneg h0]
    · rw[show (n+1).toNat=n.toNat+1 by omega,x4c hg]
      intro y hy
      rcases List.mem_append.1 hy with hy|hy
      · exact hJ y hy
      · simp only[List.mem_singleton] at hy;subst hy;exact hb
  · have:n=xs.length:=by have:¬ n<s.n:=by simpa using hn
                         omega
    subst this
    rw[Int.toNat_natCast,List.take_length] at hJ
    rw[y3m hJ]

theorem zpd{H:Hp}{s:Slc}{xs:List (Int×Int×Int)}{fv:Value}{p:Int×Int×Int->Bool}(h:Rd 3 fD H s xs)(hl:xs.length<=1000000000)
  (hf:∀x,QfV Tryz.prog fv [.agg #[.int .i64 x.1,.int .i64 x.2.1,.int .i64 x.2.2]] H (.bool (p x))):Qf Tryz.prog F.f168 #[s.v,fv] H (.bool (xs.any p)) :=
 vc168 ⟨_,y3z h hl hf,by rw[← y3j],Hp.le_refl _⟩

theorem zcr{H:Hp}{b:Nat}{x h:Int×Int}{n:Int}{T:TypeId}(hv:H.at ((Addr.mk b 0 none).add 0)=some (.int .i64 x.1)/\H.at ((Addr.mk b 0 none).add 1)=some (.int .i64 x.2)) :
  QfV Tryz.prog (.func (.func F.f169) #[] #[.pointer (some ⟨b,0,none⟩)]) [.agg #[.int .i64 n,.int .i64 h.1,.int .i64 h.2]] H (.bool (h==x)):=by
 refine⟨F.f169,#[],_,rfl,cb169,?_⟩
 exact vc169 (a3:=⟨b,0,none⟩) ⟨_,_,hv,rfl,Hp.le_refl _⟩

theorem ykh{H H':Hp}{b:Nat}{x y:Value}{T:TypeId}(h:H'=H.put b (.cells #[x,y] T (0,0))):H'.at ((Addr.mk b 0 none).add 0)=some x/\H'.at ((Addr.mk b 0 none).add 1)=some y:=by
 subst h
 constructor
 ·rw[add_zero',Cel.at Cel.put];try rfl
 ·rw[Addr.add_lit,Cel.at Cel.put];try rfl

theorem z3g{c:Ct}{x:Int×Int}(h:zk7 c≠0):z3f c x=(.zero,0,8):=by
 unfold z3f;rw[if_neg];intro ⟨h1,_⟩;exact h (zk9 h1)

theorem zcq{H:Hp}{u:Slc}{c:Ct}{x:Int×Int}(h:Rd 3 fD H u c.list) :
  Go.Eng.Fn Tryz.prog F.f114 #[.agg #[.int .i64 c.next,u.v],.agg #[.int .i64 x.1,.int .i64 x.2]] H λv H'=>∃a:Slc,v=.tuple #[.agg #[.int .i64 (z3f c x).1.next,a.v],.int .i64 (z3f c x).2.1,.int .i64 (z3f c x).2.2]/\z1e H H' a (z3f c x).1:=by
 have lu:=h.len
 refine vc114 λb1 H2 hb1 hH2=>?_
 have le2:Hp.le H H2:=Hp.le_new (Hp.le_refl _) hb1 hH2
 refine⟨_,zcs (h.le le2),λhc=>?_,λhc=>?_⟩
 ·have hc:zk7 c≠0:=by simpa using hc
  rw[z3g hc]
  have h8:zk7 c=8:=by unfold zk7 at *;split at hc <;> simp_all
  rw[h8];exact⟨zs,rfl,z1e.zero le2⟩
 have hc:zk7 c=0:=by simpa using hc
 have ok:=zka.1 hc
 have:=ok.len
 refine⟨_,_,ykh hH2,_,zda (x:=x),λhv=>?_,λhv=>?_⟩
 ·have hv:x78 x=false:=by simpa using hv
  have:z3f c x=(.zero,0,8):=by unfold z3f;rw[if_neg (λhh=>by rw[hv] at hh;exact absurd hh.2 (by simp))]
  rw[this];exact⟨zs,rfl,z1e.zero le2⟩
 have hv:x78 x=true:=by simpa using hv
 have e:z3f c x=(if y1x c x then (.zero,0,14) else if c.list.length=200\/c.next=1000000 then (.zero,0,18) else (⟨c.next+1,c.list++[(c.next,x)]⟩,c.next,0)):=by unfold z3f;rw[if_pos ⟨ok,hv⟩]
 rw[e]
 refine⟨_,zpd (p:=λh=>h.2==x) (h.le le2) (by omega) (λy=>zcr (T:=0) (h:=y.2) (ykh hH2)),λhb=>?_,λhb=>?_⟩
 ·rw[if_pos (show y1x c x=true from hb)];exact⟨zs,rfl,z1e.zero le2⟩
 rw[if_neg (by show ¬ y1x c x=true;unfold y1x;rw[hb];simp)]
 refine⟨λhf=>?_,λhf=>?_⟩
 ·rw[if_pos (by simp at hf;omega)];exact⟨zs,rfl,z1e.zero le2⟩
 rw[if_neg (by simp at hf;omega)]
 refine⟨_,_,ykh hH2,(zmn (h.le le2) (by omega)).mono λv H11 ⟨a,hv,l11,m⟩=>⟨l11,a,hv,λb13 H14 hb13 hH14=>?_⟩⟩
 refine(z78 (k:=3) (f:=fD) (bytes:=24) (x:=(c.next,x)) (by kernel_rfl) (by decide) (λ_=>rfl) (λx v hv=>by simp[fD] at hv;rcases hv with rfl|rfl|rfl <;> rfl) (Hp.le_trans le2 l11) (m.low le2) hb13 hH14 rfl (by omega) (by omega)).mono λv H16 ⟨w,hw,l16,mw,_,_⟩=>?_
 have:=ok.n1
 have:=ok.n0
 exact⟨w,hw,by unfold inI;omega,w,rfl,l16,mw⟩

end Go.Proofs.YtnhdkkblehadjabGreat
end
section
/- Contracts of cert and pelotonref08,third part. Conditions: none. -/
open Go Go.Eng Go.Proofs
namespace Go.Proofs.YtnhdkkblehadjabGreat

theorem ybv{i j:Int}(h0:0<=i)(h1:i<j)(hj:j<=1000000000):IntKind.i64.wrap ((x8o (i+j)).fdiv (2 ^ Min.min (Int.toNat 1) IntKind.u64.bits))=(i+j)/2:=by
 have e1:x8o (i+j)=i+j:=by unfold x8o;omega
 have e2:(2:Int) ^ Min.min (Int.toNat 1) IntKind.u64.bits=2:=by decide
 rw[e1,e2,Int.fdiv_eq_ediv_of_nonneg _ (by omega)]
 exact x8r (by unfold inI;omega)

theorem zbe{l:List Int}{t:Int}(hs:l.Pairwise (·<·)){m:Nat}{x:Int}(hx:l[m]?=some x)(h:x<t):∀i y,i<m+1->l[i]?=some y->y<t:=by
 intro i y hi hy
 rcases Nat.lt_or_ge i m with h'|h'
 ·have:=List.pairwise_iff_getElem.1 hs i m (List.getElem?_eq_some_iff.1 hy).1 (List.getElem?_eq_some_iff.1 hx).1 h'
  rw[(List.getElem?_eq_some_iff.1 hy).2,(List.getElem?_eq_some_iff.1 hx).2] at this
  omega
 ·have:i=m:=by omega
  subst this;rw[hx] at hy;cases hy;exact h
theorem zbd{l:List Int}{t:Int}(hs:l.Pairwise (·<·)){m:Nat}{x:Int}(hx:l[m]?=some x)(h:t<=x):∀i y,m<=i->l[i]?=some y->t<=y:=by
 intro i y hi hy
 rcases Nat.lt_or_ge m i with h'|h'
 ·have:=List.pairwise_iff_getElem.1 hs m i (List.getElem?_eq_some_iff.1 hx).1 (List.getElem?_eq_some_iff.1 hy).1 h'
  rw[(List.getElem?_eq_some_iff.1 hy).2,(List.getElem?_eq_some_iff.1 hx).2] at this
  omega
 ·have:i=m:=by omega
  subst this;rw[hx] at hy;cases hy;exact h

theorem zcu{H:Hp}{x:Int×Int×Int}{n:Int}:QfV Tryz.prog (.func (.func F.f181) #[] #[]) [.agg #[.int .i64 x.1,.int .i64 x.2.1,.int .i64 x.2.2],.int .i64 n] H (.int .i64 (zn4 x.1 n)) :=
 ⟨F.f181,#[],_,rfl,cb181,vc181 ⟨_,zpa,rfl,Hp.le_refl _⟩⟩

theorem zbj{H:Hp}{s:Slc}{xs:List (Int×Int×Int)}{n:Int}(h:Rd 3 fD H s xs)(hs:(xs.map (·.1)).Pairwise (·<·))(hl:xs.length<=100000000) :
  Qf Tryz.prog F.f180 #[s.v,.int .i64 n,.func (.func F.f181) #[] #[]] H
   (.tuple #[.int .i64 (yo0 (xs.map (·.1)) n),.bool (decide (yo0 (xs.map (·.1)) n<xs.length)&&(y01 xs (yo0 (xs.map (·.1)) n)).1==n)]):=by
 have ls:=h.len
 have hml:(xs.map (·.1)).length=xs.length:=by simp
 refine vc180 ⟨λi j H'=>H'=H/\0<=i/\i<=j/\j<=xs.length/\(∀k y,k<i.toNat->(xs.map (·.1))[k]?=some y->y<n)/\(∀k y,j.toNat<=k->(xs.map (·.1))[k]?=some y->n<=y),
  λi j _=>(j-i).toNat,⟨rfl,Int.le_refl _,by omega,by omega,λk y hk=>by simp at hk,λk y hk hy=>?_⟩,λi j H' ⟨e,i0,i1,i2,i3,i4⟩=>?_⟩
 ·have:=(List.getElem?_eq_some_iff.1 hy).1
  omega
 subst e
 refine⟨λhc=>?_,λhc=>?_⟩
 ·have hc:i<j:=by simpa using hc
  rw[ybv i0 hc (by omega)]
  have m0:0<=(i+j)/2:=by omega
  have m1:(i+j)/2<xs.length:=by omega
  have hg:=y0r (d:=((0:Int),(0:Int),(0:Int))) m0 m1
  refine⟨by unfold inI;omega,by unfold nn;omega,h.ldD m0 m1 ⟨_,zcu (x:=xs.getD ((i+j)/2).toNat (0,0,0)),?_⟩⟩
  generalize xs.getD ((i+j)/2).toNat (0,0,0)=x at hg ⊢
  have hm:(xs.map (·.1))[((i+j)/2).toNat]?=some x.1:=by rw[List.getElem?_map,hg];try rfl
  refine⟨λhlt=>?_,λhge=>?_⟩
  ·have hlt:x.1<n:=zn8.1 (by simpa using hlt)
   refine⟨by unfold inI;omega,⟨rfl,by omega,by omega,i2,?_,i4⟩,?_⟩
   ·rw[show ((i+j)/2+1).toNat=((i+j)/2).toNat+1 by omega];exact zbe hs hm hlt
   ·show (j-((i+j)/2+1)).toNat<(j-i).toNat;omega
  ·have hge:n<=x.1:=by
    have:¬ zn4 x.1 n<0:=by simpa using hge
    rw[zn8] at this;omega
   refine⟨⟨rfl,i0,by omega,by omega,i3,zbd hs hm hge⟩,?_⟩
   show ((i+j)/2-i).toNat<(j-i).toNat;omega
 ·have hc:i=j:=by have:¬ i<j:=by simpa using hc
                  omega
  subst hc
  have hp:i.toNat=yo0 (xs.map (·.1)) n:=yo1 hs (by omega) i3 i4
  have hpi:(yo0 (xs.map (·.1)) n:Int)=i:=by omega
  rw[hpi]
  have key:(decide (i<(s.n:Int))=true)->i<xs.length:=λhh=>by
   have:i<s.n:=by simpa using hh
   omega
  refine⟨λhh=>h.inS i0 (key hh),_,_,_,λhh=>h.gD i0 (key hh),_,λhh=>zcu (x:=xs.getD i.toNat (0,0,0)),?_,Hp.le_refl _⟩
  congr 3
  have e1:decide (i<(s.n:Int))=decide (yo0 (xs.map (·.1)) n<xs.length):=by
   rw[Bool.eq_iff_iff,decide_eq_true_eq,decide_eq_true_eq];omega
  rw[e1]
  congr 2
  congr 1
  unfold y01
  rw[Bool.eq_iff_iff,beq_iff_eq,beq_iff_eq,zn5]

theorem zct{H:Hp}{u:Slc}{c:Ct}{n:Int}(h:Rd 3 fD H u c.list) :
  Qf Tryz.prog F.f120 #[.agg #[.int .i64 c.next,u.v],.int .i64 n] H (.tuple #[.int .i64 (if (zzx c n).2=0 then atC c n else 0),.int .i64 (zzx c n).2]):=by
 refine vc120 ⟨_,zcs h,λhc=>?_,λhc=>?_⟩
 ·have hc:zk7 c≠0:=by simpa using hc
  have h8:zk7 c=8:=by unfold zk7 at *;split at hc <;> simp_all
  have:zzx c n=((0,0),8):=by unfold zzx;rw[if_neg λok=>hc (zk9 ok)]
  rw[this,h8];exact⟨rfl,Hp.le_refl _⟩
 have hc:zk7 c=0:=by simpa using hc
 have ok:=zka.1 hc
 have:=ok.len
 refine⟨_,_,zbj h ok.ok.nums (by omega),λhb=>?_,λhb=>?_⟩
 ·rcases z8u ok.ok n with⟨h1,h2⟩|⟨h1,h2⟩
  ·rw[h1] at hb;cases hb
  ·have:zzx c n=((0,0),6):=by unfold zzx;rw[if_pos ok,if_pos (by show idx _ _<0;rw[h2];omega)]
   rw[this];exact⟨rfl,Hp.le_refl _⟩
 ·rcases z8u ok.ok n with⟨h1,h2⟩|⟨h1,h2⟩
  ·have e:atC c n=yo0 (c.list.map (·.1)) n:=h2
   have:(zzx c n).2=0:=by unfold zzx;rw[if_pos ok,if_neg (by rw[e];omega)]
   rw[this,if_pos rfl,e];exact⟨rfl,Hp.le_refl _⟩
  ·rw[h1] at hb;simp at hb

theorem y00{c:Ct}{n:Int}(h:(zzx c n).2=0):okC c/\0<=atC c n/\atC c n<c.list.length/\(y01 c.list (atC c n)).1=n/\zzx c n=((y01 c.list (atC c n)).2,0):=by
 unfold zzx at h ⊢
 split at h
 ·rename_i ok
  rw[if_pos ok]
  split at h
  ·cases h
  ·rename_i h0
   rw[if_neg h0]
   obtain⟨a,x,hx,e⟩:=z8i (c:=c) (n:=n) (by omega)
   refine⟨ok,by omega,a,?_,rfl⟩
   unfold y01;rw[List.getD_eq_getElem?_getD,hx];exact e
 ·cases h

theorem zcv{H:Hp}{u:Slc}{c:Ct}{n:Int}(h:Rd 3 fD H u c.list) :
  Qf Tryz.prog F.f65 #[.agg #[.int .i64 c.next,u.v],.int .i64 n] H (.tuple #[.agg #[.int .i64 (zzx c n).1.1,.int .i64 (zzx c n).1.2],.int .i64 (zzx c n).2]):=by
 refine vc65 ⟨_,_,zct (n:=n) h,λhc=>?_,λhc=>?_⟩
 ·have:(zzx c n).1=(0,0):=by
   have hc:(zzx c n).2≠0:=by simpa using hc
   unfold zzx at hc ⊢
   split
   ·split
    ·rfl
    ·rename_i h1 h2;rw[if_pos h1,if_neg h2] at hc;exact absurd rfl hc
   ·rfl
  rw[this];exact⟨rfl,Hp.le_refl _⟩
 ·have hc:(zzx c n).2=0:=by simpa using hc
  obtain⟨_,g0,g1,_,ge⟩:=y00 hc
  rw[hc,if_pos rfl]
  refine⟨h.inS g0 g1,_,_,h.gD2 g0 g1,?_,Hp.le_refl _⟩
  rw[ge];try rfl


theorem Hp.le.chg{H H':Hp}{v:Slc}(h:Hp.le H H'):Chg H H' v:=λb hb _=>by
 obtain⟨o,ho⟩:=Option.ne_none_iff_exists'.1 hb
 rw[ho];exact h b o ho

theorem Old.zs{H:Hp}:Old H zs:=λp hp=>by unfold Go.Eng.zs at hp;cases hp

theorem zql{H0 H:Hp}{s:Slc}{xs:List (Int×Int×Int)}{i:Int}(hl:Hp.le H0 H)(h:Mine 3 fD T.api_Held H0 H s xs)(h0:0<=i)(h1:i<xs.length) :
  Go.Eng.Fn Tryz.prog F.f222 #[s.v,.int .i64 i,.int .i64 (i+1)] H λv H'=>∃u:Slc,v=u.v/\Hp.le H0 H'/\Mine 3 fD T.api_Held H0 H' u (xs.take i.toNat++xs.drop (i.toNat+1)):=by
 refine vc222 (zqm (k:=3) (f:=fD) (bytes:=24) (j:=i+1) (post:=λv H'=>∃u:Slc,v=u.v/\Hp.le H0 H'/\Mine 3 fD T.api_Held H0 H' u (xs.take i.toNat++xs.drop (i.toNat+1))) (by kernel_rfl) (by kernel_rfl) (by decide) (λ_=>rfl) (λx v hv=>by simp[fD] at hv;rcases hv with rfl|rfl|rfl <;> rfl) (by kernel_rfl) hl h h0 (by omega) (by omega) λu H' g1 g2 _ _=>⟨u,rfl,g1,?_⟩)
 rw[show i.toNat+1=(i+1).toNat by omega];exact g2

theorem zd8{H:Hp}{u:Slc}{c:Ct}{n:Int}(h:Rd 3 fD H u c.list) :
  Go.Eng.Fn Tryz.prog F.f182 #[.agg #[.int .i64 c.next,u.v],.int .i64 n] H λv H'=>∃a:Slc,v=.tuple #[.agg #[.int .i64 (yt7 c n).1.next,a.v],.agg #[.int .i64 (yt7 c n).2.1.1,.int .i64 (yt7 c n).2.1.2],.int .i64 (yt7 c n).2.2]/\z1e H H' a (yt7 c n).1:=by
 refine vc182 ⟨_,_,zct (n:=n) h,λhc=>?_,λhc=>?_⟩
 ·have hc:(zzx c n).2≠0:=by simpa using hc
  have:yt7 c n=(.zero,(0,0),(zzx c n).2):=by unfold yt7;rw[if_neg hc]
  rw[this];exact⟨zs,rfl,z1e.zero (Hp.le_refl _)⟩
 have hc:(zzx c n).2=0:=by simpa using hc
 obtain⟨ok,g0,g1,gn,ge⟩:=y00 hc
 have:=ok.len
 have hr:yt7 c n=(x8h c n,(zzx c n).1,0):=by unfold yt7;rw[if_pos hc]
 rw[hr,hc,if_pos rfl]
 have hg:=y0r (d:=((0:Int),(0:Int),(0:Int))) g0 g1
 have hw:(x8h c n).list=c.list.take (atC c n).toNat++c.list.drop ((atC c n).toNat+1):=by
  rw[zw6 ok.ok.inc hg]
  unfold x8h
  simp only
  congr 1
  funext y
  have:(c.list.getD (atC c n).toNat (0,0,0)).1=n:=gn
  rw[this]
 have fin:∀{H6 H9:Hp}{a:Slc},Hp.le H H9->Mine 3 fD T.api_Held H H9 a (c.list.take (atC c n).toNat++c.list.drop ((atC c n).toNat+1))->z1e H H9 a (x8h c n):=λhl hm=>⟨hl,by rw[hw];exact hm⟩
 have hv:∀a:Slc,(Value.tuple #[.agg #[.int .i64 c.next,a.v],.agg #[.int .i64 (c.list.getD (atC c n).toNat (0,0,0)).2.1,.int .i64 (c.list.getD (atC c n).toNat (0,0,0)).2.2],.int .i64 0])=.tuple #[.agg #[.int .i64 (x8h c n).next,a.v],.agg #[.int .i64 (zzx c n).1.1,.int .i64 (zzx c n).1.2],.int .i64 0]:=λa=>by
  rw[ge];try rfl
 refine⟨by unfold inI;omega,h.inS g0 g1,⟨_,_,h.gD2 g0 g1,?_⟩,?_⟩
 ·refine(zmn h (by omega)).mono λv H6 ⟨a,hva,l6,m⟩=>⟨l6,a,hva,(zql l6 m g0 g1).mono λv H9 ⟨b,hvb,l9,m9⟩=>⟨b,hvb,b,hv b,fin (H6:=H6) l9 m9⟩⟩
 ·refine(zmn h (by omega)).mono λv H6 ⟨a,hva,l6,m⟩=>⟨l6,a,hva,⟨_,_,(h.le l6).gD2 g0 g1,(zql l6 m g0 g1).mono λv H9 ⟨b,hvb,l9,m9⟩=>⟨b,hvb,b,hv b,fin (H6:=H6) l9 m9⟩⟩,?_⟩
  exact(zql l6 m g0 g1).mono λv H9 ⟨b,hvb,l9,m9⟩=>⟨b,hvb,_,_,(h.le l9).gD2 g0 g1,b,hv b,fin (H6:=H6) l9 m9⟩

end Go.Proofs.YtnhdkkblehadjabGreat
end
