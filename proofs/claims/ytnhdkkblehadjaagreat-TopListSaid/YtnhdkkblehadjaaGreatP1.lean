/- The engine, parts A, B, C, D, S1, S2, S3, S4, S5, put together. Conditions: none. -/
import Derived.Test.YtnhdkkblehadjaaGreatVgStd
import Derived.Test.YtnhdkkblehadjaaGreatVgSlot
open Bool renaming or_eq_true->Qa,or_eq_false_iff->Qb,false_or->Qc,and_eq_true->Qd,and_eq_false_imp->Qe
open Go.Eng.Hp renaming le_refl->Qg,le->Qh,le_trans->Qi,le_new->Qj,le_chg->Ql,le_put->Qm
open Int renaming toNat_of_nonneg->Qn,toNat_natCast->Qo
open List renaming take_length->Qp,replicate->Qq,mem_append->Qr,getD_eq_getElem?_getD->Qs,mem_singleton->Qt,take_add_one->Qu,nodup_append->Qv,mem_of_getElem?->Qw,getElem?_eq_none->Qx
set_option linter.unusedVariables false
section
open Go Go.Eng Go.Proofs
namespace Go.Proofs.YtnhdkkblehadjaaGreat
variable{H:Hp}{s:Slc}{xs:List Int}
theorem znw(hs:RdI H s xs)(hl:xs.length<=1000000000) :
  fN F.f34 #[s.v] H λv H'=>∃u:Slc,v=u.v/\Qh H H'/\Mine 1 fI 3 H H' u xs :=
 vc34 (zo0 (k:=1) (f:=fI) (bytes:=8) (by kernel_rfl) (by decide) (λ_=>rfl) hs (by omega) (by omega))
theorem znz(hs:RdI H s xs)(hl:xs.length<=1000000000) :
  fN F.f259 #[s.v] H λv H'=>∃u:Slc,v=u.v/\Qh H H'/\Mine 1 fI 3 H H' u xs :=
 vc259 (zo0 (k:=1) (f:=fI) (bytes:=8) (by kernel_rfl) (by decide) (λ_=>rfl) hs (by omega) (by omega))
theorem zns{xs:List Bool}(hs:RdB H s xs)(hl:xs.length<=1000000000) :
  fN F.f132 #[s.v] H λv H'=>∃u:Slc,v=u.v/\Qh H H'/\Mine 1 fB 4 H H' u xs :=
 vc132 (zo0 (k:=1) (f:=fB) (bytes:=1) (by kernel_rfl) (by decide) (λ_=>rfl) hs (by omega) (by omega))
end Go.Proofs.YtnhdkkblehadjaaGreat
end
section
open Go Go.Eng Go.Proofs
namespace Go.Proofs.YtnhdkkblehadjaaGreat
theorem x89{α:Type}[BEq α][LawfulBEq α]{xs ys:List α}{n:Nat}{x y:α}(hx:xs[n]?=some x)(hy:ys[n]?=some y)(h:xs.take n=ys.take n):xs.take (n+1)=ys.take (n+1)↔x=y:=by
 rw[Qu,Qu,hx,hy,h];simp
theorem yzk{H:Hp}{a b:Slc}{xs ys:List Int}(ha:RdI H a xs)(hb:RdI H b ys)(h63:xs.length<=1000000000):qF F.f142 #[a.v,b.v] H (.bool (xs==ys)):=by
 have la:=ha.len;have lb:=hb.len;refine vc142 ⟨λh=>⟨?_,Qg H⟩,λh=>?_⟩
 ·have hl:(a.n:Int)≠b.n:=by simpa using h
  have:(xs==ys)=false:=by
   rw[beq_eq_false_iff_ne];intro e;subst e;omega
  rw[this]
 ·have hl:(a.n:Int)=b.n:=by simpa using h
  refine⟨λn H4=>H4=H/\0<=n/\n<=xs.length/\xs.take n.toNat=ys.take n.toNat,λn _=>xs.length-n.toNat,⟨rfl,by omega,by omega,by simp⟩,λn H4 ⟨hH,h0,h1,h2⟩=>?_⟩;subst hH;refine⟨λhn=>?_,λhn=>⟨?_,Qg _⟩⟩
  ·have hn:n<a.n:=by simpa using hn
   have gx:=y36 (xs:=xs) h0 (by omega);have gy:=y36 (xs:=ys) h0 (by omega);refine⟨ha.inN h0 hn,_,ha.get h0 (by omega),hb.inN h0 (by omega),_,hb.get h0 (by omega),λhne=>⟨?_,Qg _⟩,λhe=>⟨?_,⟨rfl,by omega,by omega,?_⟩,?_⟩⟩
   ·have:(xs==ys)=false:=by
     rw[beq_eq_false_iff_ne];intro e;subst e;simp at hne
    rw[this]
   ·unfold inI;omega
   ·have e:(n+1).toNat=n.toNat+1:=by omega
    rw[e];exact(x89 gx gy h2).2 (by simpa using he)
   ·show xs.length-(n+1).toNat<xs.length-n.toNat;omega
  ·have hn:n=xs.length:=by
    have:¬ n<a.n:=by simpa using hn
    omega
   subst hn;have:xs=ys:=by
    have e1:xs.take xs.length=xs:=Qp;have e2:ys.take xs.length=ys:=by
     have:xs.length=ys.length:=by omega
     rw[this];exact Qp
    rw[Qo] at h2;rw[← e1,h2,e2]
   subst this;simp
end Go.Proofs.YtnhdkkblehadjaaGreat
end
section
open Go Go.Eng Go.Proofs
namespace Go.Proofs.YtnhdkkblehadjaaGreat
variable{H:Hp}{u1 u2 u3:Slc}{t:Tb}
theorem yzh{a b:Slc}{xs ys:List Bool}(ha:RdB H a xs)(hb:RdB H b ys)(h63:xs.length<=1000000000):qF F.f195 #[a.v,b.v] H (.bool (xs==ys)):=by
 have la:=ha.len;have lb:=hb.len;refine vc195 ⟨λh=>⟨?_,Qg H⟩,λh=>?_⟩
 ·have hl:(a.n:Int)≠b.n:=by simpa using h
  have:(xs==ys)=false:=by
   rw[beq_eq_false_iff_ne];intro e;subst e;omega
  rw[this]
 ·have hl:(a.n:Int)=b.n:=by simpa using h
  refine⟨λn H4=>H4=H/\0<=n/\n<=xs.length/\xs.take n.toNat=ys.take n.toNat,λn _=>xs.length-n.toNat,⟨rfl,by omega,by omega,by simp⟩,λn H4 ⟨hH,h0,h1,h2⟩=>?_⟩;subst hH;refine⟨λhn=>?_,λhn=>⟨?_,Qg _⟩⟩
  ·have hn:n<a.n:=by simpa using hn
   have gx:=y2m (xs:=xs) h0 (by omega);have gy:=y2m (xs:=ys) h0 (by omega);refine⟨ha.inN h0 hn,_,ha.get h0 (by omega),hb.inN h0 (by omega),_,hb.get h0 (by omega),λhne=>⟨?_,Qg _⟩,λhe=>⟨?_,⟨rfl,by omega,by omega,?_⟩,?_⟩⟩
   ·have:(xs==ys)=false:=by
     rw[beq_eq_false_iff_ne];intro e;subst e;simp at hne
    rw[this]
   ·unfold inI;omega
   ·have e:(n+1).toNat=n.toNat+1:=by omega
    rw[e];exact(x89 gx gy h2).2 (by simpa using he)
   ·show xs.length-(n+1).toNat<xs.length-n.toNat;omega
  ·have hn:n=xs.length:=by
    have:¬ n<a.n:=by simpa using hn
    omega
   subst hn;have:xs=ys:=by
    have e1:xs.take xs.length=xs:=Qp;have e2:ys.take xs.length=ys:=by
     have:xs.length=ys.length:=by omega
     rw[this];exact Qp
    rw[Qo] at h2;rw[← e1,h2,e2]
   subst this;simp
theorem xa2(h:RdT H u1 u2 u3 t)(hs:t.small) :
  fN F.f229 #[.agg #[u1.v,u2.v,u3.v]] H λv H'=>∃a b:Slc,v=.agg #[a.v,b.v,u3.v]/\Qh H H'/\Mine 1 fI 3 H H' a t.uses/\Mine 1 fB 4 H H' b t.used/\Sep a b:=by
 obtain⟨s1,s2,s3⟩:=hs;refine vc229 ((znw h.uses (by omega)).mono λv H1 ⟨a,hv,hl,hm⟩=>⟨hl,a,hv,?_⟩);exact(zns (h.used.le hl) (by omega)).mono λv H2 ⟨b,hv,hl2,hm2⟩=>⟨hl2,b,hv,a,b,rfl,Qi hl hl2,hm.le hl2,hm2.low hl,Sep.of hm.isOld hm2.isNew⟩
theorem same{v1 v2 v3:Slc}{s:Tb}(ht:RdT H u1 u2 u3 t)(hs:RdT H v1 v2 v3 s)(hsm:t.small) :
  qF F.f141 #[.agg #[u1.v,u2.v,u3.v],.agg #[v1.v,v2.v,v3.v]] H (.bool (t.uses==s.uses&&t.used==s.used&&t.free==s.free)):=by
 obtain⟨s1,s2,s3⟩:=hsm;exact vc141 ⟨_,yzk ht.uses hs.uses (by omega),_,λ_=>yzh ht.used hs.used (by omega),_,λ_=>yzk ht.free hs.free (by omega),rfl,Qg H⟩
end Go.Proofs.YtnhdkkblehadjaaGreat
end
section
open Go Go.Eng Go.Proofs
namespace Go.Proofs.YtnhdkkblehadjaaGreat
variable{l:List Int}{x:Int}
def z17(mk:List Bool)(n:Nat)(l:List Int):Prop:=mk.length=n/\∀i:Nat,i<n->(mk.getD i false=true↔(i:Int)∈l)
theorem z17.none(n:Nat):z17 (Qq n false) n []:=⟨by simp,λi hi=>by simp[List.getD,hi]⟩
theorem z17.add{mk:List Bool}{n:Nat}(h:z17 mk n l)(h0:0<=x)(h1:x<n):z17 (mk.set x.toNat true) n (l++[x]):=by
 refine⟨by simpa using h.1,λi hi=>?_⟩;rw[y2y (by rw[h.1];omega)];by_cases e:x.toNat=i
 ·rw[Zp e];simp;right;omega
 ·rw[Zn e,h.2 i hi,Qr,Qt];exact⟨.inl,λh=>h.resolve_right (by omega)⟩
theorem yiv(h:l.Nodup)(hx:x∉l):(l++[x]).Nodup:=by
 rw[Qv];exact⟨h,by simp,λa ha b hb e=>by simp at hb;subst hb;subst e;exact hx ha⟩
theorem yj7{i:Nat}(hi:l[i]?=some x)(hx:x∈l.take i):¬ l.Nodup:=λh=>by
 have h2:(l.take (i+1)).Nodup:=h.sublist (List.take_sublist _ _);rw[x88 hi,Qv] at h2;exact h2.2.2 x hx x (by simp) rfl
theorem yv8{H:Hp}{u1 u2 u3:Slc}{t:Tb}(h:RdT H u1 u2 u3 t)(hs:t.small) :
    qF F.f144 #[.agg #[u1.v,u2.v,u3.v]] H (vi (chk t)):=by
  obtain⟨s1,s2,s3⟩:=hs;have l1:=h.uses.len;have l2:=h.used.len;have l3:=h.free.len;refine vc144 ⟨λhc=>?_,λhc=>?_⟩
  · refine⟨?_,Qg _⟩
    rw[zma];intro ok;have:=ok.pos;have:=ok.top;have:=ok.len;have:=ok.fl;simp at hc;omega
  · simp at hc
    obtain⟨⟨⟨c1,c2⟩,c3⟩,c4⟩:=hc;have hn:1<=t.uses.length/\t.uses.length<=200/\t.used.length=t.uses.length/\t.free.length<=t.uses.length:=by omega
    refine⟨⟨rfl,by omega,by omega⟩,λb1 H2 hb1 hH2=>?_⟩;have hle:Qh H H2:=by subst hH2;exact Hp.put_le _ _ hb1
    have own0:=Own.made (H:=H) (b:=b1) (e:=4) hfB (n:=(u1.n:Int)) (z:=false) rfl;rw[← hH2] at own0;refine⟨λn H6=>0<=n/\n<=t.free.length/\Qh H H6/\(∀x∈t.free.take n.toNat,0<=x/\x<t.uses.length)/\(t.free.take n.toNat).Nodup/\∃mk,z17 mk t.uses.length (t.free.take n.toNat)/\Own 1 fB 4 H6 b1 ⟨some ⟨b1,0,none⟩,u1.n,u1.n⟩ mk,
      λn _=>t.free.length-n.toNat,⟨by omega,by omega,hle,by simp,by simp,Qq u1.n false,?_,own0⟩,λn H6 ⟨i0,i1,i2,i3,i4,mk,i5,i6⟩=>⟨λhn'=>?_,λhn'=>?_⟩⟩
    · rw[l1];exact z17.none _
    ·
      have hn':n<t.free.length:=by have:n<u3.n:=by simpa using hn'
                                   omega
      have hin:y63 u3.a u3.n n:=h.free.inS i0 hn';have hg:=y36 i0 hn';have hat:=(h.free.le i2).gI i0 hn';generalize hx:t.free.getD n.toNat 0=x at hg hat;have hmem:x∈t.free:=Qw hg;have hmk:=i6.rdB;refine⟨hin,x,hat,λ_=>hin,x,λ_=>hat,λ_=>hin,x,λ_=>hat,?_⟩;by_cases hr:0<=x/\x<t.uses.length
      · have hin2:y63 (some ⟨b1,0,none⟩) (u1.n:Int).toNat x:=hmk.inS hr.1 (by rw[i5.1];exact hr.2)
        have hat2:=hmk.gB hr.1 (by rw[i5.1];exact hr.2);refine⟨λ_=>hin2,_,λ_=>hat2,λhb=>?_,λhb=>?_⟩
        · refine⟨?_,i2⟩
          rw[zma];intro ok;have hm:mk.getD x.toNat false=true:=by
            simp at hb;rcases hb with hb|hb
            · omega
            · simpa using hb
          have:=(i5.2 x.toNat (by omega)).1 hm;rw[Qn hr.1] at this;exact yj7 hg this ok.nod
        · have hm:mk.getD x.toNat false=false:=by
            simp at hb;simpa using hb.2
          have hnin:x∉t.free.take n.toNat:=λhm'=>by
            have:=(i5.2 x.toNat (by omega)).2 (by rw[Qn hr.1];exact hm');rw[hm] at this;cases this
          refine⟨hin,x,hat,hin2,i6.can hfB hr.1 (by rw[i5.1];exact hr.2) _,λH12 hH12=>⟨by unfold inI;omega,?_,?_⟩⟩
          · obtain⟨o,ho,hown⟩:=i6.store hfB hr.1 (by rw[i5.1];exact hr.2) true
            have e:H12=H6.put b1 o:=hH12.trans ho;subst e;have e1:(n+1).toNat=n.toNat+1:=by omega
            rw[e1,x88 hg];refine⟨by omega,by omega,Qm i2 hb1,λy hy=>?_,yiv i4 hnin,_,i5.add hr.1 hr.2,hown⟩;rcases Qr.1 hy with hy|hy
            · exact i3 y hy
            · simp at hy;subst hy;exact hr
          · show t.free.length-(n+1).toNat<t.free.length-n.toNat;omega
      · have hb:∀c:Bool,(decide (x<0)||decide (x>=(u1.n:Int))||c)=true:=λc=>by
          by_cases h1:x<0
          · simp[h1]
          · have:x>=(u1.n:Int):=by omega
            simp[this]
        refine⟨λhc'=>?_,true,λhc'=>?_,λ_=>⟨?_,i2⟩,λhc'=>?_⟩
        · have:=hb false;simp at hc';simp at this;omega
        · have:=hb false;simp at hc';simp at this;omega
        · rw[zma];intro ok;exact hr (ok.rng x hmem)
        · rw[hb] at hc';cases hc'
    ·
      have e:n=t.free.length:=by
        have:¬ n<u3.n:=by simpa using hn'
        omega
      subst e;rw[Qo,Qp] at i3 i4 i5;have hmk:=i6.rdB;refine⟨λm H16=>H16=H6/\0<=m/\m<=t.uses.length/\∀i:Nat,i<m->0<=t.uses.getD i 0/\t.uses.getD i 0<=1000000/\(t.used.getD i false=true↔(i:Int)∉t.free)/\(t.used.getD i false=true->1<=t.uses.getD i 0),
        λm _=>t.uses.length-m.toNat,⟨rfl,by omega,by omega,λi hi=>by omega⟩,λm H16 ⟨j0,j1,j2,j3⟩=>?_⟩
      subst j0;refine⟨λhm=>?_,λhm=>⟨?_,i2⟩⟩
      · have hm:m<t.uses.length:=by have:m<u1.n:=by simpa using hm
                                    omega
        have a1:=(h.uses.le i2).gI j1 hm;have a2:=(h.used.le i2).gB j1 (by omega);have a3:=hmk.gB j1 (by rw[i5.1];exact hm);have n1:y63 u1.a u1.n m:=h.uses.inS j1 hm;have n2:y63 u2.a u2.n m:=h.used.inS j1 (by omega);have n3:y63 (some ⟨b1,0,none⟩) (u1.n:Int).toNat m:=hmk.inS j1 (by rw[i5.1];exact hm);have hmi:=i5.2 m.toNat (by omega);rw[Qn j1] at hmi;refine⟨n1,_,a1,λ_=>n1,_,λ_=>a1,λ_=>n2,_,λ_=>a2,λ_=>n3,_,λ_=>a3,λ_=>n2,_,λ_=>a2,λ_=>n1,_,λ_=>a1,λhb=>⟨?_,i2⟩,λhb=>⟨by unfold inI;omega,⟨rfl,by omega,by omega,λi hi=>?_⟩,?_⟩⟩
        · rw[zma]
          intro ok;obtain⟨k1,k2,k3,k4⟩:=ok.each m.toNat (by omega);rw[Qn j1] at k3
          skip
          simp only[Qa,Zq,beq_iff_eq,Qd] at hb;rcases hb with((hb|hb)|hb)|hb
          · omega
          · omega
          · by_cases hd:t.used.getD m.toNat false=true
            · exact(k3.1 hd) (hmi.1 (by rw[← hb];exact hd))
            · have:(m:Int)∈t.free:=Classical.byContradiction λhh=>hd (k3.2 hh)
              exact hd (by rw[hb];exact hmi.2 this)
          · have:=k4 hb.1;omega
        · rcases Nat.lt_or_ge i m.toNat with hlt|hge
          · exact j3 i (by omega)
          · have e:i=m.toNat:=by omega
            subst e;rw[Qn j1];simp only[Qb,Zt,beq_eq_false_iff_ne,Qe] at hb;obtain⟨⟨⟨q1,q2⟩,q3⟩,q4⟩:=hb
            skip
            refine⟨by omega,by omega,⟨λhd hf=>q3 (by rw[hd];exact(hmi.2 hf).symm),λhf=>?_⟩,λhd=>by have:=q4 hd;omega⟩;have:mk.getD m.toNat false=false:=by
              cases hx:mk.getD m.toNat false with
              | false=>rfl
              | true=>exact absurd (hmi.1 hx) hf
            rw[this] at q3;cases hx:t.used.getD m.toNat false with
            | true=>rfl
            | false=>exact absurd hx q3
        · show t.uses.length-(m+1).toNat<t.uses.length-m.toNat;omega
      · have hm:¬ m<u1.n:=by simpa using hm
        rw[zmb];exact⟨hn.1,hn.2.1,hn.2.2.1,i3,i4,λi hi=>j3 i (by omega)⟩
end Go.Proofs.YtnhdkkblehadjaaGreat
end
section
open Go Go.Eng Go.Proofs
namespace Go.Proofs.YtnhdkkblehadjaaGreat
variable{H:Hp}{s:Slc}{Zw:Value->Hp->Prop}{xs:List Bool}{v:Bool}{fv:Value}{J:Int->Hp->Prop}
theorem y6a(h:RdB H s xs)(hl:xs.length<=1000000000) :
    qF F.f260 #[s.v,.bool v] H (vi (idx (λx=>v==x) xs)):=by
  have ls:=h.len;refine vc260 (upto (N:=xs.length) (J:=λn=>∀y∈xs.take n.toNat,(v==y)=false) (by omega) (by simp) λn h0 h1 hJ=>⟨λhn=>?_,λhn=>⟨?_,Qg _⟩⟩)
  · have hn:n<xs.length:=by have:n<s.n:=by simpa using hn
                            omega
    have hg:=y2m h0 hn;refine h.ldB h0 hn ⟨λhv=>⟨?_,Qg _⟩,λhv=>upto.nx h0 hn (by omega) ?_⟩
    · rw[y5s hg hv hJ,Qn h0]
    · have e:(n+1).toNat=n.toNat+1:=by omega
      rw[e,x88 hg];intro y hy;rcases Qr.1 hy with hy|hy
      · exact hJ y hy
      · simp only[Qt] at hy;subst hy;exact hv
  · have:n=xs.length:=by have:¬ n<s.n:=by simpa using hn
                         omega
    subst this;rw[Qo,Qp] at hJ;rw[y5u hJ]
theorem zrp(h:RdB H s xs)(hl:xs.length<=1000000000) :
  qF F.f233 #[s.v,.bool v] H (.bool (xs.any λx=>v==x)) :=
 vc233 ⟨_,y6a h hl,by rw[← y5r],Qg _⟩
theorem y68{xs:List Int}(hl:xs.length<=1000000000)(hr:∀n H',J n H'->RdI H' s xs)(j0:J 0 H)
    (hb:∀(n:Int) H',0<=n->n<xs.length->J n H'->FnV Tryz.prog fv [vi (xs.getD n.toNat 0)] H' λv H7=>∃c:Bool,v=.bool c/\(c=true->Zw (vi n) H7)/\(c=false->J (n+1) H7))
    (he:∀H',J xs.length H'->Zw (vi (-1)) H'):fN F.f204 #[s.v,fv] H Zw:=by
  have ls:=(hr 0 H j0).len;refine vc204 (xb0 (N:=xs.length) (J:=J) (by omega) j0 λn H' h0 h1 hJ=>⟨λhn=>?_,λhn=>?_⟩)
  · have hn:n<xs.length:=by have:n<s.n:=by simpa using hn
                            omega
    exact(hr n H' hJ).ldI h0 hn ((hb n H' h0 hn hJ).mono λv H7 ⟨c,hv,hc,hc'⟩=>⟨c,hv,hc,λx=>xb0.nx h0 hn (by omega) (hc' x)⟩)
  · have:n=xs.length:=by have:¬ n<s.n:=by simpa using hn
                         omega
    subst this;exact he H' hJ
theorem zro{xs:List Int}(hl:xs.length<=1000000000)(hr:∀n H',J n H'->RdI H' s xs)(j0:J 0 H)
  (hb:∀(n:Int) H',0<=n->n<xs.length->J n H'->FnV Tryz.prog fv [vi (xs.getD n.toNat 0)] H' λv H7=>∃c:Bool,v=.bool c/\(c=true->Zw (.bool true) H7)/\(c=false->J (n+1) H7))
  (he:∀H',J xs.length H'->Zw (.bool false) H'):fN F.f231 #[s.v,fv] H Zw:=by
 refine vc231 (y68 (J:=J) hl hr j0 (λn H' h0 h1 hJ=>(hb n H' h0 h1 hJ).mono λv H7 ⟨c,hv,hc,hc'⟩=>⟨c,hv,λx=>⟨n,rfl,?_⟩,hc'⟩) λH' hJ=>⟨-1,rfl,he H' hJ⟩);have:decide (n>=0)=true:=by simp;exact h0
 rw[this];exact hc x
theorem x3l{b1 b2:Nat}{n i:Int}{u:Slc}{mk:List Bool}{H0:Hp}(h1:Var H b1 (vi n) 3)(h2:Var H b2 u.v 37)(hm:Mine 1 fB 4 H0 H u mk)(hn:n=mk.length)
  (hbad:(i<0\/n<=i\/mk.getD i.toNat false=true)->Zw (.bool true) H)
  (hgood:0<=i->i<n->mk.getD i.toNat false=false->∀H',Mine 1 fB 4 H0 H' u (mk.set i.toNat true)->Chg H H' u->Zw (.bool false) H') :
  fN F.f232 #[vi i,.pointer (some ⟨b1,0,none⟩),.pointer (some ⟨b2,0,none⟩)] H Zw:=by
 refine vc232 ⟨n,λ_=>h1.at,u,λ_=>h2.at,?_⟩;refine hm.rdB.ldcB (λhc=>by simp at hc;omega) ⟨λhc=>hbad ?_,λhc=>?_⟩
 ·simp at hc;rcases hc with(hc|hc)|hc
  ·exact .inl hc
  ·exact .inr (.inl hc)
  ·exact .inr (.inr (by simpa using hc))
 ·simp at hc;obtain⟨⟨c1,c2⟩,c3⟩:=hc;refine⟨u,h2.at,hm.rdB.inS c1 (by omega),hm.setB c1 (by omega) true λH' m c=>hgood c1 c2 (by simpa using c3) H' m c⟩
def z12(t:Tb)(mk:List Bool)(l:List Int):Prop:=mk.length=t.used.length/\∀i:Nat,i<t.used.length->(mk.getD i false=true↔t.used.getD i false=true\/(i:Int)∈l)
theorem x3k{u1 u2 u3:Slc}{t:Tb}(h:RdT H u1 u2 u3 t)(hs:t.small) :
  qF F.f186 #[.agg #[u1.v,u2.v,u3.v]] H (vi (chk t)):=by
 obtain⟨s1,s2,s3⟩:=hs;have l1:=h.uses.len;have l2:=h.used.len;have l3:=h.free.len;refine vc186 λb1 H2 hb1 hH2=>(Var.new hH2).set _ λH3 hH3=>?_
 have v1:Var H3 b1 (vi u1.n) 3:=Var.new hH3;have le3:Qh H H3:=by subst hH3;exact Qm (Qj (Qg _) hb1 hH2) hb1
 refine⟨_,v1.at,_,λ_=>v1.at,_,λ_=>v1.at,λhc=>⟨?_,le3⟩,λhc=>?_⟩
 ·rw[zma];intro ok;have:=ok.pos;have:=ok.top;have:=ok.len;simp at hc;omega
 ·simp at hc;refine(zns (h.used.le le3) (by omega)).mono λv H8 ⟨u9,hv,le8,m8⟩=>⟨u9,hv,λb10 H11 hb10 hH11=>(Var.new hH11).set _ λH12 hH12=>?_⟩
  have le12:Qh H8 H12:=by subst hH12;exact Qm (Qj (Qg _) hb10 hH11) hb10
  have v2:Var H12 b10 u9.v 37:=Var.new hH12;have ne1:∀p,u9.a=some p->p.block≠b1:=λp hp e=>by
   have:=m8.isNew p hp;rw[e] at this;rw[v1] at this;cases this
  have ne2:∀p,u9.a=some p->p.block≠b10:=λp hp e=>m8.isOld p hp (by rw[e];exact hb10)
  have hcf:=zro (H:=H12) (s:=u3) (xs:=t.free) (fv:=.func (.func F.f232) #[] #[.pointer (some ⟨b1,0,none⟩),.pointer (some ⟨b10,0,none⟩)])
   (J:=λn H'=>Qh H H'/\Var H' b1 (vi u1.n) 3/\Var H' b10 u9.v 37/\(∀x∈t.free.take n.toNat,0<=x/\x<t.uses.length)/\(t.free.take n.toNat).Nodup/\(∀x∈t.free.take n.toNat,t.used.getD x.toNat false=false)/\∃mk,z12 t mk (t.free.take n.toNat)/\Mine 1 fB 4 H3 H' u9 mk)
   (Zw:=λv H'=>Qh H H'/\((v=.bool true/\chk t=8)\/(v=.bool false/\Var H' b10 u9.v 37/\(∀x∈t.free,0<=x/\x<t.uses.length)/\t.free.Nodup/\(∀x∈t.free,t.used.getD x.toNat false=false)/\∃mk,z12 t mk t.free/\Mine 1 fB 4 H3 H' u9 mk)))
   (by omega) (λn H' hj=>h.free.le hj.1) ⟨Qi le3 (Qi le8 le12),(v1.le le8).le le12,v2,by simp,by simp,by simp,t.used,⟨rfl,λi hi=>by simp⟩,m8.le le12⟩ ?_ ?_
  ·refine hcf.mono λv H14 ⟨le14,hp⟩=>?_
   rcases hp with⟨rfl,hk⟩|⟨rfl,w2,i3,i4,i5,mk,i6,i7⟩
   ·refine⟨true,rfl,u9,λhx=>by simp at hx,true,λhx=>by simp at hx,λ_=>⟨?_,le14⟩,λhx=>by simp at hx⟩;rw[hk]
   ·have hmk:=i7.rdB;refine⟨false,rfl,u9,λ_=>w2.at,_,λ_=>zrp hmk (by rw[i6.1];omega),λhx=>⟨?_,le14⟩,λhx=>?_⟩
    ·rw[zma];intro ok;simp only[Qc,List.any_eq_true,beq_iff_eq] at hx;obtain⟨c,hc1,hc2⟩:=hx;subst hc2;obtain⟨i,hi⟩:=List.mem_iff_getElem?.1 hc1;have hlt:i<mk.length:=(List.getElem?_eq_some_iff.1 hi).1;have hn:mk.getD i false=false:=by rw[Qs,hi];try rfl
     have:=i6.2 i (by rw[← i6.1];exact hlt);have hor:t.used.getD i false=true\/(i:Int)∈t.free:=by
      rcases Decidable.em ((i:Int)∈t.free) with hm|hm
      ·exact .inr hm
      ·exact .inl ((ok.each i (by have:=ok.len;have:=i6.1;omega)).2.2.1.2 hm)
     rw[hn] at this;exact absurd (this.2 hor) (by simp)
    ·simp only[Qc,List.any_eq_false,beq_iff_eq] at hx;have hall:∀i:Nat,i<t.uses.length->(t.used.getD i false=true↔(i:Int)∉t.free):=λi hi=>by
      have hlt:i<mk.length:=by have:=i6.1;omega
      have hm:mk.getD i false=true:=by
       rw[Qs,List.getElem?_eq_getElem hlt];have:=hx _ (List.getElem_mem hlt);simpa using this
      have hor:=(i6.2 i (by omega)).1 hm;constructor
      ·intro hd hf;have:=i5 _ hf;rw[Qo,hd] at this;cases this
      ·intro hf;exact hor.resolve_right hf
     refine upto (N:=t.uses.length) (J:=λm=>∀i:Nat,i<m->0<=t.uses.getD i 0/\t.uses.getD i 0<=1000000/\(t.used.getD i false=true->1<=t.uses.getD i 0)) (by omega) (λi hi=>by omega) λm j1 j2 j3=>⟨λhm=>?_,λhm=>⟨?_,le14⟩⟩
     ·have hm:m<t.uses.length:=by have:m<u1.n:=by simpa using hm
                                  omega
      refine(h.uses.le le14).ldI j1 hm ((h.used.le le14).ldcB (λ_=>⟨j1,by omega⟩) ⟨λhb=>⟨?_,le14⟩,λhb=>upto.nx j1 hm (by omega) λi hi=>?_⟩)
      ·rw[zma];intro ok;obtain⟨k1,k2,k3,k4⟩:=ok.each m.toNat (by omega)
       skip
       simp only[Qa,Zq,beq_iff_eq,Qd] at hb;rcases hb with(hb|hb)|hb
       ·omega
       ·omega
       ·have:=k4 hb.2;omega
      ·rcases Nat.lt_or_ge i m.toNat with hlt|hge
       ·exact j3 i (by omega)
       ·have e:i=m.toNat:=by omega
        subst e;simp only[Qb,Zt,Qe] at hb;obtain⟨⟨q1,q2⟩,q3⟩:=hb
        skip
        refine⟨by omega,by omega,λhd=>?_⟩;rcases Int.lt_or_le 0 (t.uses.getD m.toNat 0) with h'|h'
        ·omega
        ·have:=q3 (by rw[beq_iff_eq];omega);rw[hd] at this;cases this
     ·have hm:m=t.uses.length:=by have:¬ m<u1.n:=by simpa using hm
                                  omega
      subst hm;rw[zmb];exact⟨by omega,by omega,by omega,i3,i4,λi hi=>⟨(j3 i (by omega)).1,(j3 i (by omega)).2.1,hall i hi,(j3 i (by omega)).2.2⟩⟩
  ·intro n H' h0 hn ⟨i2,w1,w2,i3,i4,i5,mk,i6,i7⟩;have hg:=y36 h0 hn;have hmem:t.free.getD n.toNat 0∈t.free:=Qw hg;generalize hx:t.free.getD n.toNat 0=x at hg hmem ⊢;have e1:(n+1).toNat=n.toNat+1:=by omega
   refine⟨F.f232,#[],_,rfl,cb232,?_⟩;refine x3l w1 w2 i7 (by rw[i6.1];omega) (λhb=>⟨true,rfl,λ_=>⟨i2,.inl ⟨rfl,?_⟩⟩,λhx=>(by cases hx)⟩) λc0 c1 c2 H7 m7 ch=>⟨false,rfl,λhx=>(by cases hx),λ_=>?_⟩
   ·rw[zma];intro ok;have hr:=ok.rng x hmem;rcases hb with hb|hb|hb
    ·omega
    ·omega
    ·rcases(i6.2 x.toNat (by omega)).1 hb with hd|hd
     ·have:=(ok.each x.toNat (by omega)).2.2.1.1 hd;rw[Qn hr.1] at this;exact this hmem
     ·rw[Qn hr.1] at hd;exact yj7 hg hd ok.nod
   ·have hnm:¬ (t.used.getD x.toNat false=true\/(x.toNat:Int)∈t.free.take n.toNat):=λhor=>by
     have:=(i6.2 x.toNat (by omega)).2 hor;rw[c2] at this;cases this
    rw[Qn c0] at hnm;rw[e1,x88 hg];refine⟨Ql i2 ch ((m8.isNew).low le3),w1.chg ch ne1,w2.chg ch ne2,λy hy=>?_,yiv i4 λhx=>hnm (.inr hx),λy hy=>?_,_,⟨by simpa using i6.1,λi hi=>?_⟩,m7⟩
    ·rcases Qr.1 hy with hy|hy
     ·exact i3 y hy
     ·simp at hy;subst hy;exact⟨c0,by omega⟩
    ·rcases Qr.1 hy with hy|hy
     ·exact i5 y hy
     ·simp at hy;subst hy;cases hd:t.used.getD y.toNat false with
      | false=>rfl
      | true=>exact absurd (.inl hd) hnm
    ·rw[y2y (by rw[i6.1];omega)];by_cases e:x.toNat=i
     ·rw[Zp e];simp;right;right;omega
     ·rw[Zn e,i6.2 i hi,Qr,Qt];exact⟨λh=>h.elim .inl λh=>.inr (.inl h),λh=>h.elim .inl λh=>.inr (h.resolve_right (by omega))⟩
  ·intro H' ⟨i2,w1,w2,i3,i4,i5,mk,i6,i7⟩;rw[Qo,Qp] at i3 i4 i5 i6;exact⟨i2,.inr ⟨rfl,w2,i3,i4,i5,mk,i6,i7⟩⟩
end Go.Proofs.YtnhdkkblehadjaaGreat
end
section
open Go Go.Eng Go.Proofs
namespace Go.Proofs.YtnhdkkblehadjaaGreat
variable{H:Hp}{u1 u2 u3 s:Slc}{t:Tb}{i u n:Int}{xs:List Int}
theorem z9m{n:Nat}{ys:List Int}(hl:ys.length=n)(h:∀i:Nat,i<n->ys[i]?=some ((n:Int)-1-i)):ys=(z9l n).free:=by
 apply List.ext_getElem?;intro i;simp only[z9l,List.getElem?_map];by_cases hi:i<n
 ·rw[h i hi];simp[hi]
 ·rw[Qx (by omega),Qx (by simpa using hi)];try rfl
theorem yc1{α:Type}{f:α->List Value}{g:α->Value}{e:TypeId}{H':Hp}{b:Nat}(hf:∀x,f x=[g x]){z:α}{c:Array Value}(hb:H b=none)(hH:H'=H.put b (.cells c e (0,0)))(hc:c=(Qq n.toNat [g z]).flatten.toArray) :
  Mine 1 f e H H' ⟨some ⟨b,0,none⟩,n.toNat,n.toNat⟩ (Qq n.toNat z):=by
 subst hH;exact .inr ⟨b,hb,Own.made hf hc⟩
theorem x3o :
  fN F.f110 #[vi n] H λv H'=>∃a b c:Slc,v=.tuple #[.agg #[a.v,b.v,c.v],vi (ygs n).2]/\z1f H H' a b c (ygs n).1:=by
 refine vc110 ⟨λhc=>⟨zs,zs,zs,?_,?_⟩,λhc=>?_⟩
 ·have:n<1\/n>200:=by simpa using hc
  rw[ygs,Zp this];try rfl
 ·have:n<1\/n>200:=by simpa using hc
  rw[ygs,Zp this];exact z1f.zero (Qg _)
 ·simp at hc;have hm:¬ (n<1\/n>200):=by omega
  rw[ygs,Zn hm];obtain⟨N,rfl⟩:∃N:Nat,n=N:=⟨n.toNat,by omega⟩;simp only[Qo];have ok1:ykb (N:Int) N 8:=⟨rfl,by omega,by omega⟩;refine⟨ok1,λb1 H2 hb1 hH2=>⟨⟨rfl,by omega,by omega⟩,λb3 H4 hb3 hH4=>⟨ok1,λb5 H6 hb5 hH6=>?_⟩⟩⟩;have m1:=yc1 (g:=λx=>vi x) (e:=3) hfI (n:=(N:Int)) (z:=0) hb1 hH2 rfl;have m2:=yc1 (g:=λx=>Value.bool x) (e:=4) hfB (n:=(N:Int)) (z:=false) hb3 hH4 rfl;have m3:=yc1 (g:=λx=>vi x) (e:=3) hfI (n:=(N:Int)) (z:=0) hb5 hH6 rfl;simp only[Qo] at m1 m2 m3;have l1:Qh H H2:=Qj (Qg _) hb1 hH2;have l2:Qh H2 H4:=Qj (Qg _) hb3 hH4;have l3:Qh H4 H6:=Qj (Qg _) hb5 hH6;have s12:=Sep.of m1.isOld m2.isNew;have s13:=Sep.of (m1.isOld.le l2) m3.isNew;have s23:=Sep.of m2.isOld m3.isNew;refine xb0 (N:=(N:Int)) (J:=λm H10=>Qh H H10/\Mine 1 fI 3 H H10 ⟨some ⟨b1,0,none⟩,N,N⟩ (Qq N 0)/\Mine 1 fB 4 H H10 ⟨some ⟨b3,0,none⟩,N,N⟩ (Qq N false) /\
   ∃ys:List Int,Mine 1 fI 3 H H10 ⟨some ⟨b5,0,none⟩,N,N⟩ ys/\ys.length=N/\∀i:Nat,i<m->ys[i]?=some ((N:Int)-1-i)) (by omega)
   ⟨Qi l1 (Qi l2 l3),(m1.le l2).le l3,(m2.low l1).le l3,_,(m3.low l2).low l1,by simp,λi hi=>by omega⟩ λm H10 h0 h1 ⟨j1,j2,j3,ys,j4,j5,j6⟩=>⟨λhm=>?_,λhm=>?_⟩
  ·have hm:m<N:=by simpa using hm
   refine⟨by unfold inI;omega,by unfold inI;omega,⟨h0,by omega,rfl⟩,j4.setI h0 (by omega) _ λH' m' ch=>xb0.nx h0 hm (by omega) ⟨Ql j1 ch m'.isNew,j2.chg ch s13,j3.chg ch s23,_,m',by simpa using j5,λi hi=>?_⟩⟩;rw[List.getElem?_set];by_cases e:m.toNat=i
   ·rw[Zp e,Zp (by omega)];congr 1;omega
   ·rw[Zn e];exact j6 i (by omega)
  ·have hm:m=N:=by have:¬ m<N:=by simpa using hm
                   omega
   subst hm;have e:=z9m j5 λi hi=>j6 i (by omega)
   subst e;exact⟨_,_,_,rfl,j1,j2,j3,j4,s12,s13,s23⟩
theorem x3n(h:RdT H u1 u2 u3 t)(hs:t.small) :
  qF F.f252 #[.agg #[u1.v,u2.v,u3.v],.agg #[vi i,vi u]] H (.tuple #[.bool (y45 t i u).1,vi (y45 t i u).2]):=by
 refine vc252 ⟨_,x3k h hs,λhc=>⟨?_,Qg _⟩,λhc=>?_⟩
 ·have hk:¬ okT t:=λok=>by rw[zmb ok] at hc;simp at hc
  rw[zma hk,y45,Zn hk]
 ·have ok:okT t:=zmc.1 (by simpa using hc);have l1:=h.used.len;have l2:=h.uses.len;have l3:=ok.len;refine h.used.ldcB (λhx=>by simp at hx;omega) (h.uses.ldcI (λhx=>by simp at hx;omega) ⟨?_,Qg _⟩);rw[y45,Zp ok];simp only[Tb.live,l1,l3]
theorem ywb(h:RdT H u1 u2 u3 t)(ok:okT t) :
  qF F.f148 #[.agg #[u1.v,u2.v,u3.v],.agg #[vi i,vi u]] H (.bool (t.live i u)):=by
 have l1:=h.used.len;have l2:=h.uses.len;have l3:=ok.len;refine vc148 (h.used.ldcB (λhx=>by simp at hx;omega) (h.uses.ldcI (λhx=>by simp at hx;omega) ⟨?_,Qg _⟩));simp only[Tb.live,l2]
theorem pop(h:RdI H s xs)(h0:0<xs.length)(hl:xs.length<=1000000) :
  fN F.f228 #[s.v] H λv H'=>∃u:Slc,v=.tuple #[u.v,vi (x9q xs)]/\Qh H H'/\Mine 1 fI 3 H H' u xs.dropLast:=by
 have ls:=h.len;have lc:=h.cap;have e:((s.n:Int)-1).toNat=xs.length-1:=by omega
 refine vc228 ⟨by unfold inI;omega,⟨by omega,by omega,by omega,by omega⟩,h.ldI (by omega) (by omega) ?_⟩;rw[x0z,e,List.dropLast_eq_take];exact(znz (h.cut (n:=xs.length-1) (c:=s.c) (by omega) (by omega)) (by simp;omega)).mono λv H' ⟨u,hv,hl,hm⟩=>⟨hl,u,hv,u,rfl,hl,hm⟩
theorem push{x:Int}(h:RdI H s xs)(hl:xs.length<=1000000) :
  fN F.f276 #[s.v,vi x] H λv H'=>∃u:Slc,v=u.v/\Qh H H'/\Mine 1 fI 3 H H' u (xs++[x]) :=
 vc276 ((znz h (by omega)).mono λv H2 ⟨u,hv,hl2,hm⟩=>⟨u,hv,λb4 H5 hb hH =>
  (z7b (k:=1) (f:=fI) (e:=3) (bytes:=8) (x:=x) (by kernel_rfl) (by decide) (λ_=>rfl) (λx v hv=>by simp[fI] at hv;subst hv;rfl) hl2 hm hb hH rfl (by omega) (by omega)).mono
   λv H' ⟨u',hv,g1,g2,g3,g4⟩=>⟨u',hv,u',rfl,g1,g2⟩⟩)
theorem x3p(h:RdT H u1 u2 u3 t)(hs:t.small) :
  fN F.f182 #[.agg #[u1.v,u2.v,u3.v]] H λv H'=>∃a b c:Slc,v=.tuple #[.agg #[a.v,b.v,c.v],.agg #[vi (x7q t).2.1,vi (x7q t).2.2.1],vi (x7q t).2.2.2]/\z1f H H' a b c (x7q t).1:=by
 refine vc182 ⟨_,x3k h hs,λhc=>?_,λhc=>?_⟩
 ·have hk:¬ okT t:=λok=>by rw[zmb ok] at hc;simp at hc
  rw[zma hk,x7q,Zn hk];exact⟨zs,zs,zs,rfl,z1f.zero (Qg _)⟩
 ·have ok:okT t:=zmc.1 (by simpa using hc);rw[x7q,Zp ok];have l3:=h.free.len;have lt:=ok.top;have lf:=ok.fl;have l2:=ok.len;refine⟨λh0=>?_,λh0=>?_⟩
  ·have:t.canTake=false:=by simp at h0;unfold Tb.canTake;rw[show t.free.length=0 by omega];try rfl
   rw[this];exact⟨zs,zs,zs,rfl,z1f.zero (Qg _)⟩
  ·have hf:0<t.free.length:=by simp at h0;omega
   obtain⟨r1,r2,r3⟩:=ok.topR hf;refine(pop h.free hf (by omega)).mono λv H3 ⟨u4,hv,le3,m4⟩=>⟨u4,_,hv,(h.uses.le le3).ldI r2 r3 ⟨λhu=>?_,λhu=>?_⟩⟩
   ·have:t.canTake=false:=by
     have:t.uses.getD (x9q t.free).toNat 0=1000000:=by simpa[-Qs] using hu
     unfold Tb.canTake;rw[this];simp
    rw[this];exact⟨zs,zs,zs,rfl,z1f.zero le3⟩
   ·have hu':t.uses.getD (x9q t.free).toNat 0≠1000000:=by simpa[-Qs] using hu
    have hbd:=ok.each (x9q t.free).toNat (by omega);have:t.canTake=true:=by unfold Tb.canTake;simp[-Qs];omega
    rw[this];refine(xa2 (h.le le3) hs).mono λv H8 ⟨a,b,hv,le8,ma,mb,sab⟩=>⟨a,b,u3,hv,mb.rdB.inS r2 (by omega),mb.setB r2 (by omega) true λH12 mb' chb=>?_⟩
    have ma':=ma.chg chb sab;refine ma'.rdI.ldI r2 r3 ⟨by unfold inI;have:=hbd.1;have:=hbd.2.1;omega,ma'.rdI.inS r2 r3,ma'.setI r2 r3 _ λH14 ma'' cha=>ma''.rdI.ldI r2 (by simpa using r3) ?_⟩;have mb'':=mb'.chg cha sab.symm;have m4':=m4.le le8;have sa4:Sep u4 a:=Sep.of m4.isOld ma.isNew;have sb4:Sep u4 b:=Sep.of m4.isOld mb.isNew;have m4'':=(m4'.chg chb sb4).chg cha sa4;have le14:Qh H3 H14:=Ql (Ql le8 chb mb.isNew) cha ma.isNew;refine⟨a,b,u4,?_,Qi le3 le14,ma''.low le3,mb''.low le3,m4'',sab,sa4.symm,sb4.symm⟩;simp only[if_true];rw[y2y (by omega),Zp rfl]
theorem x3m(h:RdT H u1 u2 u3 t)(hs:t.small) :
  fN F.f253 #[.agg #[u1.v,u2.v,u3.v],.agg #[vi i,vi u]] H λv H'=>∃a b c:Slc,v=.tuple #[.agg #[a.v,b.v,c.v],vi (y3i t i u).2]/\z1f H H' a b c (y3i t i u).1:=by
 refine vc253 ⟨_,_,x3n h hs,λhc=>?_,λhc=>?_⟩
 ·have hk:¬ okT t:=λok=>by rw[y45,Zp ok] at hc;simp at hc
  rw[y45,y3i,Zn hk,Zn hk];exact⟨zs,zs,zs,rfl,z1f.zero (Qg _)⟩
 ·have ok:okT t:=Classical.byContradiction λhk=>by rw[y45,Zn hk] at hc;simp at hc
  rw[y45,y3i,Zp ok,Zp ok];have lt:=ok.top;have lf:=ok.fl;have l2:=ok.len;refine⟨λh0=>?_,λh0=>?_⟩
  ·have:t.live i u=false:=by simpa using h0
   rw[this];exact⟨zs,zs,zs,rfl,z1f.zero (Qg _)⟩
  ·have hv:t.live i u=true:=by simpa using h0
   rw[hv];have hr:0<=i/\i<t.uses.length:=by unfold Tb.live at hv;simp at hv;omega
   refine(xa2 h hs).mono λv H4 ⟨a,b,hv,le4,ma,mb,sab⟩=>⟨a,b,u3,hv,(push (h.free.le le4) (by omega)).mono λv H9 ⟨c,hv,le9,mc⟩=>⟨le9,c,hv,(mb.rdB.le le9).inS hr.1 (by omega),(mb.le le9).setB hr.1 (by omega) false λH11 mb' chb=>?_⟩⟩
   have sac:=Sep.of ma.isOld mc.isNew;have sbc:=Sep.of mb.isOld mc.isNew;exact⟨a,b,c,rfl,Ql (Qi le4 le9) chb mb.isNew,(ma.le le9).chg chb sab,mb',(mc.low le4).chg chb sbc.symm,sab,sac,sbc⟩
end Go.Proofs.YtnhdkkblehadjaaGreat
end
section
open Go Go.Eng Go.Proofs
namespace Go.Proofs.YtnhdkkblehadjaaGreat
end Go.Proofs.YtnhdkkblehadjaaGreat
end
section
open Go Go.Eng Go.Proofs
namespace Go.Proofs.YtnhdkkblehadjaaGreat
