/- The engine, parts A, B, C, D, S1, S2, S3, S4, S5, put together. Conditions: none. -/
import Derived.Test.YtnhdkkblehadjabGreatE4
import Derived.Test.YtnhdkkblehadjabGreatVgStd
import Derived.Test.YtnhdkkblehadjabGreatFs
import Derived.Test.YtnhdkkblehadjabGreatVgSlot
set_option linter.unusedVariables false
section
/- Contracts of the small functions. Conditions: none. -/
open Go Go.Eng Go.Proofs
namespace Go.Proofs.YtnhdkkblehadjabGreat

theorem zmo{H:Hp}{s:Slc}{xs:List Int}(hs:RdI H s xs)(hl:xs.length<=1000000000) :
  Go.Eng.Fn Tryz.prog F.f27 #[s.v] H λv H'=>∃u:Slc,v=u.v/\Hp.le H H'/\Mine 1 fI 3 H H' u xs :=
 vc27 (zms (k:=1) (f:=fI) (bytes:=8) (by kernel_rfl) (by decide) (λ_=>rfl) hs (by omega) (by omega))

theorem zmr{H:Hp}{s:Slc}{xs:List Int}(hs:RdI H s xs)(hl:xs.length<=1000000000) :
  Go.Eng.Fn Tryz.prog F.f245 #[s.v] H λv H'=>∃u:Slc,v=u.v/\Hp.le H H'/\Mine 1 fI 3 H H' u xs :=
 vc245 (zms (k:=1) (f:=fI) (bytes:=8) (by kernel_rfl) (by decide) (λ_=>rfl) hs (by omega) (by omega))

theorem zmk{H:Hp}{s:Slc}{xs:List Bool}(hs:RdB H s xs)(hl:xs.length<=1000000000) :
  Go.Eng.Fn Tryz.prog F.f125 #[s.v] H λv H'=>∃u:Slc,v=u.v/\Hp.le H H'/\Mine 1 fB 4 H H' u xs :=
 vc125 (zms (k:=1) (f:=fB) (bytes:=1) (by kernel_rfl) (by decide) (λ_=>rfl) hs (by omega) (by omega))
end Go.Proofs.YtnhdkkblehadjabGreat
end
section
/- Contracts of pelotonref06. Conditions: none. -/
open Go Go.Eng Go.Proofs
namespace Go.Proofs.YtnhdkkblehadjabGreat

theorem x4d{α:Type}[BEq α][LawfulBEq α]{xs ys:List α}{n:Nat}{x y:α}(hx:xs[n]?=some x)(hy:ys[n]?=some y)(h:xs.take n=ys.take n):xs.take (n+1)=ys.take (n+1)↔x=y:=by
 rw[List.take_add_one,List.take_add_one,hx,hy,h];simp

end Go.Proofs.YtnhdkkblehadjabGreat
end
section
/- Contracts of slot.twin and pelotonref06.Twin,Same. Conditions: none. -/
open Go Go.Eng Go.Proofs
namespace Go.Proofs.YtnhdkkblehadjabGreat

theorem x65{H:Hp}{u1 u2 u3:Slc}{t:Tb}(h:RdT H u1 u2 u3 t)(hs:t.small) :
  Go.Eng.Fn Tryz.prog F.f217 #[.agg #[u1.v,u2.v,u3.v]] H λv H'=>∃a b:Slc,v=.agg #[a.v,b.v,u3.v]/\Hp.le H H'/\Mine 1 fI 3 H H' a t.uses/\Mine 1 fB 4 H H' b t.used/\Sep a b:=by
 obtain⟨s1,s2,s3⟩:=hs
 refine vc217 ((zmo h.uses (by omega)).mono λv H1 ⟨a,hv,hl,hm⟩=>⟨hl,a,hv,?_⟩)
 exact(zmk (h.used.le hl) (by omega)).mono λv H2 ⟨b,hv,hl2,hm2⟩=>⟨hl2,b,hv,a,b,rfl,Hp.le_trans hl hl2,hm.le hl2,hm2.low hl,Sep.of hm.isOld hm2.isNew⟩

end Go.Proofs.YtnhdkkblehadjabGreat
end
section
/- pelotonref06.Check. Conditions: none. -/
open Go Go.Eng Go.Proofs
namespace Go.Proofs.YtnhdkkblehadjabGreat

theorem yfq{l:List Int}{x:Int}(h:l.Nodup)(hx:x∉l):(l++[x]).Nodup:=by
 rw[List.nodup_append]
 exact⟨h,by simp,λa ha b hb e=>by simp at hb;subst hb;subst e;exact hx ha⟩

theorem yg2{l:List Int}{i:Nat}{x:Int}(hi:l[i]?=some x)(hx:x∈l.take i):¬ l.Nodup:=λh=>by
 have h2:(l.take (i+1)).Nodup:=h.sublist (List.take_sublist _ _)
 rw[x4c hi,List.nodup_append] at h2
 exact h2.2.2 x hx x (by simp) rfl

end Go.Proofs.YtnhdkkblehadjabGreat
end
section
/- Contracts of slot.Check and what it calls. Conditions: none. -/
open Go Go.Eng Go.Proofs
namespace Go.Proofs.YtnhdkkblehadjabGreat

theorem y42{H:Hp}{s:Slc}{xs:List Bool}{v:Bool}(h:RdB H s xs)(hl:xs.length<=1000000000) :
    Qf Tryz.prog F.f247 #[s.v,.bool v] H (.int .i64 (idx (λx=>v==x) xs)):=by
  have ls:=h.len
  refine vc247 (upto (N:=xs.length) (J:=λn=>∀y∈xs.take n.toNat,(v==y)=false) (by omega) (by simp) λn h0 h1 hJ=>⟨λhn=>?_,λhn=>⟨?_,Hp.le_refl _⟩⟩)
  · have hn:n<xs.length:=by have:n<s.n:=by simpa using hn
                            omega
    have hg:=zzw h0 hn
    refine h.ldB h0 hn ⟨λhv=>⟨?_,Hp.le_refl _⟩,λhv=>upto.nx h0 hn (by omega) ?_⟩
    · rw[y3k hg hv hJ,Int.toNat_of_nonneg h0]
    · have e:(n+1).toNat=n.toNat+1:=by omega
      rw[e,x4c hg]
      intro y hy
      rcases List.mem_append.1 hy with hy|hy
      · exact hJ y hy
      · simp only[List.mem_singleton] at hy;subst hy;exact hv
  · have:n=xs.length:=by have:¬ n<s.n:=by simpa using hn
                         omega
    subst this
    rw[Int.toNat_natCast,List.take_length] at hJ
    rw[y3m hJ]

theorem zpf{H:Hp}{s:Slc}{xs:List Bool}{v:Bool}(h:RdB H s xs)(hl:xs.length<=1000000000) :
  Qf Tryz.prog F.f221 #[s.v,.bool v] H (.bool (xs.any λx=>v==x)) :=
 vc221 ⟨_,y42 h hl,by rw[← y3j],Hp.le_refl _⟩

theorem y40{H:Hp}{s:Slc}{xs:List Int}{fv:Value}{J:Int->Hp->Prop}{post:Value->Hp->Prop}(hl:xs.length<=1000000000)(hr:∀n H',J n H'->RdI H' s xs)(j0:J 0 H)
    (hb:∀(n:Int) H',0<=n->n<xs.length->J n H'->FnV Tryz.prog fv [.int .i64 (xs.getD n.toNat 0)] H' λv H7=>∃c:Bool,v=.bool c/\(c=true->post (.int .i64 n) H7)/\(c=false->J (n+1) H7))
    (he:∀H',J xs.length H'->post (.int .i64 (-1)) H'):Go.Eng.Fn Tryz.prog F.f246 #[s.v,fv] H post:=by
  have ls:=(hr 0 H j0).len
  refine vc246 (x73 (N:=xs.length) (J:=J) (by omega) j0 λn H' h0 h1 hJ=>⟨λhn=>?_,λhn=>?_⟩)
  · have hn:n<xs.length:=by have:n<s.n:=by simpa using hn
                            omega
    exact(hr n H' hJ).ldI h0 hn ((hb n H' h0 hn hJ).mono λv H7 ⟨c,hv,hc,hc'⟩=>⟨c,hv,hc,λx=>x73.nx h0 hn (by omega) (hc' x)⟩)
  · have:n=xs.length:=by have:¬ n<s.n:=by simpa using hn
                         omega
    subst this
    exact he H' hJ

theorem zpe{H:Hp}{s:Slc}{xs:List Int}{fv:Value}{J:Int->Hp->Prop}{post:Value->Hp->Prop}(hl:xs.length<=1000000000)(hr:∀n H',J n H'->RdI H' s xs)(j0:J 0 H)
  (hb:∀(n:Int) H',0<=n->n<xs.length->J n H'->FnV Tryz.prog fv [.int .i64 (xs.getD n.toNat 0)] H' λv H7=>∃c:Bool,v=.bool c/\(c=true->post (.bool true) H7)/\(c=false->J (n+1) H7))
  (he:∀H',J xs.length H'->post (.bool false) H'):Go.Eng.Fn Tryz.prog F.f219 #[s.v,fv] H post:=by
 refine vc219 (y40 (J:=J) hl hr j0 (λn H' h0 h1 hJ=>(hb n H' h0 h1 hJ).mono λv H7 ⟨c,hv,hc,hc'⟩=>⟨c,hv,λx=>⟨n,rfl,?_⟩,hc'⟩) λH' hJ=>⟨-1,rfl,he H' hJ⟩)
 have:decide (n>=0)=true:=by simp;exact h0
 rw[this];exact hc x

theorem yyv{H:Hp}{b1 b2:Nat}{n i:Int}{u:Slc}{mk:List Bool}{H0:Hp}(h1:Var H b1 (.int .i64 n) 3)(h2:Var H b2 u.v 34)(hm:Mine 1 fB 4 H0 H u mk)(hn:n=mk.length){post:Value->Hp->Prop}
  (hbad:(i<0\/n<=i\/mk.getD i.toNat false=true)->post (.bool true) H)
  (hgood:0<=i->i<n->mk.getD i.toNat false=false->∀H',Mine 1 fB 4 H0 H' u (mk.set i.toNat true)->Chg H H' u->post (.bool false) H') :
  Go.Eng.Fn Tryz.prog F.f220 #[.int .i64 i,.pointer (some ⟨b1,0,none⟩),.pointer (some ⟨b2,0,none⟩)] H post:=by
 refine vc220 ⟨n,λ_=>h1.at,u,λ_=>h2.at,?_⟩
 refine hm.rdB.ldcB (λhc=>by simp at hc;omega) ⟨λhc=>hbad ?_,λhc=>?_⟩
 ·simp at hc
  rcases hc with(hc|hc)|hc
  ·exact .inl hc
  ·exact .inr (.inl hc)
  ·exact .inr (.inr (by simpa using hc))
 ·simp at hc
  obtain⟨⟨c1,c2⟩,c3⟩:=hc
  refine⟨u,h2.at,hm.rdB.inS c1 (by omega),hm.setB c1 (by omega) true λH' m c=>hgood c1 c2 (by simpa using c3) H' m c⟩

def z15(t:Tb)(mk:List Bool)(l:List Int):Prop:=mk.length=t.used.length/\∀i:Nat,i<t.used.length->(mk.getD i false=true↔t.used.getD i false=true\/(i:Int)∈l)

theorem yyu{H:Hp}{u1 u2 u3:Slc}{t:Tb}(h:RdT H u1 u2 u3 t)(hs:t.small) :
  Qf Tryz.prog F.f178 #[.agg #[u1.v,u2.v,u3.v]] H (.int .i64 (chk t)):=by
 obtain⟨s1,s2,s3⟩:=hs
 have l1:=h.uses.len
 have l2:=h.used.len
 have l3:=h.free.len
 refine vc178 λb1 H2 hb1 hH2=>(Var.new hH2).set _ λH3 hH3=>?_
 have v1:Var H3 b1 (.int .i64 u1.n) 3:=Var.new hH3
 have le3:Hp.le H H3:=by subst hH3;exact Hp.le_put (Hp.le_new (Hp.le_refl _) hb1 hH2) hb1
 refine⟨_,v1.at,_,λ_=>v1.at,_,λ_=>v1.at,λhc=>⟨?_,le3⟩,λhc=>?_⟩
 ·rw[zl6]
  intro ok
  have:=ok.pos;have:=ok.top;have:=ok.len
  simp at hc
  omega
 ·simp at hc
  refine(zmk (h.used.le le3) (by omega)).mono λv H8 ⟨u9,hv,le8,m8⟩=>⟨u9,hv,λb10 H11 hb10 hH11=>(Var.new hH11).set _ λH12 hH12=>?_⟩
  have le12:Hp.le H8 H12:=by subst hH12;exact Hp.le_put (Hp.le_new (Hp.le_refl _) hb10 hH11) hb10
  have v2:Var H12 b10 u9.v 34:=Var.new hH12
  have ne1:∀p,u9.a=some p->p.block≠b1:=λp hp e=>by
   have:=m8.isNew p hp;rw[e] at this;rw[v1] at this;cases this
  have ne2:∀p,u9.a=some p->p.block≠b10:=λp hp e=>m8.isOld p hp (by rw[e];exact hb10)
  have hcf:=zpe (H:=H12) (s:=u3) (xs:=t.free) (fv:=.func (.func F.f220) #[] #[.pointer (some ⟨b1,0,none⟩),.pointer (some ⟨b10,0,none⟩)])
   (J:=λn H'=>Hp.le H H'/\Var H' b1 (.int .i64 u1.n) 3/\Var H' b10 u9.v 34/\(∀x∈t.free.take n.toNat,0<=x/\x<t.uses.length)/\(t.free.take n.toNat).Nodup/\(∀x∈t.free.take n.toNat,t.used.getD x.toNat false=false)/\∃mk,z15 t mk (t.free.take n.toNat)/\Mine 1 fB 4 H3 H' u9 mk)
   (post:=λv H'=>Hp.le H H'/\((v=.bool true/\chk t=8)\/(v=.bool false/\Var H' b10 u9.v 34/\(∀x∈t.free,0<=x/\x<t.uses.length)/\t.free.Nodup/\(∀x∈t.free,t.used.getD x.toNat false=false)/\∃mk,z15 t mk t.free/\Mine 1 fB 4 H3 H' u9 mk)))
   (by omega) (λn H' hj=>h.free.le hj.1) ⟨Hp.le_trans le3 (Hp.le_trans le8 le12),(v1.le le8).le le12,v2,by simp,by simp,by simp,t.used,⟨rfl,λi hi=>by simp⟩,m8.le le12⟩ ?_ ?_
  ·refine hcf.mono λv H14 ⟨le14,hp⟩=>?_
   rcases hp with⟨rfl,hk⟩|⟨rfl,w2,i3,i4,i5,mk,i6,i7⟩
   ·refine⟨true,rfl,u9,λhx=>by simp at hx,true,λhx=>by simp at hx,λ_=>⟨?_,le14⟩,λhx=>by simp at hx⟩
    rw[hk]
   ·have hmk:=i7.rdB
    refine⟨false,rfl,u9,λ_=>w2.at,_,λ_=>zpf hmk (by rw[i6.1];omega),λhx=>⟨?_,le14⟩,λhx=>?_⟩
    ·rw[zl6]
     intro ok
     simp only[Bool.false_or,List.any_eq_true,beq_iff_eq] at hx
     obtain⟨c,hc1,hc2⟩:=hx
     subst hc2
     obtain⟨i,hi⟩:=List.mem_iff_getElem?.1 hc1
     have hlt:i<mk.length:=(List.getElem?_eq_some_iff.1 hi).1
     have hn:mk.getD i false=false:=by rw[List.getD_eq_getElem?_getD,hi];try rfl
     have:=i6.2 i (by rw[← i6.1];exact hlt)
     have hor:t.used.getD i false=true\/(i:Int)∈t.free:=by
      rcases Decidable.em ((i:Int)∈t.free) with hm|hm
      ·exact .inr hm
      ·exact .inl ((ok.each i (by have:=ok.len;have:=i6.1;omega)).2.2.1.2 hm)
     rw[hn] at this
     exact absurd (this.2 hor) (by simp)
    ·simp only[Bool.false_or,List.any_eq_false,beq_iff_eq] at hx
     have hall:∀i:Nat,i<t.uses.length->(t.used.getD i false=true↔(i:Int)∉t.free):=λi hi=>by
      have hlt:i<mk.length:=by have:=i6.1;omega
      have hm:mk.getD i false=true:=by
       rw[List.getD_eq_getElem?_getD,List.getElem?_eq_getElem hlt]
       have:=hx _ (List.getElem_mem hlt)
       simpa using this
      have hor:=(i6.2 i (by omega)).1 hm
      constructor
      ·intro hd hf
       have:=i5 _ hf
       rw[Int.toNat_natCast,hd] at this;cases this
      ·intro hf
       exact hor.resolve_right hf
     refine upto (N:=t.uses.length) (J:=λm=>∀i:Nat,i<m->0<=t.uses.getD i 0/\t.uses.getD i 0<=1000000/\(t.used.getD i false=true->1<=t.uses.getD i 0)) (by omega) (λi hi=>by omega) λm j1 j2 j3=>⟨λhm=>?_,λhm=>⟨?_,le14⟩⟩
     ·have hm:m<t.uses.length:=by have:m<u1.n:=by simpa using hm
                                  omega
      refine(h.uses.le le14).ldI j1 hm ((h.used.le le14).ldcB (λ_=>⟨j1,by omega⟩) ⟨λhb=>⟨?_,le14⟩,λhb=>upto.nx j1 hm (by omega) λi hi=>?_⟩)
      ·rw[zl6]
       intro ok
       obtain⟨k1,k2,k3,k4⟩:=ok.each m.toNat (by omega)
       skip
       simp only[Bool.or_eq_true,decide_eq_true_eq,beq_iff_eq,Bool.and_eq_true] at hb
       rcases hb with(hb|hb)|hb
       ·omega
       ·omega
       ·have:=k4 hb.2;omega
      ·rcases Nat.lt_or_ge i m.toNat with hlt|hge
       ·exact j3 i (by omega)
       ·have e:i=m.toNat:=by omega
        subst e
        simp only[Bool.or_eq_false_iff,decide_eq_false_iff_not,Bool.and_eq_false_imp] at hb
        obtain⟨⟨q1,q2⟩,q3⟩:=hb
        skip
        refine⟨by omega,by omega,λhd=>?_⟩
        rcases Int.lt_or_le 0 (t.uses.getD m.toNat 0) with h'|h'
        ·omega
        ·have:=q3 (by rw[beq_iff_eq];omega)
         rw[hd] at this;cases this
     ·have hm:m=t.uses.length:=by have:¬ m<u1.n:=by simpa using hm
                                  omega
      subst hm
      rw[zl7]
      exact⟨by omega,by omega,by omega,i3,i4,λi hi=>⟨(j3 i (by omega)).1,(j3 i (by omega)).2.1,hall i hi,(j3 i (by omega)).2.2⟩⟩
  ·intro n H' h0 hn ⟨i2,w1,w2,i3,i4,i5,mk,i6,i7⟩
   have hg:=y0g h0 hn
   have hmem:t.free.getD n.toNat 0∈t.free:=List.mem_of_getElem? hg
   generalize hx:t.free.getD n.toNat 0=x at hg hmem ⊢
   have e1:(n+1).toNat=n.toNat+1:=by omega
   refine⟨F.f220,#[],_,rfl,cb220,?_⟩
   refine yyv w1 w2 i7 (by rw[i6.1];omega) (λhb=>⟨true,rfl,λ_=>⟨i2,.inl ⟨rfl,?_⟩⟩,λhx=>(by cases hx)⟩) λc0 c1 c2 H7 m7 ch=>⟨false,rfl,λhx=>(by cases hx),λ_=>?_⟩
   ·rw[zl6]
    intro ok
    have hr:=ok.rng x hmem
    rcases hb with hb|hb|hb
    ·omega
    ·omega
    ·rcases(i6.2 x.toNat (by omega)).1 hb with hd|hd
     ·have:=(ok.each x.toNat (by omega)).2.2.1.1 hd
      rw[Int.toNat_of_nonneg hr.1] at this;exact this hmem
     ·rw[Int.toNat_of_nonneg hr.1] at hd
      exact yg2 hg hd ok.nod
   ·have hnm:¬ (t.used.getD x.toNat false=true\/(x.toNat:Int)∈t.free.take n.toNat):=λhor=>by
     have:=(i6.2 x.toNat (by omega)).2 hor
     rw[c2] at this;cases this
    rw[Int.toNat_of_nonneg c0] at hnm
    rw[e1,x4c hg]
    refine⟨Hp.le_chg i2 ch ((m8.isNew).low le3),w1.chg ch ne1,w2.chg ch ne2,λy hy=>?_,yfq i4 λhx=>hnm (.inr hx),λy hy=>?_,_,⟨by simpa using i6.1,λi hi=>?_⟩,m7⟩
    ·rcases List.mem_append.1 hy with hy|hy
     ·exact i3 y hy
     ·simp at hy;subst hy;exact⟨c0,by omega⟩
    ·rcases List.mem_append.1 hy with hy|hy
     ·exact i5 y hy
     ·simp at hy;subst hy
      cases hd:t.used.getD y.toNat false with
      | false=>rfl
      | true=>exact absurd (.inl hd) hnm
    ·rw[y08 (by rw[i6.1];omega)]
     by_cases e:x.toNat=i
     ·rw[if_pos e];simp;right;right;omega
     ·rw[if_neg e,i6.2 i hi,List.mem_append,List.mem_singleton]
      exact⟨λh=>h.elim .inl λh=>.inr (.inl h),λh=>h.elim .inl λh=>.inr (h.resolve_right (by omega))⟩
  ·intro H' ⟨i2,w1,w2,i3,i4,i5,mk,i6,i7⟩
   rw[Int.toNat_natCast,List.take_length] at i3 i4 i5 i6
   exact⟨i2,.inr ⟨rfl,w2,i3,i4,i5,mk,i6,i7⟩⟩
end Go.Proofs.YtnhdkkblehadjabGreat
end
section
/- Contracts of slot.New,Has,Take,Give,z23 and of the same ones of pelotonref06. Conditions: none. -/
open Go Go.Eng Go.Proofs
namespace Go.Proofs.YtnhdkkblehadjabGreat

theorem z9p{n:Nat}{ys:List Int}(hl:ys.length=n)(h:∀i:Nat,i<n->ys[i]?=some ((n:Int)-1-i)):ys=(z9o n).free:=by
 apply List.ext_getElem?
 intro i
 simp only[z9o,List.getElem?_map]
 by_cases hi:i<n
 ·rw[h i hi];simp[hi]
 ·rw[List.getElem?_eq_none (by omega),List.getElem?_eq_none (by simpa using hi)];try rfl

theorem y8x{α:Type}{f:α->List Value}{g:α->Value}{e:TypeId}{H H':Hp}{b:Nat}(hf:∀x,f x=[g x]){n:Int}{z:α}{c:Array Value}(hb:H b=none)(hH:H'=H.put b (.cells c e (0,0)))(hc:c=(List.replicate n.toNat [g z]).flatten.toArray) :
  Mine 1 f e H H' ⟨some ⟨b,0,none⟩,n.toNat,n.toNat⟩ (List.replicate n.toNat z):=by
 subst hH
 exact .inr ⟨b,hb,Own.made hf hc⟩

theorem yyy{H:Hp}{n:Int} :
  Go.Eng.Fn Tryz.prog F.f108 #[.int .i64 n] H λv H'=>∃a b c:Slc,v=.tuple #[.agg #[a.v,b.v,c.v],.int .i64 (ydn n).2]/\z1g H H' a b c (ydn n).1:=by
 refine vc108 ⟨λhc=>⟨zs,zs,zs,?_,?_⟩,λhc=>?_⟩
 ·have:n<1\/n>200:=by simpa using hc
  rw[ydn,if_pos this];try rfl
 ·have:n<1\/n>200:=by simpa using hc
  rw[ydn,if_pos this];exact z1g.zero (Hp.le_refl _)
 ·simp at hc
  have hm:¬ (n<1\/n>200):=by omega
  rw[ydn,if_neg hm]
  obtain⟨N,rfl⟩:∃N:Nat,n=N:=⟨n.toNat,by omega⟩
  simp only[Int.toNat_natCast]
  have ok1:yh8 (N:Int) N 8:=⟨rfl,by omega,by omega⟩
  refine⟨ok1,λb1 H2 hb1 hH2=>⟨⟨rfl,by omega,by omega⟩,λb3 H4 hb3 hH4=>⟨ok1,λb5 H6 hb5 hH6=>?_⟩⟩⟩
  have m1:=y8x (g:=λx=>Value.int .i64 x) (e:=3) hfI (n:=(N:Int)) (z:=0) hb1 hH2 rfl
  have m2:=y8x (g:=λx=>Value.bool x) (e:=4) hfB (n:=(N:Int)) (z:=false) hb3 hH4 rfl
  have m3:=y8x (g:=λx=>Value.int .i64 x) (e:=3) hfI (n:=(N:Int)) (z:=0) hb5 hH6 rfl
  simp only[Int.toNat_natCast] at m1 m2 m3
  have l1:Hp.le H H2:=Hp.le_new (Hp.le_refl _) hb1 hH2
  have l2:Hp.le H2 H4:=Hp.le_new (Hp.le_refl _) hb3 hH4
  have l3:Hp.le H4 H6:=Hp.le_new (Hp.le_refl _) hb5 hH6
  have s12:=Sep.of m1.isOld m2.isNew
  have s13:=Sep.of (m1.isOld.le l2) m3.isNew
  have s23:=Sep.of m2.isOld m3.isNew
  refine x73 (N:=(N:Int)) (J:=λm H10=>Hp.le H H10/\Mine 1 fI 3 H H10 ⟨some ⟨b1,0,none⟩,N,N⟩ (List.replicate N 0)/\Mine 1 fB 4 H H10 ⟨some ⟨b3,0,none⟩,N,N⟩ (List.replicate N false) /\
   ∃ys:List Int,Mine 1 fI 3 H H10 ⟨some ⟨b5,0,none⟩,N,N⟩ ys/\ys.length=N/\∀i:Nat,i<m->ys[i]?=some ((N:Int)-1-i)) (by omega)
   ⟨Hp.le_trans l1 (Hp.le_trans l2 l3),(m1.le l2).le l3,(m2.low l1).le l3,_,(m3.low l2).low l1,by simp,λi hi=>by omega⟩ λm H10 h0 h1 ⟨j1,j2,j3,ys,j4,j5,j6⟩=>⟨λhm=>?_,λhm=>?_⟩
  ·have hm:m<N:=by simpa using hm
   refine⟨by unfold inI;omega,by unfold inI;omega,⟨h0,by omega,rfl⟩,j4.setI h0 (by omega) _ λH' m' ch=>x73.nx h0 hm (by omega) ⟨Hp.le_chg j1 ch m'.isNew,j2.chg ch s13,j3.chg ch s23,_,m',by simpa using j5,λi hi=>?_⟩⟩
   rw[List.getElem?_set]
   by_cases e:m.toNat=i
   ·rw[if_pos e,if_pos (by omega)];congr 1;omega
   ·rw[if_neg e];exact j6 i (by omega)
  ·have hm:m=N:=by have:¬ m<N:=by simpa using hm
                   omega
   subst hm
   have e:=z9p j5 λi hi=>j6 i (by omega)
   subst e
   exact⟨_,_,_,rfl,j1,j2,j3,j4,s12,s13,s23⟩

theorem yyx{H:Hp}{u1 u2 u3:Slc}{t:Tb}{i u:Int}(h:RdT H u1 u2 u3 t)(hs:t.small) :
  Qf Tryz.prog F.f248 #[.agg #[u1.v,u2.v,u3.v],.agg #[.int .i64 i,.int .i64 u]] H (.tuple #[.bool (y1y t i u).1,.int .i64 (y1y t i u).2]):=by
 refine vc248 ⟨_,yyu h hs,λhc=>⟨?_,Hp.le_refl _⟩,λhc=>?_⟩
 ·have hk:¬ okT t:=λok=>by rw[zl7 ok] at hc;simp at hc
  rw[zl6 hk,y1y,if_neg hk]
 ·have ok:okT t:=zl8.1 (by simpa using hc)
  have l1:=h.used.len
  have l2:=h.uses.len
  have l3:=ok.len
  refine h.used.ldcB (λhx=>by simp at hx;omega) (h.uses.ldcI (λhx=>by simp at hx;omega) ⟨?_,Hp.le_refl _⟩)
  rw[y1y,if_pos ok]
  simp only[Tb.live,l1,l3]

theorem pop{H:Hp}{s:Slc}{xs:List Int}(h:RdI H s xs)(h0:0<xs.length)(hl:xs.length<=1000000) :
  Go.Eng.Fn Tryz.prog F.f216 #[s.v] H λv H'=>∃u:Slc,v=.tuple #[u.v,.int .i64 (x5u xs)]/\Hp.le H H'/\Mine 1 fI 3 H H' u xs.dropLast:=by
 have ls:=h.len
 have lc:=h.cap
 have e:((s.n:Int)-1).toNat=xs.length-1:=by omega
 refine vc216 ⟨by unfold inI;omega,⟨by omega,by omega,by omega,by omega⟩,h.ldI (by omega) (by omega) ?_⟩
 rw[ywl,e,List.dropLast_eq_take]
 exact(zmr (h.cut (n:=xs.length-1) (c:=s.c) (by omega) (by omega)) (by simp;omega)).mono λv H' ⟨u,hv,hl,hm⟩=>⟨hl,u,hv,u,rfl,hl,hm⟩

theorem push{H:Hp}{s:Slc}{xs:List Int}{x:Int}(h:RdI H s xs)(hl:xs.length<=1000000) :
  Go.Eng.Fn Tryz.prog F.f257 #[s.v,.int .i64 x] H λv H'=>∃u:Slc,v=u.v/\Hp.le H H'/\Mine 1 fI 3 H H' u (xs++[x]) :=
 vc257 ((zmr h (by omega)).mono λv H2 ⟨u,hv,hl2,hm⟩=>⟨u,hv,λb4 H5 hb hH =>
  (z78 (k:=1) (f:=fI) (e:=3) (bytes:=8) (x:=x) (by kernel_rfl) (by decide) (λ_=>rfl) (λx v hv=>by simp[fI] at hv;subst hv;rfl) hl2 hm hb hH rfl (by omega) (by omega)).mono
   λv H' ⟨u',hv,g1,g2,g3,g4⟩=>⟨u',hv,u',rfl,g1,g2⟩⟩)

theorem yyz{H:Hp}{u1 u2 u3:Slc}{t:Tb}(h:RdT H u1 u2 u3 t)(hs:t.small) :
  Go.Eng.Fn Tryz.prog F.f175 #[.agg #[u1.v,u2.v,u3.v]] H λv H'=>∃a b c:Slc,v=.tuple #[.agg #[a.v,b.v,c.v],.agg #[.int .i64 (x3r t).2.1,.int .i64 (x3r t).2.2.1],.int .i64 (x3r t).2.2.2]/\z1g H H' a b c (x3r t).1:=by
 refine vc175 ⟨_,yyu h hs,λhc=>?_,λhc=>?_⟩
 ·have hk:¬ okT t:=λok=>by rw[zl7 ok] at hc;simp at hc
  rw[zl6 hk,x3r,if_neg hk]
  exact⟨zs,zs,zs,rfl,z1g.zero (Hp.le_refl _)⟩
 ·have ok:okT t:=zl8.1 (by simpa using hc)
  rw[x3r,if_pos ok]
  have l3:=h.free.len
  have lt:=ok.top
  have lf:=ok.fl
  have l2:=ok.len
  refine⟨λh0=>?_,λh0=>?_⟩
  ·have:t.canTake=false:=by simp at h0;unfold Tb.canTake;rw[show t.free.length=0 by omega];try rfl
   rw[this]
   exact⟨zs,zs,zs,rfl,z1g.zero (Hp.le_refl _)⟩
  ·have hf:0<t.free.length:=by simp at h0;omega
   obtain⟨r1,r2,r3⟩:=ok.topR hf
   refine(pop h.free hf (by omega)).mono λv H3 ⟨u4,hv,le3,m4⟩=>⟨u4,_,hv,(h.uses.le le3).ldI r2 r3 ⟨λhu=>?_,λhu=>?_⟩⟩
   ·have:t.canTake=false:=by
     have:t.uses.getD (x5u t.free).toNat 0=1000000:=by simpa[-List.getD_eq_getElem?_getD] using hu
     unfold Tb.canTake;rw[this];simp
    rw[this]
    exact⟨zs,zs,zs,rfl,z1g.zero le3⟩
   ·have hu':t.uses.getD (x5u t.free).toNat 0≠1000000:=by simpa[-List.getD_eq_getElem?_getD] using hu
    have hbd:=ok.each (x5u t.free).toNat (by omega)
    have:t.canTake=true:=by unfold Tb.canTake;simp[-List.getD_eq_getElem?_getD];omega
    rw[this]
    refine(x65 (h.le le3) hs).mono λv H8 ⟨a,b,hv,le8,ma,mb,sab⟩=>⟨a,b,u3,hv,mb.rdB.inS r2 (by omega),mb.setB r2 (by omega) true λH12 mb' chb=>?_⟩
    have ma':=ma.chg chb sab
    refine ma'.rdI.ldI r2 r3 ⟨by unfold inI;have:=hbd.1;have:=hbd.2.1;omega,ma'.rdI.inS r2 r3,ma'.setI r2 r3 _ λH14 ma'' cha=>ma''.rdI.ldI r2 (by simpa using r3) ?_⟩
    have mb'':=mb'.chg cha sab.symm
    have m4':=m4.le le8
    have sa4:Sep u4 a:=Sep.of m4.isOld ma.isNew
    have sb4:Sep u4 b:=Sep.of m4.isOld mb.isNew
    have m4'':=(m4'.chg chb sb4).chg cha sa4
    have le14:Hp.le H3 H14:=Hp.le_chg (Hp.le_chg le8 chb mb.isNew) cha ma.isNew
    refine⟨a,b,u4,?_,Hp.le_trans le3 le14,ma''.low le3,mb''.low le3,m4'',sab,sa4.symm,sb4.symm⟩
    simp only[if_true]
    rw[y08 (by omega),if_pos rfl]

theorem yyw{H:Hp}{u1 u2 u3:Slc}{t:Tb}{i u:Int}(h:RdT H u1 u2 u3 t)(hs:t.small) :
  Go.Eng.Fn Tryz.prog F.f249 #[.agg #[u1.v,u2.v,u3.v],.agg #[.int .i64 i,.int .i64 u]] H λv H'=>∃a b c:Slc,v=.tuple #[.agg #[a.v,b.v,c.v],.int .i64 (y0s t i u).2]/\z1g H H' a b c (y0s t i u).1:=by
 refine vc249 ⟨_,_,yyx h hs,λhc=>?_,λhc=>?_⟩
 ·have hk:¬ okT t:=λok=>by rw[y1y,if_pos ok] at hc;simp at hc
  rw[y1y,y0s,if_neg hk,if_neg hk]
  exact⟨zs,zs,zs,rfl,z1g.zero (Hp.le_refl _)⟩
 ·have ok:okT t:=Classical.byContradiction λhk=>by rw[y1y,if_neg hk] at hc;simp at hc
  rw[y1y,y0s,if_pos ok,if_pos ok]
  have lt:=ok.top
  have lf:=ok.fl
  have l2:=ok.len
  refine⟨λh0=>?_,λh0=>?_⟩
  ·have:t.live i u=false:=by simpa using h0
   rw[this]
   exact⟨zs,zs,zs,rfl,z1g.zero (Hp.le_refl _)⟩
  ·have hv:t.live i u=true:=by simpa using h0
   rw[hv]
   have hr:0<=i/\i<t.uses.length:=by unfold Tb.live at hv;simp at hv;omega
   refine(x65 h hs).mono λv H4 ⟨a,b,hv,le4,ma,mb,sab⟩=>⟨a,b,u3,hv,(push (h.free.le le4) (by omega)).mono λv H9 ⟨c,hv,le9,mc⟩=>⟨le9,c,hv,(mb.rdB.le le9).inS hr.1 (by omega),(mb.le le9).setB hr.1 (by omega) false λH11 mb' chb=>?_⟩⟩
   have sac:=Sep.of ma.isOld mc.isNew
   have sbc:=Sep.of mb.isOld mc.isNew
   exact⟨a,b,c,rfl,Hp.le_chg (Hp.le_trans le4 le9) chb mb.isNew,(ma.le le9).chg chb sab,mb',(mc.low le4).chg chb sbc.symm,sab,sac,sbc⟩

end Go.Proofs.YtnhdkkblehadjabGreat
end
section
/- The law SlotDoes,and the chapter's examples. Conditions: none. -/
open Go Go.Eng Go.Proofs
namespace Go.Proofs.YtnhdkkblehadjabGreat

end Go.Proofs.YtnhdkkblehadjabGreat
end
section
/- The laws SlotFinds,SlotBack,SlotFull. Conditions: none. -/
open Go Go.Eng Go.Proofs
namespace Go.Proofs.YtnhdkkblehadjabGreat


end Go.Proofs.YtnhdkkblehadjabGreat
end
