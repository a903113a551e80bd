/- The engine, parts L8, L9, LA, put together. Conditions: none. -/
import Derived.Test.YtnhdkkblehadjaaGreatPL1
open Bool renaming or_eq_false_iff->Qa,true_and->Qb,not_eq_false'->Qc
open Go.Eng.Hp renaming le->Qd,le_trans->Qe,le_refl->Qg
open List renaming drop_eq_nil_of_le->Qh
set_option linter.unusedVariables false
section
set_option maxRecDepth 100000
open Go Go.Eng Go.Proofs
namespace Go.Proofs.YtnhdkkblehadjaaGreat
variable{H H0:Hp}{c:Ck}{s:Slc}{e:TypeId}{a:Ag}{n:Int}{t:Int×Int}
theorem zny{xs:List Pt}(hs:Rd 3 fD H s xs)(hl:xs.length<=1000000000) :
  fN F.f61 #[s.v] H λv H'=>∃u:Slc,v=u.v/\Qd H H'/\Mine 3 fD T.api_Point H H' u xs :=
 vc61 (zo0 (k:=3) (f:=fD) (bytes:=24) (by kernel_rfl) (by decide) (λ_=>rfl) hs (by omega) (by omega))
theorem znt{xs:List (Int×Int×Int)}(hs:Rd 3 fD H s xs)(hl:xs.length<=1000000000) :
  fN F.f130 #[s.v] H λv H'=>∃u:Slc,v=u.v/\Qd H H'/\Mine 3 fD T.api_Due H H' u xs :=
 vc130 (zo0 (k:=3) (f:=fD) (bytes:=24) (by kernel_rfl) (by decide) (λ_=>rfl) hs (by omega) (by omega))
def Off(b:Nat)(H H':Hp):Prop:=∀c,c≠b->H' c=H c
theorem zay{b i:Nat}{cs cs':Array Value}{T:TypeId}{v:Value}(h:Cel H b cs T)(hi:i<cs.size)(e:cs.setIfInBounds i v=cs'){Q:Hp->Prop}(q:∀H',Cel H' b cs' T->Off b H H'->Q H') :
  H.canStore ⟨b,i,none⟩ 0 [v]/\∀H',H'=H.store ⟨b,i,none⟩ 0 [v]->Q H' :=
 ⟨h.can hi v,λH' e'=>by
  subst e';rw[h.store,e];exact q _ Cel.put λc hc=>by simp[Hp.put,hc]⟩
theorem Off.le{b:Nat}{H0 H H':Hp}(o:Off b H H')(hb:H0 b=none)(l:Qd H0 H):Qd H0 H':=λc x hc=>by
 have:c≠b:=λe=>by subst e;rw[hb] at hc;cases hc
 rw[o c this];exact l c x hc
structure Kp{α:Type}(b:Nat)(k:Nat)(f:α->List Value)(H:Hp)(u:Slc)(xs:List α):Prop where
 rd:Rd k f H u xs
 sep:∀p,u.a=some p->p.block≠b
 old:Old H u
section
variable{α:Type}{b k:Nat}{f:α->List Value}{H H':Hp}{u:Slc}{xs:List α}
theorem Kp.le(h:Kp b k f H u xs)(l:Qd H H'):Kp b k f H' u xs:=⟨h.rd.le l,h.sep,h.old.le l⟩
theorem Kp.off(h:Kp b k f H u xs)(o:Off b H H'):Kp b k f H' u xs :=
 ⟨h.rd.chg (v:=⟨some ⟨b,0,none⟩,0,0⟩) (λc _ hc=>o c λe=>hc _ rfl (by rw[e])) (λp q hp hq e=>by cases hq;exact h.sep p hp e),h.sep,λp hp=>by rw[o _ (h.sep p hp)];exact h.old p hp⟩
theorem Mine.off(m:Mine k f e H0 H u xs)(o:Off b H H')(s:∀p,u.a=some p->p.block≠b):Mine k f e H0 H' u xs :=
 Mine.chg (v:=⟨some ⟨b,0,none⟩,0,0⟩) m (λc _ hc=>o c λe=>hc _ rfl (by rw[e])) λp q hp hq e=>by cases hq;exact s p hp e
theorem Mine.kp{cs:Array Value}{T:TypeId}(m:Mine k f e H H' u xs)(h:Cel H b cs T)(hk:∀x,(f x).length=k):Kp b k f H' u xs :=
 ⟨m.rd hk,λp hp e=>(by
  have:=m.isNew p hp;rw[e,h] at this;cases this),m.isOld⟩
end
abbrev ckC(c:Ck)(f cl u1 u2 u3 u4 u5 d:Slc):Array Value:=#[vi c.now.1,vi c.now.2,f.v,vi c.ct.next,cl.v,u1.v,u2.v,u3.v,u4.v,u5.v,d.v]
structure z1j(H:Hp)(w:Cu):Prop where
 cl:Old H w.cl
 u1:Old H w.u1
 u2:Old H w.u2
 u3:Old H w.u3
 u4:Old H w.u4
 u5:Old H w.u5
theorem zn3{u:Cu}(r:RdK H u c)(fk:zze c) :
  fN F.f77 #[ckV u c] H λv H'=>∃w:Cu,v=ckV w c/\Qd H H'/\RdK H' w c/\Mine 3 fD T.api_Due H H' w.d c.due/\Sep w.f w.d/\z1j H' w:=by
 have f1:=fk.f;have f2:=fk.ct;have f3:=fk.due;have f4:=fk.ag.hl;have f5:=fk.ag.wl;have f6:=fk.ag.tb;refine vc77 λb1 H2 hb1 hH2=>?_
 have le2:Qd H H2:=Hp.le_new (Qg _) hb1 hH2;have c2:Cel H2 b1 (ckC c u.f u.cl u.u1 u.u2 u.u3 u.u4 u.u5 u.d) T.api_Clock:=by rw[hH2];exact Cel.put
 have r2:=r.le le2;refine⟨u.f,Cel.at c2 2,u.cl,Cel.at c2 4,u.d,Cel.at c2 10,(zny r2.f (by omega)).mono λv H7 ⟨w1,hv,l7,m1⟩=>⟨l7,w1,hv,?_⟩⟩;have k1:=Mine.kp m1 c2 λ_=>rfl
 have c7:=c2.le l7;refine(znv (r2.le l7).cl (by omega)).mono λv H10 ⟨w2,hv,l10,m2⟩=>⟨l10,w2,hv,?_⟩
 have k2:=Mine.kp m2 c7 λ_=>rfl
 have c10:=c7.le l10;refine(znt ((r2.le l7).le l10).due (by omega)).mono λv H13 ⟨w3,hv,l13,m3⟩=>⟨l13,w3,hv,?_⟩
 have k3:=Mine.kp m3 c10 λ_=>rfl
 have c13:=c10.le l13;have le13:Qd H H13:=Qe le2 (Qe l7 (Qe l10 l13));refine zay (i:=2) (cs':=ckC c w1 u.cl u.u1 u.u2 u.u3 u.u4 u.u5 u.d) c13 (show 2<11 by decide) rfl λH15 c15 o15=>zay (i:=4) (cs':=ckC c w1 w2 u.u1 u.u2 u.u3 u.u4 u.u5 u.d) c15 (show 4<11 by decide) rfl λH16 c16 o16=>zay (i:=10) (cs':=ckC c w1 w2 u.u1 u.u2 u.u3 u.u4 u.u5 w3) c16 (show 10<11 by decide) rfl λH17 c17 o17=>?_
 have k1:=((((k1.le l10).le l13).off o15).off o16).off o17;have k2:=(((k2.le l13).off o15).off o16).off o17;have k3:=((k3.off o15).off o16).off o17;have le17:Qd H H17:=o17.le hb1 (o16.le hb1 (o15.le hb1 le13));have r17:=r.le le17;refine⟨u.u4,Cel.at c17 8,u.u5,Cel.at c17 9,(znu r17.ag.heap (by omega)).mono λv H21 ⟨w4,hv,l21,m4⟩=>⟨l21,w4,hv,?_⟩⟩;have k4:=Mine.kp m4 c17 λ_=>rfl
 have c21:=c17.le l21;refine(znw (r17.le l21).ag.wh (by omega)).mono λv H24 ⟨w5,hv,l24,m5⟩=>⟨l24,w5,hv,?_⟩
 have k5:=Mine.kp m5 c21 λ_=>rfl
 have c24:=c21.le l24;have le24:Qd H H24:=Qe le17 (Qe l21 l24);refine zay (i:=8) (cs':=ckC c w1 w2 u.u1 u.u2 u.u3 w4 u.u5 w3) c24 (show 8<11 by decide) rfl λH26 c26 o26=>zay (i:=9) (cs':=ckC c w1 w2 u.u1 u.u2 u.u3 w4 w5 w3) c26 (show 9<11 by decide) rfl λH27 c27 o27=>?_
 have k1:=(((k1.le l21).le l24).off o26).off o27;have k2:=(((k2.le l21).le l24).off o26).off o27;have k3:=(((k3.le l21).le l24).off o26).off o27;have k4:=((k4.le l24).off o26).off o27;have k5:=(k5.off o26).off o27;have le27:Qd H H27:=o27.le hb1 (o26.le hb1 le24);have r27:=r.le le27;obtain⟨g1,g2,g3⟩:=f6;refine⟨u.u1,Cel.at c27 5,u.u2,Cel.at c27 6,u.u3,Cel.at c27 7,(znw r27.ag.tb.uses (by omega)).mono λv H32 ⟨w6,hv,l32,m6⟩=>⟨l32,w6,hv,?_⟩⟩;have k6:=Mine.kp m6 c27 λ_=>rfl
 have c32:=c27.le l32;refine(zns (r27.le l32).ag.tb.used (by omega)).mono λv H35 ⟨w7,hv,l35,m7⟩=>⟨l35,w7,hv,?_⟩
 have k7:=Mine.kp m7 c32 λ_=>rfl
 have c35:=c32.le l35;refine(znw ((r27.le l32).le l35).ag.tb.free (by omega)).mono λv H38 ⟨w8,hv,l38,m8⟩=>⟨l38,w8,hv,?_⟩
 have k8:=Mine.kp m8 c35 λ_=>rfl
 have c38:=c35.le l38;have le38:Qd H H38:=Qe le27 (Qe l32 (Qe l35 l38));refine zay (i:=5) (cs':=ckC c w1 w2 w6 u.u2 u.u3 w4 w5 w3) c38 (show 5<11 by decide) rfl λH40 c40 o40=>zay (i:=6) (cs':=ckC c w1 w2 w6 w7 u.u3 w4 w5 w3) c40 (show 6<11 by decide) rfl λH41 c41 o41=>zay (i:=7) (cs':=ckC c w1 w2 w6 w7 w8 w4 w5 w3) c41 (show 7<11 by decide) rfl λH42 c42 o42=>?_
 have le42:Qd H H42:=o42.le hb1 (o41.le hb1 (o40.le hb1 le38));have at42:=λi=>Cel.at c42 i
 have sp:=k3.sep;have s13:Sep w1 w3:=Sep.of (m1.isOld.le l10) m3.isNew;have m17:=Mine.off (Mine.off (Mine.off (m3.low (Qe le2 (Qe l7 l10))) o15 sp) o16 sp) o17 sp;have m27:=Mine.off (Mine.off ((m17.le l21).le l24) o26 sp) o27 sp;have m42:=Mine.off (Mine.off (Mine.off (((m27.le l32).le l35).le l38) o40 sp) o41 sp) o42 sp;refine⟨_,_,w1,_,w2,w6,w7,w8,w4,w5,w3,⟨at42 0,at42 1,at42 2,at42 3,at42 4,at42 5,at42 6,at42 7,at42 8,at42 9,at42 10⟩,⟨w1,w2,w6,w7,w8,w4,w5,w3⟩,rfl,le42,?_,m42,s13,?_⟩
 ·have k1:=((((((k1.le l32).le l35).le l38).off o40).off o41).off o42);have k2:=((((((k2.le l32).le l35).le l38).off o40).off o41).off o42);have k3:=((((((k3.le l32).le l35).le l38).off o40).off o41).off o42);have k4:=((((((k4.le l32).le l35).le l38).off o40).off o41).off o42);have k5:=((((((k5.le l32).le l35).le l38).off o40).off o41).off o42);have k6:=(((((k6.le l35).le l38).off o40).off o41).off o42);have k7:=((((k7.le l38).off o40).off o41).off o42);have k8:=(((k8.off o40).off o41).off o42);exact⟨k1.rd,k2.rd,⟨⟨k6.rd,k7.rd,k8.rd⟩,k4.rd,k5.rd⟩,k3.rd⟩
 ·have k2:=((((((k2.le l32).le l35).le l38).off o40).off o41).off o42);have k4:=((((((k4.le l32).le l35).le l38).off o40).off o41).off o42);have k5:=((((((k5.le l32).le l35).le l38).off o40).off o41).off o42);have k6:=(((((k6.le l35).le l38).off o40).off o41).off o42);have k7:=((((k7.le l38).off o40).off o41).off o42);have k8:=(((k8.off o40).off o41).off o42);exact⟨k2.old,k6.old,k7.old,k8.old,k4.old,k5.old⟩
theorem zyq(ok:okA a){h s:Int×Int}:((zym a h).2=0/\(zym a h).1.no=n/\(zym a h).1.at_=s)↔(⟨s,n,h⟩:Ev)∈a.heap:=by
 constructor
 ·rintro⟨h1,h2,h3⟩;unfold zym at h1 h2 h3;rw[Zp ok] at h1 h2 h3;by_cases hl:a.tb.live h.1 h.2=true
  ·rw[Zp hl] at h2 h3;obtain⟨m1,m2,m3⟩:=zys ok hl;have:(⟨s,n,h⟩:Ev)=hp a.heap (atA a h):=by
    generalize hp a.heap (atA a h)=y at h2 h3 m2;obtain⟨y1,y2,y3⟩:=y;simp only at h2 h3 m2;rw[h2,h3,m2]
   rw[this];exact m1
  ·rw[Zn hl] at h1;cases h1
 ·intro hm;rw[(zyr ok hm).1];exact⟨rfl,rfl,rfl⟩
theorem yvz{u:Cu}(r:RdK H u c)(fk:zze c):qF F.f43 #[ckV u c] H (vi (zlr c)):=by
  have l4:=r.ag.heap.len;have l5:=r.ag.wh.len;have ld:=r.due.len;have lc:=r.cl.len;have f1:=fk.ct;have f2:=fk.due;have f3:=fk.f;refine vc43 ⟨_,yws fk.now,_,λ_=>yvv r.f,_,λ_=>yvq r.cl,_,λ_=>yw1 r.cl r.f (by omega) (by omega),_,λ_=>yvk r.ag fk.ag,λhc=>⟨?_,Qg _⟩,λhc=>?_⟩
  · rw[zls]
    intro ok;rw[zm8 ok.now,zlh.2 ok.f,zlc ok.ct,ok.known,zl8 ok.ag,l5,l4,ld,ok.wl,ok.hl] at hc;simp at hc
  simp only[Qa,bne_eq_false_iff_eq,Qc] at hc;obtain⟨⟨⟨⟨⟨⟨h1,h2⟩,h3⟩,hk⟩,h5⟩,h6⟩,h7⟩:=hc;have base:z9d c:=⟨zm9.1 h1,zlh.1 h2,zld.1 h3,zl9.1 h5,by omega,by omega⟩;refine⟨λa i H'=>H'=H/\0<=i/\i<=c.ct.list.length/\0<=a/\a<=c.due.length/\zle c.ag.heap c.f c.now c.ct.list c.due=zle c.ag.heap c.f c.now (c.ct.list.drop i.toNat) (c.due.drop a.toNat),
    λ_ i _=>(c.ct.list.length-i).toNat,⟨rfl,Int.le_refl _,by omega,Int.le_refl _,by omega,rfl⟩,λa i H' ⟨e,i0,i1,a0,a1,hd⟩=>?_⟩
  subst e;refine⟨λhn=>?_,λhn=>?_⟩
  · have hn:i<c.ct.list.length:=by have:i<u.cl.n:=by simpa using hn
                                   omega
    have hg:=y3h (d:=((0:Int),(0:Int),(0:Int))) i0 hn;obtain⟨p1,p2⟩:=y8n hk (List.mem_of_getElem? hg);refine r.cl.ldD i0 hn ⟨_,_,_,ywx (x:=(c.ct.list.getD i.toNat (0,0,0)).2) r.f base.f base.now p1 p2,?_⟩;generalize c.ct.list.getD i.toNat (0,0,0)=x at hg p1 p2 ⊢;rw[ztp hg,zle,Zn (show ¬ ybr c.f x.2=true by simp[ybr];omega)] at hd;have nx:∀{b:Int},0<=b->b<=c.due.length->zle c.ag.heap c.f c.now c.ct.list c.due=zle c.ag.heap c.f c.now (c.ct.list.drop (i.toNat+1)) (c.due.drop b.toNat) ->
        inI (i+1)/\(H'=H'/\0<=i+1/\i+1<=c.ct.list.length/\0<=b/\b<=c.due.length/\zle c.ag.heap c.f c.now c.ct.list c.due=zle c.ag.heap c.f c.now (c.ct.list.drop (i+1).toNat) (c.due.drop b.toNat))/\(c.ct.list.length-(i+1)).toNat<(c.ct.list.length-i).toNat:=by
      intro b b0 b1 e;exact⟨by unfold inI;omega,⟨rfl,by omega,by omega,b0,b1,by rw[show (i+1).toNat=i.toNat+1 by omega];exact e⟩,by omega⟩
    cases hw:xbv c.f x.2 c.now with
    | none =>
      rw[hw] at hd;exact⟨λ_=>nx a0 a1 hd,λh=>by simp at h⟩
    | some s =>
      rw[hw] at hd;dsimp only at hd;refine⟨λh=>by simp at h,λ_=>?_⟩;by_cases ha:a<c.due.length
      · have hga:=y3h (d:=((0:Int),(0:Int),(0:Int))) a0 ha
        have g1:=r.due.gD a0 ha;have g2:=r.due.gD2 a0 ha;have gs:=r.due.inS a0 ha;generalize c.due.getD a.toNat (0,0,0)=d at hga g1 g2;rw[ztp hga] at hd;dsimp only at hd;refine⟨λ_=>gs,d.1,λ_=>g1.1,λhb=>⟨?_,Qg _⟩,λhb=>?_⟩
        · have hb:d.1≠x.1:=by
            simp only[Bool.or_eq_true,Zq,bne_iff_ne] at hb;rcases hb with hb|hb
            · omega
            · exact hb
          rw[zlt base,hd,Zv hb,Zn (by simp)]
        have hb:d.1=x.1:=by
          simp only[Qa,bne_eq_false_iff_eq] at hb;exact hb.2
        rw[Zu hb,Qb] at hd;have ft:=zyq (h:=d.2) (s:=s) (n:=x.1) base.ag;refine⟨gs,_,_,g2,_,_,_,_,_,_,yvl (h:=d.2) r.ag fk.ag,λht=>⟨?_,Qg _⟩,λht=>?_⟩
        · rw[zlt base,hd]
          have:¬ (⟨s,x.1,d.2⟩:Ev)∈c.ag.heap:=λhm=>by
            obtain⟨t1,t2,t3⟩:=ft.2 hm;rw[t1,t2,t3] at ht;simp[o2] at ht
          rw[Zv this,Zn (by simp)]
        · simp only[Qa,bne_eq_false_iff_eq,Qc,Bool.and_eq_true,beq_iff_eq,o2,Option.getD_some] at ht
          obtain⟨⟨t1,t2⟩,t3,t4⟩:=ht;have hm:=ft.1 ⟨t1,t2,Prod.ext t3 t4⟩;rw[Zu hm,Qb] at hd;have n:=nx (b:=a+1) (by omega) (by omega) (by rw[show (a+1).toNat=a.toNat+1 by omega];exact hd);exact⟨by unfold inI;omega,n⟩
      · have hx:c.due.drop a.toNat=[]:=Qh (by omega)
        rw[hx] at hd;dsimp only at hd;refine⟨λh=>absurd (by simpa using h:a<u.d.n) (by omega),0,λh=>absurd (by simpa using h:a<u.d.n) (by omega),λ_=>⟨by rw[zlt base,hd,Zn (by simp)],Qg _⟩,λh=>?_⟩;simp only[Qa,Zt] at h;omega
  · have hn:¬ i<c.ct.list.length:=by have:¬ i<u.cl.n:=by simpa using hn
                                     omega
    rw[Qh (by omega),zle] at hd;refine⟨λhb=>⟨?_,Qg _⟩,λhb=>⟨?_,Qg _⟩⟩
    · have hb:a≠u.d.n:=by simpa using hb
      have:c.due.drop a.toNat≠[]:=λe=>by
        have:=congrArg List.length e;simp at this;omega
      rw[zlt base,hd,Zn (by simpa using this)]
    · have hb:a=u.d.n:=by simpa using hb
      rw[Qh (by omega)] at hd;rw[zlt base,hd];rfl
theorem yw0{u w:Cu}(r:RdK H u c)(s:RdK H w c)(fk:zze c):qF F.f42 #[ckV u c,ckV w c] H (.bool true):=by
  have f1:=fk.f;have f2:=fk.ct;have f3:=fk.due;have l1:=r.due.len;have l2:=s.due.len;refine vc42 ⟨_,λ_=>yvw r.f s.f (by omega),_,λ_=>yu1 r.cl s.cl (by omega),_,λ_=>yvm r.ag s.ag fk.ag,λhc=>?_,λhc=>?_⟩
  · simp[l1,l2] at hc
  · refine upto (N:=c.due.length) (J:=λ_=>True) (by omega) trivial λi i0 i1 _=>⟨λhn=>?_,λhn=>⟨rfl,Qg _⟩⟩
    have hn:i<c.due.length:=by have:i<u.d.n:=by simpa using hn
                               omega
    exact r.due.ldD i0 hn (s.due.ldD i0 hn ⟨λhb=>by simp at hb,λ_=>upto.nx i0 hn (by omega) trivial⟩)
theorem RdK.zero{H:Hp}:RdK H zu .zero:=⟨(Rd.nil:Rd 3 fD H ⟨none,0,0⟩ []),(Rd.nil:Rd 3 fD H ⟨none,0,0⟩ []),(z1c.zero (Qg _)).rd,(Rd.nil:Rd 3 fD H ⟨none,0,0⟩ [])⟩
theorem zws(x:Int×Int×Int):∀v∈fD x,v.oneCell'=true:=λv hv=>by simp[fD] at hv;rcases hv with rfl|rfl|rfl <;> rfl
theorem zsx{xs:List (Int×Int×Int)}{i:Int}(hl:Qd H0 H)(h:Mine 3 fD T.api_Due H0 H s xs)(h0:0<=i)(h1:i<xs.length) :
  fN F.f191 #[s.v,vi i,vi (i+1)] H λv H'=>∃u:Slc,v=u.v/\Qd H0 H'/\Mine 3 fD T.api_Due H0 H' u (xs.take i.toNat++xs.drop (i.toNat+1))/\Chg H H' s:=by
 refine vc191 (zsz (k:=3) (f:=fD) (bytes:=24) (j:=i+1) (Zw:=λv H'=>∃u:Slc,v=u.v/\Qd H0 H'/\Mine 3 fD T.api_Due H0 H' u (xs.take i.toNat++xs.drop (i.toNat+1))/\Chg H H' s) (by kernel_rfl) (by kernel_rfl) (by decide) (λ_=>rfl) zws (by kernel_rfl) hl h h0 (by omega) (by omega) λu H' g1 g2 g3 _=>⟨u,rfl,g1,?_,g3⟩);rw[show i.toNat+1=(i+1).toNat by omega];exact g2
theorem RdA.chg{H H':Hp}{u1 u2 u3 u4 u5 d:Slc}{a:Ag}(r:RdA H u1 u2 u3 u4 u5 a)(c:Chg H H' d)(s1:Sep u1 d)(s2:Sep u2 d)(s3:Sep u3 d)(s4:Sep u4 d)(s5:Sep u5 d):RdA H' u1 u2 u3 u4 u5 a :=
 ⟨⟨r.tb.uses.chg c s1,r.tb.used.chg c s2,r.tb.free.chg c s3⟩,r.heap.chg c s4,r.wh.chg c s5⟩
theorem RdA.chgN{H':Hp}{u1 u2 u3 u4 u5 d:Slc}(n:z1c H0 H u1 u2 u3 u4 u5 a)(c:Chg H H' d)(o:Old H0 d):RdA H' u1 u2 u3 u4 u5 a :=
 RdA.chg n.rd c (Sep.of o n.tb.uses.isNew).symm (Sep.of o n.tb.used.isNew).symm (Sep.of o n.tb.free.isNew).symm (Sep.of o n.heap.isNew).symm (Sep.of o n.wh.isNew).symm
theorem ygo:ygn 200=(z9k 200,0):=by unfold ygn;rw[Zn (by omega)];rfl
theorem zmx{w:Slc}{f:List Pt}(hf:Rd 3 fD H w f)(ht:zzn t) :
  fN F.f25 #[vFd w,raW t] H λv H'=>∃u:Cu,v=.tuple #[ckV u (ygq f t).1,vi (ygq f t).2]/\Qd H H'/\RdK H' u (ygq f t).1:=by
 refine vc25 ⟨_,zxq hf,λhc=>?_,λhc=>⟨_,yui ht,λhc2=>?_,λhc2=>?_⟩⟩
 ·have hc:zlg f≠0:=by simpa using hc
  have e:ygq f t=(.zero,zlg f):=by unfold ygq x8u;rw[Zp hc,Zn hc]
  rw[e];exact⟨zu,rfl,Qg _,RdK.zero⟩
 ·have hc:zlg f=0:=by simpa using hc
  have hc2:zm6 t≠0:=by simpa using hc2
  have et:x8u f t=zm6 t:=by unfold x8u;rw[Zn (by omega)]
  have e:ygq f t=(.zero,zm6 t):=by unfold ygq;rw[et,Zn hc2]
  rw[e];exact⟨zu,rfl,Qg _,RdK.zero⟩
 ·have hc:zlg f=0:=by simpa using hc
  have hc2:zm6 t=0:=by simpa using hc2
  have e:ygq f t=(⟨t,f,.zero,z9k 200,[]⟩,0):=by unfold ygq;rw[Zp (x8v.2 ⟨zlh.1 hc,zm9.1 hc2⟩)]
  rw[e];have hl:=(zlh.1 hc).small;refine z4t.mono λv H4 ⟨v1,v2,v3,v4,v5,hv,n⟩=>⟨v1,v2,v3,v4,v5,_,hv,(zny (hf.le n.le) (by omega)).mono λv H12 ⟨w1,hv,l12,m1⟩=>⟨l12,w1,hv,?_⟩⟩
  rw[ygo] at n ⊢;exact⟨⟨w1,zs,v1,v2,v3,v4,v5,zs⟩,rfl,Qe n.le l12,m1.rdD,(Rd.nil:Rd 3 fD H12 ⟨none,0,0⟩ []),(n.up l12).rd,(Rd.nil:Rd 3 fD H12 ⟨none,0,0⟩ [])⟩
theorem zd5{Zw:Value->Hp->Prop}(h:Zw (.tuple #[ckV zu .zero,vi 0,vi n]) H):FnV Tryz.prog (.func (.func F.f115) #[] #[]) [vi n] H Zw :=
 ⟨F.f115,#[],_,rfl,cb115,vc115 h⟩
theorem z3g{c:Ct}{x:Int×Int}(ok:okC c):((z3e c x).2.2=8↔xb5 x=false)/\((z3e c x).2.2≠0->(z3e c x)=(.zero,0,(z3e c x).2.2)):=by
 unfold z3e;by_cases hv:xb5 x=true
 ·rw[Zp ⟨ok,hv⟩];split
  ·simp[hv]
  ·split
   ·simp[hv]
   ·simp[hv]
 ·rw[Zn λh=>hv h.2];simp[Bool.eq_false_iff.2 hv]
theorem okK.push(ok:okK c)(ht:okR t):ysu c.ag t c.ct.next=if c.ag.tb.canTake=true then (ysz c.ag t c.ct.next,yh1 c.ag,0) else (.zero,(0,0),18):=by
 obtain⟨ps,e⟩:=ok.evs;have hn:y43 c.ag c.ct.next=false:=by
  unfold y43;rw[List.any_eq_false];intro y hy;obtain⟨h,hm,he,_⟩:=e.cert (e.heap.mem_iff.1 hy);have:=(ok.ct.ok.each h hm).2.2;simp;omega
 have:=ok.ct.n0;have:=ok.ct.n1;unfold ysu;rw[Zp ⟨ok.ag,ht⟩,Zn (by omega),hn,Zn (by simp)]
