/- The engine, parts G1, G2, G3, G4, G5, G6, G7, G8, put together. Conditions: none. -/
import Derived.Test.YtnhdkkblehadjabGreatP4
import Derived.Test.YtnhdkkblehadjabGreatE6
import Derived.Test.YtnhdkkblehadjabGreatVgAgenda
import Derived.Test.YtnhdkkblehadjabGreatFs
import Derived.Test.YtnhdkkblehadjabGreatVgStd
set_option linter.unusedVariables false
section
/- Contracts of agenda.Check and pelotonref07.Check. Conditions: none. -/
set_option maxRecDepth 100000
open Go Go.Eng Go.Proofs
namespace Go.Proofs.YtnhdkkblehadjabGreat

structure RdA(H:Hp)(u1 u2 u3 u4 u5:Slc)(a:Ag):Prop where
 tb:RdT H u1 u2 u3 a.tb
 heap:Rd 5 fE H u4 a.heap
 wh:RdI H u5 a.wh
theorem RdA.le{H H':Hp}{u1 u2 u3 u4 u5:Slc}{a:Ag}(h:RdA H u1 u2 u3 u4 u5 a)(hl:Hp.le H H'):RdA H' u1 u2 u3 u4 u5 a:=⟨h.tb.le hl,h.heap.le hl,h.wh.le hl⟩
structure fitG(a:Ag):Prop where
 tb:a.tb.small
 hl:a.heap.length<=1000000
 wl:a.wh.length<=1000000
 fit:∀x∈a.heap,zxh x.at_
theorem okA.fitG{a:Ag}(ok:okA a):fitG a:=by
 have:=ok.wl;have:=ok.hl;have:=ok.tb.top
 exact⟨ok.tb.small,by omega,by omega,λx hx=>(ok.each x hx).1.fit⟩
theorem fitG.zero:fitG .zero:=⟨by simp[Ag.zero,Tb.zero,Tb.small],by simp[Ag.zero],by simp[Ag.zero],λx hx=>by simp[Ag.zero] at hx⟩

abbrev evV(x:Ev):Value:=.agg #[.int .i64 x.at_.1,.int .i64 x.at_.2,.int .i64 x.no,.int .i64 x.h.1,.int .i64 x.h.2]

section
variable {H:Hp} {u:Slc} {xs:List Ev} {i:Int}
theorem _root_.Go.Eng.Rd.gEx(h:Rd 5 fE H u xs)(h0:0<=i)(h1:i<xs.length){j:Nat}{v:Value}(hv:(fE (hp xs i.toNat))[j]?=some v):H.at ((zrr u.a 5 i).add j)=some v :=
 h.atj h0 (y2x (by omega)) hv
theorem _root_.Go.Eng.Rd.gE(h:Rd 5 fE H u xs)(h0:0<=i)(h1:i<xs.length):H.at (zrr u.a 5 i)=some (.int .i64 (hp xs i.toNat).at_.1)/\H.at ((zrr u.a 5 i).add 1)=some (.int .i64 (hp xs i.toNat).at_.2)/\H.at ((zrr u.a 5 i).add 2)=some (.int .i64 (hp xs i.toNat).no)/\H.at ((zrr u.a 5 i).add 3)=some (.int .i64 (hp xs i.toNat).h.1)/\H.at ((zrr u.a 5 i).add 4)=some (.int .i64 (hp xs i.toNat).h.2) :=
 ⟨h.at0 h0 (y2x (by omega)) rfl,Rd.gEx h h0 h1 rfl,Rd.gEx h h0 h1 rfl,Rd.gEx h h0 h1 rfl,Rd.gEx h h0 h1 rfl⟩
theorem _root_.Go.Eng.Rd.gEh(h:Rd 5 fE H u xs)(h0:0<=i)(h1:i<xs.length):H.at (((zrr u.a 5 i).add 3).add 0)=some (.int .i64 (hp xs i.toNat).h.1)/\H.at (((zrr u.a 5 i).add 3).add 1)=some (.int .i64 (hp xs i.toNat).h.2):=by
 obtain⟨_,_,_,d,e⟩:=Rd.gE h h0 h1
 rw[add_zero',z40];exact⟨d,e⟩
theorem _root_.Go.Eng.Mine.rdE{e:TypeId}{H0:Hp}(h:Mine 5 fE e H0 H u xs):Rd 5 fE H u xs:=Mine.rd (k:=5) (f:=fE) (λ_=>rfl) h
end

theorem ykm{n:Int}(h:0<n):(n-1).tdiv 2=(par n.toNat:Nat):=by
 rw[Int.tdiv_eq_ediv_of_nonneg (by omega)]
 unfold par;omega

def zn2(x y:Ev):Int:=if (zng x.at_ y.at_).1≠0 then (zng x.at_ y.at_).1 else zn4 x.no y.no
theorem zn3{x y:Ev}(hx:okR x.at_)(hy:okR y.at_):decide (zn2 x y<0)=y7h x y:=by
 have e:(zng x.at_ y.at_).1=znm x.at_ y.at_:=by unfold zng;rw[if_pos ⟨hx,hy⟩]
 unfold zn2 y7h
 rw[e,Bool.eq_iff_iff]
 simp only[decide_eq_true_eq,Bool.or_eq_true,Bool.and_eq_true,beq_iff_eq]
 split
 ·omega
 ·rename_i h
  rw[zn8];omega
theorem z4u{H:Hp}{x y:Ev}(hx:zxh x.at_)(hy:zxh y.at_):Qf Tryz.prog F.f179 #[evV x,evV y] H (.int .i64 (zn2 x y)):=by
 refine vc179 ⟨_,_,yqw hx hy,_,zpa,λb4 H5 hb4 hH5=>⟨_,yia (u:=⟨some ⟨b4,0,none⟩,2,2⟩) (yrm hH5),?_,Hp.le_new (Hp.le_refl _) hb4 hH5⟩⟩
 rfl
theorem y0k{α κ:Type}[DecidableEq κ](k:α->κ)(v:Value)(x:κ):∀l:List α,y0h (l.map λy=>(k y,v)) x=if x∈l.map k then some v else none
 | []=>rfl
 | p :: l=>by
  have ih:=y0k k v x l
  unfold y0h at ih ⊢
  rw[List.map_cons,List.find?_cons]
  by_cases e:k p=x
  ·simp[e]
  ·have e':¬ x=k p:=λh=>e h.symm
   simp only[e,decide_false,List.map_cons,List.mem_cons,e',false_or]
   exact ih

theorem yfs{l:List Int}{x:Int}:(l++[x]).Nodup↔l.Nodup/\x∉l:=by
 rw[List.nodup_append]
 constructor
 ·intro ⟨a,_,c⟩;exact⟨a,λh=>c x h x (by simp) rfl⟩
 ·intro ⟨a,b⟩;exact⟨a,by simp,λy hy z hz e=>by simp only[List.mem_singleton] at hz;subst hz;subst e;exact b hy⟩

theorem z4t{H:Hp}{u1 u2 u3 u4 u5:Slc}{a:Ag}(h:RdA H u1 u2 u3 u4 u5 a)(f:fitG a) :
    Qf Tryz.prog F.f119 #[.agg #[u1.v,u2.v,u3.v,u4.v,u5.v]] H (.int .i64 (zk3 a)):=by
  have l1:=h.tb.uses.len
  have l2:=h.tb.used.len
  have l3:=h.tb.free.len
  have l4:=h.heap.len
  have l5:=h.wh.len
  obtain⟨⟨f1,f2,f3⟩,f4,f5,f6⟩:=f
  refine vc119 ⟨_,yyu h.tb ⟨f1,f2,f3⟩,λ_=>by unfold inI;omega,λhc=>⟨?_,Hp.le_refl _⟩,λhc=>?_⟩
  · rw[zk4]
    intro ok
    have:=ok.wl;have:=ok.hl;have:=ok.tb.len
    rw[zl7 ok.tb] at hc
    simp at hc
    omega
  simp only[Bool.or_eq_false_iff,bne_eq_false_iff_eq] at hc
  obtain⟨⟨hc1,hc2⟩,hc3⟩:=hc
  have tok:=zl8.1 hc1
  have:=tok.len;have:=tok.top
  refine upto (N:=a.wh.length) (J:=λn=>(∀i:Nat,i<n->a.tb.used.getD i false=false->a.wh.getD i 0 = -1)/\∀i:Nat,i<n->a.tb.used.getD i false=true->0<=a.wh.getD i 0/\a.wh.getD i 0<a.heap.length/\(hp a.heap (a.wh.getD i 0).toNat).h=((i:Int),a.tb.uses.getD i 0))
    (by omega) ⟨λi hi=>by omega,λi hi=>by omega⟩ λn h0 h1 ⟨j1,j2⟩=>⟨λhn=>?_,λhn=>?_⟩
  · have hn:n<a.wh.length:=by have:n<u5.n:=by simpa using hn
                              omega
    have en:((n.toNat:Nat):Int)=n:=Int.toNat_of_nonneg h0
    refine h.wh.ldI h0 hn (h.tb.used.ldB h0 (by omega) ⟨λhu=>⟨λhw=>⟨?_,Hp.le_refl _⟩,λhw=>upto.nx h0 hn (by omega) ⟨λi hi hu'=>?_,λi hi hu'=>?_⟩⟩,λhu=>?_⟩)
    · have hu:a.tb.used.getD n.toNat false=false:=by simpa using hu
      rw[zk4]
      intro ok
      have:=ok.free n.toNat (by omega) hu
      rw[this] at hw;simp at hw
    · have hw:a.wh.getD n.toNat 0 = -1:=by simpa using hw
      rcases Int.lt_or_le i n with h'|h'
      · exact j1 i h' hu'
      · have:i=n.toNat:=by omega
        subst this;exact hw
    · have hu:a.tb.used.getD n.toNat false=false:=by simpa using hu
      rcases Int.lt_or_le i n with h'|h'
      · exact j2 i h' hu'
      · have:i=n.toNat:=by omega
        subst this;rw[hu] at hu';cases hu'
    · have hu:a.tb.used.getD n.toNat false=true:=by simpa using hu
      generalize hw:a.wh.getD n.toNat 0=w
      have hr:(!(decide (w<0)||decide (w>=(u4.n:Int))))=true->0<=w/\w<a.heap.length:=λhh=>by
        simp at hh;omega
      refine⟨λhh=>h.heap.inS (hr hh).1 (hr hh).2,_,_,λhh=>Rd.gEh h.heap (hr hh).1 (hr hh).2,λhh=>h.tb.uses.inS h0 (by omega),_,λhh=>h.tb.uses.gI h0 (by omega),λhb=>⟨?_,Hp.le_refl _⟩,λhb=>upto.nx h0 hn (by omega) ⟨λi hi hu'=>?_,λi hi hu'=>?_⟩⟩
      · rw[zk4]
        intro ok
        obtain⟨k1,k2,k3⟩:=ok.used n.toNat (by omega) hu
        rw[hw] at k1 k2 k3
        rw[k3] at hb
        simp at hb
        omega
      · rcases Int.lt_or_le i n with h'|h'
        · exact j1 i h' hu'
        · have:i=n.toNat:=by omega
          subst this;rw[hu] at hu';cases hu'
      · rcases Int.lt_or_le i n with h'|h'
        · exact j2 i h' hu'
        · have e:i=n.toNat:=by omega
          subst e
          simp only[Bool.or_eq_false_iff,decide_eq_false_iff_not,Bool.not_eq_false',Bool.and_eq_true,beq_iff_eq] at hb
          obtain⟨⟨b1,b2⟩,b3,b4⟩:=hb
          rw[hw]
          exact⟨by omega,by omega,Prod.ext (by rw[b3];exact en.symm) b4⟩
  have:n=a.wh.length:=by have:¬ n<u5.n:=by simpa using hn
                         omega
  subst this
  intro b11 H12 hb11 hH12
  have le12:Hp.le H H12:=Hp.le_new (Hp.le_refl _) hb11 hH12
  have K:KL Tryz.prog T.int (λx:Int=>Value.int .i64 x):=KL.int Tryz.underlying3
  refine x73 (N:=a.heap.length) (J:=λn H'=>Hp.le H H'/\z18 (λx:Int=>Value.int .i64 x) H' b11 ((a.heap.take n.toNat).map λy=>(y.no,Value.bool true))/\(∀x∈a.heap.take n.toNat,okR x.at_/\0<=x.no/\x.no<=1000000)/\((a.heap.take n.toNat).map (·.no)).Nodup /\
      ∀i:Nat,1<=i->(i:Int)<n->y7h (hp a.heap i) (hp a.heap (par i))=false) (by omega) ⟨le12,z18.new hH12,by simp,by simp,λi _ hi=>by omega⟩ λn H' h0 h1 ⟨le',jm,je,jn,jo⟩=>⟨λhn=>?_,λhn=>⟨?_,le'⟩⟩
  · have hn:n<a.heap.length:=by have:n<u4.n:=by simpa using hn
                                omega
    have hg:=y2x (h:=a.heap) (i:=n.toNat) (by omega)
    have hmem:=y2z (h:=a.heap) (i:=n.toNat) (by omega)
    have hrd:=h.heap.le le'
    have hts:=x4c hg
    have e1:(n+1).toNat=n.toNat+1:=by omega
    have hlook:=K.look (t:=T.map_int_bool) (e:=T.bool) (x:=(hp a.heap n.toNat).no) (z:=.bool false) Tryz.underlying292 (by kernel_rfl) jm
    rw[y0k (λy:Ev=>y.no)] at hlook
    refine⟨hrd.inS h0 hn,_,_,_,_,_,Rd.gE hrd h0 hn,_,yqv (f6 _ hmem),decide ((hp a.heap n.toNat).no∈(a.heap.take n.toNat).map (·.no)),λ_=>?_,λhb=>⟨?_,le'⟩,λhb=>?_⟩
    · by_cases e:(hp a.heap n.toNat).no∈(a.heap.take n.toNat).map (·.no)
      · rw[if_pos e] at hlook;rw[decide_eq_true e];exact hlook
      · rw[if_neg e] at hlook;rw[decide_eq_false e];exact hlook
    · rw[zk4]
      intro ok
      obtain⟨k1,k2,k3⟩:=ok.each _ hmem
      rw[zl4 k1] at hb
      simp only[bne_self_eq_false,Bool.false_or,Bool.or_eq_true,decide_eq_true_eq] at hb
      rcases hb with(hb|hb)|hb
      · omega
      · omega
      · have:=(ok.nos).sublist ((List.take_sublist (n.toNat+1) a.heap).map (·.no))
        rw[hts,List.map_append] at this
        exact(yfs.1 this).2 hb
    · simp only[Bool.or_eq_false_iff,bne_eq_false_iff_eq,decide_eq_false_iff_not] at hb
      obtain⟨⟨⟨b1,b2⟩,b3⟩,b4⟩:=hb
      have okn:=zl5.1 b1
      refine(K.add (t:=T.map_int_bool) (e:=T.bool) (x:=(hp a.heap n.toNat).no) (v:=.bool true) Tryz.underlying292 jm (by rw[y0k (λy:Ev=>y.no),if_neg b4])).mono λv H25 ⟨o,hH,hm⟩=>⟨v,rfl,?_⟩
      have le25:Hp.le H H25:=by subst hH;exact Hp.le_put le' hb11
      have hrd25:=h.heap.le le25
      have hpar:(decide (n>0))=true->(n-1).tdiv 2=(par n.toNat:Nat)/\(par n.toNat)<a.heap.length/\par n.toNat<n.toNat/\0<n:=λhp'=>by
        have hp':0<n:=by simpa using hp'
        have:=ykn (i:=n.toNat) (by omega)
        exact⟨ykm hp',by omega,this,hp'⟩
      refine⟨λ_=>by unfold inI;omega,λhp'=>⟨by unfold nz;omega,by obtain⟨e,_⟩:=hpar hp';rw[e];unfold inI;omega⟩,λhp'=>by obtain⟨e,q,_⟩:=hpar hp';rw[e];exact hrd25.inS (by omega) (by omega),_,_,_,_,_,λhp'=>by
        obtain⟨e,q,_⟩:=hpar hp';rw[e];exact Rd.gE hrd25 (i:=(par n.toNat:Nat)) (by omega) (by omega),_,λhp'=>by
        obtain⟨e,q,_⟩:=hpar hp'
        exact z4u (x:=hp a.heap n.toNat) (y:=hp a.heap ((par n.toNat:Nat):Int).toNat) (f6 _ hmem) (f6 _ (y2z (by omega))),λhb=>⟨?_,le25⟩,λhb=>x73.nx h0 hn (by omega) ⟨le25,?_,λx hx=>?_,?_,λi hi1 hi2=>?_⟩⟩
      · rw[zk4]
        intro ok
        simp only[Bool.and_eq_true] at hb
        obtain⟨e,q,q2,q3⟩:=hpar hb.1
        have:=ok.ord n.toNat (by omega) (by omega)
        rw[Int.toNat_natCast,zn3 okn (ok.each _ (y2z q)).1,this] at hb
        exact absurd hb.2 (by simp)
      · rw[e1,hts,List.map_append];exact hm
      · rw[e1,hts] at hx
        rcases List.mem_append.1 hx with hx|hx
        · exact je x hx
        · simp only[List.mem_singleton] at hx;subst hx;exact⟨okn,by omega,by omega⟩
      · rw[e1,hts,List.map_append];exact yfs.2 ⟨jn,b4⟩
      · rcases Int.lt_or_le i n with h'|h'
        · exact jo i hi1 h'
        · have e:i=n.toNat:=by omega
          subst e
          have hp':decide (n>0)=true:=by simp;omega
          obtain⟨e,q,q2,q3⟩:=hpar hp'
          rw[hp',Bool.true_and,Int.toNat_natCast] at hb
          have hpm:hp a.heap (par n.toNat)∈a.heap.take n.toNat:=List.mem_take_iff_getElem.2 ⟨par n.toNat,by omega,(List.getElem?_eq_some_iff.1 (y2x q)).2⟩
          rw[zn3 okn (je _ hpm).1] at hb
          exact hb
  · have:n=a.heap.length:=by have:¬ n<u4.n:=by simpa using hn
                             omega
    subst this
    rw[Int.toNat_natCast,List.take_length] at je jn
    rw[zk5 ⟨tok,by omega,by omega,λi hi hu=>j1 i (by omega) hu,λi hi hu=>j2 i (by omega) hu,je,jn,λi h1 h2=>jo i h1 (by omega)⟩]

def z0k(H H':Hp)(u v:Slc):Prop:=∀b,H b≠none->(∀p,u.a=some p->p.block≠b)->(∀p,v.a=some p->p.block≠b)->H' b=H b
theorem z0k.refl{H:Hp}{u v:Slc}:z0k H H u v:=λ_ _ _ _=>rfl
theorem z0k.of{H H1 H2:Hp}{u v:Slc}(a:Chg H H1 u)(b:Chg H1 H2 v):z0k H H2 u v:=λc hc hu hv=>by
 have:=a c hc hu
 rw[b c (by rw[this];exact hc) hv,this]
theorem z0k.trans{H H1 H2:Hp}{u v:Slc}(a:z0k H H1 u v)(b:z0k H1 H2 u v):z0k H H2 u v:=λc hc hu hv=>by
 have:=a c hc hu hv
 rw[b c (by rw[this];exact hc) hu hv,this]
theorem z0k.mine{α:Type}{k:Nat}{f:α->List Value}{e:TypeId}{H0 H H':Hp}{u v w:Slc}{xs:List α}(c:z0k H H' v w)(h:Mine k f e H0 H u xs)(h1:Sep u v)(h2:Sep u w):Mine k f e H0 H' u xs:=by
 rcases h with h|⟨b,hb,h⟩
 ·exact .inl h
 ·obtain⟨g1,g2,g3,cs,g4,g5⟩:=h
  exact .inr ⟨b,hb,g1,g2,g3,cs,by rw[c b (by rw[g4];simp) (λp hp e=>h1 _ p g3 hp e.symm) λp hp e=>h2 _ p g3 hp e.symm];exact g4,g5⟩
theorem z0k.le{H0 H H':Hp}{u v:Slc}(c:z0k H H' u v)(hl:Hp.le H0 H)(hu:New H0 u)(hv:New H0 v):Hp.le H0 H':=λb o hb=>by
 rw[c b (by rw[hl b o hb];simp) (λp hp e=>by have:=hu p hp;rw[e,hb] at this;cases this) λp hp e=>by have:=hv p hp;rw[e,hb] at this;cases this]
 exact hl b o hb

structure MyA(H0 H:Hp)(u4 u5:Slc)(s:Hw):Prop where
 le:Hp.le H0 H
 heap:Mine 5 fE T.api_Event H0 H u4 s.1
 wh:Mine 1 fI T.int H0 H u5 s.2
 sep:Sep u4 u5

abbrev agV(u1 u2 u3 u4 u5:Slc):Value:=.agg #[u1.v,u2.v,u3.v,u4.v,u5.v]

theorem z52{H0 H:Hp}{u1 u2 u3 u4 u5:Slc}{s:Hw}{i:Nat}{x:Ev}(m:MyA H0 H u4 u5 s)(hi:i<s.1.length)(x0:0<=x.h.1)(x1:x.h.1<s.2.length) :
  Go.Eng.Fn Tryz.prog F.f218 #[agV u1 u2 u3 u4 u5,.int .i64 (i:Int),evV x] H λv H'=>v=.tuple #[]/\MyA H0 H' u4 u5 (s.1.set i x,s.2.set x.h.1.toNat i)/\z0k H H' u4 u5:=by
 obtain⟨m1,m2,m3,m4⟩:=m
 refine vc218 ⟨m2.rdE.inS (by omega) (by omega),?_⟩
 refine Mine.setE (k:=5) (f:=fE) (vs:=fE x) (y:=x) (λ_=>rfl) m2 (i:=(i:Int)) (by omega) (by rw[Int.toNat_natCast];exact y2x hi) (by simp[fE]) (by simp[fE]) λH1 n1 c1=>?_
 rw[Int.toNat_natCast] at n1
 have w1:=m3.chg c1 m4.symm
 refine⟨w1.rdI.inS x0 x1,Mine.setI w1 x0 x1 i λH2 n2 c2=>⟨rfl,⟨?_,n1.chg c2 m4,n2,m4⟩,z0k.of c1 c2⟩⟩
 exact Hp.le_chg (Hp.le_chg m1 c1 m2.isNew) c2 m3.isNew

def x4w(h:List Ev):Prop:=∀x∈h,okR x.at_
theorem x4w.at{h:List Ev}(t:x4w h){i:Nat}(hi:i<h.length):okR (hp h i).at_:=t _ (y2z hi)
theorem x4w.perm{h h':List Ev}(t:x4w h)(e:h'.Perm h):x4w h':=λx hx=>t x (e.mem_iff.1 hx)


theorem yvy{w:List Int}{a b:Nat}{x y z:Int}:((w.set a x).set b y).set a z=(w.set b y).set a z:=by
 by_cases h:a=b
 ·subst h;simp
 ·rw[List.set_comm _ _ h];simp

theorem y2w{s:Hw}{j k:Nat}{x:Ev}(hj:j<s.1.length)(hk:k<s.1.length)(hne:k≠j) :
  ((s.1.set j (hp s.1 k)).set k x,(s.2.set (hp s.1 k).h.1.toNat j).set x.h.1.toNat k)=x2r (s.1.set j x,s.2.set x.h.1.toNat j) j k:=by
 have e1:hp (s.1.set j x) k=hp s.1 k:=by rw[y31 hj,if_neg (λe=>hne e.symm)]
 have e2:hp (s.1.set j x) j=x:=by rw[y31 hj,if_pos rfl]
 unfold x2r
 simp only[e1,e2]
 rw[List.set_set,yvy]

theorem z54{H0 H:Hp}{u1 u2 u3 u4 u5:Slc}{s:Hw}{i:Nat}{x:Ev}(m:MyA H0 H u4 u5 s)(hi:i<s.1.length)(hx1:x.h.1<s.2.length)(hx0:0<=x.h.1)(pl:plA (s.1.set i x,s.2.set x.h.1.toNat i))(ht:x4w (s.1.set i x))(hl:s.1.length<=1000000) :
  Go.Eng.Fn Tryz.prog F.f177 #[agV u1 u2 u3 u4 u5,.int .i64 (i:Int),evV x] H λv H'=>v=.tuple #[]/\MyA H0 H' u4 u5 (ycd (s.1.set i x,s.2.set x.h.1.toNat i) i)/\z0k H H' u4 u5:=by
 generalize hs0:(s.1.set i x,s.2.set x.h.1.toNat i)=s0 at *
 have l0:s0.1.length=s.1.length:=by rw[← hs0];simp
 have ht0:x4w s0.1:=by rw[← hs0];exact ht
 have w0:s0.2.length=s.2.length:=by rw[← hs0];simp
 have htx:okR x.at_:=by
  have:hp s0.1 i=x:=by rw[← hs0];exact(y31 hi).trans (if_pos rfl)
  rw[← this];exact ht0.at (by omega)
 -- what is known in the hole at j of t,filled
 let Fl:Hw->Nat->Hw:=λt j=>(t.1.set j x,t.2.set x.h.1.toNat j)
 have flx:∀(t:Hw)(j:Nat),j<t.1.length->hp (Fl t j).1 j=x:=λt j hj=>(y31 hj).trans (if_pos rfl)
 have flo:∀(t:Hw)(j k:Nat),j<t.1.length->k≠j->hp (Fl t j).1 k=hp t.1 k:=λt j k hj hk=>(y31 hj).trans (if_neg λe=>hk e.symm)
 refine vc177 ⟨λn H'=>∃(t:Hw)(j:Nat),n=j/\MyA H0 H' u4 u5 t/\z13 s0 (Fl t j)/\j<t.1.length/\t.1.length=s.1.length/\t.2.length=s.2.length/\upA j (Fl t j) j=upA i s0 i/\z0k H H' u4 u5,λn _=>n.toNat,
  ⟨s,i,rfl,m,by show z13 s0 (s.1.set i x,s.2.set x.h.1.toNat i);rw[hs0];exact z13.refl pl,hi,rfl,rfl,by show upA i (s.1.set i x,s.2.set x.h.1.toNat i) i=_;rw[hs0],z0k.refl⟩,λn H' ⟨t,j,hn,mt,kt,hj,tl,tw,he,hc⟩=>?_⟩
 subst hn
 have r:=mt.heap.rdE
 have tt:=ht0.perm kt.perm
 have fll:(Fl t j).1.length=t.1.length:=List.length_set ..
 have gk:∀k:Nat,k<t.1.length->H'.at (zrr u4.a 5 (k:Int))=some (.int .i64 (hp t.1 k).at_.1)/\H'.at ((zrr u4.a 5 (k:Int)).add 1)=some (.int .i64 (hp t.1 k).at_.2)/\H'.at ((zrr u4.a 5 (k:Int)).add 2)=some (.int .i64 (hp t.1 k).no)/\H'.at ((zrr u4.a 5 (k:Int)).add 3)=some (.int .i64 (hp t.1 k).h.1)/\H'.at ((zrr u4.a 5 (k:Int)).add 4)=some (.int .i64 (hp t.1 k).h.2):=λk hk=>by
  have:=Rd.gE r (i:=(k:Int)) (by omega) (by omega)
  rw[Int.toNat_natCast] at this;exact this
 have hpar:decide ((j:Int)>0)=true->((j:Int)-1).tdiv 2=(par j:Nat)/\par j<j/\0<j:=λhh=>by
  have:0<j:=by simpa using hh
  have e:=ykm (n:=(j:Int)) (by omega)
  rw[Int.toNat_natCast] at e
  exact⟨e,ykn this,this⟩
 have okp:∀k:Nat,k<t.1.length->k≠j->okR (hp t.1 k).at_:=λk hk hne=>by
  rw[← flo t j k hj hne];exact tt.at (by rw[fll];exact hk)
 refine⟨λ_=>by unfold inI;omega,λhh=>⟨by unfold nz;omega,by rw[(hpar hh).1];have:=(hpar hh).2.1;unfold inI;omega⟩,λhh=>by rw[(hpar hh).1];have:=(hpar hh).2.1;exact r.inS (by omega) (by omega),_,_,_,_,_,λhh=>by
  rw[(hpar hh).1];have:=(hpar hh).2.1;exact gk (par j) (by omega),zn2 x (hp t.1 (par j)),λhh=>by
  have:=(hpar hh).2.1
  exact z4u htx.fit (okp (par j) (by omega) (by omega)).fit,λhb=>?_,λhb=>?_⟩
 ·simp only[Bool.and_eq_true] at hb
  obtain⟨e,q1,q2⟩:=hpar hb.1
  have hb2:=hb.2
  rw[zn3 htx (okp (par j) (by omega) (by omega))] at hb2
  rw[e]
  have pl':=kt.pl
  have hpj:=pl' (par j) (by rw[fll];omega)
  rw[flo t j (par j) hj (by omega)] at hpj
  have hst:=y2w (s:=t) (j:=j) (k:=par j) (x:=x) hj (by omega) (by omega)
  refine⟨by unfold inI;omega,⟨by unfold nz;omega,by unfold inI;omega⟩,r.inS (by omega) (by omega),_,_,_,_,_,gk (par j) (by omega),(z52 mt hj hpj.1 (by have:=hpj.2.1;rw[show (Fl t j).2.length=t.2.length from List.length_set ..] at this;exact this)).mono λv H17 ⟨hv,m17,c17⟩=>⟨hv,by unfold inI;omega,⟨by unfold nz;omega,by unfold inI;omega⟩,⟨_,par j,rfl,m17,?_,by simp;omega,by simpa using tl,by simpa using tw,?_,hc.trans c17⟩,?_⟩⟩
  ·show z13 s0 ((t.1.set j (hp t.1 (par j))).set (par j) x,(t.2.set (hp t.1 (par j)).h.1.toNat j).set x.h.1.toNat (par j))
   rw[hst];exact kt.trans (z13.swap kt.pl (by rw[fll];exact hj) (by rw[fll];omega))
  ·show upA (par j) ((t.1.set j (hp t.1 (par j))).set (par j) x,(t.2.set (hp t.1 (par j)).h.1.toNat j).set x.h.1.toNat (par j)) (par j)=_
   rw[hst,← he,x6s (f:=j) (s:=Fl t j) (Nat.le_refl _) q2 (by rw[flx t j hj,flo t j (par j) hj (by omega)];exact hb2)]
   exact x6p _ _ _ _ (Nat.le_refl _) (by omega)
  ·show ((par j:Nat):Int).toNat<(j:Int).toNat;omega
 ·have hstop:upA j (Fl t j) j=(Fl t j,j):=x6t λ⟨a,b⟩=>by
   have:=ykn (i:=j) a
   rw[flx t j hj,flo t j (par j) hj (by omega),← zn3 htx (okp (par j) (by omega) (by omega))] at b
   rw[b] at hb;simp at hb;omega
  rw[hstop] at he
  -- moving down
  have hmv:ycd s0 i=zqx s0.1.length (Fl t j) j:=by
   unfold ycd
   simp only[← he]
  rw[hmv]
  refine⟨by unfold inI;omega,by unfold inI;omega,?_⟩
  refine⟨λn k H''=>∃(t':Hw)(j':Nat),n=j'/\k=2*(j':Int)+1/\MyA H0 H'' u4 u5 t'/\z13 s0 (Fl t' j')/\j'<t'.1.length/\t'.1.length=s.1.length/\t'.2.length=s.2.length/\zqx s0.1.length (Fl t' j') j'=zqx s0.1.length (Fl t j) j/\z0k H H'' u4 u5,λn _ _=>(s.1.length-n).toNat,
   ⟨t,j,rfl,rfl,mt,kt,hj,tl,tw,rfl,hc⟩,λn k H'' ⟨t',j',hn,hk,mt',kt',hj',tl',tw',he',hc'⟩=>?_⟩
  subst hn;subst hk
  clear r tt gk hpar okp hb hstop he hmv fll
  have r:=mt'.heap.rdE
  have lu:=r.len
  have tt:=ht0.perm kt'.perm
  have fll:(Fl t' j').1.length=t'.1.length:=List.length_set ..
  have gk:∀k:Nat,k<t'.1.length->H''.at (zrr u4.a 5 (k:Int))=some (.int .i64 (hp t'.1 k).at_.1)/\H''.at ((zrr u4.a 5 (k:Int)).add 1)=some (.int .i64 (hp t'.1 k).at_.2)/\H''.at ((zrr u4.a 5 (k:Int)).add 2)=some (.int .i64 (hp t'.1 k).no)/\H''.at ((zrr u4.a 5 (k:Int)).add 3)=some (.int .i64 (hp t'.1 k).h.1)/\H''.at ((zrr u4.a 5 (k:Int)).add 4)=some (.int .i64 (hp t'.1 k).h.2):=λk hk=>by
   have:=Rd.gE r (i:=(k:Int)) (by omega) (by omega)
   rw[Int.toNat_natCast] at this;exact this
  have ins:∀k:Nat,k<t'.1.length->y3v u4.a u4.n (k:Int):=λk hk=>r.inS (by omega) (by omega)
  have okp:∀k:Nat,k<t'.1.length->k≠j'->okR (hp t'.1 k).at_:=λk hk hne=>by
   rw[← flo t' j' k hj' hne];exact tt.at (by rw[fll];exact hk)
  have e2:(2*(j':Int)+1+1)=((2*j'+2:Nat):Int):=by omega
  have e1:(2*(j':Int)+1)=((2*j'+1:Nat):Int):=by omega
  -- the end: the event comes into the hole
  have fin:zqx s0.1.length (Fl t' j') j'=Fl t' j'->Go.Eng.Fn Tryz.prog F.f218 #[agV u1 u2 u3 u4 u5,.int .i64 (j':Int),evV x] H'' λv H3=>v=.tuple #[]/\(Value.tuple #[]=.tuple #[]/\MyA H0 H3 u4 u5 (zqx s0.1.length (Fl t j) j)/\z0k H H3 u4 u5):=λhd=>by
   refine(z52 mt' hj' hx0 (by omega)).mono λv H3 ⟨hv,m3,c3⟩=>⟨hv,rfl,?_,hc'.trans c3⟩
   rw[← he',hd];exact m3
  have hlast:¬ 2*j'+1<t'.1.length->zqx s0.1.length (Fl t' j') j'=Fl t' j':=λhh=>zr2 λ⟨a,_⟩=>by rw[fll] at a;exact hh a
  refine⟨λhb=>?_,λhb=>fin (hlast (by simp at hb;omega))⟩
  have hk1:2*j'+1<t'.1.length:=by simp at hb;omega
  have hlt:decide (((2*j'+2:Nat):Int)<(u4.n:Int))=true->2*j'+2<t'.1.length:=λhh=>by simp at hh;omega
  -- what is done with the child that is chosen
  have go:∀k:Nat,k=kid (Fl t' j').1 j'->k<t'.1.length->(zn2 (hp t'.1 k) x>=0->zqx s0.1.length (Fl t' j') j'=Fl t' j') /\
    (¬ zn2 (hp t'.1 k) x>=0->Go.Eng.Fn Tryz.prog F.f218 #[agV u1 u2 u3 u4 u5,.int .i64 (j':Int),evV (hp t'.1 k)] H'' λv H3=>v=.tuple #[]/\inI (2*(k:Int))/\inI (2*(k:Int)+1)/\(∃(t'':Hw)(j'':Nat),(k:Int)=j''/\2*(k:Int)+1=2*(j'':Int)+1/\MyA H0 H3 u4 u5 t''/\z13 s0 (Fl t'' j'')/\j''<t''.1.length/\t''.1.length=s.1.length/\t''.2.length=s.2.length/\zqx s0.1.length (Fl t'' j'') j''=zqx s0.1.length (Fl t j) j/\z0k H H3 u4 u5)/\(s.1.length-(k:Int)).toNat<(s.1.length-(j':Int)).toNat):=λk hk hkl=>by
   have hgt:=(y5r (Fl t' j').1 j').1
   rw[← hk] at hgt
   have hokk:=okp k hkl (by omega)
   have hle:=zn3 hokk htx
   refine⟨λhb=>?_,λhb=>?_⟩
   ·refine zr2 λ⟨_,b⟩=>?_
    rw[← hk,flx t' j' hj',flo t' j' k hj' (by omega),← hle] at b
    simp at b;omega
   ·have hless:y7h (hp t'.1 k) x=true:=by rw[← hle];simp;omega
    have hpk:=kt'.pl k (by rw[fll];exact hkl)
    rw[flo t' j' k hj' (by omega)] at hpk
    have hst:=y2w (s:=t') (j:=j') (k:=k) (x:=x) hj' hkl (by omega)
    refine(z52 mt' hj' hpk.1 (by have:=hpk.2.1;rw[show (Fl t' j').2.length=t'.2.length from List.length_set ..] at this;exact this)).mono λv H3 ⟨hv,m3,c3⟩=>⟨hv,by unfold inI;omega,by unfold inI;omega,⟨_,k,rfl,rfl,m3,?_,by simpa using hkl,by simpa using tl',by simpa using tw',?_,hc'.trans c3⟩,by omega⟩
    ·show z13 s0 ((t'.1.set j' (hp t'.1 k)).set k x,(t'.2.set (hp t'.1 k).h.1.toNat j').set x.h.1.toNat k)
     rw[hst];exact kt'.trans (z13.swap kt'.pl (by rw[fll];exact hj') (by rw[fll];exact hkl))
    ·show zqx s0.1.length ((t'.1.set j' (hp t'.1 k)).set k x,(t'.2.set (hp t'.1 k).h.1.toNat j').set x.h.1.toNat k) k=_
     rw[hst,← he',zr1 (f:=s0.1.length) (s:=Fl t' j') (by rw[fll];omega) (by rw[fll];exact hk1) (by rw[← hk,flx t' j' hj',flo t' j' k hj' (by omega)];exact hless),← hk]
  rw[e2,e1]
  have k2:kid (Fl t' j').1 j'=if 2*j'+2<t'.1.length/\y7h (hp t'.1 (2*j'+2)) (hp t'.1 (2*j'+1))=true then 2*j'+2 else 2*j'+1:=by
   unfold kid;rw[fll,flo t' j' _ hj' (by omega),flo t' j' _ hj' (by omega)]
  refine⟨by unfold inI;omega,λ_=>by unfold inI;omega,λhh=>ins _ (hlt hh),_,_,_,_,_,λhh=>gk _ (hlt hh),λhh=>ins _ hk1,_,_,_,_,_,λhh=>gk _ hk1,zn2 (hp t'.1 (2*j'+2)) (hp t'.1 (2*j'+1)),λhh=>z4u (okp _ (hlt hh) (by omega)).fit (okp _ hk1 (by omega)).fit,λhb=>?_,λhb=>?_⟩
  ·simp only[Bool.and_eq_true] at hb
   have h2:=hlt hb.1
   have hb2:=hb.2
   rw[zn3 (okp _ h2 (by omega)) (okp _ hk1 (by omega))] at hb2
   rw[if_pos ⟨h2,hb2⟩] at k2
   obtain⟨g1,g2⟩:=go (2*j'+2) k2.symm h2
   exact⟨by unfold inI;omega,ins _ h2,_,_,_,_,_,gk _ h2,_,z4u (okp _ h2 (by omega)).fit htx.fit,λhx=>fin (g1 (by simpa using hx)),λhx=>⟨ins _ h2,_,_,_,_,_,gk _ h2,g2 (by simpa using hx)⟩⟩
  ·have hb2:¬ (2*j'+2<t'.1.length/\y7h (hp t'.1 (2*j'+2)) (hp t'.1 (2*j'+1))=true):=λ⟨a,b⟩=>by
    rw[← zn3 (okp _ a (by omega)) (okp _ hk1 (by omega))] at b
    rw[b] at hb;simp at hb;omega
   rw[if_neg hb2] at k2
   obtain⟨g1,g2⟩:=go (2*j'+1) k2.symm hk1
   exact⟨ins _ hk1,_,_,_,_,_,gk _ hk1,_,z4u (okp _ hk1 (by omega)).fit htx.fit,λhx=>fin (g1 (by simpa using hx)),λhx=>⟨ins _ hk1,_,_,_,_,_,gk _ hk1,g2 (by simpa using hx)⟩⟩

structure z1d(H0 H:Hp)(u1 u2 u3 u4 u5:Slc)(a:Ag):Prop where
 tb:z1g H0 H u1 u2 u3 a.tb
 heap:Mine 5 fE T.api_Event H0 H u4 a.heap
 wh:Mine 1 fI T.int H0 H u5 a.wh
 s45:Sep u4 u5
 s4:z29 u1 u2 u3 u4
 s5:z29 u1 u2 u3 u5
theorem z1d.le{H0 H:Hp}{u1 u2 u3 u4 u5:Slc}{a:Ag}(h:z1d H0 H u1 u2 u3 u4 u5 a):Hp.le H0 H:=h.tb.le
theorem z1d.rd{H0 H:Hp}{u1 u2 u3 u4 u5:Slc}{a:Ag}(h:z1d H0 H u1 u2 u3 u4 u5 a):RdA H u1 u2 u3 u4 u5 a:=⟨h.tb.rd,h.heap.rdE,h.wh.rdI⟩
theorem z1d.up{H0 H H':Hp}{u1 u2 u3 u4 u5:Slc}{a:Ag}(h:z1d H0 H u1 u2 u3 u4 u5 a)(hl:Hp.le H H'):z1d H0 H' u1 u2 u3 u4 u5 a:=⟨h.tb.up hl,h.heap.le hl,h.wh.le hl,h.s45,h.s4,h.s5⟩
theorem z1d.low{H0 H1 H:Hp}{u1 u2 u3 u4 u5:Slc}{a:Ag}(h:z1d H1 H u1 u2 u3 u4 u5 a)(hl:Hp.le H0 H1):z1d H0 H u1 u2 u3 u4 u5 a:=⟨h.tb.low hl,h.heap.low hl,h.wh.low hl,h.s45,h.s4,h.s5⟩
theorem z1d.zero{H H':Hp}(h:Hp.le H H'):z1d H H' zs zs zs zs zs .zero:=⟨z1g.zero h,.inl ⟨rfl,rfl⟩,.inl ⟨rfl,rfl⟩,Sep.nil,⟨Sep.nil,Sep.nil,Sep.nil⟩,⟨Sep.nil,Sep.nil,Sep.nil⟩⟩
theorem z1d.my{H0 H:Hp}{u1 u2 u3 u4 u5:Slc}{a:Ag}(h:z1d H0 H u1 u2 u3 u4 u5 a):MyA H0 H u4 u5 (a.heap,a.wh):=⟨h.le,h.heap,h.wh,h.s45⟩
theorem z1g.chg2{H0 H H':Hp}{a b c u v:Slc}{t:Tb}(h:z1g H0 H a b c t)(hc:z0k H H' u v)(h1:z29 a b c u)(h2:z29 a b c v)(hu:New H0 u)(hv:New H0 v):z1g H0 H' a b c t :=
 ⟨hc.le h.le hu hv,hc.mine h.uses h1.1 h2.1,hc.mine h.used h1.2.1 h2.2.1,hc.mine h.free h1.2.2 h2.2.2,h.s12,h.s13,h.s23⟩

theorem zmm{H:Hp}{s:Slc}{xs:List Ev}(hs:Rd 5 fE H s xs)(hl:xs.length<=1000000000) :
  Go.Eng.Fn Tryz.prog F.f124 #[s.v] H λv H'=>∃u:Slc,v=u.v/\Hp.le H H'/\Mine 5 fE T.api_Event H H' u xs :=
 vc124 (zms (k:=5) (f:=fE) (bytes:=40) (by kernel_rfl) (by decide) (λ_=>rfl) hs (by omega) (by omega))

theorem z57{H:Hp}{u1 u2 u3 u4 u5:Slc}{a:Ag}(h:RdA H u1 u2 u3 u4 u5 a)(hl:a.heap.length<=1000000)(hw:a.wh.length<=1000000) :
  Go.Eng.Fn Tryz.prog F.f176 #[agV u1 u2 u3 u4 u5] H λv H'=>∃b c:Slc,v=agV u1 u2 u3 b c/\MyA H H' b c (a.heap,a.wh):=by
 refine vc176 ((zmm h.heap (by omega)).mono λv H2 ⟨b,hv,l2,m2⟩=>⟨l2,b,hv,(zmo (h.wh.le l2) (by omega)).mono λv H5 ⟨c,hv,l5,m5⟩=>⟨l5,c,hv,b,c,rfl,?_⟩⟩)
 exact⟨Hp.le_trans l2 l5,m2.le l5,m5.low l2,Sep.of m2.isOld m5.isNew⟩

theorem y3y{H:Hp}{s:Slc}{xs:List Ev}{fv:Value}{p:Ev->Bool}(h:Rd 5 fE H s xs)(hl:xs.length<=1000000000)
    (hf:∀x:Ev,QfV Tryz.prog fv [evV x] H (.bool (p x))):Qf Tryz.prog F.f215 #[s.v,fv] H (.int .i64 (idx p xs)):=by
  have ls:=h.len
  refine vc215 (upto (N:=xs.length) (J:=λn=>∀y∈xs.take n.toNat,p y=false) (by omega) (by simp) λn h0 h1 hJ=>⟨λhn=>?_,λhn=>⟨?_,Hp.le_refl _⟩⟩)
  · have hn:n<xs.length:=by have:n<s.n:=by simpa using hn
                            omega
    have hg:=y2x (h:=xs) (i:=n.toNat) (by omega)
    refine⟨h.inS h0 hn,_,_,_,_,_,Rd.gE h h0 hn,_,hf (hp xs n.toNat),λhb=>⟨?_,Hp.le_refl _⟩,λhb=>upto.nx h0 hn (by omega) ?_⟩
    · rw[y3k hg hb hJ,Int.toNat_of_nonneg h0]
    · rw[show (n+1).toNat=n.toNat+1 by omega,x4c hg]
      intro y hy
      rcases List.mem_append.1 hy with hy|hy
      · exact hJ y hy
      · simp only[List.mem_singleton] at hy;subst hy;exact hb
  · have:n=xs.length:=by have:¬ n<s.n:=by simpa using hn
                         omega
    subst this
    rw[Int.toNat_natCast,List.take_length] at hJ
    rw[y3m hJ]
theorem zpc{H:Hp}{s:Slc}{xs:List Ev}{fv:Value}{p:Ev->Bool}(h:Rd 5 fE H s xs)(hl:xs.length<=1000000000)
  (hf:∀x:Ev,QfV Tryz.prog fv [evV x] H (.bool (p x))):Qf Tryz.prog F.f173 #[s.v,fv] H (.bool (xs.any p)) :=
 vc173 ⟨_,y3y h hl hf,by rw[← y3j],Hp.le_refl _⟩


def yn7(a:Ag):Prop:=a.wh.length=a.tb.uses.length/\a.heap.length+a.tb.free.length=a.tb.uses.length/\(∀i:Nat,i<a.tb.uses.length->a.tb.used.getD i false=false->a.wh.getD i 0 = -1) /\
 ∀i:Nat,i<a.tb.uses.length->a.tb.used.getD i false=true->0<=a.wh.getD i 0/\a.wh.getD i 0<a.heap.length/\(hp a.heap (a.wh.getD i 0).toNat).h=((i:Int),a.tb.uses.getD i 0)

noncomputable instance (a:Ag):Decidable (yn7 a):=Classical.propDecidable _

theorem z4w{H:Hp}{u1 u2 u3 u4 u5:Slc}{a:Ag}{h:Int×Int}(r:RdA H u1 u2 u3 u4 u5 a)(f:fitG a) :
  Qf Tryz.prog F.f225 #[agV u1 u2 u3 u4 u5,.agg #[.int .i64 h.1,.int .i64 h.2]] H (.tuple #[.int .i64 (if (zwf a h).2=0 then (atA a h:Int) else 0),.int .i64 (zwf a h).2]):=by
 refine vc225 ⟨_,z4t r f,λhc=>?_,λhc=>?_⟩
 ·have hk:¬ okA a:=λok=>by rw[zk5 ok] at hc;simp at hc
  rw[zwf,if_neg hk,zk4 hk]
  exact⟨rfl,Hp.le_refl _⟩
 ·have ok:okA a:=zk6.1 (by simpa using hc)
  rw[zwf,if_pos ok]
  refine⟨_,_,yyx r.tb f.tb,λhb=>?_,λhb=>?_⟩
  ·rw[y1y,if_pos ok.tb] at hb
   have hl:a.tb.live h.1 h.2≠true:=by simpa using hb
   rw[if_neg hl]
   exact⟨rfl,Hp.le_refl _⟩
  ·rw[y1y,if_pos ok.tb] at hb
   have hl:a.tb.live h.1 h.2=true:=by simpa using hb
   rw[if_pos hl]
   obtain⟨v1,v2,v3,v4⟩:=y85.1 hl
   have:=ok.wl
   have so:=ok.slotOf hl
   refine r.wh.ldI v1 (by omega) ⟨?_,Hp.le_refl _⟩
   rw[if_pos rfl]
   unfold atA
   rw[Int.toNat_of_nonneg so.1]

theorem z56{H:Hp}{u1 u2 u3 u4 u5:Slc}{a:Ag}(r:RdA H u1 u2 u3 u4 u5 a)(f:fitG a) :
  Qf Tryz.prog F.f121 #[agV u1 u2 u3 u4 u5] H (.tuple #[evV (x5l a).1,.int .i64 (x5l a).2]):=by
 have l4:=r.heap.len
 refine vc121 ⟨_,z4t r f,λhc=>?_,λhc=>?_⟩
 ·have hk:¬ okA a:=λok=>by rw[zk5 ok] at hc;simp at hc
  rw[x5l,if_neg hk,zk4 hk]
  exact⟨rfl,Hp.le_refl _⟩
 ·have ok:okA a:=zk6.1 (by simpa using hc)
  rw[x5l,if_pos ok]
  refine⟨λhb=>?_,λhb=>?_⟩
  ·have hb:u4.n=0:=by simpa using hb
   rw[if_pos (by omega)];exact⟨rfl,Hp.le_refl _⟩
  ·have hb:¬ u4.n=0:=by simpa using hb
   rw[if_neg (by omega)]
   exact⟨r.heap.inS (by omega) (by omega),_,_,_,_,_,Rd.gE r.heap (i:=0) (by omega) (by omega),rfl,Hp.le_refl _⟩

theorem _root_.Go.Eng.Chg.two{H H':Hp}{u v:Slc}(c:Chg H H' u):z0k H H' u v:=λb hb h1 _=>c b hb h1
theorem zr3{f:Nat}{s:Hw}{i:Nat}(o:yir s.1):zqx f s i=s :=
 zr2 λ⟨a,b⟩=>by
  obtain⟨k1,k2,k3⟩:=y5r s.1 i
  have:=o (kid s.1 i) (by omega) (k2 a)
  rw[k3] at this
  rw[this] at b;cases b
theorem zug(x:Ev):∀v∈fE x,v.oneCell'=true:=λv hv=>by simp[fE] at hv;rcases hv with rfl|rfl|rfl|rfl|rfl <;> rfl

theorem z4y{H:Hp}{b:Nat}{n:Int}{x:Ev}(h:H.at ((Addr.mk b 0 none).add 0)=some (.int .i64 n)) :
  QfV Tryz.prog (.func (.func F.f174) #[] #[.pointer (some ⟨b,0,none⟩)]) [evV x] H (.bool (x.no==n)):=by
 refine⟨F.f174,#[],_,rfl,cb174,?_⟩
 exact vc174 (a5:=⟨b,0,none⟩) ⟨_,h,rfl,Hp.le_refl _⟩

theorem y9k{a:Ag}{t:Int×Int}(h:¬ (okA a/\okR t)):(if zl2 t>zk3 a then zl2 t else zk3 a)=8:=by
 by_cases o1:okA a
 ·have o2:¬ okR t:=λo2=>h ⟨o1,o2⟩
  rw[zk5 o1,zl3 o2];try rfl
 ·rw[zk4 o1]
  by_cases o2:okR t
  ·rw[zl4 o2];try rfl
  ·rw[zl3 o2];try rfl

theorem MyA.new{H0 H9 H17 H:Hp}{s1 s2 s3 u4 u5:Slc}{tb:Tb}{s:Hw}(nt:z1g H0 H17 s1 s2 s3 tb)(m:MyA H0 H u4 u5 s)(c:z0k H17 H u4 u5)(h4:z29 s1 s2 s3 u4)(h5:z29 s1 s2 s3 u5):z1d H0 H s1 s2 s3 u4 u5 ⟨tb,s.1,s.2⟩ :=
 ⟨z1g.chg2 nt c h4 h5 m.heap.isNew m.wh.isNew,m.heap,m.wh,m.sep,h4,h5⟩

theorem z4x{H:Hp}{u1 u2 u3 u4 u5:Slc}{a:Ag}{t:Int×Int}{n:Int}(r:RdA H u1 u2 u3 u4 u5 a)(f:fitG a)(ft:zxh t) :
  Go.Eng.Fn Tryz.prog F.f117 #[agV u1 u2 u3 u4 u5,.agg #[.int .i64 t.1,.int .i64 t.2],.int .i64 n] H λv H'=>∃v1 v2 v3 v4 v5:Slc,
   v=.tuple #[agV v1 v2 v3 v4 v5,.agg #[.int .i64 (yp9 a t n).2.1.1,.int .i64 (yp9 a t n).2.1.2],.int .i64 (yp9 a t n).2.2]/\z1d H H' v1 v2 v3 v4 v5 (yp9 a t n).1:=by
 have fh:=f.hl;have fw:=f.wl
 refine vc117 λb1 H2 hb1 hH2=>?_
 have le2:Hp.le H H2:=Hp.le_new (Hp.le_refl _) hb1 hH2
 have r2:=r.le le2
 have va:=Var.new hH2
 have e1:=va.at
 refine⟨_,z4t r2 f,_,yqv ft,λhc=>?_,λhc=>?_⟩
 ·have hbad:¬ (okA a/\okR t):=λ⟨o1,o2⟩=>by rw[zk5 o1,zl4 o2] at hc;simp at hc
  rw[y9k hbad,yp9,if_neg hbad]
  exact⟨zs,zs,zs,zs,zs,rfl,z1d.zero le2⟩
 have ok:okA a/\okR t:=by
  by_cases h:okA a/\okR t
  ·exact h
  ·rw[y9k h] at hc;simp at hc
 rw[yp9,if_pos ok]
 refine⟨_,e1,_,λ_=>e1,λhb=>?_,λhb=>?_⟩
 ·rw[if_pos (by simpa using hb)]
  exact⟨zs,zs,zs,zs,zs,rfl,z1d.zero le2⟩
 rw[if_neg (show ¬ (n<0\/1000000<n) by simpa using hb)]
 refine⟨_,zpc r2.heap (by omega) (λx=>z4y e1),λhb=>?_,λhb=>?_⟩
 ·rw[if_pos (show y1w a n=true from hb)]
  exact⟨zs,zs,zs,zs,zs,rfl,z1d.zero le2⟩
 rw[if_neg (show ¬ y1w a n=true from by rw[show y1w a n=false from hb];simp)]
 refine(yyz r2.tb f.tb).mono λv H9 ⟨s1,s2,s3,hv,nt⟩=>⟨s1,s2,s3,_,_,_,hv,?_⟩
 rw[x3r,if_pos ok.1.tb] at nt ⊢
 by_cases hct:a.tb.canTake=true
 ·rw[if_pos hct] at nt ⊢
  rw[if_pos hct]
  refine⟨λhe=>by simp at he,λ_=>?_⟩
  have le9:=Hp.le_trans le2 nt.le
  refine(z57 (r.le le9) fh fw).mono λv H17 ⟨b,c,hv,m⟩=>⟨_,_,_,b,c,hv,n,?_,λb24 H25 hb24 hH25=>?_⟩
  ·exact(va.le (Hp.le_trans nt.le m.le)).at
  have le17:=Hp.le_trans le9 m.le
  have hmb:=m.heap.low le9
  have hmc:=m.wh.low le9
  have o:=nt.old
  refine(z78 (k:=5) (f:=fE) (bytes:=40) (x:=(Ev.mk t n (ydw a))) (e:=T.api_Event) (by kernel_rfl) (by decide) (λ_=>rfl) zug le17 hmb hb24 hH25 rfl (by show a.heap.length<=_;omega) (by omega)).mono λv H27 ⟨w,hw,l27,mw,cw,ew⟩=>⟨w,hw,?_⟩
  have lw:=mw.rdE.len
  have lw:w.n=a.heap.length+1:=by rw[lw];simp
  have mc:=hmc.chg cw m.sep.symm
  have my:MyA H H27 w c (a.heap++[(Ev.mk t n (ydw a))],a.wh):=⟨l27,mw,mc,m.sep.ext m.wh.isOld ew⟩
  have nt17:=(nt.low le2).up m.le
  have sb:z29 s1 s2 s3 b:=⟨Sep.of o.1 m.heap.isNew,Sep.of o.2.1 m.heap.isNew,Sep.of o.2.2 m.heap.isNew⟩
  have sc:z29 s1 s2 s3 c:=⟨Sep.of o.1 m.wh.isNew,Sep.of o.2.1 m.wh.isNew,Sep.of o.2.2 m.wh.isNew⟩
  have nt27:=z1g.chg2 nt17 (cw.two (v:=c)) sb sc hmb.isNew hmc.isNew
  have sw:z29 s1 s2 s3 w:=sb.ext (o.le m.le) ew
  have en:((w.n:Int)-1)=(a.heap.length:Nat):=by omega
  obtain⟨p1,p2,p3,p4⟩:=ypd (n:=n) ok.1 ok.2 hct
  obtain⟨hf,hu⟩:=zca.1 hct
  obtain⟨tm,t0,t1⟩:=ok.1.tb.topR hf
  have hwl:=ok.1.wl
  have es:((a.heap++[(Ev.mk t n (ydw a))]).set a.heap.length (Ev.mk t n (ydw a)),a.wh.set (ydw a).1.toNat (a.heap.length:Nat))=ypc a t n:=by
   unfold ypc
   rw[List.set_append_right _ _ (Nat.le_refl _)];simp[ydw]
  refine⟨by unfold inI;omega,?_⟩
  rw[en]
  have hset:=z54 (u1:=s1) (u2:=s2) (u3:=s3) (i:=a.heap.length) (x:=(Ev.mk t n (ydw a))) my (by simp) (by show x5u a.tb.free<a.wh.length;omega) (by exact t0) (by show plA (_,_);rw[show (a.wh.set (ydw a).1.toNat (a.heap.length:Nat))=a.wh.set (ydw a).1.toNat (a.heap.length:Nat) from rfl,es];exact p1)
   (λx hx=>by
    rw[show ((a.heap++[(Ev.mk t n (ydw a))]).set a.heap.length (Ev.mk t n (ydw a)))=(ypc a t n).1 from congrArg Prod.fst es] at hx
    rcases List.mem_append.1 hx with hx|hx
    ·exact(ok.1.each x hx).1
    ·simp only[List.mem_singleton] at hx;subst hx;exact ok.2) (by have:=ok.1.hl;have:=ok.1.tb.top;simp;omega)
  refine hset.mono λv H30 ⟨hv,m30,c30⟩=>⟨hv,s1,s2,s3,w,c,rfl,?_⟩
  have hk:=ypf (n:=n) ok.1 ok.2 hct
  have em:ycd (ypc a t n) a.heap.length=(upA a.heap.length (ypc a t n) a.heap.length).1:=by
   unfold ycd;exact zr3 hk.2
  have m30:MyA H H30 w c (upA a.heap.length (ypc a t n) a.heap.length).1:=by
   rw[← em,← es];exact m30
  exact MyA.new (H9:=H) nt27 m30 c30 sw sc
 ·rw[if_neg hct] at nt ⊢
  rw[if_neg hct]
  exact⟨λ_=>⟨zs,zs,zs,zs,zs,rfl,z1d.zero (Hp.le_trans le2 nt.le)⟩,λhe=>by simp at he⟩

theorem MyA.up{H0 H H':Hp}{u4 u5:Slc}{s:Hw}(m:MyA H0 H u4 u5 s)(hl:Hp.le H H'):MyA H0 H' u4 u5 s:=⟨Hp.le_trans m.le hl,m.heap.le hl,m.wh.le hl,m.sep⟩
theorem MyA.low{H0 H1 H:Hp}{u4 u5:Slc}{s:Hw}(m:MyA H1 H u4 u5 s)(hl:Hp.le H0 H1):MyA H0 H u4 u5 s:=⟨Hp.le_trans hl m.le,m.heap.low hl,m.wh.low hl,m.sep⟩
theorem MyA.cut{H0 H:Hp}{u4 u5:Slc}{s:Hw}(m:MyA H0 H u4 u5 s){n:Nat}(hn:n<=s.1.length):MyA H0 H ⟨u4.a,n,u4.c⟩ u5 (s.1.take n,s.2) :=
 ⟨m.le,Mine.cut (k:=5) (f:=fE) (λ_=>rfl) m.heap hn,m.wh,λp q hp hq=>m.sep p q hp hq⟩
theorem MyA.put{H0 H:Hp}{u4 u5:Slc}{s:Hw}(m:MyA H0 H u4 u5 s){i y:Int}(h0:0<=i)(h1:i<s.2.length){Q:Hp->Prop}
  (q:∀H',MyA H0 H' u4 u5 (s.1,s.2.set i.toNat y)->z0k H H' u4 u5->Q H') :
  H.canStore (zrr u5.a 1 i) 0 [.int .i64 y]/\∀H',H'=H.store (zrr u5.a 1 i) 0 [.int .i64 y]->Q H' :=
 Mine.setI m.wh h0 h1 y λH' m' c'=>q H' ⟨Hp.le_chg m.le c' m.wh.isNew,m.heap.chg c' m.sep,m',m.sep⟩ λb hb _ h2=>c' b hb h2

theorem yt1{a:Ag}{h:Int×Int}(ok:okA a)(hl:a.tb.live h.1 h.2=true)(hne:atA a h≠a.heap.length-1):x4w (yt0 a h).1:=λx hx=>by
 have:=(ytc ok hl hne).2.mem_iff.1 (List.mem_cons_of_mem _ hx)
 exact(ok.each x this).1
theorem yt2{a:Ag}{h:Int×Int}(ok:okA a)(hl:a.tb.live h.1 h.2=true)(hne:atA a h≠a.heap.length-1):h.1.toNat≠(hp a.heap (a.heap.length-1)).h.1.toNat:=λe=>by
 obtain⟨m1,m2,m3⟩:=zwm ok hl
 have:=(ok.pl (a.heap.length-1) (by show a.heap.length-1<a.heap.length;omega)).2.2
 have this:a.wh.getD (hp a.heap (a.heap.length-1)).h.1.toNat 0=((a.heap.length-1:Nat):Int):=this
 rw[← e] at this
 apply hne;unfold atA;rw[this,Int.toNat_natCast]
theorem z51{H:Hp}{u1 u2 u3 u4 u5:Slc}{a:Ag}{h:Int×Int}(r:RdA H u1 u2 u3 u4 u5 a)(ok:okA a)(hl:a.tb.live h.1 h.2=true) :
  Go.Eng.Fn Tryz.prog F.f226 #[agV u1 u2 u3 u4 u5,.int .i64 (atA a h:Int)] H λv H'=>∃v1 v2 v3 v4 v5:Slc,
   v=.tuple #[agV v1 v2 v3 v4 v5,evV (hp a.heap (atA a h)),.int .i64 0]/\z1d H H' v1 v2 v3 v4 v5 (yt9 a h):=by
 have f:=okA.fitG ok
 have fh:=f.hl;have fw:=f.wl
 obtain⟨m1,m2,m3⟩:=zwm ok hl
 obtain⟨l1,l2,l3,l4⟩:=y85.1 hl
 have hwl:=ok.wl
 have g:=Rd.gE r.heap (i:=(atA a h:Int)) (by omega) (by omega)
 rw[Int.toNat_natCast] at g
 refine vc226 ⟨r.heap.inS (by omega) (by omega),_,_,_,_,_,g,?_⟩
 rw[m2]
 refine(yyw r.tb f.tb).mono λv H7 ⟨s1,s2,s3,hv,nt⟩=>⟨s1,s2,s3,_,hv,?_⟩
 rw[y0s,if_pos ok.tb,if_pos hl] at nt ⊢
 refine⟨λhe=>by simp at he,λ_=>?_⟩
 refine(z57 (r.le nt.le) fh fw).mono λv H13 ⟨b,c,hv,m⟩=>⟨_,_,_,b,c,hv,?_⟩
 have lb:b.n=a.heap.length:=m.heap.rdE.len
 have cb:=m.heap.rdE.cap
 have gl:=Rd.gE m.heap.rdE (i:=((a.heap.length-1:Nat):Int)) (by omega) (by show _<(a.heap.length:Int);omega)
 rw[Int.toNat_natCast] at gl
 have en:(b.n:Int)-1=((a.heap.length-1:Nat):Int):=by omega
 have o:=nt.old
 have sb:z29 s1 s2 s3 b:=⟨Sep.of o.1 m.heap.isNew,Sep.of o.2.1 m.heap.isNew,Sep.of o.2.2 m.heap.isNew⟩
 have sc:z29 s1 s2 s3 c:=⟨Sep.of o.1 m.wh.isNew,Sep.of o.2.1 m.wh.isNew,Sep.of o.2.2 m.wh.isNew⟩
 have sb':z29 s1 s2 s3 ⟨b.a,a.heap.length-1,b.c⟩:=⟨λp q hp hq=>sb.1 p q hp hq,λp q hp hq=>sb.2.1 p q hp hq,λp q hp hq=>sb.2.2 p q hp hq⟩
 rw[en,ywl,Int.toNat_natCast]
 refine⟨by unfold inI;omega,m.heap.rdE.inS (by omega) (by show _<(a.heap.length:Int);omega),_,_,_,_,_,gl,⟨by omega,by omega,by omega,by omega⟩,m.wh.rdI.inS l1 (by show _<(a.wh.length:Int);omega),?_⟩
 have m0:=(m.low nt.le).cut (n:=a.heap.length-1) (by show _<=a.heap.length;omega)
 refine m0.put l1 (by show _<(a.wh.length:Int);omega) λH24 m24 c24=>⟨λhlt=>?_,λhge=>?_⟩
 ·have hlt:(atA a h:Int)<((a.heap.length-1:Nat):Int):=by simpa using hlt
  have hne:atA a h≠a.heap.length-1:=by omega
  obtain⟨p1,p2,p3,p4⟩:=yt3 ok hl hne
  obtain⟨q1,q2,q3⟩:=ok.pl (a.heap.length-1) (by show a.heap.length-1<a.heap.length;omega)
  have es:((a.heap.take (a.heap.length-1)).set (atA a h) (hp a.heap (a.heap.length-1)),(a.wh.set h.1.toNat (-1)).set (hp a.heap (a.heap.length-1)).h.1.toNat (atA a h:Nat))=yt0 a h:=by
   unfold yt0
   rw[List.take_set,List.set_comm _ _ (yt2 ok hl hne)]
  have hset:=z54 (u1:=s1) (u2:=s2) (u3:=s3) (i:=atA a h) (x:=hp a.heap (a.heap.length-1)) m24 (by show _<(a.heap.take _).length;simp;omega) (by show _<((a.wh.set _ _).length:Int);rw[List.length_set];exact q2) q1
   (by show plA ((a.heap.take (a.heap.length-1)).set (atA a h) (hp a.heap (a.heap.length-1)),(a.wh.set h.1.toNat (-1)).set (hp a.heap (a.heap.length-1)).h.1.toNat (atA a h:Nat));rw[es];exact p1)
   (by show x4w ((a.heap.take (a.heap.length-1)).set (atA a h) (hp a.heap (a.heap.length-1)));rw[show (a.heap.take (a.heap.length-1)).set (atA a h) (hp a.heap (a.heap.length-1))=(yt0 a h).1 from congrArg Prod.fst es];exact yt1 ok hl hne)
   (by show (a.heap.take _).length<=_;simp;omega)
  refine hset.mono λv H26 ⟨hv,m26,c26⟩=>⟨hv,s1,s2,s3,⟨b.a,a.heap.length-1,b.c⟩,c,by unfold evV;rw[m2],?_⟩
  rw[yt9,if_neg hne]
  have m26:MyA H H26 ⟨b.a,a.heap.length-1,b.c⟩ c (ycd (yt0 a h) (atA a h)):=by rw[← es];exact m26
  exact MyA.new (H9:=H) (nt.up m.le) m26 (c24.trans c26) sb' sc
 ·have hge:¬ (atA a h:Int)<((a.heap.length-1:Nat):Int):=by simpa using hge
  refine⟨s1,s2,s3,⟨b.a,a.heap.length-1,b.c⟩,c,by unfold evV;rw[m2],?_⟩
  rw[yt9,if_pos (by omega)]
  exact MyA.new (H9:=H) (nt.up m.le) m24 c24 sb' sc


theorem z4z{H:Hp}{u1 u2 u3 u4 u5:Slc}{a:Ag}{h:Int×Int}(r:RdA H u1 u2 u3 u4 u5 a)(f:fitG a) :
  Go.Eng.Fn Tryz.prog F.f184 #[agV u1 u2 u3 u4 u5,.agg #[.int .i64 h.1,.int .i64 h.2]] H λv H'=>∃v1 v2 v3 v4 v5:Slc,
   v=.tuple #[agV v1 v2 v3 v4 v5,evV (yt4 a h).2.1,.int .i64 (yt4 a h).2.2]/\z1d H H' v1 v2 v3 v4 v5 (yt4 a h).1:=by
 refine vc184 ⟨_,_,z4w r f,λhc=>?_,λhc=>?_⟩
 ·have hk:(zwf a h).2≠0:=by simpa using hc
  rw[yt4,if_neg hk]
  exact⟨zs,zs,zs,zs,zs,rfl,z1d.zero (Hp.le_refl _)⟩
 ·have hk:(zwf a h).2=0:=by simpa using hc
  rw[yt4,if_pos hk,if_pos hk]
  have hh:okA a/\a.tb.live h.1 h.2=true:=by
   unfold zwf at hk
   split at hk
   ·rename_i ok
    split at hk
    ·rename_i hl;exact⟨ok,hl⟩
    ·cases hk
   ·cases hk
  refine(z51 r hh.1 hh.2).mono λv H4 ⟨v1,v2,v3,v4,v5,hv,n⟩=>⟨v1,v2,v3,v4,v5,_,_,_,_,_,_,hv,v1,v2,v3,v4,v5,?_,n⟩
  rw[zwf,if_pos hh.1,if_pos hh.2]
end Go.Proofs.YtnhdkkblehadjabGreat
end
section
/- Agendas: new ones. Conditions: none. -/
set_option maxRecDepth 100000
open Go Go.Eng Go.Proofs
namespace Go.Eng
theorem zpk{P:Program}{t t2 ty e:TypeId}{x:TypeDesc}{cs:Array Bool}(ht:P.underlying t=some (.slice e))(he:P.underlying e=some x)(h1:P.cellsOf e=1)
  {H:Hp} {b off n c:Nat} {cells:Array Value} {T:TypeId} (hb:H b=some (.cells cells T (0,0))) {q:Addr} {m c':Nat} {vs:List Value} (hl:vs.length=m.min n)
  (hvs:∀j v,vs[j]?=some v->H.at (q.add j)=some v) (hone:∀v∈vs,v.oneCell'=true) (hsz:off+vs.length<=cells.size) :
  z1n P (z9h .copy #[t,t2] ty cs [.slice (some ⟨b,off,none⟩) n c,.slice (some q) m c']) H λv H'=>v=.int .i64 (vs.length:Int) /\
   H'=H.put b (.cells (cells.toList.take off++vs++cells.toList.drop (off+vs.length)).toArray T (0,0)):=by
 intro w hv
 have hld:=run_loadCells_list (P:=P) w q vs (λj v h=>hv.cell (hvs j v h))
 have hst:=run_storeCells_at (P:=P) b off T vs 0 cells w (hv b _ hb) (by omega) hone
 simp only[Nat.add_zero] at hst
 refine⟨.int .i64 (vs.length:Int),w.setRow b (cells.toList.take off++vs++cells.toList.drop (off+vs.length)).toArray,_,.inl ?_,Tr.setRow hv hb _,rfl,rfl⟩
 have hcp:(Builtin.copy_ #[t,t2] ty #[.slice (some ⟨b,off,none⟩) n c,.slice (some q) m c']).run P w=.ok (.int .i64 (vs.length:Int)) (w.setRow b (cells.toList.take off++vs++cells.toList.drop (off+vs.length)).toArray):=by
  unfold Builtin.copy_
  simp only[List.getElem?_toArray,List.getElem?_cons_zero,List.getElem?_cons_succ]
  rw[Sem.run_bind,run_underlying ht,Result.andThen_ok]
  simp only[]
  rw[Sem.run_bind,show (Builtin.lenOf (.slice (some q) m c')).run P w=.ok m w from rfl,Result.andThen_ok]
  rw[Sem.run_bind,run_sizeOf he,Result.andThen_ok,h1]
  rw[Sem.run_bind,show Builtin.firstCells 1 (m.min n) (.slice (some q) m c')=loadCells q (m.min n*1) from rfl,Nat.mul_one,← hl,hld,Result.andThen_ok]
  simp only[]
  rw[Sem.run_bind]
  rw[hst,Result.andThen_ok]
  rfl
 simp[z9h,Go.builtin,hcp]
end Go.Eng
namespace Go.Proofs.YtnhdkkblehadjabGreat

theorem zav{H:Hp}{x y:Int}(hx:0<=x)(hx':x<18446744073709551616)(hy:0<=y)(hy':y<18446744073709551616) :
  Qf Tryz.prog F.f164 #[.int .u64 x,.int .u64 y] H (.tuple #[.int .u64 (x*y/18446744073709551616),.int .u64 (x*y%18446744073709551616)]) :=
 vc164 ⟨λh=>(by cases h),λ_=>⟨_,_,yco hx hx' hy hy',rfl,Hp.le_refl _⟩⟩

def ydf(N k:Nat):List Value:=List.replicate k (.int .i64 (-1))++List.replicate (N-k) (.int .i64 0)
theorem ydg{N k:Nat}(h:k<=N):(ydf N k).length=N:=by simp[ydf];omega
theorem ydh{N k l:Nat}(h:k+l<=N):(ydf N k).take k++List.replicate l (.int .i64 (-1))++(ydf N k).drop (k+l)=ydf N (k+l):=by
 unfold ydf
 rw[List.take_left' (by simp),List.drop_append,List.drop_eq_nil_of_le (by simp),List.drop_replicate,List.replicate_append_replicate,List.length_replicate,List.nil_append]
 congr 2
 omega

theorem ytd{H:Hp}{N b:Nat}(h1:1<=N)(h2:N<=200)(hx:H.at ⟨b,0,none⟩=some (.int .i64 (-1))) :
    Go.Eng.Fn Tryz.prog F.f109 #[.slice (some ⟨b,0,none⟩) 1 1,.int .i64 (N:Int)] H λv H'=>Hp.le H H'/\∃u:Slc,v=u.v/\Mine 1 fI T.int H H' u (List.replicate N (-1)):=by
  have e1:x8o (1:Int)=1:=by decide
  have eN:x8o (N:Int)=N:=by unfold x8o;omega
  have ew:IntKind.i64.wrap (N:Int)=N:=by rw[y3c];omega
  refine vc109 (a0:=⟨some ⟨b,0,none⟩,1,1⟩) ⟨λh=>by simp at h;omega,λ_=>⟨0,(N:Int),?_,λh=>by simp at h;omega,λ_=>?_⟩⟩
  · have:=zav (H:=H) (x:=x8o (((1:Nat):Int))) (y:=x8o (N:Int)) (by decide) (by decide) (by rw[eN];omega) (by rw[eN];omega)
    rw[show x8o (((1:Nat):Int))=1 from e1,eN,show (1:Int)*N/18446744073709551616=0 by omega,show (1:Int)*N%18446744073709551616=N by omega] at this
    rw[show x8o (((1:Nat):Int))=1 from e1,eN]
    exact this
  rw[ew,Int.toNat_natCast]
  refine⟨⟨rfl,by omega,by omega⟩,λb3 H4 hb3 hH4=>?_⟩
  have hne:b3≠b:=λe=>by subst e;unfold Hp.at at hx;rw[hb3] at hx;cases hx
  have c0:(List.replicate N [Value.int .i64 0]).flatten.toArray=(ydf N 0).toArray:=by simp[ydf]
  have le4:Hp.le H H4:=Hp.le_new (Hp.le_refl _) hb3 hH4
  rw[c0] at hH4
  have hb4:H4 b3=some (.cells (ydf N 0).toArray 3 (0,0)):=by rw[hH4];exact Hp.put_same ..
  have st:=zpk (P:=Tryz.prog) (t:=33) (t2:=33) (ty:=3) (e:=3) (cs:=#[false,false]) Tryz.underlying33 Tryz.underlying3 (by kernel_rfl) (H:=H4) (off:=0) (n:=N) (c:=N) hb4 (q:=⟨b,0,none⟩) (m:=1) (c':=1) (vs:=[.int .i64 (-1)]) (by simp[Nat.min_def];omega)
    (λj v hj=>by
      have:j=0:=by have:=(List.getElem?_eq_some_iff.1 hj).1;simp at this;exact this
      subst this;simp at hj;subst hj;rw[add_zero'];exact Hp.at_le le4 hx) (λv hv=>by simp at hv;subst hv;rfl) (by simp[ydf];omega)
  refine st.mono λv H6 ⟨hv,hH6⟩=>⟨1,hv,?_⟩
  have e6:H6=H.put b3 (.cells (ydf N 1).toArray 3 (0,0)):=by
    rw[hH6,hH4,Hp.put_put]
    have:=ydh (N:=N) (k:=0) (l:=1) (by omega)
    rw[← this];try rfl
  refine⟨λn H'=>∃k:Nat,n=k/\1<=k/\k<=N/\H'=H.put b3 (.cells (ydf N k).toArray 3 (0,0)),λn _=>(N-n).toNat,⟨1,rfl,by omega,h1,e6⟩,λn H11 ⟨k,hn,k1,k2,hH⟩=>?_⟩
  subst hn
  refine⟨λhlt=>⟨⟨by omega,by omega,by omega,by omega⟩,⟨by omega,by omega,by omega,by omega⟩,?_⟩,λhge=>?_⟩
  · have hlt:k<N:=by have:(k:Int)<N:=by simpa using hlt
                     omega
    have hb11:H11 b3=some (.cells (ydf N k).toArray 3 (0,0)):=by rw[hH];exact Hp.put_same ..
    have hsub:x23 (some ⟨b3,0,none⟩) (Tryz.prog.cellsOf 3) (k:Int) (N:Int)=some ⟨b3,k,none⟩:=by
      unfold x23
      rw[if_neg (by omega),show Tryz.prog.cellsOf 3=1 by kernel_rfl]
      simp only[Option.map_some,Addr.add_lit,Int.toNat_natCast,Nat.zero_add,Nat.mul_one]
    rw[hsub,x26]
    have st:=zpk (P:=Tryz.prog) (t:=33) (t2:=33) (ty:=3) (e:=3) (cs:=#[false,false]) Tryz.underlying33 Tryz.underlying3 (by kernel_rfl) (H:=H11) (off:=k) (n:=(N:Int).toNat-(k:Int).toNat) (c:=(N:Int).toNat-(k:Int).toNat) hb11 (q:=⟨b3,0,none⟩) (m:=(k:Int).toNat-Int.toNat 0) (c':=(N:Int).toNat-Int.toNat 0) (vs:=List.replicate (min k (N-k)) (.int .i64 (-1))) (by simp[Nat.min_def])
      (λj v hj=>by
        have hjl:=(List.getElem?_eq_some_iff.1 hj).1
        rw[List.length_replicate] at hjl
        rw[List.getElem?_replicate,if_pos hjl] at hj
        cases hj
        rw[z41,Cel.at hb11]
        rw[show (0+j)=j from Nat.zero_add j]
        rw[List.getElem?_toArray]
        unfold ydf
        rw[List.getElem?_append_left (by rw[List.length_replicate];omega),List.getElem?_replicate,if_pos (by omega)]) (λv hv=>by rw[List.mem_replicate] at hv;rw[hv.2];try rfl) (by simp[ydg k2];omega)
    refine st.mono λv H13 ⟨hv,hH13⟩=>⟨_,hv,?_⟩
    rw[List.length_replicate] at hH13 ⊢
    refine⟨by unfold inI;omega,⟨k+min k (N-k),by omega,by omega,by omega,?_⟩,by show ((N:Int)-((k:Int)+(min k (N-k):Nat))).toNat<((N:Int)-(k:Int)).toNat;omega⟩
    rw[hH13,hH,Hp.put_put]
    have:=ydh (N:=N) (k:=k) (l:=min k (N-k)) (by omega)
    rw[← this]
  · have hge:¬ (k:Int)<N:=by simpa using hge
    have:k=N:=by omega
    subst this
    have le11:Hp.le H H11:=Hp.le_new (Hp.le_refl _) hb3 hH
    refine⟨le11,⟨some ⟨b3,0,none⟩,k,k⟩,rfl,?_⟩
    have:=y8x (g:=λx=>Value.int .i64 x) (e:=3) hfI (n:=(k:Int)) (z:=(-1:Int)) hb3 hH (by simp[ydf])
    rw[Int.toNat_natCast] at this
    exact this

theorem z4v{H:Hp}{n:Int} :
  Go.Eng.Fn Tryz.prog F.f58 #[.int .i64 n] H λv H'=>∃v1 v2 v3 v4 v5:Slc,v=.tuple #[agV v1 v2 v3 v4 v5,.int .i64 (ydi n).2]/\z1d H H' v1 v2 v3 v4 v5 (ydi n).1:=by
 refine vc58 (yyy.mono λv H2 ⟨s1,s2,s3,hv,nt⟩=>⟨s1,s2,s3,_,hv,?_⟩)
 unfold ydn at nt ⊢
 unfold ydi
 by_cases h:n<1\/n>200
 ·rw[if_pos h] at nt ⊢
  rw[if_pos h]
  exact⟨λ_=>⟨zs,zs,zs,zs,zs,rfl,z1d.zero nt.le⟩,λhe=>by simp at he⟩
 ·rw[if_neg h] at nt ⊢
  rw[if_neg h]
  refine⟨λhe=>by simp at he,λ_ b7 H8 hb7 hH8=>?_⟩
  have le8:Hp.le H2 H8:=Hp.le_new (Hp.le_refl _) hb7 hH8
  have hx:H8.at ⟨b7,0,none⟩=some (.int .i64 (-1)):=by rw[hH8,Cel.at Cel.put];try rfl
  have:=ytd (N:=n.toNat) (by omega) (by omega) hx
  rw[Int.toNat_of_nonneg (by omega)] at this
  refine this.mono λv H10 ⟨l10,u,hv,m⟩=>⟨l10,u,hv,s1,s2,s3,zs,u,rfl,?_⟩
  have o:=nt.old
  exact⟨nt.up (Hp.le_trans le8 l10),.inl ⟨rfl,rfl⟩,m.low (Hp.le_trans nt.le le8),Sep.nil.symm,⟨Sep.nil,Sep.nil,Sep.nil⟩,⟨Sep.of (o.le le8).1 m.isNew,Sep.of (o.le le8).2.1 m.isNew,Sep.of (o.le le8).2.2 m.isNew⟩⟩

end Go.Proofs.YtnhdkkblehadjabGreat
end
