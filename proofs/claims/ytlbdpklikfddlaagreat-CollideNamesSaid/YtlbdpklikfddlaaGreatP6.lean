/- The engine, parts G1, G2, G3, G4, G5, G6, G7, G8, put together. Conditions: none. -/
import Derived.Test.YtlbdpklikfddlaaGreatP4
import Derived.Test.YtlbdpklikfddlaaGreatE6
import Derived.Test.YtlbdpklikfddlaaGreatVgAgenda
import Derived.Test.YtlbdpklikfddlaaGreatFs
import Derived.Test.YtlbdpklikfddlaaGreatVgStd
set_option linter.unusedVariables false
section
/- Contracts of agenda.Check and pelotonref07.Check. Conditions: none. -/
set_option maxRecDepth 100000
open Go Go.Eng Go.Proofs
namespace Go.Proofs.YtlbdpklikfddlaaGreat

structure RdA (H:Hp) (u1 u2 u3 u4 u5:Slc) (a:Ag):Prop where
 tb:RdT H u1 u2 u3 a.tb
 heap:Rd 5 fE H u4 a.heap
 wh:RdI H u5 a.wh
theorem RdA.le {H H':Hp} {u1 u2 u3 u4 u5:Slc} {a:Ag} (h:RdA H u1 u2 u3 u4 u5 a) (hl:Hp.le H H'):RdA H' u1 u2 u3 u4 u5 a:=⟨h.tb.le hl,h.heap.le hl,h.wh.le hl⟩
structure fitG (a:Ag):Prop where
 tb:a.tb.small
 hl:a.heap.length≤1000000
 wl:a.wh.length≤1000000
 fit:∀ x∈a.heap,fitR x.at_
theorem okA.fitG {a:Ag} (ok:okA a):fitG a:=by
 have:=ok.wl; have:=ok.hl; have:=ok.tb.top
 exact ⟨ok.tb.small,by omega,by omega,fun x hx=>(ok.each x hx).1.fit⟩
theorem fitG.zero:fitG .zero:=⟨by simp [Ag.zero,Tb.zero,Tb.small],by simp [Ag.zero],by simp [Ag.zero],fun x hx=>by simp [Ag.zero] at hx⟩

abbrev evV (x:Ev):Value:=.agg #[.int .i64 x.at_.1,.int .i64 x.at_.2,.int .i64 x.no,.int .i64 x.h.1,.int .i64 x.h.2]

section
variable {H:Hp} {u:Slc} {xs:List Ev} {i:Int}
theorem _root_.Go.Eng.Rd.gEx (h:Rd 5 fE H u xs) (h0:0≤i) (h1:i<xs.length) {j:Nat} {v:Value} (hv:(fE (hp xs i.toNat))[j]?=some v):H.at ((eaddr u.a 5 i).add j)=some v :=
 h.atj h0 (hp_get (by omega)) hv
theorem _root_.Go.Eng.Rd.gE (h:Rd 5 fE H u xs) (h0:0≤i) (h1:i<xs.length):H.at (eaddr u.a 5 i)=some (.int .i64 (hp xs i.toNat).at_.1)∧H.at ((eaddr u.a 5 i).add 1)=some (.int .i64 (hp xs i.toNat).at_.2)∧H.at ((eaddr u.a 5 i).add 2)=some (.int .i64 (hp xs i.toNat).no)∧H.at ((eaddr u.a 5 i).add 3)=some (.int .i64 (hp xs i.toNat).h.1)∧H.at ((eaddr u.a 5 i).add 4)=some (.int .i64 (hp xs i.toNat).h.2) :=
 ⟨h.at0 h0 (hp_get (by omega)) rfl,Rd.gEx h h0 h1 rfl,Rd.gEx h h0 h1 rfl,Rd.gEx h h0 h1 rfl,Rd.gEx h h0 h1 rfl⟩
theorem _root_.Go.Eng.Rd.gEh (h:Rd 5 fE H u xs) (h0:0≤i) (h1:i<xs.length):H.at (((eaddr u.a 5 i).add 3).add 0)=some (.int .i64 (hp xs i.toNat).h.1)∧H.at (((eaddr u.a 5 i).add 3).add 1)=some (.int .i64 (hp xs i.toNat).h.2):=by
 obtain ⟨_,_,_,d,e⟩:=Rd.gE h h0 h1
 rw [add_zero',add_add]; exact ⟨d,e⟩
theorem _root_.Go.Eng.Mine.rdE {e:TypeId} {H0:Hp} (h:Mine 5 fE e H0 H u xs):Rd 5 fE H u xs:=Mine.rd (k:=5) (f:=fE) (fun _=>rfl) h
end

theorem parI {n:Int} (h:0<n):(n-1).tdiv 2=(par n.toNat:Nat):=by
 rw [Int.tdiv_eq_ediv_of_nonneg (by omega)]
 unfold par; omega

def cmpE (x y:Ev):Int:=if (cmpM x.at_ y.at_).1≠0 then (cmpM x.at_ y.at_).1 else cmpI x.no y.no
theorem cmpE_less {x y:Ev} (hx:okR x.at_) (hy:okR y.at_):decide (cmpE x y<0)=lessE x y:=by
 have e:(cmpM x.at_ y.at_).1=cmpR x.at_ y.at_:=by unfold cmpM; rw [if_pos ⟨hx,hy⟩]
 unfold cmpE lessE
 rw [e,Bool.eq_iff_iff]
 simp only [decide_eq_true_eq,Bool.or_eq_true,Bool.and_eq_true,beq_iff_eq]
 split
 ·omega
 ·rename_i h
  rw [cmpI_lt]; omega
theorem agendaCompare {H:Hp} {x y:Ev} (hx:fitR x.at_) (hy:fitR y.at_):Qf Tryz.prog F.agenda_compare #[evV x,evV y] H (.int .i64 (cmpE x y)):=by
 refine agenda_compare_vc ⟨_,_,ratioCmp hx hy,_,compare_int,fun b4 H5 hb4 hH5=>⟨_,orInt (u:=⟨some ⟨b4,0,none⟩,2,2⟩) (rdI2 hH5),?_,Hp.le_new (Hp.le_refl _) hb4 hH5⟩⟩
 rfl
theorem refELess {H:Hp} {x y:Ev} (hx:okR x.at_) (hy:okR y.at_):Qf Tryz.prog F.pelotonref07_Less #[evV x,evV y] H (.bool (lessE x y)):=by
 refine pelotonref07_Less_vc ⟨_,refCompareR hx hy,?_,Hp.le_refl _⟩
 rfl

theorem getM_keys {α κ:Type} [DecidableEq κ] (k:α→κ) (v:Value) (x:κ):∀ l:List α,getM (l.map fun y=>(k y,v)) x=if x∈l.map k then some v else none
 | []=>rfl
 | p :: l=>by
  have ih:=getM_keys k v x l
  unfold getM at ih ⊢
  rw [List.map_cons,List.find?_cons]
  by_cases e:k p=x
  ·simp [e]
  ·have e':¬ x=k p:=fun h=>e h.symm
   simp only [e,decide_false,List.map_cons,List.mem_cons,e',false_or]
   exact ih

theorem nodup_take_snoc {l:List Int} {x:Int}:(l++[x]).Nodup↔l.Nodup∧x∉l:=by
 rw [List.nodup_append]
 constructor
 ·intro ⟨a,_,c⟩; exact ⟨a,fun h=>c x h x (by simp) rfl⟩
 ·intro ⟨a,b⟩; exact ⟨a,by simp,fun y hy z hz e=>by simp only [List.mem_singleton] at hz; subst hz; subst e; exact b hy⟩

theorem agendaCheck {H:Hp} {u1 u2 u3 u4 u5:Slc} {a:Ag} (h:RdA H u1 u2 u3 u4 u5 a) (f:fitG a) :
    Qf Tryz.prog F.agenda_Check #[.agg #[u1.v,u2.v,u3.v,u4.v,u5.v]] H (.int .i64 (chkA a)):=by
  have l1:=h.tb.uses.len
  have l2:=h.tb.used.len
  have l3:=h.tb.free.len
  have l4:=h.heap.len
  have l5:=h.wh.len
  obtain ⟨⟨f1,f2,f3⟩,f4,f5,f6⟩:=f
  refine agenda_Check_vc ⟨_,slotCheck h.tb ⟨f1,f2,f3⟩,fun _=>by unfold inI; omega,fun hc=>⟨?_,Hp.le_refl _⟩,fun hc=>?_⟩
  · rw [chkA_bad]
    intro ok
    have:=ok.wl; have:=ok.hl; have:=ok.tb.len
    rw [chk_ok ok.tb] at hc
    simp at hc
    omega
  simp only [Bool.or_eq_false_iff,bne_eq_false_iff_eq] at hc
  obtain ⟨⟨hc1,hc2⟩,hc3⟩:=hc
  have tok:=chk_zero.1 hc1
  have:=tok.len; have:=tok.top
  refine upto (N:=a.wh.length) (J:=fun n=>(∀ i:Nat,i<n→a.tb.used.getD i false=false→a.wh.getD i 0 = -1)∧∀ i:Nat,i<n→a.tb.used.getD i false=true→0≤a.wh.getD i 0∧a.wh.getD i 0<a.heap.length∧(hp a.heap (a.wh.getD i 0).toNat).h=((i:Int),a.tb.uses.getD i 0))
    (by omega) ⟨fun i hi=>by omega,fun i hi=>by omega⟩ fun n h0 h1 ⟨j1,j2⟩=>⟨fun hn=>?_,fun hn=>?_⟩
  · have hn:n<a.wh.length:=by have:n<u5.n:=by simpa using hn
                              omega
    have en:((n.toNat:Nat):Int)=n:=Int.toNat_of_nonneg h0
    refine h.wh.ldI h0 hn (h.tb.used.ldB h0 (by omega) ⟨fun hu=>⟨fun hw=>⟨?_,Hp.le_refl _⟩,fun hw=>upto.nx h0 hn (by omega) ⟨fun i hi hu'=>?_,fun i hi hu'=>?_⟩⟩,fun hu=>?_⟩)
    · have hu:a.tb.used.getD n.toNat false=false:=by simpa using hu
      rw [chkA_bad]
      intro ok
      have:=ok.free n.toNat (by omega) hu
      rw [this] at hw; simp at hw
    · have hw:a.wh.getD n.toNat 0 = -1:=by simpa using hw
      rcases Int.lt_or_le i n with h' | h'
      · exact j1 i h' hu'
      · have:i=n.toNat:=by omega
        subst this; exact hw
    · have hu:a.tb.used.getD n.toNat false=false:=by simpa using hu
      rcases Int.lt_or_le i n with h' | h'
      · exact j2 i h' hu'
      · have:i=n.toNat:=by omega
        subst this; rw [hu] at hu'; cases hu'
    · have hu:a.tb.used.getD n.toNat false=true:=by simpa using hu
      generalize hw:a.wh.getD n.toNat 0=w
      have hr:(!(decide (w<0)||decide (w≥(u4.n:Int))))=true→0≤w∧w<a.heap.length:=fun hh=>by
        simp at hh; omega
      refine ⟨fun hh=>h.heap.inS (hr hh).1 (hr hh).2,_,_,fun hh=>Rd.gEh h.heap (hr hh).1 (hr hh).2,fun hh=>h.tb.uses.inS h0 (by omega),_,fun hh=>h.tb.uses.gI h0 (by omega),fun hb=>⟨?_,Hp.le_refl _⟩,fun hb=>upto.nx h0 hn (by omega) ⟨fun i hi hu'=>?_,fun i hi hu'=>?_⟩⟩
      · rw [chkA_bad]
        intro ok
        obtain ⟨k1,k2,k3⟩:=ok.used n.toNat (by omega) hu
        rw [hw] at k1 k2 k3
        rw [k3] at hb
        simp at hb
        omega
      · rcases Int.lt_or_le i n with h' | h'
        · exact j1 i h' hu'
        · have:i=n.toNat:=by omega
          subst this; rw [hu] at hu'; cases hu'
      · rcases Int.lt_or_le i n with h' | h'
        · exact j2 i h' hu'
        · have e:i=n.toNat:=by omega
          subst e
          simp only [Bool.or_eq_false_iff,decide_eq_false_iff_not,Bool.not_eq_false',Bool.and_eq_true,beq_iff_eq] at hb
          obtain ⟨⟨b1,b2⟩,b3,b4⟩:=hb
          rw [hw]
          exact ⟨by omega,by omega,Prod.ext (by rw [b3]; exact en.symm) b4⟩
  have:n=a.wh.length:=by have:¬ n<u5.n:=by simpa using hn
                         omega
  subst this
  intro b11 H12 hb11 hH12
  have le12:Hp.le H H12:=Hp.le_new (Hp.le_refl _) hb11 hH12
  have K:KL Tryz.prog T.int (fun x:Int=>Value.int .i64 x):=KL.int Tryz.underlying3
  refine uptoH (N:=a.heap.length) (J:=fun n H'=>Hp.le H H'∧MapR (fun x:Int=>Value.int .i64 x) H' b11 ((a.heap.take n.toNat).map fun y=>(y.no,Value.bool true))∧(∀ x∈a.heap.take n.toNat,okR x.at_∧0≤x.no∧x.no≤1000000)∧((a.heap.take n.toNat).map (·.no)).Nodup ∧
      ∀ i:Nat,1≤i→(i:Int)<n→lessE (hp a.heap i) (hp a.heap (par i))=false) (by omega) ⟨le12,MapR.new hH12,by simp,by simp,fun i _ hi=>by omega⟩ fun n H' h0 h1 ⟨le',jm,je,jn,jo⟩=>⟨fun hn=>?_,fun hn=>⟨?_,le'⟩⟩
  · have hn:n<a.heap.length:=by have:n<u4.n:=by simpa using hn
                                omega
    have hg:=hp_get (h:=a.heap) (i:=n.toNat) (by omega)
    have hmem:=hp_mem (h:=a.heap) (i:=n.toNat) (by omega)
    have hrd:=h.heap.le le'
    have hts:=take_succ hg
    have e1:(n+1).toNat=n.toNat+1:=by omega
    have hlook:=K.look (t:=T.map_int_bool) (e:=T.bool) (x:=(hp a.heap n.toNat).no) (z:=.bool false) Tryz.underlying270 (by kernel_rfl) jm
    rw [getM_keys (fun y:Ev=>y.no)] at hlook
    refine ⟨hrd.inS h0 hn,_,_,_,_,_,Rd.gE hrd h0 hn,_,ratioCheck (f6 _ hmem),decide ((hp a.heap n.toNat).no∈(a.heap.take n.toNat).map (·.no)),fun _=>?_,fun hb=>⟨?_,le'⟩,fun hb=>?_⟩
    · by_cases e:(hp a.heap n.toNat).no∈(a.heap.take n.toNat).map (·.no)
      · rw [if_pos e] at hlook; rw [decide_eq_true e]; exact hlook
      · rw [if_neg e] at hlook; rw [decide_eq_false e]; exact hlook
    · rw [chkA_bad]
      intro ok
      obtain ⟨k1,k2,k3⟩:=ok.each _ hmem
      rw [chkR_ok k1] at hb
      simp only [bne_self_eq_false,Bool.false_or,Bool.or_eq_true,decide_eq_true_eq] at hb
      rcases hb with (hb | hb) | hb
      · omega
      · omega
      · have:=(ok.nos).sublist ((List.take_sublist (n.toNat+1) a.heap).map (·.no))
        rw [hts,List.map_append] at this
        exact (nodup_take_snoc.1 this).2 hb
    · simp only [Bool.or_eq_false_iff,bne_eq_false_iff_eq,decide_eq_false_iff_not] at hb
      obtain ⟨⟨⟨b1,b2⟩,b3⟩,b4⟩:=hb
      have okn:=chkR_zero.1 b1
      refine (K.add (t:=T.map_int_bool) (e:=T.bool) (x:=(hp a.heap n.toNat).no) (v:=.bool true) Tryz.underlying270 jm (by rw [getM_keys (fun y:Ev=>y.no),if_neg b4])).mono fun v H25 ⟨o,hH,hm⟩=>⟨v,rfl,?_⟩
      have le25:Hp.le H H25:=by subst hH; exact Hp.le_put le' hb11
      have hrd25:=h.heap.le le25
      have hpar:(decide (n>0))=true→(n-1).tdiv 2=(par n.toNat:Nat)∧(par n.toNat)<a.heap.length∧par n.toNat<n.toNat∧0<n:=fun hp'=>by
        have hp':0<n:=by simpa using hp'
        have:=par_lt (i:=n.toNat) (by omega)
        exact ⟨parI hp',by omega,this,hp'⟩
      refine ⟨fun _=>by unfold inI; omega,fun hp'=>⟨by unfold nz; omega,by obtain ⟨e,_⟩:=hpar hp'; rw [e]; unfold inI; omega⟩,fun hp'=>by obtain ⟨e,q,_⟩:=hpar hp'; rw [e]; exact hrd25.inS (by omega) (by omega),_,_,_,_,_,fun hp'=>by
        obtain ⟨e,q,_⟩:=hpar hp'; rw [e]; exact Rd.gE hrd25 (i:=(par n.toNat:Nat)) (by omega) (by omega),_,fun hp'=>by
        obtain ⟨e,q,_⟩:=hpar hp'
        exact agendaCompare (x:=hp a.heap n.toNat) (y:=hp a.heap ((par n.toNat:Nat):Int).toNat) (f6 _ hmem) (f6 _ (hp_mem (by omega))),fun hb=>⟨?_,le25⟩,fun hb=>uptoH.nx h0 hn (by omega) ⟨le25,?_,fun x hx=>?_,?_,fun i hi1 hi2=>?_⟩⟩
      · rw [chkA_bad]
        intro ok
        simp only [Bool.and_eq_true] at hb
        obtain ⟨e,q,q2,q3⟩:=hpar hb.1
        have:=ok.ord n.toNat (by omega) (by omega)
        rw [Int.toNat_natCast,cmpE_less okn (ok.each _ (hp_mem q)).1,this] at hb
        exact absurd hb.2 (by simp)
      · rw [e1,hts,List.map_append]; exact hm
      · rw [e1,hts] at hx
        rcases List.mem_append.1 hx with hx | hx
        · exact je x hx
        · simp only [List.mem_singleton] at hx; subst hx; exact ⟨okn,by omega,by omega⟩
      · rw [e1,hts,List.map_append]; exact nodup_take_snoc.2 ⟨jn,b4⟩
      · rcases Int.lt_or_le i n with h' | h'
        · exact jo i hi1 h'
        · have e:i=n.toNat:=by omega
          subst e
          have hp':decide (n>0)=true:=by simp; omega
          obtain ⟨e,q,q2,q3⟩:=hpar hp'
          rw [hp',Bool.true_and,Int.toNat_natCast] at hb
          have hpm:hp a.heap (par n.toNat)∈a.heap.take n.toNat:=List.mem_take_iff_getElem.2 ⟨par n.toNat,by omega,(List.getElem?_eq_some_iff.1 (hp_get q)).2⟩
          rw [cmpE_less okn (je _ hpm).1] at hb
          exact hb
  · have:n=a.heap.length:=by have:¬ n<u4.n:=by simpa using hn
                             omega
    subst this
    rw [Int.toNat_natCast,List.take_length] at je jn
    rw [chkA_ok ⟨tok,by omega,by omega,fun i hi hu=>j1 i (by omega) hu,fun i hi hu=>j2 i (by omega) hu,je,jn,fun i h1 h2=>jo i h1 (by omega)⟩]

def Chg2 (H H':Hp) (u v:Slc):Prop:=∀ b,H b≠none→(∀ p,u.a=some p→p.block≠b)→(∀ p,v.a=some p→p.block≠b)→H' b=H b
theorem Chg2.refl {H:Hp} {u v:Slc}:Chg2 H H u v:=fun _ _ _ _=>rfl
theorem Chg2.of {H H1 H2:Hp} {u v:Slc} (a:Chg H H1 u) (b:Chg H1 H2 v):Chg2 H H2 u v:=fun c hc hu hv=>by
 have:=a c hc hu
 rw [b c (by rw [this]; exact hc) hv,this]
theorem Chg2.trans {H H1 H2:Hp} {u v:Slc} (a:Chg2 H H1 u v) (b:Chg2 H1 H2 u v):Chg2 H H2 u v:=fun c hc hu hv=>by
 have:=a c hc hu hv
 rw [b c (by rw [this]; exact hc) hu hv,this]
theorem Chg2.mine {α:Type} {k:Nat} {f:α→List Value} {e:TypeId} {H0 H H':Hp} {u v w:Slc} {xs:List α} (c:Chg2 H H' v w) (h:Mine k f e H0 H u xs) (h1:Sep u v) (h2:Sep u w):Mine k f e H0 H' u xs:=by
 rcases h with h | ⟨b,hb,h⟩
 ·exact .inl h
 ·obtain ⟨g1,g2,g3,cs,g4,g5⟩:=h
  exact .inr ⟨b,hb,g1,g2,g3,cs,by rw [c b (by rw [g4]; simp) (fun p hp e=>h1 _ p g3 hp e.symm) fun p hp e=>h2 _ p g3 hp e.symm]; exact g4,g5⟩
theorem Chg2.le {H0 H H':Hp} {u v:Slc} (c:Chg2 H H' u v) (hl:Hp.le H0 H) (hu:New H0 u) (hv:New H0 v):Hp.le H0 H':=fun b o hb=>by
 rw [c b (by rw [hl b o hb]; simp) (fun p hp e=>by have:=hu p hp; rw [e,hb] at this; cases this) fun p hp e=>by have:=hv p hp; rw [e,hb] at this; cases this]
 exact hl b o hb

structure MyA (H0 H:Hp) (u4 u5:Slc) (s:Hw):Prop where
 le:Hp.le H0 H
 heap:Mine 5 fE T.api_Event H0 H u4 s.1
 wh:Mine 1 fI T.int H0 H u5 s.2
 sep:Sep u4 u5

abbrev agV (u1 u2 u3 u4 u5:Slc):Value:=.agg #[u1.v,u2.v,u3.v,u4.v,u5.v]

theorem agendaSet {H0 H:Hp} {u1 u2 u3 u4 u5:Slc} {s:Hw} {i:Nat} {x:Ev} (m:MyA H0 H u4 u5 s) (hi:i<s.1.length) (x0:0≤x.h.1) (x1:x.h.1<s.2.length) :
  Go.Eng.Fn Tryz.prog F.agenda_set #[agV u1 u2 u3 u4 u5,.int .i64 (i:Int),evV x] H fun v H'=>v=.tuple #[]∧MyA H0 H' u4 u5 (s.1.set i x,s.2.set x.h.1.toNat i)∧Chg2 H H' u4 u5:=by
 obtain ⟨m1,m2,m3,m4⟩:=m
 refine agenda_set_vc ⟨m2.rdE.inS (by omega) (by omega),?_⟩
 refine Mine.setE (k:=5) (f:=fE) (vs:=fE x) (y:=x) (fun _=>rfl) m2 (i:=(i:Int)) (by omega) (by rw [Int.toNat_natCast]; exact hp_get hi) (by simp [fE]) (by simp [fE]) fun H1 n1 c1=>?_
 rw [Int.toNat_natCast] at n1
 have w1:=m3.chg c1 m4.symm
 refine ⟨w1.rdI.inS x0 x1,Mine.setI w1 x0 x1 i fun H2 n2 c2=>⟨rfl,⟨?_,n1.chg c2 m4,n2,m4⟩,Chg2.of c1 c2⟩⟩
 exact Hp.le_chg (Hp.le_chg m1 c1 m2.isNew) c2 m3.isNew

theorem refSwap {H0 H:Hp} {u1 u2 u3 u4 u5:Slc} {s:Hw} {i k:Nat} (m:MyA H0 H u4 u5 s) (pl:plA s) (hi:i<s.1.length) (hk:k<s.1.length) :
  Go.Eng.Fn Tryz.prog F.pelotonref07_swap #[agV u1 u2 u3 u4 u5,.int .i64 (i:Int),.int .i64 (k:Int)] H fun v H'=>v=.tuple #[]∧MyA H0 H' u4 u5 (swapE s i k)∧Chg2 H H' u4 u5:=by
 obtain ⟨m1,m2,m3,m4⟩:=m
 have r:=m2.rdE
 obtain ⟨i1,i2,i3⟩:=pl i hi
 obtain ⟨k1,k2,k3⟩:=pl k hk
 have gk:=Rd.gE r (i:=(k:Int)) (by omega) (by omega)
 have gi:=Rd.gE r (i:=(i:Int)) (by omega) (by omega)
 rw [Int.toNat_natCast] at gk gi
 refine pelotonref07_swap_vc ⟨r.inS (by omega) (by omega),_,_,_,_,_,gk,r.inS (by omega) (by omega),_,_,_,_,_,gi,r.inS (by omega) (by omega),?_⟩
 refine Mine.setE (k:=5) (f:=fE) (vs:=fE (hp s.1 k)) (y:=hp s.1 k) (fun _=>rfl) m2 (i:=(i:Int)) (by omega) (by rw [Int.toNat_natCast]; exact hp_get hi) (by simp [fE]) (by simp [fE]) fun H1 n1 c1=>?_
 rw [Int.toNat_natCast] at n1
 refine ⟨r.inS (by omega) (by omega),?_⟩
 have hk':k<(s.1.set i (hp s.1 k)).length:=by simpa using hk
 refine Mine.setE (k:=5) (f:=fE) (vs:=fE (hp s.1 i)) (y:=hp s.1 i) (fun _=>rfl) n1 (i:=(k:Int)) (by omega) (by rw [Int.toNat_natCast]; exact hp_get hk') (by simp [fE]) (by simp [fE]) fun H2 n2 c2=>?_
 rw [Int.toNat_natCast] at n2
 have r2:=n2.rdE
 have l2:((s.1.set i (hp s.1 k)).set k (hp s.1 i)).length=s.1.length:=by simp
 have hi2:hp ((s.1.set i (hp s.1 k)).set k (hp s.1 i)) i=hp s.1 k:=by
  rw [hp_set hk',hp_set hi,if_pos rfl]
  split
  ·rename_i e; rw [e]
  ·rfl
 have hk2:hp ((s.1.set i (hp s.1 k)).set k (hp s.1 i)) k=hp s.1 i:=by
  rw [hp_set hk',if_pos rfl]
 have g2i:=(Rd.gEh r2 (i:=(i:Int)) (by omega) (by omega)).1
 have g2k:=(Rd.gEh r2 (i:=(k:Int)) (by omega) (by omega)).1
 rw [Int.toNat_natCast,hi2] at g2i
 rw [Int.toNat_natCast,hk2] at g2k
 refine ⟨r2.inS (by omega) (by omega),_,by rw [add_zero']; exact g2i,r2.inS (by omega) (by omega),_,by rw [add_zero']; exact g2k,?_⟩
 have w2:=(m3.chg c1 m4.symm).chg c2 m4.symm
 refine ⟨w2.rdI.inS k1 k2,Mine.setI w2 k1 k2 i fun H3 n3 c3=>⟨n3.rdI.inS i1 (by simpa using i2),Mine.setI n3 i1 (by simpa using i2) k fun H4 n4 c4=>⟨rfl,⟨?_,(n2.chg c3 m4).chg c4 m4,n4,m4⟩,?_⟩⟩⟩
 ·exact Hp.le_chg (Hp.le_chg (Hp.le_chg (Hp.le_chg m1 c1 m2.isNew) c2 m2.isNew) c3 m3.isNew) c4 m3.isNew
 ·intro b hb h4 h5
  have e1:=c1 b hb h4
  have e2:=c2 b (by rw [e1]; exact hb) h4
  have e3:=c3 b (by rw [e2,e1]; exact hb) h5
  rw [c4 b (by rw [e3,e2,e1]; exact hb) h5,e3,e2,e1]

def timeH (h:List Ev):Prop:=∀ x∈h,okR x.at_
theorem timeH.at {h:List Ev} (t:timeH h) {i:Nat} (hi:i<h.length):okR (hp h i).at_:=t _ (hp_mem hi)
theorem timeH.perm {h h':List Ev} (t:timeH h) (e:h'.Perm h):timeH h':=fun x hx=>t x (e.mem_iff.1 hx)

theorem refUp {H0 H:Hp} {u1 u2 u3 u4 u5:Slc} {s:Hw} {i:Nat} (m:MyA H0 H u4 u5 s) (pl:plA s) (ht:timeH s.1) (hi:i<s.1.length) (hl:s.1.length≤1000000) :
  Go.Eng.Fn Tryz.prog F.pelotonref07_up #[agV u1 u2 u3 u4 u5,.int .i64 (i:Int)] H fun v H'=>v=.int .i64 ((upA i s i).2:Int)∧MyA H0 H' u4 u5 (upA i s i).1∧Chg2 H H' u4 u5:=by
 refine pelotonref07_up_vc ⟨fun n H'=>∃ (t:Hw) (j:Nat),n=j∧MyA H0 H' u4 u5 t∧Kept s t∧j<s.1.length∧upA j t j=upA i s i∧Chg2 H H' u4 u5,fun n _=>n.toNat,⟨s,i,rfl,m,Kept.refl pl,hi,rfl,Chg2.refl⟩,fun n H' ⟨t,j,hn,mt,kt,hj,he,hc⟩=>?_⟩
 subst hn
 have r:=mt.heap.rdE
 have htl:=kt.len
 have tt:=ht.perm kt.perm
 have hjt:j<t.1.length:=by omega
 have gj:=Rd.gE r (i:=(j:Int)) (by omega) (by omega)
 rw [Int.toNat_natCast] at gj
 have hpar:decide ((j:Int)>0)=true→((j:Int)-1).tdiv 2=(par j:Nat)∧par j<j∧0<j:=fun hh=>by
  have:0<j:=by simpa using hh
  have e:=parI (n:=(j:Int)) (by omega)
  rw [Int.toNat_natCast] at e
  exact ⟨e,par_lt this,this⟩
 refine ⟨fun _=>r.inS (by omega) (by omega),_,_,_,_,_,fun _=>gj,fun _=>by unfold inI; omega,fun hh=>⟨by unfold nz; omega,by rw [(hpar hh).1]; have:=(hpar hh).2.1; unfold inI; omega⟩,fun hh=>by rw [(hpar hh).1]; have:=(hpar hh).2.1; exact r.inS (by omega) (by omega),_,_,_,_,_,fun hh=>by
  rw [(hpar hh).1]; have:=(hpar hh).2.1; exact Rd.gE r (i:=(par j:Nat)) (by omega) (by omega),lessE (hp t.1 j) (hp t.1 (par j)),fun hh=>by
  have:=(hpar hh).2.1
  exact refELess (y:=hp t.1 ((par j:Nat):Int).toNat) (tt.at hjt) (tt.at (by rw [Int.toNat_natCast]; omega)),fun hb=>?_,fun hb=>?_⟩
 ·simp only [Bool.and_eq_true] at hb
  obtain ⟨e,q1,q2⟩:=hpar hb.1
  rw [e]
  refine ⟨by unfold inI; omega,⟨by unfold nz; omega,by unfold inI; omega⟩,(refSwap mt kt.pl hjt (by omega)).mono fun v H17 ⟨hv,m17,c17⟩=>⟨hv,by unfold inI; omega,⟨by unfold nz; omega,by unfold inI; omega⟩,⟨_,par j,rfl,m17,kt.trans (Kept.swap kt.pl hjt (by omega)),by omega,?_,hc.trans c17⟩,?_⟩⟩
  ·rw [← he,upA_step (f:=j) (Nat.le_refl _) q2 hb.2]
   exact upA_fuel _ _ _ _ (Nat.le_refl _) (by omega)
  ·show ((par j:Nat):Int).toNat<(j:Int).toNat; omega
 ·have:¬ (0<j∧lessE (hp t.1 j) (hp t.1 (par j))=true):=fun ⟨a,b⟩=>by
   rw [b] at hb; simp at hb; omega
  rw [upA_stop this] at he
  rw [← he]
  exact ⟨rfl,mt,hc⟩


theorem set3 {w:List Int} {a b:Nat} {x y z:Int}:((w.set a x).set b y).set a z=(w.set b y).set a z:=by
 by_cases h:a=b
 ·subst h; simp
 ·rw [List.set_comm _ _ h]; simp

theorem hole_step {s:Hw} {j k:Nat} {x:Ev} (hj:j<s.1.length) (hk:k<s.1.length) (hne:k≠j) :
  ((s.1.set j (hp s.1 k)).set k x,(s.2.set (hp s.1 k).h.1.toNat j).set x.h.1.toNat k)=swapE (s.1.set j x,s.2.set x.h.1.toNat j) j k:=by
 have e1:hp (s.1.set j x) k=hp s.1 k:=by rw [hp_set hj,if_neg (fun e=>hne e.symm)]
 have e2:hp (s.1.set j x) j=x:=by rw [hp_set hj,if_pos rfl]
 unfold swapE
 simp only [e1,e2]
 rw [List.set_set,set3]

theorem agendaSettle {H0 H:Hp} {u1 u2 u3 u4 u5:Slc} {s:Hw} {i:Nat} {x:Ev} (m:MyA H0 H u4 u5 s) (hi:i<s.1.length) (hx1:x.h.1<s.2.length) (hx0:0≤x.h.1) (pl:plA (s.1.set i x,s.2.set x.h.1.toNat i)) (ht:timeH (s.1.set i x)) (hl:s.1.length≤1000000) :
  Go.Eng.Fn Tryz.prog F.agenda_settle #[agV u1 u2 u3 u4 u5,.int .i64 (i:Int),evV x] H fun v H'=>v=.tuple #[]∧MyA H0 H' u4 u5 (moveA (s.1.set i x,s.2.set x.h.1.toNat i) i)∧Chg2 H H' u4 u5:=by
 generalize hs0:(s.1.set i x,s.2.set x.h.1.toNat i)=s0 at *
 have l0:s0.1.length=s.1.length:=by rw [← hs0]; simp
 have ht0:timeH s0.1:=by rw [← hs0]; exact ht
 have w0:s0.2.length=s.2.length:=by rw [← hs0]; simp
 have htx:okR x.at_:=by
  have:hp s0.1 i=x:=by rw [← hs0]; exact (hp_set hi).trans (if_pos rfl)
  rw [← this]; exact ht0.at (by omega)
 -- what is known in the hole at j of t,filled
 let Fl:Hw→Nat→Hw:=fun t j=>(t.1.set j x,t.2.set x.h.1.toNat j)
 have flx:∀ (t:Hw) (j:Nat),j<t.1.length→hp (Fl t j).1 j=x:=fun t j hj=>(hp_set hj).trans (if_pos rfl)
 have flo:∀ (t:Hw) (j k:Nat),j<t.1.length→k≠j→hp (Fl t j).1 k=hp t.1 k:=fun t j k hj hk=>(hp_set hj).trans (if_neg fun e=>hk e.symm)
 refine agenda_settle_vc ⟨fun n H'=>∃ (t:Hw) (j:Nat),n=j∧MyA H0 H' u4 u5 t∧Kept s0 (Fl t j)∧j<t.1.length∧t.1.length=s.1.length∧t.2.length=s.2.length∧upA j (Fl t j) j=upA i s0 i∧Chg2 H H' u4 u5,fun n _=>n.toNat,
  ⟨s,i,rfl,m,by show Kept s0 (s.1.set i x,s.2.set x.h.1.toNat i); rw [hs0]; exact Kept.refl pl,hi,rfl,rfl,by show upA i (s.1.set i x,s.2.set x.h.1.toNat i) i=_; rw [hs0],Chg2.refl⟩,fun n H' ⟨t,j,hn,mt,kt,hj,tl,tw,he,hc⟩=>?_⟩
 subst hn
 have r:=mt.heap.rdE
 have tt:=ht0.perm kt.perm
 have fll:(Fl t j).1.length=t.1.length:=List.length_set ..
 have gk:∀ k:Nat,k<t.1.length→H'.at (eaddr u4.a 5 (k:Int))=some (.int .i64 (hp t.1 k).at_.1)∧H'.at ((eaddr u4.a 5 (k:Int)).add 1)=some (.int .i64 (hp t.1 k).at_.2)∧H'.at ((eaddr u4.a 5 (k:Int)).add 2)=some (.int .i64 (hp t.1 k).no)∧H'.at ((eaddr u4.a 5 (k:Int)).add 3)=some (.int .i64 (hp t.1 k).h.1)∧H'.at ((eaddr u4.a 5 (k:Int)).add 4)=some (.int .i64 (hp t.1 k).h.2):=fun k hk=>by
  have:=Rd.gE r (i:=(k:Int)) (by omega) (by omega)
  rw [Int.toNat_natCast] at this; exact this
 have hpar:decide ((j:Int)>0)=true→((j:Int)-1).tdiv 2=(par j:Nat)∧par j<j∧0<j:=fun hh=>by
  have:0<j:=by simpa using hh
  have e:=parI (n:=(j:Int)) (by omega)
  rw [Int.toNat_natCast] at e
  exact ⟨e,par_lt this,this⟩
 have okp:∀ k:Nat,k<t.1.length→k≠j→okR (hp t.1 k).at_:=fun k hk hne=>by
  rw [← flo t j k hj hne]; exact tt.at (by rw [fll]; exact hk)
 refine ⟨fun _=>by unfold inI; omega,fun hh=>⟨by unfold nz; omega,by rw [(hpar hh).1]; have:=(hpar hh).2.1; unfold inI; omega⟩,fun hh=>by rw [(hpar hh).1]; have:=(hpar hh).2.1; exact r.inS (by omega) (by omega),_,_,_,_,_,fun hh=>by
  rw [(hpar hh).1]; have:=(hpar hh).2.1; exact gk (par j) (by omega),cmpE x (hp t.1 (par j)),fun hh=>by
  have:=(hpar hh).2.1
  exact agendaCompare htx.fit (okp (par j) (by omega) (by omega)).fit,fun hb=>?_,fun hb=>?_⟩
 ·simp only [Bool.and_eq_true] at hb
  obtain ⟨e,q1,q2⟩:=hpar hb.1
  have hb2:=hb.2
  rw [cmpE_less htx (okp (par j) (by omega) (by omega))] at hb2
  rw [e]
  have pl':=kt.pl
  have hpj:=pl' (par j) (by rw [fll]; omega)
  rw [flo t j (par j) hj (by omega)] at hpj
  have hst:=hole_step (s:=t) (j:=j) (k:=par j) (x:=x) hj (by omega) (by omega)
  refine ⟨by unfold inI; omega,⟨by unfold nz; omega,by unfold inI; omega⟩,r.inS (by omega) (by omega),_,_,_,_,_,gk (par j) (by omega),(agendaSet mt hj hpj.1 (by have:=hpj.2.1; rw [show (Fl t j).2.length=t.2.length from List.length_set ..] at this; exact this)).mono fun v H17 ⟨hv,m17,c17⟩=>⟨hv,by unfold inI; omega,⟨by unfold nz; omega,by unfold inI; omega⟩,⟨_,par j,rfl,m17,?_,by simp; omega,by simpa using tl,by simpa using tw,?_,hc.trans c17⟩,?_⟩⟩
  ·show Kept s0 ((t.1.set j (hp t.1 (par j))).set (par j) x,(t.2.set (hp t.1 (par j)).h.1.toNat j).set x.h.1.toNat (par j))
   rw [hst]; exact kt.trans (Kept.swap kt.pl (by rw [fll]; exact hj) (by rw [fll]; omega))
  ·show upA (par j) ((t.1.set j (hp t.1 (par j))).set (par j) x,(t.2.set (hp t.1 (par j)).h.1.toNat j).set x.h.1.toNat (par j)) (par j)=_
   rw [hst,← he,upA_step (f:=j) (s:=Fl t j) (Nat.le_refl _) q2 (by rw [flx t j hj,flo t j (par j) hj (by omega)]; exact hb2)]
   exact upA_fuel _ _ _ _ (Nat.le_refl _) (by omega)
  ·show ((par j:Nat):Int).toNat<(j:Int).toNat; omega
 ·have hstop:upA j (Fl t j) j=(Fl t j,j):=upA_stop fun ⟨a,b⟩=>by
   have:=par_lt (i:=j) a
   rw [flx t j hj,flo t j (par j) hj (by omega),← cmpE_less htx (okp (par j) (by omega) (by omega))] at b
   rw [b] at hb; simp at hb; omega
  rw [hstop] at he
  -- moving down
  have hmv:moveA s0 i=downA s0.1.length (Fl t j) j:=by
   unfold moveA
   simp only [← he]
  rw [hmv]
  refine ⟨by unfold inI; omega,by unfold inI; omega,?_⟩
  refine ⟨fun n k H''=>∃ (t':Hw) (j':Nat),n=j'∧k=2 * (j':Int)+1∧MyA H0 H'' u4 u5 t'∧Kept s0 (Fl t' j')∧j'<t'.1.length∧t'.1.length=s.1.length∧t'.2.length=s.2.length∧downA s0.1.length (Fl t' j') j'=downA s0.1.length (Fl t j) j∧Chg2 H H'' u4 u5,fun n _ _=>(s.1.length-n).toNat,
   ⟨t,j,rfl,rfl,mt,kt,hj,tl,tw,rfl,hc⟩,fun n k H'' ⟨t',j',hn,hk,mt',kt',hj',tl',tw',he',hc'⟩=>?_⟩
  subst hn; subst hk
  clear r tt gk hpar okp hb hstop he hmv fll
  have r:=mt'.heap.rdE
  have lu:=r.len
  have tt:=ht0.perm kt'.perm
  have fll:(Fl t' j').1.length=t'.1.length:=List.length_set ..
  have gk:∀ k:Nat,k<t'.1.length→H''.at (eaddr u4.a 5 (k:Int))=some (.int .i64 (hp t'.1 k).at_.1)∧H''.at ((eaddr u4.a 5 (k:Int)).add 1)=some (.int .i64 (hp t'.1 k).at_.2)∧H''.at ((eaddr u4.a 5 (k:Int)).add 2)=some (.int .i64 (hp t'.1 k).no)∧H''.at ((eaddr u4.a 5 (k:Int)).add 3)=some (.int .i64 (hp t'.1 k).h.1)∧H''.at ((eaddr u4.a 5 (k:Int)).add 4)=some (.int .i64 (hp t'.1 k).h.2):=fun k hk=>by
   have:=Rd.gE r (i:=(k:Int)) (by omega) (by omega)
   rw [Int.toNat_natCast] at this; exact this
  have ins:∀ k:Nat,k<t'.1.length→inSl u4.a u4.n (k:Int):=fun k hk=>r.inS (by omega) (by omega)
  have okp:∀ k:Nat,k<t'.1.length→k≠j'→okR (hp t'.1 k).at_:=fun k hk hne=>by
   rw [← flo t' j' k hj' hne]; exact tt.at (by rw [fll]; exact hk)
  have e2:(2 * (j':Int)+1+1)=((2 * j'+2:Nat):Int):=by omega
  have e1:(2 * (j':Int)+1)=((2 * j'+1:Nat):Int):=by omega
  -- the end: the event comes into the hole
  have fin:downA s0.1.length (Fl t' j') j'=Fl t' j'→Go.Eng.Fn Tryz.prog F.agenda_set #[agV u1 u2 u3 u4 u5,.int .i64 (j':Int),evV x] H'' fun v H3=>v=.tuple #[]∧(Value.tuple #[]=.tuple #[]∧MyA H0 H3 u4 u5 (downA s0.1.length (Fl t j) j)∧Chg2 H H3 u4 u5):=fun hd=>by
   refine (agendaSet mt' hj' hx0 (by omega)).mono fun v H3 ⟨hv,m3,c3⟩=>⟨hv,rfl,?_,hc'.trans c3⟩
   rw [← he',hd]; exact m3
  have hlast:¬ 2 * j'+1<t'.1.length→downA s0.1.length (Fl t' j') j'=Fl t' j':=fun hh=>downA_stop fun ⟨a,_⟩=>by rw [fll] at a; exact hh a
  refine ⟨fun hb=>?_,fun hb=>fin (hlast (by simp at hb; omega))⟩
  have hk1:2 * j'+1<t'.1.length:=by simp at hb; omega
  have hlt:decide (((2 * j'+2:Nat):Int)<(u4.n:Int))=true→2 * j'+2<t'.1.length:=fun hh=>by simp at hh; omega
  -- what is done with the child that is chosen
  have go:∀ k:Nat,k=kid (Fl t' j').1 j'→k<t'.1.length→(cmpE (hp t'.1 k) x≥0→downA s0.1.length (Fl t' j') j'=Fl t' j') ∧
    (¬ cmpE (hp t'.1 k) x≥0→Go.Eng.Fn Tryz.prog F.agenda_set #[agV u1 u2 u3 u4 u5,.int .i64 (j':Int),evV (hp t'.1 k)] H'' fun v H3=>v=.tuple #[]∧inI (2 * (k:Int))∧inI (2 * (k:Int)+1)∧(∃ (t'':Hw) (j'':Nat),(k:Int)=j''∧2 * (k:Int)+1=2 * (j'':Int)+1∧MyA H0 H3 u4 u5 t''∧Kept s0 (Fl t'' j'')∧j''<t''.1.length∧t''.1.length=s.1.length∧t''.2.length=s.2.length∧downA s0.1.length (Fl t'' j'') j''=downA s0.1.length (Fl t j) j∧Chg2 H H3 u4 u5)∧(s.1.length-(k:Int)).toNat<(s.1.length-(j':Int)).toNat):=fun k hk hkl=>by
   have hgt:=(kid_gt (Fl t' j').1 j').1
   rw [← hk] at hgt
   have hokk:=okp k hkl (by omega)
   have hle:=cmpE_less hokk htx
   refine ⟨fun hb=>?_,fun hb=>?_⟩
   ·refine downA_stop fun ⟨_,b⟩=>?_
    rw [← hk,flx t' j' hj',flo t' j' k hj' (by omega),← hle] at b
    simp at b; omega
   ·have hless:lessE (hp t'.1 k) x=true:=by rw [← hle]; simp; omega
    have hpk:=kt'.pl k (by rw [fll]; exact hkl)
    rw [flo t' j' k hj' (by omega)] at hpk
    have hst:=hole_step (s:=t') (j:=j') (k:=k) (x:=x) hj' hkl (by omega)
    refine (agendaSet mt' hj' hpk.1 (by have:=hpk.2.1; rw [show (Fl t' j').2.length=t'.2.length from List.length_set ..] at this; exact this)).mono fun v H3 ⟨hv,m3,c3⟩=>⟨hv,by unfold inI; omega,by unfold inI; omega,⟨_,k,rfl,rfl,m3,?_,by simpa using hkl,by simpa using tl',by simpa using tw',?_,hc'.trans c3⟩,by omega⟩
    ·show Kept s0 ((t'.1.set j' (hp t'.1 k)).set k x,(t'.2.set (hp t'.1 k).h.1.toNat j').set x.h.1.toNat k)
     rw [hst]; exact kt'.trans (Kept.swap kt'.pl (by rw [fll]; exact hj') (by rw [fll]; exact hkl))
    ·show downA s0.1.length ((t'.1.set j' (hp t'.1 k)).set k x,(t'.2.set (hp t'.1 k).h.1.toNat j').set x.h.1.toNat k) k=_
     rw [hst,← he',downA_step (f:=s0.1.length) (s:=Fl t' j') (by rw [fll]; omega) (by rw [fll]; exact hk1) (by rw [← hk,flx t' j' hj',flo t' j' k hj' (by omega)]; exact hless),← hk]
  rw [e2,e1]
  have k2:kid (Fl t' j').1 j'=if 2 * j'+2<t'.1.length∧lessE (hp t'.1 (2 * j'+2)) (hp t'.1 (2 * j'+1))=true then 2 * j'+2 else 2 * j'+1:=by
   unfold kid; rw [fll,flo t' j' _ hj' (by omega),flo t' j' _ hj' (by omega)]
  refine ⟨by unfold inI; omega,fun _=>by unfold inI; omega,fun hh=>ins _ (hlt hh),_,_,_,_,_,fun hh=>gk _ (hlt hh),fun hh=>ins _ hk1,_,_,_,_,_,fun hh=>gk _ hk1,cmpE (hp t'.1 (2 * j'+2)) (hp t'.1 (2 * j'+1)),fun hh=>agendaCompare (okp _ (hlt hh) (by omega)).fit (okp _ hk1 (by omega)).fit,fun hb=>?_,fun hb=>?_⟩
  ·simp only [Bool.and_eq_true] at hb
   have h2:=hlt hb.1
   have hb2:=hb.2
   rw [cmpE_less (okp _ h2 (by omega)) (okp _ hk1 (by omega))] at hb2
   rw [if_pos ⟨h2,hb2⟩] at k2
   obtain ⟨g1,g2⟩:=go (2 * j'+2) k2.symm h2
   exact ⟨by unfold inI; omega,ins _ h2,_,_,_,_,_,gk _ h2,_,agendaCompare (okp _ h2 (by omega)).fit htx.fit,fun hx=>fin (g1 (by simpa using hx)),fun hx=>⟨ins _ h2,_,_,_,_,_,gk _ h2,g2 (by simpa using hx)⟩⟩
  ·have hb2:¬ (2 * j'+2<t'.1.length∧lessE (hp t'.1 (2 * j'+2)) (hp t'.1 (2 * j'+1))=true):=fun ⟨a,b⟩=>by
    rw [← cmpE_less (okp _ a (by omega)) (okp _ hk1 (by omega))] at b
    rw [b] at hb; simp at hb; omega
   rw [if_neg hb2] at k2
   obtain ⟨g1,g2⟩:=go (2 * j'+1) k2.symm hk1
   exact ⟨ins _ hk1,_,_,_,_,_,gk _ hk1,_,agendaCompare (okp _ hk1 (by omega)).fit htx.fit,fun hx=>fin (g1 (by simpa using hx)),fun hx=>⟨ins _ hk1,_,_,_,_,_,gk _ hk1,g2 (by simpa using hx)⟩⟩

structure NewA (H0 H:Hp) (u1 u2 u3 u4 u5:Slc) (a:Ag):Prop where
 tb:NewT H0 H u1 u2 u3 a.tb
 heap:Mine 5 fE T.api_Event H0 H u4 a.heap
 wh:Mine 1 fI T.int H0 H u5 a.wh
 s45:Sep u4 u5
 s4:SepT u1 u2 u3 u4
 s5:SepT u1 u2 u3 u5
theorem NewA.le {H0 H:Hp} {u1 u2 u3 u4 u5:Slc} {a:Ag} (h:NewA H0 H u1 u2 u3 u4 u5 a):Hp.le H0 H:=h.tb.le
theorem NewA.rd {H0 H:Hp} {u1 u2 u3 u4 u5:Slc} {a:Ag} (h:NewA H0 H u1 u2 u3 u4 u5 a):RdA H u1 u2 u3 u4 u5 a:=⟨h.tb.rd,h.heap.rdE,h.wh.rdI⟩
theorem NewA.up {H0 H H':Hp} {u1 u2 u3 u4 u5:Slc} {a:Ag} (h:NewA H0 H u1 u2 u3 u4 u5 a) (hl:Hp.le H H'):NewA H0 H' u1 u2 u3 u4 u5 a:=⟨h.tb.up hl,h.heap.le hl,h.wh.le hl,h.s45,h.s4,h.s5⟩
theorem NewA.low {H0 H1 H:Hp} {u1 u2 u3 u4 u5:Slc} {a:Ag} (h:NewA H1 H u1 u2 u3 u4 u5 a) (hl:Hp.le H0 H1):NewA H0 H u1 u2 u3 u4 u5 a:=⟨h.tb.low hl,h.heap.low hl,h.wh.low hl,h.s45,h.s4,h.s5⟩
theorem NewA.zero {H H':Hp} (h:Hp.le H H'):NewA H H' zs zs zs zs zs .zero:=⟨NewT.zero h,.inl ⟨rfl,rfl⟩,.inl ⟨rfl,rfl⟩,Sep.nil,⟨Sep.nil,Sep.nil,Sep.nil⟩,⟨Sep.nil,Sep.nil,Sep.nil⟩⟩
theorem NewA.my {H0 H:Hp} {u1 u2 u3 u4 u5:Slc} {a:Ag} (h:NewA H0 H u1 u2 u3 u4 u5 a):MyA H0 H u4 u5 (a.heap,a.wh):=⟨h.le,h.heap,h.wh,h.s45⟩
theorem NewT.chg2 {H0 H H':Hp} {a b c u v:Slc} {t:Tb} (h:NewT H0 H a b c t) (hc:Chg2 H H' u v) (h1:SepT a b c u) (h2:SepT a b c v) (hu:New H0 u) (hv:New H0 v):NewT H0 H' a b c t :=
 ⟨hc.le h.le hu hv,hc.mine h.uses h1.1 h2.1,hc.mine h.used h1.2.1 h2.2.1,hc.mine h.free h1.2.2 h2.2.2,h.s12,h.s13,h.s23⟩

theorem clone_event {H:Hp} {s:Slc} {xs:List Ev} (hs:Rd 5 fE H s xs) (hl:xs.length≤1000000000) :
  Go.Eng.Fn Tryz.prog F.slices_Clone_api_Event_api_Event #[s.v] H fun v H'=>∃ u:Slc,v=u.v∧Hp.le H H'∧Mine 5 fE T.api_Event H H' u xs :=
 slices_Clone_api_Event_api_Event_vc (clone_vc (k:=5) (f:=fE) (bytes:=40) (by kernel_rfl) (by decide) (fun _=>rfl) hs (by omega) (by omega))

theorem agendaTwin {H:Hp} {u1 u2 u3 u4 u5:Slc} {a:Ag} (h:RdA H u1 u2 u3 u4 u5 a) (hl:a.heap.length≤1000000) (hw:a.wh.length≤1000000) :
  Go.Eng.Fn Tryz.prog F.agenda_twin #[agV u1 u2 u3 u4 u5] H fun v H'=>∃ b c:Slc,v=agV u1 u2 u3 b c∧MyA H H' b c (a.heap,a.wh):=by
 refine agenda_twin_vc ((clone_event h.heap (by omega)).mono fun v H2 ⟨b,hv,l2,m2⟩=>⟨l2,b,hv,(clone_int (h.wh.le l2) (by omega)).mono fun v H5 ⟨c,hv,l5,m5⟩=>⟨l5,c,hv,b,c,rfl,?_⟩⟩)
 exact ⟨Hp.le_trans l2 l5,m2.le l5,m5.low l2,Sep.of m2.isOld m5.isNew⟩

theorem refATwin {H:Hp} {u1 u2 u3 u4 u5:Slc} {a:Ag} (h:RdA H u1 u2 u3 u4 u5 a) (f:fitG a) :
  Go.Eng.Fn Tryz.prog F.pelotonref07_Twin #[agV u1 u2 u3 u4 u5] H fun v H'=>∃ v1 v2 v3 v4 v5:Slc,v=agV v1 v2 v3 v4 v5∧NewA H H' v1 v2 v3 v4 v5 a:=by
 have:=f.hl; have:=f.wl
 refine pelotonref07_Twin_vc ((rtwin h.tb f.tb).mono fun v H2 ⟨v1,v2,v3,hv,n⟩=>⟨n.le,v1,v2,v3,hv,fun b6 H7 hb6 hH7=>?_⟩)
 refine (copy_ok (k:=5) (f:=fE) (bytes:=40) (e:=T.api_Event) (by kernel_rfl) (by decide) (fun _=>rfl) (fun x v hv=>by simp [fE] at hv; rcases hv with rfl | rfl | rfl | rfl | rfl <;> rfl) hb6 hH7 (h.heap.le n.le) (by omega) (by omega)).mono fun v H9 ⟨v4,hv,l9,m9⟩=>⟨v4,hv,fun b11 H12 hb11 hH12=>?_⟩
 refine (copy_ok (k:=1) (f:=fI) (bytes:=8) (e:=T.int) (by kernel_rfl) (by decide) (fun _=>rfl) (fun x v hv=>by simp [fI] at hv; subst hv; rfl) hb11 hH12 ((h.wh.le n.le).le l9) (by omega) (by omega)).mono fun v H14 ⟨v5,hv,l14,m14⟩=>⟨v5,hv,v1,v2,v3,v4,v5,rfl,?_⟩
 have o:=n.old
 have l29:Hp.le H2 H9:=l9
 refine ⟨(n.up l9).up l14,(m9.low n.le).le l14,(m14.low l9).low n.le,Sep.of m9.isOld m14.isNew,⟨Sep.of o.1 m9.isNew,Sep.of o.2.1 m9.isNew,Sep.of o.2.2 m9.isNew⟩,?_⟩
 have o9:=o.le l9
 exact ⟨Sep.of o9.1 m14.isNew,Sep.of o9.2.1 m14.isNew,Sep.of o9.2.2 m14.isNew⟩

theorem indexFunc_event {H:Hp} {s:Slc} {xs:List Ev} {fv:Value} {p:Ev→Bool} (h:Rd 5 fE H s xs) (hl:xs.length≤1000000000)
    (hf:∀ x:Ev,QfV Tryz.prog fv [evV x] H (.bool (p x))):Qf Tryz.prog F.slices_IndexFunc_api_Event_api_Event #[s.v,fv] H (.int .i64 (idx p xs)):=by
  have ls:=h.len
  refine slices_IndexFunc_api_Event_api_Event_vc (upto (N:=xs.length) (J:=fun n=>∀ y∈xs.take n.toNat,p y=false) (by omega) (by simp) fun n h0 h1 hJ=>⟨fun hn=>?_,fun hn=>⟨?_,Hp.le_refl _⟩⟩)
  · have hn:n<xs.length:=by have:n<s.n:=by simpa using hn
                            omega
    have hg:=hp_get (h:=xs) (i:=n.toNat) (by omega)
    refine ⟨h.inS h0 hn,_,_,_,_,_,Rd.gE h h0 hn,_,hf (hp xs n.toNat),fun hb=>⟨?_,Hp.le_refl _⟩,fun hb=>upto.nx h0 hn (by omega) ?_⟩
    · rw [idx_hit hg hb hJ,Int.toNat_of_nonneg h0]
    · rw [show (n+1).toNat=n.toNat+1 by omega,take_succ hg]
      intro y hy
      rcases List.mem_append.1 hy with hy | hy
      · exact hJ y hy
      · simp only [List.mem_singleton] at hy; subst hy; exact hb
  · have:n=xs.length:=by have:¬ n<s.n:=by simpa using hn
                         omega
    subst this
    rw [Int.toNat_natCast,List.take_length] at hJ
    rw [idx_miss hJ]
theorem containsFunc_event {H:Hp} {s:Slc} {xs:List Ev} {fv:Value} {p:Ev→Bool} (h:Rd 5 fE H s xs) (hl:xs.length≤1000000000)
  (hf:∀ x:Ev,QfV Tryz.prog fv [evV x] H (.bool (p x))):Qf Tryz.prog F.slices_ContainsFunc_api_Event_api_Event #[s.v,fv] H (.bool (xs.any p)) :=
 slices_ContainsFunc_api_Event_api_Event_vc ⟨_,indexFunc_event h hl hf,by rw [← idx_ge],Hp.le_refl _⟩


def plcA (a:Ag):Prop:=a.wh.length=a.tb.uses.length∧a.heap.length+a.tb.free.length=a.tb.uses.length∧(∀ i:Nat,i<a.tb.uses.length→a.tb.used.getD i false=false→a.wh.getD i 0 = -1) ∧
 ∀ i:Nat,i<a.tb.uses.length→a.tb.used.getD i false=true→0≤a.wh.getD i 0∧a.wh.getD i 0<a.heap.length∧(hp a.heap (a.wh.getD i 0).toNat).h=((i:Int),a.tb.uses.getD i 0)

noncomputable instance (a:Ag):Decidable (plcA a):=Classical.propDecidable _

theorem agendaPlace {H:Hp} {u1 u2 u3 u4 u5:Slc} {a:Ag} {h:Int × Int} (r:RdA H u1 u2 u3 u4 u5 a) (f:fitG a) :
  Qf Tryz.prog F.agenda_place #[agV u1 u2 u3 u4 u5,.agg #[.int .i64 h.1,.int .i64 h.2]] H (.tuple #[.int .i64 (if (findA a h).2=0 then (atA a h:Int) else 0),.int .i64 (findA a h).2]):=by
 refine agenda_place_vc ⟨_,agendaCheck r f,fun hc=>?_,fun hc=>?_⟩
 ·have hk:¬ okA a:=fun ok=>by rw [chkA_ok ok] at hc; simp at hc
  rw [findA,if_neg hk,chkA_bad hk]
  exact ⟨rfl,Hp.le_refl _⟩
 ·have ok:okA a:=chkA_zero.1 (by simpa using hc)
  rw [findA,if_pos ok]
  refine ⟨_,_,slotHas r.tb f.tb,fun hb=>?_,fun hb=>?_⟩
  ·rw [hasM,if_pos ok.tb] at hb
   have hl:a.tb.live h.1 h.2≠true:=by simpa using hb
   rw [if_neg hl]
   exact ⟨rfl,Hp.le_refl _⟩
  ·rw [hasM,if_pos ok.tb] at hb
   have hl:a.tb.live h.1 h.2=true:=by simpa using hb
   rw [if_pos hl]
   obtain ⟨v1,v2,v3,v4⟩:=live_iff.1 hl
   have:=ok.wl
   have so:=ok.slotOf hl
   refine r.wh.ldI v1 (by omega) ⟨?_,Hp.le_refl _⟩
   rw [if_pos rfl]
   unfold atA
   rw [Int.toNat_of_nonneg so.1]

theorem agendaTop {H:Hp} {u1 u2 u3 u4 u5:Slc} {a:Ag} (r:RdA H u1 u2 u3 u4 u5 a) (f:fitG a) :
  Qf Tryz.prog F.agenda_Top #[agV u1 u2 u3 u4 u5] H (.tuple #[evV (topA a).1,.int .i64 (topA a).2]):=by
 have l4:=r.heap.len
 refine agenda_Top_vc ⟨_,agendaCheck r f,fun hc=>?_,fun hc=>?_⟩
 ·have hk:¬ okA a:=fun ok=>by rw [chkA_ok ok] at hc; simp at hc
  rw [topA,if_neg hk,chkA_bad hk]
  exact ⟨rfl,Hp.le_refl _⟩
 ·have ok:okA a:=chkA_zero.1 (by simpa using hc)
  rw [topA,if_pos ok]
  refine ⟨fun hb=>?_,fun hb=>?_⟩
  ·have hb:u4.n=0:=by simpa using hb
   rw [if_pos (by omega)]; exact ⟨rfl,Hp.le_refl _⟩
  ·have hb:¬ u4.n=0:=by simpa using hb
   rw [if_neg (by omega)]
   exact ⟨r.heap.inS (by omega) (by omega),_,_,_,_,_,Rd.gE r.heap (i:=0) (by omega) (by omega),rfl,Hp.le_refl _⟩

theorem _root_.Go.Eng.Chg.two {H H':Hp} {u v:Slc} (c:Chg H H' u):Chg2 H H' u v:=fun b hb h1 _=>c b hb h1
theorem down_ord {f:Nat} {s:Hw} {i:Nat} (o:ordH s.1):downA f s i=s :=
 downA_stop fun ⟨a,b⟩=>by
  obtain ⟨k1,k2,k3⟩:=kid_gt s.1 i
  have:=o (kid s.1 i) (by omega) (k2 a)
  rw [k3] at this
  rw [this] at b; cases b
theorem fE_one (x:Ev):∀ v∈fE x,v.oneCell'=true:=fun v hv=>by simp [fE] at hv; rcases hv with rfl | rfl | rfl | rfl | rfl <;> rfl

theorem agendaPush1 {H:Hp} {b:Nat} {n:Int} {x:Ev} (h:H.at ((Addr.mk b 0 none).add 0)=some (.int .i64 n)) :
  QfV Tryz.prog (.func (.func F.agenda_Push_1) #[] #[.pointer (some ⟨b,0,none⟩)]) [evV x] H (.bool (x.no==n)):=by
 refine ⟨F.agenda_Push_1,#[],_,rfl,agenda_Push_1_callable,?_⟩
 exact agenda_Push_1_vc (a5:=⟨b,0,none⟩) ⟨_,h,rfl,Hp.le_refl _⟩

theorem max8 {a:Ag} {t:Int × Int} (h:¬ (okA a∧okR t)):(if chkR t>chkA a then chkR t else chkA a)=8:=by
 by_cases o1:okA a
 ·have o2:¬ okR t:=fun o2=>h ⟨o1,o2⟩
  rw [chkA_ok o1,chkR_bad o2]; try rfl
 ·rw [chkA_bad o1]
  by_cases o2:okR t
  ·rw [chkR_ok o2]; try rfl
  ·rw [chkR_bad o2]; try rfl

theorem MyA.new {H0 H9 H17 H:Hp} {s1 s2 s3 u4 u5:Slc} {tb:Tb} {s:Hw} (nt:NewT H0 H17 s1 s2 s3 tb) (m:MyA H0 H u4 u5 s) (c:Chg2 H17 H u4 u5) (h4:SepT s1 s2 s3 u4) (h5:SepT s1 s2 s3 u5):NewA H0 H s1 s2 s3 u4 u5 ⟨tb,s.1,s.2⟩ :=
 ⟨NewT.chg2 nt c h4 h5 m.heap.isNew m.wh.isNew,m.heap,m.wh,m.sep,h4,h5⟩

theorem agendaPush {H:Hp} {u1 u2 u3 u4 u5:Slc} {a:Ag} {t:Int × Int} {n:Int} (r:RdA H u1 u2 u3 u4 u5 a) (f:fitG a) (ft:fitR t) :
  Go.Eng.Fn Tryz.prog F.agenda_Push #[agV u1 u2 u3 u4 u5,.agg #[.int .i64 t.1,.int .i64 t.2],.int .i64 n] H fun v H'=>∃ v1 v2 v3 v4 v5:Slc,
   v=.tuple #[agV v1 v2 v3 v4 v5,.agg #[.int .i64 (pushA a t n).2.1.1,.int .i64 (pushA a t n).2.1.2],.int .i64 (pushA a t n).2.2]∧NewA H H' v1 v2 v3 v4 v5 (pushA a t n).1:=by
 have fh:=f.hl; have fw:=f.wl
 refine agenda_Push_vc fun b1 H2 hb1 hH2=>?_
 have le2:Hp.le H H2:=Hp.le_new (Hp.le_refl _) hb1 hH2
 have r2:=r.le le2
 have va:=Var.new hH2
 have e1:=va.at
 refine ⟨_,agendaCheck r2 f,_,ratioCheck ft,fun hc=>?_,fun hc=>?_⟩
 ·have hbad:¬ (okA a∧okR t):=fun ⟨o1,o2⟩=>by rw [chkA_ok o1,chkR_ok o2] at hc; simp at hc
  rw [max8 hbad,pushA,if_neg hbad]
  exact ⟨zs,zs,zs,zs,zs,rfl,NewA.zero le2⟩
 have ok:okA a∧okR t:=by
  by_cases h:okA a∧okR t
  ·exact h
  ·rw [max8 h] at hc; simp at hc
 rw [pushA,if_pos ok]
 refine ⟨_,e1,_,fun _=>e1,fun hb=>?_,fun hb=>?_⟩
 ·rw [if_pos (by simpa using hb)]
  exact ⟨zs,zs,zs,zs,zs,rfl,NewA.zero le2⟩
 rw [if_neg (show ¬ (n<0∨1000000<n) by simpa using hb)]
 refine ⟨_,containsFunc_event r2.heap (by omega) (fun x=>agendaPush1 e1),fun hb=>?_,fun hb=>?_⟩
 ·rw [if_pos (show hasA a n=true from hb)]
  exact ⟨zs,zs,zs,zs,zs,rfl,NewA.zero le2⟩
 rw [if_neg (show ¬ hasA a n=true from by rw [show hasA a n=false from hb]; simp)]
 refine (slotTake r2.tb f.tb).mono fun v H9 ⟨s1,s2,s3,hv,nt⟩=>⟨s1,s2,s3,_,_,_,hv,?_⟩
 rw [takeM,if_pos ok.1.tb] at nt ⊢
 by_cases hct:a.tb.canTake=true
 ·rw [if_pos hct] at nt ⊢
  rw [if_pos hct]
  refine ⟨fun he=>by simp at he,fun _=>?_⟩
  have le9:=Hp.le_trans le2 nt.le
  refine (agendaTwin (r.le le9) fh fw).mono fun v H17 ⟨b,c,hv,m⟩=>⟨_,_,_,b,c,hv,n,?_,fun b24 H25 hb24 hH25=>?_⟩
  ·exact (va.le (Hp.le_trans nt.le m.le)).at
  have le17:=Hp.le_trans le9 m.le
  have hmb:=m.heap.low le9
  have hmc:=m.wh.low le9
  have o:=nt.old
  refine (append1 (k:=5) (f:=fE) (bytes:=40) (x:=(Ev.mk t n (nextH a))) (e:=T.api_Event) (by kernel_rfl) (by decide) (fun _=>rfl) fE_one le17 hmb hb24 hH25 rfl (by show a.heap.length≤_; omega) (by omega)).mono fun v H27 ⟨w,hw,l27,mw,cw,ew⟩=>⟨w,hw,?_⟩
  have lw:=mw.rdE.len
  have lw:w.n=a.heap.length+1:=by rw [lw]; simp
  have mc:=hmc.chg cw m.sep.symm
  have my:MyA H H27 w c (a.heap++[(Ev.mk t n (nextH a))],a.wh):=⟨l27,mw,mc,m.sep.ext m.wh.isOld ew⟩
  have nt17:=(nt.low le2).up m.le
  have sb:SepT s1 s2 s3 b:=⟨Sep.of o.1 m.heap.isNew,Sep.of o.2.1 m.heap.isNew,Sep.of o.2.2 m.heap.isNew⟩
  have sc:SepT s1 s2 s3 c:=⟨Sep.of o.1 m.wh.isNew,Sep.of o.2.1 m.wh.isNew,Sep.of o.2.2 m.wh.isNew⟩
  have nt27:=NewT.chg2 nt17 (cw.two (v:=c)) sb sc hmb.isNew hmc.isNew
  have sw:SepT s1 s2 s3 w:=sb.ext (o.le m.le) ew
  have en:((w.n:Int)-1)=(a.heap.length:Nat):=by omega
  obtain ⟨p1,p2,p3,p4⟩:=push_parts (n:=n) ok.1 ok.2 hct
  obtain ⟨hf,hu⟩:=canTake_iff.1 hct
  obtain ⟨tm,t0,t1⟩:=ok.1.tb.topR hf
  have hwl:=ok.1.wl
  have es:((a.heap++[(Ev.mk t n (nextH a))]).set a.heap.length (Ev.mk t n (nextH a)),a.wh.set (nextH a).1.toNat (a.heap.length:Nat))=pushS a t n:=by
   unfold pushS
   rw [List.set_append_right _ _ (Nat.le_refl _)]; simp [nextH]
  refine ⟨by unfold inI; omega,?_⟩
  rw [en]
  have hset:=agendaSettle (u1:=s1) (u2:=s2) (u3:=s3) (i:=a.heap.length) (x:=(Ev.mk t n (nextH a))) my (by simp) (by show topL a.tb.free<a.wh.length; omega) (by exact t0) (by show plA (_,_); rw [show (a.wh.set (nextH a).1.toNat (a.heap.length:Nat))=a.wh.set (nextH a).1.toNat (a.heap.length:Nat) from rfl,es]; exact p1)
   (fun x hx=>by
    rw [show ((a.heap++[(Ev.mk t n (nextH a))]).set a.heap.length (Ev.mk t n (nextH a)))=(pushS a t n).1 from congrArg Prod.fst es] at hx
    rcases List.mem_append.1 hx with hx | hx
    ·exact (ok.1.each x hx).1
    ·simp only [List.mem_singleton] at hx; subst hx; exact ok.2) (by have:=ok.1.hl; have:=ok.1.tb.top; simp; omega)
  refine hset.mono fun v H30 ⟨hv,m30,c30⟩=>⟨hv,s1,s2,s3,w,c,rfl,?_⟩
  have hk:=pushed_kept (n:=n) ok.1 ok.2 hct
  have em:moveA (pushS a t n) a.heap.length=(upA a.heap.length (pushS a t n) a.heap.length).1:=by
   unfold moveA; exact down_ord hk.2
  have m30:MyA H H30 w c (upA a.heap.length (pushS a t n) a.heap.length).1:=by
   rw [← em,← es]; exact m30
  exact MyA.new (H9:=H) nt27 m30 c30 sw sc
 ·rw [if_neg hct] at nt ⊢
  rw [if_neg hct]
  exact ⟨fun _=>⟨zs,zs,zs,zs,zs,rfl,NewA.zero (Hp.le_trans le2 nt.le)⟩,fun he=>by simp at he⟩

theorem MyA.up {H0 H H':Hp} {u4 u5:Slc} {s:Hw} (m:MyA H0 H u4 u5 s) (hl:Hp.le H H'):MyA H0 H' u4 u5 s:=⟨Hp.le_trans m.le hl,m.heap.le hl,m.wh.le hl,m.sep⟩
theorem MyA.low {H0 H1 H:Hp} {u4 u5:Slc} {s:Hw} (m:MyA H1 H u4 u5 s) (hl:Hp.le H0 H1):MyA H0 H u4 u5 s:=⟨Hp.le_trans hl m.le,m.heap.low hl,m.wh.low hl,m.sep⟩
theorem MyA.cut {H0 H:Hp} {u4 u5:Slc} {s:Hw} (m:MyA H0 H u4 u5 s) {n:Nat} (hn:n≤s.1.length):MyA H0 H ⟨u4.a,n,u4.c⟩ u5 (s.1.take n,s.2) :=
 ⟨m.le,Mine.cut (k:=5) (f:=fE) (fun _=>rfl) m.heap hn,m.wh,fun p q hp hq=>m.sep p q hp hq⟩
theorem MyA.put {H0 H:Hp} {u4 u5:Slc} {s:Hw} (m:MyA H0 H u4 u5 s) {i y:Int} (h0:0≤i) (h1:i<s.2.length) {Q:Hp→Prop}
  (q:∀ H',MyA H0 H' u4 u5 (s.1,s.2.set i.toNat y)→Chg2 H H' u4 u5→Q H') :
  H.canStore (eaddr u5.a 1 i) 0 [.int .i64 y]∧∀ H',H'=H.store (eaddr u5.a 1 i) 0 [.int .i64 y]→Q H' :=
 Mine.setI m.wh h0 h1 y fun H' m' c'=>q H' ⟨Hp.le_chg m.le c' m.wh.isNew,m.heap.chg c' m.sep,m',m.sep⟩ fun b hb _ h2=>c' b hb h2

theorem remS_time {a:Ag} {h:Int × Int} (ok:okA a) (hl:a.tb.live h.1 h.2=true) (hne:atA a h≠a.heap.length-1):timeH (remS a h).1:=fun x hx=>by
 have:=(removed_perm0 ok hl hne).2.mem_iff.1 (List.mem_cons_of_mem _ hx)
 exact (ok.each x this).1
theorem rem_ne {a:Ag} {h:Int × Int} (ok:okA a) (hl:a.tb.live h.1 h.2=true) (hne:atA a h≠a.heap.length-1):h.1.toNat≠(hp a.heap (a.heap.length-1)).h.1.toNat:=fun e=>by
 obtain ⟨m1,m2,m3⟩:=find_mem ok hl
 have:=(ok.pl (a.heap.length-1) (by show a.heap.length-1<a.heap.length; omega)).2.2
 have this:a.wh.getD (hp a.heap (a.heap.length-1)).h.1.toNat 0=((a.heap.length-1:Nat):Int):=this
 rw [← e] at this
 apply hne; unfold atA; rw [this,Int.toNat_natCast]
theorem agendaRemove0 {H:Hp} {u1 u2 u3 u4 u5:Slc} {a:Ag} {h:Int × Int} (r:RdA H u1 u2 u3 u4 u5 a) (ok:okA a) (hl:a.tb.live h.1 h.2=true) :
  Go.Eng.Fn Tryz.prog F.agenda_remove #[agV u1 u2 u3 u4 u5,.int .i64 (atA a h:Int)] H fun v H'=>∃ v1 v2 v3 v4 v5:Slc,
   v=.tuple #[agV v1 v2 v3 v4 v5,evV (hp a.heap (atA a h)),.int .i64 0]∧NewA H H' v1 v2 v3 v4 v5 (removedA a h):=by
 have f:=okA.fitG ok
 have fh:=f.hl; have fw:=f.wl
 obtain ⟨m1,m2,m3⟩:=find_mem ok hl
 obtain ⟨l1,l2,l3,l4⟩:=live_iff.1 hl
 have hwl:=ok.wl
 have g:=Rd.gE r.heap (i:=(atA a h:Int)) (by omega) (by omega)
 rw [Int.toNat_natCast] at g
 refine agenda_remove_vc ⟨r.heap.inS (by omega) (by omega),_,_,_,_,_,g,?_⟩
 rw [m2]
 refine (slotGive r.tb f.tb).mono fun v H7 ⟨s1,s2,s3,hv,nt⟩=>⟨s1,s2,s3,_,hv,?_⟩
 rw [giveM,if_pos ok.tb,if_pos hl] at nt ⊢
 refine ⟨fun he=>by simp at he,fun _=>?_⟩
 refine (agendaTwin (r.le nt.le) fh fw).mono fun v H13 ⟨b,c,hv,m⟩=>⟨_,_,_,b,c,hv,?_⟩
 have lb:b.n=a.heap.length:=m.heap.rdE.len
 have cb:=m.heap.rdE.cap
 have gl:=Rd.gE m.heap.rdE (i:=((a.heap.length-1:Nat):Int)) (by omega) (by show _<(a.heap.length:Int); omega)
 rw [Int.toNat_natCast] at gl
 have en:(b.n:Int)-1=((a.heap.length-1:Nat):Int):=by omega
 have o:=nt.old
 have sb:SepT s1 s2 s3 b:=⟨Sep.of o.1 m.heap.isNew,Sep.of o.2.1 m.heap.isNew,Sep.of o.2.2 m.heap.isNew⟩
 have sc:SepT s1 s2 s3 c:=⟨Sep.of o.1 m.wh.isNew,Sep.of o.2.1 m.wh.isNew,Sep.of o.2.2 m.wh.isNew⟩
 have sb':SepT s1 s2 s3 ⟨b.a,a.heap.length-1,b.c⟩:=⟨fun p q hp hq=>sb.1 p q hp hq,fun p q hp hq=>sb.2.1 p q hp hq,fun p q hp hq=>sb.2.2 p q hp hq⟩
 rw [en,slcCut,Int.toNat_natCast]
 refine ⟨by unfold inI; omega,m.heap.rdE.inS (by omega) (by show _<(a.heap.length:Int); omega),_,_,_,_,_,gl,⟨by omega,by omega,by omega,by omega⟩,m.wh.rdI.inS l1 (by show _<(a.wh.length:Int); omega),?_⟩
 have m0:=(m.low nt.le).cut (n:=a.heap.length-1) (by show _≤a.heap.length; omega)
 refine m0.put l1 (by show _<(a.wh.length:Int); omega) fun H24 m24 c24=>⟨fun hlt=>?_,fun hge=>?_⟩
 ·have hlt:(atA a h:Int)<((a.heap.length-1:Nat):Int):=by simpa using hlt
  have hne:atA a h≠a.heap.length-1:=by omega
  obtain ⟨p1,p2,p3,p4⟩:=rem_parts ok hl hne
  obtain ⟨q1,q2,q3⟩:=ok.pl (a.heap.length-1) (by show a.heap.length-1<a.heap.length; omega)
  have es:((a.heap.take (a.heap.length-1)).set (atA a h) (hp a.heap (a.heap.length-1)),(a.wh.set h.1.toNat (-1)).set (hp a.heap (a.heap.length-1)).h.1.toNat (atA a h:Nat))=remS a h:=by
   unfold remS
   rw [List.take_set,List.set_comm _ _ (rem_ne ok hl hne)]
  have hset:=agendaSettle (u1:=s1) (u2:=s2) (u3:=s3) (i:=atA a h) (x:=hp a.heap (a.heap.length-1)) m24 (by show _<(a.heap.take _).length; simp; omega) (by show _<((a.wh.set _ _).length:Int); rw [List.length_set]; exact q2) q1
   (by show plA ((a.heap.take (a.heap.length-1)).set (atA a h) (hp a.heap (a.heap.length-1)),(a.wh.set h.1.toNat (-1)).set (hp a.heap (a.heap.length-1)).h.1.toNat (atA a h:Nat)); rw [es]; exact p1)
   (by show timeH ((a.heap.take (a.heap.length-1)).set (atA a h) (hp a.heap (a.heap.length-1))); rw [show (a.heap.take (a.heap.length-1)).set (atA a h) (hp a.heap (a.heap.length-1))=(remS a h).1 from congrArg Prod.fst es]; exact remS_time ok hl hne)
   (by show (a.heap.take _).length≤_; simp; omega)
  refine hset.mono fun v H26 ⟨hv,m26,c26⟩=>⟨hv,s1,s2,s3,⟨b.a,a.heap.length-1,b.c⟩,c,by unfold evV; rw [m2],?_⟩
  rw [removedA,if_neg hne]
  have m26:MyA H H26 ⟨b.a,a.heap.length-1,b.c⟩ c (moveA (remS a h) (atA a h)):=by rw [← es]; exact m26
  exact MyA.new (H9:=H) (nt.up m.le) m26 (c24.trans c26) sb' sc
 ·have hge:¬ (atA a h:Int)<((a.heap.length-1:Nat):Int):=by simpa using hge
  refine ⟨s1,s2,s3,⟨b.a,a.heap.length-1,b.c⟩,c,by unfold evV; rw [m2],?_⟩
  rw [removedA,if_pos (by omega)]
  exact MyA.new (H9:=H) (nt.up m.le) m24 c24 sb' sc


theorem agendaRemove {H:Hp} {u1 u2 u3 u4 u5:Slc} {a:Ag} {h:Int × Int} (r:RdA H u1 u2 u3 u4 u5 a) (f:fitG a) :
  Go.Eng.Fn Tryz.prog F.agenda_Remove #[agV u1 u2 u3 u4 u5,.agg #[.int .i64 h.1,.int .i64 h.2]] H fun v H'=>∃ v1 v2 v3 v4 v5:Slc,
   v=.tuple #[agV v1 v2 v3 v4 v5,evV (removeA a h).2.1,.int .i64 (removeA a h).2.2]∧NewA H H' v1 v2 v3 v4 v5 (removeA a h).1:=by
 refine agenda_Remove_vc ⟨_,_,agendaPlace r f,fun hc=>?_,fun hc=>?_⟩
 ·have hk:(findA a h).2≠0:=by simpa using hc
  rw [removeA,if_neg hk]
  exact ⟨zs,zs,zs,zs,zs,rfl,NewA.zero (Hp.le_refl _)⟩
 ·have hk:(findA a h).2=0:=by simpa using hc
  rw [removeA,if_pos hk,if_pos hk]
  have hh:okA a∧a.tb.live h.1 h.2=true:=by
   unfold findA at hk
   split at hk
   ·rename_i ok
    split at hk
    ·rename_i hl; exact ⟨ok,hl⟩
    ·cases hk
   ·cases hk
  refine (agendaRemove0 r hh.1 hh.2).mono fun v H4 ⟨v1,v2,v3,v4,v5,hv,n⟩=>⟨v1,v2,v3,v4,v5,_,_,_,_,_,_,hv,v1,v2,v3,v4,v5,?_,n⟩
  rw [findA,if_pos hh.1,if_pos hh.2]
theorem refAPushed {H:Hp} {u1 u2 u3 u4 u5:Slc} {a:Ag} {t:Int × Int} {n:Int} (r:RdA H u1 u2 u3 u4 u5 a) (ok:okA a) (ht:okR t) (hct:a.tb.canTake=true) :
  Go.Eng.Fn Tryz.prog F.pelotonref07_Pushed #[agV u1 u2 u3 u4 u5,.agg #[.int .i64 t.1,.int .i64 t.2],.int .i64 n] H fun v H'=>∃ v1 v2 v3 v4 v5:Slc,
   v=.tuple #[agV v1 v2 v3 v4 v5,.agg #[.int .i64 (nextH a).1,.int .i64 (nextH a).2]]∧NewA H H' v1 v2 v3 v4 v5 (pushedA a t n):=by
 have f:=okA.fitG ok
 have fh:=f.hl; have fw:=f.wl
 obtain ⟨p1,p2,p3,p4⟩:=push_parts (n:=n) ok ht hct
 obtain ⟨hf,hu⟩:=canTake_iff.1 hct
 obtain ⟨tm,k0,k1⟩:=ok.tb.topR hf
 have hwl:=ok.wl
 refine pelotonref07_Pushed_vc ((refATwin r f).mono fun v H2 ⟨t1,t2,t3,b,c,hv,nn⟩=>⟨t1,t2,t3,b,c,hv,?_⟩)
 refine (refTaken nn.tb.rd ok.tb hct).mono fun v H9 ⟨s1,s2,s3,hv,nt⟩=>⟨s1,s2,s3,_,_,hv,fun b15 H16 hb15 hH16=>?_⟩
 have le9:=Hp.le_trans nn.le nt.le
 have hmb:=nn.heap.le nt.le
 have hmc:=nn.wh.le nt.le
 refine (append1 (k:=5) (f:=fE) (bytes:=40) (x:=⟨t,n,nextH a⟩) (e:=T.api_Event) (by kernel_rfl) (by decide) (fun _=>rfl) fE_one le9 hmb hb15 hH16 rfl (by omega) (by omega)).mono fun v H18 ⟨w,hw,l18,mw,cw,ew⟩=>⟨w,hw,?_⟩
 have lw:=mw.rdE.len
 have lw:w.n=a.heap.length+1:=by rw [lw]; simp
 have mc:=hmc.chg cw nn.s45.symm
 have my:MyA H H18 w c (a.heap++[⟨t,n,nextH a⟩],a.wh):=⟨l18,mw,mc,nn.s45.ext hmc.isOld ew⟩
 have en:((w.n:Int)-1)=(a.heap.length:Nat):=by omega
 have sb:SepT s1 s2 s3 b:=nt.sep nn.heap.isOld
 have sc:SepT s1 s2 s3 c:=nt.sep nn.wh.isOld
 have sw:SepT s1 s2 s3 w:=sb.ext nt.old ew
 have nt18:=NewT.chg2 (nt.low nn.le) (cw.two (v:=c)) sb sc hmb.isNew hmc.isNew
 rw [en]
 refine ⟨by unfold inI; omega,mc.rdI.inS k0 (by omega),my.put k0 (by show _<(a.wh.length:Int); omega) fun H20 m20 c20=>⟨by unfold inI; omega,?_⟩⟩
 have m20:MyA H H20 w c (pushS a t n):=m20
 have hk:=pushed_kept (n:=n) ok ht hct
 refine (refUp m20 p1 (fun x hx=>?_) (by show _<(a.heap++_).length; simp) (by show (a.heap++_).length≤_; have:=ok.hl; have:=ok.tb.top; simp; omega)).mono fun v H22 ⟨hv,m22,c22⟩=>⟨_,hv,s1,s2,s3,w,c,rfl,?_⟩
 ·rcases List.mem_append.1 hx with hx | hx
  ·exact (ok.each x hx).1
  ·simp only [List.mem_singleton] at hx; subst hx; exact ht
 ·exact MyA.new (H9:=H) nt18 m22 (c20.trans c22) sw sc

end Go.Proofs.YtlbdpklikfddlaaGreat
end
section
/- Agendas: new ones. Conditions: none. -/
set_option maxRecDepth 100000
open Go Go.Eng Go.Proofs
namespace Go.Eng
end Go.Eng
namespace Go.Proofs.YtlbdpklikfddlaaGreat

theorem refABegin {H:Hp} {N:Nat} (h1:1≤N) (h2:N≤200) :
    Go.Eng.Fn Tryz.prog F.pelotonref07_Begin #[.int .i64 (N:Int)] H fun v H'=>∃ v1 v2 v3 v4 v5:Slc,v=agV v1 v2 v3 v4 v5∧NewA H H' v1 v2 v3 v4 v5 (beginA N):=by
  refine pelotonref07_Begin_vc ((refBegin h1 h2).mono fun v H2 ⟨s1,s2,s3,hv,nt⟩=>⟨s1,s2,s3,hv,?_⟩)
  refine ⟨fun n u9 u10 u11 u12 u13 H'=>u9=s1∧u10=s2∧u11=s3∧u12=zs∧∃ k:Nat,n=k∧k≤N∧Hp.le H2 H'∧Mine 1 fI T.int H2 H' u13 (List.replicate k (-1)),fun n _ _ _ _ _ _=>(N-n).toNat,⟨rfl,rfl,rfl,rfl,0,rfl,by omega,Hp.le_refl _,.inl ⟨rfl,rfl⟩⟩,fun n u9 u10 u11 u12 u13 H' ⟨e1,e2,e3,e4,k,hn,hk,l,m⟩=>?_⟩
  subst e1; subst e2; subst e3; subst e4; subst hn
  refine ⟨fun hlt b15 H16 hb15 hH16=>?_,fun hge=>?_⟩
  · have hlt:k<N:=by have:(k:Int)<N:=by simpa using hlt
                     omega
    refine (append1 (k:=1) (f:=fI) (bytes:=8) (x:=-1) (e:=T.int) (by kernel_rfl) (by decide) (fun _=>rfl) (fun x v hv=>by simp [fI] at hv; subst hv; rfl) l m hb15 hH16 rfl (by simp; omega) (by omega)).mono fun v H18 ⟨w,hw,l18,mw,_,_⟩=>⟨w,hw,by unfold inI; omega,⟨rfl,rfl,rfl,rfl,k+1,by omega,by omega,l18,?_⟩,?_⟩
    · rw [List.replicate_succ']; exact mw
    · show ((N:Int)-((k:Int)+1)).toNat<((N:Int)-(k:Int)).toNat; omega
  · have hge:¬ (k:Int)<N:=by simpa using hge
    have:k=N:=by omega
    subst this
    have o:=nt.old
    exact ⟨u9,u10,u11,zs,u13,rfl,nt.up l,.inl ⟨rfl,rfl⟩,m.low nt.le,Sep.nil.symm,⟨Sep.nil,Sep.nil,Sep.nil⟩,⟨Sep.of o.1 m.isNew,Sep.of o.2.1 m.isNew,Sep.of o.2.2 m.isNew⟩⟩

end Go.Proofs.YtlbdpklikfddlaaGreat
end
