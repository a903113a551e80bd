/- The engine, parts LB, LC, put together. Conditions: none. -/
import Derived.Test.YtlbdpklikfddlaaGreatPL3
import Derived.Test.YtlbdpklikfddlaaGreatVgClock
import Derived.Test.YtlbdpklikfddlaaGreatFs
set_option linter.unusedVariables false
section
/- Clocks: retiring, failing, moving. Conditions: none. -/
set_option maxRecDepth 100000
open Go Go.Eng Go.Proofs
namespace Go.Proofs.YtlbdpklikfddlaaGreat

theorem okK.dueInc {c:Ck} (ok:okK c):(c.due.map (·.1)).Pairwise (·<·):=by
 obtain ⟨ps,e⟩:=ok.evs
 have:=e.inc ok.ct
 rw [e.due,List.map_map]
 exact this
theorem clockPlace {H:Hp} {u:Cu} {c:Ck} {n:Int} (r:RdK H u c) (ok:okK c):∃ i b,Qf Tryz.prog F.clock_place #[u.d.v,.int .i64 n] H (.tuple #[.int .i64 i,.bool b])∧(b=true→0≤posD c n∧i=posD c n)∧(b=false→posD c n<0):=by
 have hl:=ok.fit.due
 refine ⟨_,_,clock_place_vc ⟨_,_,bsearch_due r.due ok.dueInc (by omega),rfl,Hp.le_refl _⟩,fun hb=>?_,fun hb=>?_⟩
 ·rcases pos_dich ok.dueInc n with ⟨h1,h2⟩ | ⟨h1,h2⟩
  ·have e:posD c n=posI (c.due.map (·.1)) n:=h2
   exact ⟨by omega,e.symm⟩
  ·rw [h1] at hb; cases hb
 ·rcases pos_dich ok.dueInc n with ⟨h1,h2⟩ | ⟨h1,h2⟩
  ·rw [h1] at hb; cases hb
  ·have e:posD c n = -1:=h2
   omega

def dropK (c:Ck) (n:Int):Ck × (Int × Int) × Int:=if atC c.ct n<0 then (.zero,(0,0),6) else (goneK c n,(getD3 c.ct.list (atC c.ct n)).2,0)
theorem okK.dueCut {c:Ck} (ok:okK c) {n:Int} (h:0≤posD c n):c.due.take (posD c n).toNat++c.due.drop ((posD c n).toNat+1)=c.due.filter fun d=>d.1 != n:=by
 obtain ⟨d,h1,h2,_,_⟩:=idx_in h
 have hp:=List.pairwise_map.1 ok.dueInc
 have e:=filter_erase hp h1
 have:d.1=n:=by simpa using h2
 rw [this] at e
 exact e
theorem removeA_at {a:Ag} {x:Ev} (ok:okA a) (hx:x∈a.heap):removeA a x.h=(removedA a x.h,x,0):=by
 unfold removeA; rw [(find_eq ok hx).1]; rfl

theorem retireK_drop {c:Ck} {n:Int} (ok:okK c):retireK c n=((dropK c n).1,(dropK c n).2.2):=by
 unfold retireK dropK
 rw [if_pos ok]
 split <;> rfl
theorem clockNext {H:Hp} {u:Cu} {c:Ck} (r:RdK H u c) (fk:fitK c):Qf Tryz.prog F.clock_Next #[ckV u c] H (.tuple #[evV (nextK c).1,.int .i64 (nextK c).2]):=by
 refine clock_Next_vc ⟨_,clockCheck r fk,fun hc=>?_,fun hc=>?_⟩
 ·have hk:¬ okK c:=fun ok=>by rw [chkK_ok ok] at hc; simp at hc
  rw [chkK_bad hk]
  unfold nextK; rw [if_neg hk]
  exact ⟨rfl,Hp.le_refl _⟩
 ·have ok:okK c:=chkK_zero.1 (by simpa using hc)
  refine ⟨_,_,_,_,_,_,agendaTop r.ag fk.ag,?_,Hp.le_refl _⟩
  unfold nextK topA
  rw [if_pos ok,if_pos ok.ag]
theorem clockUntil {H:Hp} {u:Cu} {c:Ck} {t:Int × Int} (r:RdK H u c) (fk:fitK c) (ht:fitR t):Qf Tryz.prog F.clock_until #[ckV u c,raW t] H (.tuple #[.bool (decide (untilK c t=0)&&waitsK c t),.int .i64 (untilK c t)]):=by
 have hm:(if chkR t>chkK c then chkR t else chkK c)=if okK c∧okR t then 0 else 8:=by
  by_cases h1:okK c <;> by_cases h2:okR t <;> simp [chkK_ok,chkK_bad,chkR_ok,chkR_bad,h1,h2]
 refine clock_until_vc ⟨_,clockCheck r fk,_,ratioCheck ht,?_⟩
 rw [hm]
 by_cases h:okK c∧okR t
 ·rw [if_pos h]
  refine ⟨fun hc=>by simp at hc,fun _=>⟨_,_,ratioCmp ht fk.now,?_⟩⟩
  have ec:cmpM t c.now=(cmpR t c.now,0):=by unfold cmpM; rw [if_pos ⟨h.2,h.1.now⟩]
  rw [ec]
  refine ⟨fun hq=>?_,fun hq=>?_⟩
  ·have hq:cmpR t c.now<0:=by simpa using hq
   have eu:untilK c t=44:=by unfold untilK; rw [if_pos h,if_pos hq]
   rw [eu]; exact ⟨rfl,Hp.le_refl _⟩
  ·have hq:¬ cmpR t c.now<0:=by simpa using hq
   have eu:untilK c t=0:=by unfold untilK; rw [if_pos h,if_neg hq]
   rw [eu]
   refine ⟨_,_,_,_,_,_,agendaTop r.ag fk.ag,?_⟩
   unfold topA waitsK
   rw [if_pos h.1.ag]
   by_cases h0:c.ag.heap.length=0
   ·rw [if_pos h0]
    refine ⟨fun _=>⟨?_,Hp.le_refl _⟩,fun hx=>by simp at hx⟩
    rw [h0]; rfl
   ·rw [if_neg h0]
    have o0:=(h.1.ag.each _ (hp_mem (by omega:0<c.ag.heap.length))).1
    have e2:cmpM (hp c.ag.heap 0).at_ t=(cmpR (hp c.ag.heap 0).at_ t,0):=by unfold cmpM; rw [if_pos ⟨o0,h.2⟩]
    refine ⟨fun hx=>by simp at hx,fun _=>⟨_,_,ratioCmp o0.fit ht,?_,Hp.le_refl _⟩⟩
    rw [e2,decide_eq_true (show 0<c.ag.heap.length by omega)]
    rfl
 ·rw [if_neg h]
  have eu:untilK c t=8:=by unfold untilK; rw [if_neg h]
  rw [eu]
  exact ⟨fun _=>⟨rfl,Hp.le_refl _⟩,fun hx=>by simp at hx⟩

theorem okK.topCert {c:Ck} (ok:okK c) (h0:0<c.ag.heap.length):0≤atC c.ct (hp c.ag.heap 0).no:=by
 obtain ⟨ps,e⟩:=ok.evs
 obtain ⟨h,hm,h1,_⟩:=e.cert (e.heap.mem_iff.1 (hp_mem h0))
 obtain ⟨i,hi⟩:=List.mem_iff_getElem?.1 hm
 rw [← h1,(getC_at ok.ct hi).1]
 omega
theorem waitsK_len {c:Ck} {t:Int × Int} (h:waitsK c t=true):0<c.ag.heap.length:=by
 unfold waitsK at h
 simp only [Bool.and_eq_true,decide_eq_true_eq] at h
 exact h.1

theorem clockMove {H:Hp} {u:Cu} {c:Ck} {t:Int × Int} (r:RdK H u c) (fk:fitK c) (ht:fitR t) :
  Go.Eng.Fn Tryz.prog F.clock_Move #[ckV u c,raW t] H fun v H'=>∃ w:Cu,v=.tuple #[ckV w (moveK c t).1,.int .i64 (moveK c t).2]∧Hp.le H H'∧RdK H' w (moveK c t).1:=by
 refine clock_Move_vc ⟨_,_,clockUntil r fk ht,fun hc=>⟨fun _=>?_,fun h=>by cases h⟩,fun hc=>⟨fun he=>?_,fun he=>?_⟩⟩
 ·simp only [Bool.and_eq_true,beq_iff_eq,decide_eq_true_eq] at hc
  have e:moveK c t=(.zero,36):=by unfold moveK; rw [if_pos hc.1,if_pos hc.2.2]
  rw [e]; exact ⟨zu,rfl,Hp.le_refl _,RdK.zero⟩
 ·have he:untilK c t≠0:=by simpa using he
  have e:moveK c t=(.zero,untilK c t):=by unfold moveK; rw [if_neg he]
  rw [e]; exact ⟨zu,rfl,Hp.le_refl _,RdK.zero⟩
 ·have he:untilK c t=0:=by simpa using he
  have hw:waitsK c t=false:=by rw [he] at hc; simpa using hc
  have e:moveK c t=({ c with now:=t },0):=by unfold moveK; rw [if_pos he,if_neg (by rw [hw]; simp)]
  rw [e]
  exact (clockTwin r fk).mono fun v H9 ⟨w,hv,l9,r9,_⟩=>⟨_,_,w.f,_,w.cl,w.u1,w.u2,w.u3,w.u4,w.u5,w.d,hv,w,rfl,l9,r9.f,r9.cl,r9.ag,r9.due⟩

end Go.Proofs.YtlbdpklikfddlaaGreat
end
