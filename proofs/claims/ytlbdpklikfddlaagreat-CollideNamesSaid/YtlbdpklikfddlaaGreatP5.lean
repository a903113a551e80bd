/- The engine, parts C5, C6, C7, C8, put together. Conditions: none. -/
import Derived.Test.YtlbdpklikfddlaaGreatP3
import Derived.Test.YtlbdpklikfddlaaGreatP4
import Derived.Test.YtlbdpklikfddlaaGreatVgCert
import Derived.Test.YtlbdpklikfddlaaGreatFs
set_option linter.unusedVariables false
section
/- The law CertKeeps. Conditions: none. -/
set_option maxRecDepth 100000
open Go Go.Eng Go.Proofs
namespace Go.Proofs.YtlbdpklikfddlaaGreat

def knownC (c:Ct) (f:List Pt):Bool:=c.list.all fun h=>!(decide (posF f h.2.1<0))&&!(decide (posF f h.2.2<0))
theorem posF_range {f:List Pt} {id:Int} (h:0≤posF f id):posF f id<f.length∧f[(posF f id).toNat]?=some (gP f (posF f id))∧(gP f (posF f id)).1=id:=by
 unfold posF at *
 unfold idx at *
 split at h
 ·rename_i ha
  rw [if_pos ha]
  have hl:f.findIdx (fun p=>p.1==id)<f.length:=by rw [List.findIdx_lt_length]; simpa using ha
  refine ⟨by omega,getX (by omega) (by omega),?_⟩
  have:=List.findIdx_getElem (xs:=f) (p:=fun p:Pt=>p.1==id) (w:=hl)
  unfold gP
  rw [Int.toNat_natCast,List.getD_eq_getElem?_getD,List.getElem?_eq_getElem hl]
  simpa using this
 ·omega

theorem knownC_at {c:Ct} {f:List Pt} (h:knownC c f=true) {x:Int × Int × Int} (hx:x∈c.list):0≤posF f x.2.1∧0≤posF f x.2.2:=by
 have:=List.all_eq_true.1 h x hx
 simp at this; exact this


theorem rdInts {H H':Hp} {b:Nat} {xs:List Int} {cs:Array Value} {n:Nat} {e:TypeId} (h:H'=H.put b (.cells cs e (0,0))) (hc:cs=(xs.flatMap fI).toArray) (hn:n=xs.length):RdI H' ⟨some ⟨b,0,none⟩,n,n⟩ xs :=
 rdConst (k:=1) (f:=fI) (fun _=>rfl) h hc hn
theorem getC_at {c:Ct} (ok:okC c) {i:Nat} {x:Int × Int × Int} (hx:c.list[i]?=some x):atC c x.1=i∧getC c x.1=(x.2,0):=by
 have hlt:i<c.list.length:=(List.getElem?_eq_some_iff.1 hx).1
 have e:atC c x.1=i:=by
  refine idx_hit hx (by simp) fun y hy=>?_
  obtain ⟨j,hj,ey⟩:=List.mem_take_iff_getElem.1 hy
  have hij:j<i:=by omega
  have:=List.pairwise_iff_getElem.1 ok.ok.inc j i (by omega) hlt hij
  rw [(List.getElem?_eq_some_iff.1 hx).2,ey] at this
  rw [beq_eq_false_iff_ne]; omega
 refine ⟨e,?_⟩
 unfold getC
 rw [if_pos ok,if_neg (by omega),e]
 have:getD3 c.list (i:Int)=x:=by unfold getD3; rw [Int.toNat_natCast,List.getD_eq_getElem?_getD,hx]; try rfl
 rw [this]


theorem okL.up {nx:Int} {l:List (Int × Int × Int)} (h:okL nx l):okL (nx+1) l:=⟨fun x hx=>by have:=h.each x hx; exact ⟨this.1,this.2.1,by omega⟩,h.inc,h.dist⟩

theorem okC_add {c:Ct} {x:Int × Int} (ok:okC c) (hx:validC x=true) (hh:hasC c x=false) (h1:c.list.length<200) (h2:c.next<1000000):okC ⟨c.next+1,c.list++[(c.next,x)]⟩:=by
 have:=ok.n0
 refine ⟨by simp; omega,by show 0≤c.next+1; omega,by show c.next+1≤1000000; omega,okL.snoc.2 ⟨okL.up ok.ok,hx,this,by show c.next<c.next+1; omega,fun y hy=>(ok.ok.each y hy).2.2,fun hm=>?_⟩⟩
 obtain ⟨y,hy,e⟩:=List.mem_map.1 hm
 have:hasC c x=true:=List.any_eq_true.2 ⟨y,hy,by rw [beq_iff_eq]; exact e⟩
 rw [hh] at this; cases this

theorem okC_without {c:Ct} (ok:okC c) (n:Int):okC (withoutC c n):=by
 have hs:(withoutC c n).list.Sublist c.list:=List.filter_sublist
 have:=hs.length_le
 have:=ok.len
 exact ⟨by omega,ok.n0,ok.n1,fun x hx=>ok.ok.each x (hs.subset hx),ok.ok.inc.sublist hs,ok.ok.dist.sublist (hs.map _)⟩

theorem without_len {c:Ct} {n:Int} (h:(getC c n).2=0):((withoutC c n).list.length:Int)=c.list.length-1:=by
 obtain ⟨ok,g0,g1,gn,ge⟩:=getC_ok h
 have hg:=getX (d:=((0:Int),(0:Int),(0:Int))) g0 g1
 have hw:=filter_erase ok.ok.inc hg
 have e:(withoutC c n).list=c.list.take (atC c n).toNat++c.list.drop ((atC c n).toNat+1):=by
  rw [hw]
  unfold withoutC
  simp only
  congr 1
  funext y
  have:(c.list.getD (atC c n).toNat (0,0,0)).1=n:=gn
  rw [this]
 rw [e]; simp; omega

theorem addC_facts {c:Ct} {x:Int × Int} (h:(addC c x).2.2=0):okC c∧validC x=true∧hasC c x=false∧c.list.length<200∧c.next<1000000∧addC c x=(⟨c.next+1,c.list++[(c.next,x)]⟩,c.next,0):=by
 unfold addC at *
 split at h
 ·rename_i h1
  rw [if_pos h1]
  split at h
  ·cases h
  ·rename_i h2
   rw [if_neg h2]
   split at h
   ·cases h
   ·rename_i h3
    rw [if_neg h3]
    have:=h1.1.len; have:=h1.1.n1
    exact ⟨h1.1,h1.2,by simpa using h2,by omega,by omega,rfl⟩
 ·cases h

theorem farV_swap (p q:Pt) (t:Int × Int):farV q p t = - farV p q t:=by
 unfold farV
 have e1:(q.2.1-p.2.1) * t.2 = -((p.2.1-q.2.1) * t.2):=by rw [← Int.neg_mul]; congr 1; omega
 have e2:(q.2.2-p.2.2) * t.1 = -((p.2.2-q.2.2) * t.1):=by rw [← Int.neg_mul]; congr 1; omega
 rw [e1,e2]; omega
theorem leads_swap {p q:Pt} (t:Int × Int) (h:p.1≠q.1):leads q p t = !leads p q t:=by
 unfold leads
 rw [farV_swap p q t]
 by_cases h1:farV p q t=0
 ·rw [if_neg (show ¬ (-farV p q t≠0) by omega),if_neg (show ¬ (farV p q t≠0) by omega)]
  by_cases h2:p.2.2=q.2.2
  ·rw [if_neg (show ¬ (q.2.2≠p.2.2) by omega),if_neg (show ¬ (p.2.2≠q.2.2) by omega),Bool.eq_iff_iff,Bool.not_eq_true',decide_eq_true_eq,decide_eq_false_iff_not]; omega
  ·rw [if_pos (show q.2.2≠p.2.2 by omega),if_pos (show p.2.2≠q.2.2 by omega),Bool.eq_iff_iff,Bool.not_eq_true',decide_eq_true_eq,decide_eq_false_iff_not]; omega
 ·rw [if_pos (show -farV p q t≠0 by omega),if_pos h1,Bool.eq_iff_iff,Bool.not_eq_true',decide_eq_true_eq,decide_eq_false_iff_not]; omega

end Go.Proofs.YtlbdpklikfddlaaGreat
end
