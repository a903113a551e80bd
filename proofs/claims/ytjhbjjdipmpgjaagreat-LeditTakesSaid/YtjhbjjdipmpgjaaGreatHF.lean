/- The laws LeditPuts, LeditTakes. Conditions: none. -/
import Derived.Test.YtjhbjjdipmpgjaaGreatPH3
import Derived.Test.YtjhbjjdipmpgjaaGreatVgLLeditPuts
import Derived.Test.YtjhbjjdipmpgjaaGreatVgLLeditTakes
import Derived.Test.YtjhbjjdipmpgjaaGreatFs
set_option linter.unusedVariables false
set_option maxRecDepth 100000
open Go Go.Eng Go.Proofs
namespace Go.Proofs.YtjhbjjdipmpgjaaGreat

theorem z1w.fitS {r:Ls × Int} (s:z1w r):zui r.1:=by
 by_cases h:r.2=0
 ·exact s.fit h
 ·rw [s.2 h]; exact zut
theorem ywq (l:Ls) (id:Int):z1w (ywm l id):=⟨fun h=>(ywo h).2.2.2.ok,ywr⟩
theorem zit (l:Ls) (p:Pt):z1w (zis l p):=by
 unfold zis
 split
 ·rename_i hc
  split
  ·rename_i h
   exact ⟨fun hz=>(yk1 (ywo h).2.2.2.ok hz).2.ok,yjz⟩
  ·exact ⟨fun h=>absurd h (by assumption),fun _=>rfl⟩
 ·exact ⟨fun h=>(by cases h),fun _=>rfl⟩
theorem z5h (l:Ls) (ps:List Pt) (ids:List Int):z1w (z5e l ps ids):=by
 unfold z5e
 split
 ·rename_i ok
  exact z1w.takes ids (z1w.puts ps ⟨fun _=>ok,fun h=>absurd rfl h⟩)
 ·exact ⟨fun h=>(by cases h),fun _=>rfl⟩

set_option maxHeartbeats 1000000 in
theorem y3f {H:Hp} {u:Lu} {l:Ls} {p:Pt} {id:Int} {pv iv:Slc} {ps:List Pt} {ids:List Int} (r:RdL H u l) (hn:zun l.ck.now) (hh:∀ y∈l.ck.ag.heap,zun y.at_) (rp:Rd 3 fD H pv ps) (ri:RdI H iv ids) :
  Qf Tryz.prog F.f8 #[lsV u l,.int .i64 id,.agg #[.int .i64 p.1,.int .i64 p.2.1,.int .i64 p.2.2],pv.v,iv.v] H (.bool true):=by
 have lp:=rp.len; have li:=ri.len
 refine vc8 ⟨_,yna r,fun _=>⟨rfl,Hp.le_refl _⟩,fun hg=>?_⟩
 simp only [Bool.or_eq_false_iff,decide_eq_false_iff_not] at hg
 obtain ⟨⟨hg,h1⟩,h2⟩:=hg
 have fl:=zuk hn hg hh
 refine (ynd r fl).mono fun v H3 ⟨z,hv,l3,rz⟩=>⟨_,_,z.k.f,_,z.k.cl,z.k.u1,z.k.u2,z.k.u3,z.k.u4,z.k.u5,z.k.d,z.o,z.n,hv,?_⟩
 refine (y3e (id:=id) (r.le l3) fl).mono fun v H18 ⟨a,hv,l18,ra⟩=>⟨_,_,a.k.f,_,a.k.cl,a.k.u1,a.k.u2,a.k.u3,a.k.u4,a.k.u5,a.k.d,a.o,a.n,_,hv,?_⟩
 refine (ym9 (id:=id) (rz.le l18) fl).mono fun v H34 ⟨l34,b,hv,rb⟩=>⟨_,_,b.k.f,_,b.k.cl,b.k.u1,b.k.u2,b.k.u3,b.k.u4,b.k.u5,b.k.d,b.o,b.n,_,hv,?_⟩
 have l334:=Hp.le_trans l18 l34
 refine (y35 (p:=p) (r.le (Hp.le_trans l3 l334)) fl).mono fun v H50 ⟨c,hv,l50,rc⟩=>⟨_,_,c.k.f,_,c.k.cl,c.k.u1,c.k.u2,c.k.u3,c.k.u4,c.k.u5,c.k.d,c.o,c.n,_,hv,?_⟩
 refine (ym4 (p:=p) (rz.le (Hp.le_trans l334 l50)) fl).mono fun v H66 ⟨d,hv,l66,rd⟩=>⟨_,_,d.k.f,_,d.k.cl,d.k.u1,d.k.u2,d.k.u3,d.k.u4,d.k.u5,d.k.d,d.o,d.n,_,hv,?_⟩
 have l366:=Hp.le_trans l334 (Hp.le_trans l50 l66)
 have l066:=Hp.le_trans l3 l366
 refine (y33 (r.le l066) fl hn (rp.le l066) (ri.le l066) (by omega) (by omega)).mono fun v H82 ⟨e,hv,l82,re⟩=>⟨_,_,e.k.f,_,e.k.cl,e.k.u1,e.k.u2,e.k.u3,e.k.u4,e.k.u5,e.k.d,e.o,e.n,_,hv,?_⟩
 refine (ym2 (rz.le (Hp.le_trans l366 l82)) fl (rp.le (Hp.le_trans l066 l82)) (ri.le (Hp.le_trans l066 l82)) (by omega) (by omega)).mono fun v H98 ⟨f,hv,l98,rf⟩=>⟨_,_,f.k.f,_,f.k.cl,f.k.u1,f.k.u2,f.k.u3,f.k.u4,f.k.u5,f.k.d,f.o,f.n,_,hv,?_⟩
 have l6698:=Hp.le_trans l82 l98
 have l5098:=Hp.le_trans l66 l6698
 have l3498:=Hp.le_trans l50 l5098
 have l398:=Hp.le_trans l366 l6698
 exact ⟨true,ync (ra.le (Hp.le_trans l34 l3498)) (rb.le l3498) (ywq l id).fitS,true,fun _=>ync (rc.le l5098) (rd.le l6698) (zit l p).fitS,true,fun _=>ync (re.le l98) rf (z5h l ps ids).fitS,
  true,fun _=>ync (r.le (Hp.le_trans l3 l398)) (rz.le l398) fl,by simp,Hp.le_trans l3 l398⟩
end Go.Proofs.YtjhbjjdipmpgjaaGreat
