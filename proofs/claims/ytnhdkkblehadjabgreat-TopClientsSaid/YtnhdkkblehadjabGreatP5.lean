/- The engine, parts C5, C6, C7, C8, put together. Conditions: none. -/
import Derived.Test.YtnhdkkblehadjabGreatP3
import Derived.Test.YtnhdkkblehadjabGreatP4
set_option linter.unusedVariables false
section
/- The law CertKeeps. Conditions: none. -/
set_option maxRecDepth 100000
open Go Go.Eng Go.Proofs
namespace Go.Proofs.YtnhdkkblehadjabGreat

def y66(c:Ct)(f:List Pt):Bool:=c.list.all λh=>!(decide (ynk f h.2.1<0))&&!(decide (ynk f h.2.2<0))
theorem ynp{f:List Pt}{id:Int}(h:0<=ynk f id):ynk f id<f.length/\f[(ynk f id).toNat]?=some (gP f (ynk f id))/\(gP f (ynk f id)).1=id:=by
 unfold ynk at *
 unfold idx at *
 split at h
 ·rename_i ha
  rw[if_pos ha]
  have hl:f.findIdx (λp=>p.1==id)<f.length:=by rw[List.findIdx_lt_length];simpa using ha
  refine⟨by omega,y0r (by omega) (by omega),?_⟩
  have:=List.findIdx_getElem (xs:=f) (p:=λp:Pt=>p.1==id) (w:=hl)
  unfold gP
  rw[Int.toNat_natCast,List.getD_eq_getElem?_getD,List.getElem?_eq_getElem hl]
  simpa using this
 ·omega

theorem y68{c:Ct}{f:List Pt}(h:y66 c f=true){x:Int×Int×Int}(hx:x∈c.list):0<=ynk f x.2.1/\0<=ynk f x.2.2:=by
 have:=List.all_eq_true.1 h x hx
 simp at this;exact this


theorem yrn{H H':Hp}{b:Nat}{xs:List Int}{cs:Array Value}{n:Nat}{e:TypeId}(h:H'=H.put b (.cells cs e (0,0)))(hc:cs=(xs.flatMap fI).toArray)(hn:n=xs.length):RdI H' ⟨some ⟨b,0,none⟩,n,n⟩ xs :=
 yrl (k:=1) (f:=fI) (λ_=>rfl) h hc hn
theorem zzy{c:Ct}(ok:okC c){i:Nat}{x:Int×Int×Int}(hx:c.list[i]?=some x):atC c x.1=i/\zzx c x.1=(x.2,0):=by
 have hlt:i<c.list.length:=(List.getElem?_eq_some_iff.1 hx).1
 have e:atC c x.1=i:=by
  refine y3k hx (by simp) λy hy=>?_
  obtain⟨j,hj,ey⟩:=List.mem_take_iff_getElem.1 hy
  have hij:j<i:=by omega
  have:=List.pairwise_iff_getElem.1 ok.ok.inc j i (by omega) hlt hij
  rw[(List.getElem?_eq_some_iff.1 hx).2,ey] at this
  rw[beq_eq_false_iff_ne];omega
 refine⟨e,?_⟩
 unfold zzx
 rw[if_pos ok,if_neg (by omega),e]
 have:y01 c.list (i:Int)=x:=by unfold y01;rw[Int.toNat_natCast,List.getD_eq_getElem?_getD,hx];try rfl
 rw[this]


theorem okL.up{nx:Int}{l:List (Int×Int×Int)}(h:okL nx l):okL (nx+1) l:=⟨λx hx=>by have:=h.each x hx;exact⟨this.1,this.2.1,by omega⟩,h.inc,h.dist⟩

theorem ygv{c:Ct}{x:Int×Int}(ok:okC c)(hx:x78 x=true)(hh:y1x c x=false)(h1:c.list.length<200)(h2:c.next<1000000):okC ⟨c.next+1,c.list++[(c.next,x)]⟩:=by
 have:=ok.n0
 refine⟨by simp;omega,by show 0<=c.next+1;omega,by show c.next+1<=1000000;omega,okL.snoc.2 ⟨okL.up ok.ok,hx,this,by show c.next<c.next+1;omega,λy hy=>(ok.ok.each y hy).2.2,λhm=>?_⟩⟩
 obtain⟨y,hy,e⟩:=List.mem_map.1 hm
 have:y1x c x=true:=List.any_eq_true.2 ⟨y,hy,by rw[beq_iff_eq];exact e⟩
 rw[hh] at this;cases this

theorem ygw{c:Ct}(ok:okC c)(n:Int):okC (x8h c n):=by
 have hs:(x8h c n).list.Sublist c.list:=List.filter_sublist
 have:=hs.length_le
 have:=ok.len
 exact⟨by omega,ok.n0,ok.n1,λx hx=>ok.ok.each x (hs.subset hx),ok.ok.inc.sublist hs,ok.ok.dist.sublist (hs.map _)⟩

theorem x8j{c:Ct}{n:Int}(h:(zzx c n).2=0):((x8h c n).list.length:Int)=c.list.length-1:=by
 obtain⟨ok,g0,g1,gn,ge⟩:=y00 h
 have hg:=y0r (d:=((0:Int),(0:Int),(0:Int))) g0 g1
 have hw:=zw6 ok.ok.inc hg
 have e:(x8h c n).list=c.list.take (atC c n).toNat++c.list.drop ((atC c n).toNat+1):=by
  rw[hw]
  unfold x8h
  simp only
  congr 1
  funext y
  have:(c.list.getD (atC c n).toNat (0,0,0)).1=n:=gn
  rw[this]
 rw[e];simp;omega

theorem z3i{c:Ct}{x:Int×Int}(h:(z3f c x).2.2=0):okC c/\x78 x=true/\y1x c x=false/\c.list.length<200/\c.next<1000000/\z3f c x=(⟨c.next+1,c.list++[(c.next,x)]⟩,c.next,0):=by
 unfold z3f at *
 split at h
 ·rename_i h1
  rw[if_pos h1]
  split at h
  ·cases h
  ·rename_i h2
   rw[if_neg h2]
   split at h
   ·cases h
   ·rename_i h3
    rw[if_neg h3]
    have:=h1.1.len;have:=h1.1.n1
    exact⟨h1.1,h1.2,by simpa using h2,by omega,by omega,rfl⟩
 ·cases h

theorem zva(p q:Pt)(t:Int×Int):zv8 q p t = - zv8 p q t:=by
 unfold zv8
 have e1:(q.2.1-p.2.1)*t.2 = -((p.2.1-q.2.1)*t.2):=by rw[← Int.neg_mul];congr 1;omega
 have e2:(q.2.2-p.2.2)*t.1 = -((p.2.2-q.2.2)*t.1):=by rw[← Int.neg_mul];congr 1;omega
 rw[e1,e2];omega
theorem y7a{p q:Pt}(t:Int×Int)(h:p.1≠q.1):leads q p t = !leads p q t:=by
 unfold leads
 rw[zva p q t]
 by_cases h1:zv8 p q t=0
 ·rw[if_neg (show ¬ (-zv8 p q t≠0) by omega),if_neg (show ¬ (zv8 p q t≠0) by omega)]
  by_cases h2:p.2.2=q.2.2
  ·rw[if_neg (show ¬ (q.2.2≠p.2.2) by omega),if_neg (show ¬ (p.2.2≠q.2.2) by omega),Bool.eq_iff_iff,Bool.not_eq_true',decide_eq_true_eq,decide_eq_false_iff_not];omega
  ·rw[if_pos (show q.2.2≠p.2.2 by omega),if_pos (show p.2.2≠q.2.2 by omega),Bool.eq_iff_iff,Bool.not_eq_true',decide_eq_true_eq,decide_eq_false_iff_not];omega
 ·rw[if_pos (show -zv8 p q t≠0 by omega),if_pos h1,Bool.eq_iff_iff,Bool.not_eq_true',decide_eq_true_eq,decide_eq_false_iff_not];omega

end Go.Proofs.YtnhdkkblehadjabGreat
end
