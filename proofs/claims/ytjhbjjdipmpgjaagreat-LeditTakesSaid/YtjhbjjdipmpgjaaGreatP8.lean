/- The engine, parts SO, CO, G9, AO, CKO, MO, HO, put together. Conditions: none. -/
import Derived.Test.YtjhbjjdipmpgjaaGreatP1
import Derived.Test.YtjhbjjdipmpgjaaGreatBri
import Derived.Test.YtjhbjjdipmpgjaaGreatP3
import Derived.Test.YtjhbjjdipmpgjaaGreatP6
import Derived.Test.YtjhbjjdipmpgjaaGreatPL1
import Derived.Test.YtjhbjjdipmpgjaaGreatPM2
set_option linter.unusedVariables false
section
/- Tables and handles that came in. Conditions: none. -/
set_option maxRecDepth 100000
open Go Go.Eng Go.Proofs
open Go.ChangeShapes Go.WideShapes Go.Deep Go.RowKit
namespace Go.Proofs.YtjhbjjdipmpgjaaGreat
theorem ft3:zv8 Tryz.prog 9 3=[3]:=by kernel_rfl
theorem ft4:zv8 Tryz.prog 9 4=[4]:=by kernel_rfl
section
variable {H:Type} {enc:TypeId × Value→H} {w:World} {base:Nat} {spare:Nat→Bool} {held:Bool} {r:Reach} {b0:Nat} {v c:Value} {d:DataW H} {p:List MemPlace}

theorem zv2 {cs:List Value} (h:z06 (Lf enc Tryz.prog w base spare held) (zv8 Tryz.prog 9 3) cs):∃ x,cs=fI x∧inI x:=by
 have a0:=h; rw [ft3] at a0
 obtain ⟨c1,cs1,rfl,h1,a1⟩:=a0.c
 obtain ⟨n,rfl,hn⟩:=h1.i64 Tryz.underlying3
 have e:=a1.n; subst e
 exact ⟨n,rfl,hn⟩
theorem zuy {cs:List Value} (h:z06 (Lf enc Tryz.prog w base spare held) (zv8 Tryz.prog 9 4) cs):∃ x,cs=fB x∧True:=by
 have a0:=h; rw [ft4] at a0
 obtain ⟨c1,cs1,rfl,h1,a1⟩:=a0.c
 obtain ⟨n,rfl⟩:=h1.bool Tryz.underlying4
 have e:=a1.n; subst e
 exact ⟨n,rfl,trivial⟩
theorem y4b (h:Lf enc Tryz.prog w base spare held 30 c):∃ (u:Slc) (xs:List Int),c=u.v∧RdI (HW w) u xs∧(∀ x∈xs,inI x)∧xs.length≤9223372036854775807 :=
 h.slice (k:=1) (f:=fI) Tryz.underlying30 (by kernel_rfl) (by kernel_rfl) fun _=>zv2
theorem y47 (h:Lf enc Tryz.prog w base spare held 31 c):∃ (u:Slc) (xs:List Bool),c=u.v∧RdB (HW w) u xs∧(∀ x∈xs,True)∧xs.length≤9223372036854775807 :=
 h.slice (k:=1) (f:=fB) Tryz.underlying31 (by kernel_rfl) (by kernel_rfl) fun _=>zuy

theorem yc1 (hv:Value.okWide Tryz.prog w r b0 3 v) (h:DataW.Trod enc Tryz.prog w base spare held 3 v d p):∃ n,v=.int .i64 n∧inI n:=by
 obtain ⟨n,rfl,_,_,hw⟩:=open_int Tryz.underlying3 hv h
 have hb:-9223372036854775808≤n∧n≤9223372036854775807:=bounds_i64 hw
 exact ⟨n,rfl,hb⟩

theorem yc2 (hv:Value.okWide Tryz.prog w r b0 30 v) (h:DataW.Trod enc Tryz.prog w base spare held 30 v d p):∃ (u:Slc) (xs:List Int),v=u.v∧RdI (HW w) u xs∧(∀ x∈xs,inI x)∧xs.length≤9223372036854775807:=by
 obtain ⟨a,n,c,rfl⟩:=okWide_slice Tryz.underlying30 hv
 obtain ⟨m,hm⟩:=h
 exact y4b ⟨m,(d,p),by simpa [Value.cells] using hm⟩

end
end Go.Proofs.YtjhbjjdipmpgjaaGreat
end
section
/- Certificates,fields,times and agendas that came in. Conditions: none. -/
set_option maxRecDepth 100000
open Go Go.Eng Go.Proofs
open Go.ChangeShapes Go.WideShapes Go.Deep Go.RowKit
namespace Go.Proofs.YtjhbjjdipmpgjaaGreat
theorem zvo:zv8 Tryz.prog 9 T.api_Held=[3,3,3]:=by kernel_rfl
theorem zvq:zv8 Tryz.prog 9 T.api_Point=[3,2,2]:=by kernel_rfl
theorem zvl:zv8 Tryz.prog 9 T.api_Event=[2,2,3,3,3]:=by kernel_rfl
section
variable {H:Type} {enc:TypeId × Value→H} {w:World} {base:Nat} {spare:Nat→Bool} {held:Bool} {r:Reach} {b0:Nat} {v c:Value} {d:DataW H} {p:List MemPlace}

theorem zuz {cs:List Value} (h:z06 (Lf enc Tryz.prog w base spare held) (zv8 Tryz.prog 9 T.api_Held) cs):∃ x:Int × Int × Int,cs=fD x∧(inI x.1∧inI x.2.1∧inI x.2.2):=by
 have a0:=h; rw [zvo] at a0
 obtain ⟨c1,cs1,rfl,h1,a1⟩:=a0.c
 obtain ⟨n,rfl,hn⟩:=h1.i64 Tryz.underlying3
 obtain ⟨c2,cs2,rfl,h2,a2⟩:=a1.c
 obtain ⟨m,rfl,hm⟩:=h2.i64 Tryz.underlying3
 obtain ⟨c3,cs3,rfl,h3,a3⟩:=a2.c
 obtain ⟨l,rfl,hl⟩:=h3.i64 Tryz.underlying3
 have e:=a3.n; subst e
 exact ⟨(n,m,l),rfl,hn,hm,hl⟩
theorem zv6 {cs:List Value} (h:z06 (Lf enc Tryz.prog w base spare held) (zv8 Tryz.prog 9 T.api_Point) cs):∃ x:Int × Int × Int,cs=fD x∧(inI x.1∧inI x.2.1∧inI x.2.2):=by
 have a0:=h; rw [zvq] at a0
 obtain ⟨c1,cs1,rfl,h1,a1⟩:=a0.c
 obtain ⟨n,rfl,hn⟩:=h1.i64 Tryz.underlying3
 obtain ⟨c2,cs2,rfl,h2,a2⟩:=a1.c
 obtain ⟨m,rfl,hm⟩:=h2.i64 Tryz.underlying2
 obtain ⟨c3,cs3,rfl,h3,a3⟩:=a2.c
 obtain ⟨l,rfl,hl⟩:=h3.i64 Tryz.underlying2
 have e:=a3.n; subst e
 exact ⟨(n,m,l),rfl,hn,hm,hl⟩
def zud (x:Ev):Prop:=zun x.at_∧inI x.no∧inI x.h.1∧inI x.h.2
theorem zv1 {cs:List Value} (h:z06 (Lf enc Tryz.prog w base spare held) (zv8 Tryz.prog 9 T.api_Event) cs):∃ x:Ev,cs=fE x∧zud x:=by
 have a0:=h; rw [zvl] at a0
 obtain ⟨c1,cs1,rfl,h1,a1⟩:=a0.c
 obtain ⟨n1,rfl,q1⟩:=h1.i64 Tryz.underlying2
 obtain ⟨c2,cs2,rfl,h2,a2⟩:=a1.c
 obtain ⟨n2,rfl,q2⟩:=h2.i64 Tryz.underlying2
 obtain ⟨c3,cs3,rfl,h3,a3⟩:=a2.c
 obtain ⟨n3,rfl,q3⟩:=h3.i64 Tryz.underlying3
 obtain ⟨c4,cs4,rfl,h4,a4⟩:=a3.c
 obtain ⟨n4,rfl,q4⟩:=h4.i64 Tryz.underlying3
 obtain ⟨c5,cs5,rfl,h5,a5⟩:=a4.c
 obtain ⟨n5,rfl,q5⟩:=h5.i64 Tryz.underlying3
 have e:=a5.n; subst e
 exact ⟨⟨(n1,n2),n3,(n4,n5)⟩,rfl,⟨q1,q2⟩,q3,q4,q5⟩

theorem y4a (h:Lf enc Tryz.prog w base spare held T.s_api_Held c):∃ (u:Slc) (xs:List (Int × Int × Int)),c=u.v∧Rd 3 fD (HW w) u xs∧(∀ x∈xs,inI x.1∧inI x.2.1∧inI x.2.2)∧xs.length≤9223372036854775807 :=
 h.slice (k:=3) (f:=fD) Tryz.underlying27 (by kernel_rfl) (by kernel_rfl) fun _=>zuz
theorem y4c (h:Lf enc Tryz.prog w base spare held T.s_api_Point c):∃ (u:Slc) (xs:List (Int × Int × Int)),c=u.v∧Rd 3 fD (HW w) u xs∧(∀ x∈xs,inI x.1∧inI x.2.1∧inI x.2.2)∧xs.length≤9223372036854775807 :=
 h.slice (k:=3) (f:=fD) Tryz.underlying24 (by kernel_rfl) (by kernel_rfl) fun _=>zv6
theorem y49 (h:Lf enc Tryz.prog w base spare held T.s_api_Event c):∃ (u:Slc) (xs:List Ev),c=u.v∧Rd 5 fE (HW w) u xs∧(∀ x∈xs,zud x)∧xs.length≤9223372036854775807 :=
 h.slice (k:=5) (f:=fE) Tryz.underlying34 (by kernel_rfl) (by kernel_rfl) fun _=>zv1

end
theorem _root_.Go.Eng.Rd.chg2 {α:Type} {k:Nat} {f:α→List Value} {H H':Hp} {u v v':Slc} {xs:List α} (h:Rd k f H u xs) (hc:z0h H H' v v') (h1:Sep u v) (h2:Sep u v'):Rd k f H' u xs:=by
 refine ⟨h.len,h.cap,h.isS,fun i x hx j w hw=>?_⟩
 have hi:u.a.isSome=true:=h.isS fun e=>by subst e; simp at hx
 cases ha:u.a with
 | none=>simp [ha] at hi
 | some p =>
  have hcl:=h.cell i x hx j w hw
  rw [ha] at hcl
  rw [Hp.at_eq (H:=H)]
  ·exact hcl
  ·refine hc _ (fun hn=>?_) (fun q hq e=>h1 p q ha hq (by rw [e]; exact (zpx rfl).symm)) fun q hq e=>h2 p q ha hq (by rw [e]; exact (zpx rfl).symm)
   unfold Hp.at at hcl; rw [hn] at hcl; cases hcl

end Go.Proofs.YtjhbjjdipmpgjaaGreat
end
section
/- Agendas that came in. Conditions: none. -/
set_option maxRecDepth 100000
open Go Go.Eng Go.Proofs
open Go.ChangeShapes Go.WideShapes Go.Deep Go.RowKit
namespace Go.Proofs.YtjhbjjdipmpgjaaGreat
section
variable {H:Type} {enc:TypeId × Value→H} {w:World} {base:Nat} {spare:Nat→Bool} {held:Bool} {r:Reach} {b0:Nat} {v c:Value} {d:DataW H} {p:List MemPlace}
end
end Go.Proofs.YtjhbjjdipmpgjaaGreat
end
section
/- Clocks that came in. Conditions: none. -/
set_option maxRecDepth 100000
open Go Go.Eng Go.Proofs
open Go.ChangeShapes Go.WideShapes Go.Deep Go.RowKit
namespace Go.Proofs.YtjhbjjdipmpgjaaGreat
theorem zvk:zv8 Tryz.prog 9 T.api_Due=[3,3,3]:=by kernel_rfl
section
variable {H:Type} {enc:TypeId × Value→H} {w:World} {base:Nat} {spare:Nat→Bool} {held:Bool} {r:Reach} {b0:Nat} {v c:Value} {d:DataW H} {p:List MemPlace}
theorem zv0 {cs:List Value} (h:z06 (Lf enc Tryz.prog w base spare held) (zv8 Tryz.prog 9 T.api_Due) cs):∃ x:Int × Int × Int,cs=fD x∧(inI x.1∧inI x.2.1∧inI x.2.2):=by
 have a0:=h; rw [zvk] at a0
 obtain ⟨c1,cs1,rfl,h1,a1⟩:=a0.c
 obtain ⟨n,rfl,hn⟩:=h1.i64 Tryz.underlying3
 obtain ⟨c2,cs2,rfl,h2,a2⟩:=a1.c
 obtain ⟨m,rfl,hm⟩:=h2.i64 Tryz.underlying3
 obtain ⟨c3,cs3,rfl,h3,a3⟩:=a2.c
 obtain ⟨l,rfl,hl⟩:=h3.i64 Tryz.underlying3
 have e:=a3.n; subst e
 exact ⟨(n,m,l),rfl,hn,hm,hl⟩
theorem y48 (h:Lf enc Tryz.prog w base spare held T.s_api_Due c):∃ (u:Slc) (xs:List (Int × Int × Int)),c=u.v∧Rd 3 fD (HW w) u xs∧(∀ x∈xs,inI x.1∧inI x.2.1∧inI x.2.2)∧xs.length≤9223372036854775807 :=
 h.slice (k:=3) (f:=fD) Tryz.underlying37 (by kernel_rfl) (by kernel_rfl) fun _=>zv0
end
end Go.Proofs.YtjhbjjdipmpgjaaGreat
end
section
/- Lists that came in. Conditions: none. -/
set_option maxRecDepth 100000
open Go Go.Eng Go.Proofs
open Go.ChangeShapes Go.WideShapes Go.Deep Go.RowKit
namespace Go.Proofs.YtjhbjjdipmpgjaaGreat
theorem zvp:zv8 Tryz.prog 9 T.api_List=[2,2,24,3,27,30,31,30,34,30,37,30,30]:=by kernel_rfl
section
variable {H:Type} {enc:TypeId × Value→H} {w:World} {base:Nat} {spare:Nat→Bool} {held:Bool} {r:Reach} {b0:Nat} {v c:Value} {d:DataW H} {p:List MemPlace}
theorem yc3 (hv:Value.okWide Tryz.prog w r b0 T.api_List v) (h:DataW.Trod enc Tryz.prog w base spare held T.api_List v d p):∃ (u:Lu) (l:Ls),v=lsV u l∧RdL (HW w) u l∧zun l.ck.now∧∀ x∈l.ck.ag.heap,zun x.at_:=by
 obtain ⟨cs,rfl,a0⟩:=yc9 Tryz.underlying41 (by kernel_rfl) hv h
 rw [zvp] at a0
 obtain ⟨c1,cs1,rfl,h1,a1⟩:=a0.c
 obtain ⟨n1,rfl,q1⟩:=h1.i64 Tryz.underlying2
 obtain ⟨c2,cs2,rfl,h2,a2⟩:=a1.c
 obtain ⟨n2,rfl,q2⟩:=h2.i64 Tryz.underlying2
 obtain ⟨c3,cs3,rfl,h3,a3⟩:=a2.c
 obtain ⟨uf,fs,rfl,rf,_,_⟩:=y4c h3
 obtain ⟨c4,cs4,rfl,h4,a4⟩:=a3.c
 obtain ⟨nx,rfl,_⟩:=h4.i64 Tryz.underlying3
 obtain ⟨c5,cs5,rfl,h5,a5⟩:=a4.c
 obtain ⟨ul,ls,rfl,rl,_,_⟩:=y4a h5
 obtain ⟨c6,cs6,rfl,h6,a6⟩:=a5.c
 obtain ⟨u1,xs,rfl,r1,_,_⟩:=y4b h6
 obtain ⟨c7,cs7,rfl,h7,a7⟩:=a6.c
 obtain ⟨u2,ys,rfl,r2,_,_⟩:=y47 h7
 obtain ⟨c8,cs8,rfl,h8,a8⟩:=a7.c
 obtain ⟨u3,zs,rfl,r3,_,_⟩:=y4b h8
 obtain ⟨c9,cs9,rfl,h9,a9⟩:=a8.c
 obtain ⟨u4,es,rfl,r4,g4,_⟩:=y49 h9
 obtain ⟨c10,cs10,rfl,h10,a10⟩:=a9.c
 obtain ⟨u5,ws,rfl,r5,_,_⟩:=y4b h10
 obtain ⟨c11,cs11,rfl,h11,a11⟩:=a10.c
 obtain ⟨ud,ds,rfl,rd,_,_⟩:=y48 h11
 obtain ⟨c12,cs12,rfl,h12,a12⟩:=a11.c
 obtain ⟨uo,os,rfl,ro,_,_⟩:=y4b h12
 obtain ⟨c13,cs13,rfl,h13,a13⟩:=a12.c
 obtain ⟨un,ns,rfl,rn,_,_⟩:=y4b h13
 have e:=a13.n; subst e
 exact ⟨⟨⟨uf,ul,u1,u2,u3,u4,u5,ud⟩,uo,un⟩,⟨⟨(n1,n2),fs,⟨nx,ls⟩,⟨⟨xs,ys,zs⟩,es,ws⟩,ds⟩,os,ns⟩,rfl,⟨⟨rf,rl,⟨⟨r1,r2,r3⟩,r4,r5⟩,rd⟩,ro,rn⟩,⟨q1,q2⟩,fun x hx=>(g4 x hx).1⟩
end
end Go.Proofs.YtjhbjjdipmpgjaaGreat
end
section
/- Points that came in. Conditions: none. -/
set_option maxRecDepth 100000
open Go Go.Eng Go.Proofs
open Go.ChangeShapes Go.WideShapes Go.Deep Go.RowKit
namespace Go.Proofs.YtjhbjjdipmpgjaaGreat
section
variable {H:Type} {enc:TypeId × Value→H} {w:World} {base:Nat} {spare:Nat→Bool} {held:Bool} {r:Reach} {b0:Nat} {v c:Value} {d:DataW H} {p:List MemPlace}
theorem yc5 (hv:Value.okWide Tryz.prog w r b0 T.api_Point v) (h:DataW.Trod enc Tryz.prog w base spare held T.api_Point v d p):∃ x:Pt,v=.agg #[.int .i64 x.1,.int .i64 x.2.1,.int .i64 x.2.2]∧(inI x.1∧inI x.2.1∧inI x.2.2):=by
 obtain ⟨cs,rfl,a0⟩:=yc9 Tryz.underlying43 (by kernel_rfl) hv h
 obtain ⟨x,rfl,hx⟩:=zv6 a0
 exact ⟨x,rfl,hx⟩
theorem yc6 (hv:Value.okWide Tryz.prog w r b0 24 v) (h:DataW.Trod enc Tryz.prog w base spare held 24 v d p):∃ (u:Slc) (xs:List Pt),v=u.v∧Rd 3 fD (HW w) u xs∧(∀ x∈xs,inI x.1∧inI x.2.1∧inI x.2.2)∧xs.length≤9223372036854775807:=by
 obtain ⟨a,n,c,rfl⟩:=okWide_slice Tryz.underlying24 hv
 obtain ⟨m,hm⟩:=h
 exact y4c ⟨m,(d,p),by simpa [Value.cells] using hm⟩
end
end Go.Proofs.YtjhbjjdipmpgjaaGreat
end
