/- The engine, parts SO, CO, G9, AO, CKO, MO, put together. Conditions: none. -/
import Derived.Test.YtlbdpklikfddlaaGreatP1
import Derived.Test.YtlbdpklikfddlaaGreatBri
import Derived.Test.YtlbdpklikfddlaaGreatP3
import Derived.Test.YtlbdpklikfddlaaGreatP6
import Derived.Test.YtlbdpklikfddlaaGreatPL1
import Derived.Test.YtlbdpklikfddlaaGreatPM2
set_option linter.unusedVariables false
section
/- Tables and handles that came in. Conditions: none. -/
set_option maxRecDepth 100000
open Go Go.Eng Go.Proofs
open Go.ChangeShapes Go.WideShapes Go.Deep Go.RowKit
namespace Go.Proofs.YtlbdpklikfddlaaGreat
theorem ft3:flatT Tryz.prog 9 3=[3]:=by kernel_rfl
theorem ft4:flatT Tryz.prog 9 4=[4]:=by kernel_rfl
section
variable {H:Type} {enc:TypeId × Value→H} {w:World} {base:Nat} {spare:Nat→Bool} {held:Bool} {r:Reach} {b0:Nat} {v c:Value} {d:DataW H} {p:List MemPlace}

theorem flatI {cs:List Value} (h:All2 (Lf enc Tryz.prog w base spare held) (flatT Tryz.prog 9 3) cs):∃ x,cs=fI x∧inI x:=by
 have a0:=h; rw [ft3] at a0
 obtain ⟨c1,cs1,rfl,h1,a1⟩:=a0.c
 obtain ⟨n,rfl,hn⟩:=h1.i64 Tryz.underlying3
 have e:=a1.n; subst e
 exact ⟨n,rfl,hn⟩
theorem flatB {cs:List Value} (h:All2 (Lf enc Tryz.prog w base spare held) (flatT Tryz.prog 9 4) cs):∃ x,cs=fB x∧True:=by
 have a0:=h; rw [ft4] at a0
 obtain ⟨c1,cs1,rfl,h1,a1⟩:=a0.c
 obtain ⟨n,rfl⟩:=h1.bool Tryz.underlying4
 have e:=a1.n; subst e
 exact ⟨n,rfl,trivial⟩
theorem lfInts (h:Lf enc Tryz.prog w base spare held 35 c):∃ (u:Slc) (xs:List Int),c=u.v∧RdI (HW w) u xs∧(∀ x∈xs,inI x)∧xs.length≤9223372036854775807 :=
 h.slice (k:=1) (f:=fI) Tryz.underlying35 (by kernel_rfl) (by kernel_rfl) fun _=>flatI
theorem lfBools (h:Lf enc Tryz.prog w base spare held 36 c):∃ (u:Slc) (xs:List Bool),c=u.v∧RdB (HW w) u xs∧(∀ x∈xs,True)∧xs.length≤9223372036854775807 :=
 h.slice (k:=1) (f:=fB) Tryz.underlying36 (by kernel_rfl) (by kernel_rfl) fun _=>flatB

end
end Go.Proofs.YtlbdpklikfddlaaGreat
end
section
/- Certificates,fields,times and agendas that came in. Conditions: none. -/
set_option maxRecDepth 100000
open Go Go.Eng Go.Proofs
open Go.ChangeShapes Go.WideShapes Go.Deep Go.RowKit
namespace Go.Proofs.YtlbdpklikfddlaaGreat
theorem ftHeld:flatT Tryz.prog 9 T.api_Held=[3,3,3]:=by kernel_rfl
theorem ftRatio:flatT Tryz.prog 9 T.api_Ratio=[2,2]:=by kernel_rfl
theorem ftPoint:flatT Tryz.prog 9 T.api_Point=[3,2,2]:=by kernel_rfl
theorem ftEvent:flatT Tryz.prog 9 T.api_Event=[2,2,3,3,3]:=by kernel_rfl
section
variable {H:Type} {enc:TypeId × Value→H} {w:World} {base:Nat} {spare:Nat→Bool} {held:Bool} {r:Reach} {b0:Nat} {v c:Value} {d:DataW H} {p:List MemPlace}

theorem flatD {cs:List Value} (h:All2 (Lf enc Tryz.prog w base spare held) (flatT Tryz.prog 9 T.api_Held) cs):∃ x:Int × Int × Int,cs=fD x∧(inI x.1∧inI x.2.1∧inI x.2.2):=by
 have a0:=h; rw [ftHeld] at a0
 obtain ⟨c1,cs1,rfl,h1,a1⟩:=a0.c
 obtain ⟨n,rfl,hn⟩:=h1.i64 Tryz.underlying3
 obtain ⟨c2,cs2,rfl,h2,a2⟩:=a1.c
 obtain ⟨m,rfl,hm⟩:=h2.i64 Tryz.underlying3
 obtain ⟨c3,cs3,rfl,h3,a3⟩:=a2.c
 obtain ⟨l,rfl,hl⟩:=h3.i64 Tryz.underlying3
 have e:=a3.n; subst e
 exact ⟨(n,m,l),rfl,hn,hm,hl⟩
theorem flatP {cs:List Value} (h:All2 (Lf enc Tryz.prog w base spare held) (flatT Tryz.prog 9 T.api_Point) cs):∃ x:Int × Int × Int,cs=fD x∧(inI x.1∧inI x.2.1∧inI x.2.2):=by
 have a0:=h; rw [ftPoint] at a0
 obtain ⟨c1,cs1,rfl,h1,a1⟩:=a0.c
 obtain ⟨n,rfl,hn⟩:=h1.i64 Tryz.underlying3
 obtain ⟨c2,cs2,rfl,h2,a2⟩:=a1.c
 obtain ⟨m,rfl,hm⟩:=h2.i64 Tryz.underlying2
 obtain ⟨c3,cs3,rfl,h3,a3⟩:=a2.c
 obtain ⟨l,rfl,hl⟩:=h3.i64 Tryz.underlying2
 have e:=a3.n; subst e
 exact ⟨(n,m,l),rfl,hn,hm,hl⟩
def fitE (x:Ev):Prop:=fitR x.at_∧inI x.no∧inI x.h.1∧inI x.h.2
theorem flatE {cs:List Value} (h:All2 (Lf enc Tryz.prog w base spare held) (flatT Tryz.prog 9 T.api_Event) cs):∃ x:Ev,cs=fE x∧fitE x:=by
 have a0:=h; rw [ftEvent] at a0
 obtain ⟨c1,cs1,rfl,h1,a1⟩:=a0.c
 obtain ⟨n1,rfl,q1⟩:=h1.i64 Tryz.underlying2
 obtain ⟨c2,cs2,rfl,h2,a2⟩:=a1.c
 obtain ⟨n2,rfl,q2⟩:=h2.i64 Tryz.underlying2
 obtain ⟨c3,cs3,rfl,h3,a3⟩:=a2.c
 obtain ⟨n3,rfl,q3⟩:=h3.i64 Tryz.underlying3
 obtain ⟨c4,cs4,rfl,h4,a4⟩:=a3.c
 obtain ⟨n4,rfl,q4⟩:=h4.i64 Tryz.underlying3
 obtain ⟨c5,cs5,rfl,h5,a5⟩:=a4.c
 obtain ⟨n5,rfl,q5⟩:=h5.i64 Tryz.underlying3
 have e:=a5.n; subst e
 exact ⟨⟨(n1,n2),n3,(n4,n5)⟩,rfl,⟨q1,q2⟩,q3,q4,q5⟩

theorem lfHelds (h:Lf enc Tryz.prog w base spare held T.s_api_Held c):∃ (u:Slc) (xs:List (Int × Int × Int)),c=u.v∧Rd 3 fD (HW w) u xs∧(∀ x∈xs,inI x.1∧inI x.2.1∧inI x.2.2)∧xs.length≤9223372036854775807 :=
 h.slice (k:=3) (f:=fD) Tryz.underlying32 (by kernel_rfl) (by kernel_rfl) fun _=>flatD
theorem lfPoints (h:Lf enc Tryz.prog w base spare held T.s_api_Point c):∃ (u:Slc) (xs:List (Int × Int × Int)),c=u.v∧Rd 3 fD (HW w) u xs∧(∀ x∈xs,inI x.1∧inI x.2.1∧inI x.2.2)∧xs.length≤9223372036854775807 :=
 h.slice (k:=3) (f:=fD) Tryz.underlying22 (by kernel_rfl) (by kernel_rfl) fun _=>flatP
theorem lfEvents (h:Lf enc Tryz.prog w base spare held T.s_api_Event c):∃ (u:Slc) (xs:List Ev),c=u.v∧Rd 5 fE (HW w) u xs∧(∀ x∈xs,fitE x)∧xs.length≤9223372036854775807 :=
 h.slice (k:=5) (f:=fE) Tryz.underlying39 (by kernel_rfl) (by kernel_rfl) fun _=>flatE

theorem openRatio (hv:Value.okWide Tryz.prog w r b0 T.api_Ratio v) (h:DataW.Trod enc Tryz.prog w base spare held T.api_Ratio v d p):∃ x:Int × Int,v=.agg #[.int .i64 x.1,.int .i64 x.2]∧fitR x:=by
 obtain ⟨cs,rfl,a0⟩:=open_flat Tryz.underlying26 (by kernel_rfl) hv h
 rw [ftRatio] at a0
 obtain ⟨c1,cs1,rfl,h1,a1⟩:=a0.c
 obtain ⟨n,rfl,hn⟩:=h1.i64 Tryz.underlying2
 obtain ⟨c2,cs2,rfl,h2,a2⟩:=a1.c
 obtain ⟨m,rfl,hm⟩:=h2.i64 Tryz.underlying2
 have e:=a2.n; subst e
 exact ⟨(n,m),rfl,hn,hm⟩
end
theorem _root_.Go.Eng.Rd.chg2 {α:Type} {k:Nat} {f:α→List Value} {H H':Hp} {u v v':Slc} {xs:List α} (h:Rd k f H u xs) (hc:Chg2 H H' v v') (h1:Sep u v) (h2:Sep u v'):Rd k f H' u xs:=by
 refine ⟨h.len,h.cap,h.isS,fun i x hx j w hw=>?_⟩
 have hi:u.a.isSome=true:=h.isS fun e=>by subst e; simp at hx
 cases ha:u.a with
 | none=>simp [ha] at hi
 | some p =>
  have hcl:=h.cell i x hx j w hw
  rw [ha] at hcl
  rw [Hp.at_eq (H:=H)]
  ·exact hcl
  ·refine hc _ (fun hn=>?_) (fun q hq e=>h1 p q ha hq (by rw [e]; exact (eaddr_block rfl).symm)) fun q hq e=>h2 p q ha hq (by rw [e]; exact (eaddr_block rfl).symm)
   unfold Hp.at at hcl; rw [hn] at hcl; cases hcl

end Go.Proofs.YtlbdpklikfddlaaGreat
end
section
/- Agendas that came in. Conditions: none. -/
set_option maxRecDepth 100000
open Go Go.Eng Go.Proofs
open Go.ChangeShapes Go.WideShapes Go.Deep Go.RowKit
namespace Go.Proofs.YtlbdpklikfddlaaGreat
section
variable {H:Type} {enc:TypeId × Value→H} {w:World} {base:Nat} {spare:Nat→Bool} {held:Bool} {r:Reach} {b0:Nat} {v c:Value} {d:DataW H} {p:List MemPlace}
end
end Go.Proofs.YtlbdpklikfddlaaGreat
end
section
/- Clocks that came in. Conditions: none. -/
set_option maxRecDepth 100000
open Go Go.Eng Go.Proofs
open Go.ChangeShapes Go.WideShapes Go.Deep Go.RowKit
namespace Go.Proofs.YtlbdpklikfddlaaGreat
theorem ftDue:flatT Tryz.prog 9 T.api_Due=[3,3,3]:=by kernel_rfl
section
variable {H:Type} {enc:TypeId × Value→H} {w:World} {base:Nat} {spare:Nat→Bool} {held:Bool} {r:Reach} {b0:Nat} {v c:Value} {d:DataW H} {p:List MemPlace}
theorem flatDue {cs:List Value} (h:All2 (Lf enc Tryz.prog w base spare held) (flatT Tryz.prog 9 T.api_Due) cs):∃ x:Int × Int × Int,cs=fD x∧(inI x.1∧inI x.2.1∧inI x.2.2):=by
 have a0:=h; rw [ftDue] at a0
 obtain ⟨c1,cs1,rfl,h1,a1⟩:=a0.c
 obtain ⟨n,rfl,hn⟩:=h1.i64 Tryz.underlying3
 obtain ⟨c2,cs2,rfl,h2,a2⟩:=a1.c
 obtain ⟨m,rfl,hm⟩:=h2.i64 Tryz.underlying3
 obtain ⟨c3,cs3,rfl,h3,a3⟩:=a2.c
 obtain ⟨l,rfl,hl⟩:=h3.i64 Tryz.underlying3
 have e:=a3.n; subst e
 exact ⟨(n,m,l),rfl,hn,hm,hl⟩
theorem lfDues (h:Lf enc Tryz.prog w base spare held T.s_api_Due c):∃ (u:Slc) (xs:List (Int × Int × Int)),c=u.v∧Rd 3 fD (HW w) u xs∧(∀ x∈xs,inI x.1∧inI x.2.1∧inI x.2.2)∧xs.length≤9223372036854775807 :=
 h.slice (k:=3) (f:=fD) Tryz.underlying42 (by kernel_rfl) (by kernel_rfl) fun _=>flatDue
end
end Go.Proofs.YtlbdpklikfddlaaGreat
end
section
/- Lists that came in. Conditions: none. -/
set_option maxRecDepth 100000
open Go Go.Eng Go.Proofs
open Go.ChangeShapes Go.WideShapes Go.Deep Go.RowKit
namespace Go.Proofs.YtlbdpklikfddlaaGreat
theorem ftList:flatT Tryz.prog 9 T.api_List=[2,2,22,3,32,35,36,35,39,35,42,35,35]:=by kernel_rfl
section
variable {H:Type} {enc:TypeId × Value→H} {w:World} {base:Nat} {spare:Nat→Bool} {held:Bool} {r:Reach} {b0:Nat} {v c:Value} {d:DataW H} {p:List MemPlace}
theorem openList (hv:Value.okWide Tryz.prog w r b0 T.api_List v) (h:DataW.Trod enc Tryz.prog w base spare held T.api_List v d p):∃ (u:Lu) (l:Ls),v=lsV u l∧RdL (HW w) u l∧fitR l.ck.now∧∀ x∈l.ck.ag.heap,fitR x.at_:=by
 obtain ⟨cs,rfl,a0⟩:=open_flat Tryz.underlying46 (by kernel_rfl) hv h
 rw [ftList] at a0
 obtain ⟨c1,cs1,rfl,h1,a1⟩:=a0.c
 obtain ⟨n1,rfl,q1⟩:=h1.i64 Tryz.underlying2
 obtain ⟨c2,cs2,rfl,h2,a2⟩:=a1.c
 obtain ⟨n2,rfl,q2⟩:=h2.i64 Tryz.underlying2
 obtain ⟨c3,cs3,rfl,h3,a3⟩:=a2.c
 obtain ⟨uf,fs,rfl,rf,_,_⟩:=lfPoints h3
 obtain ⟨c4,cs4,rfl,h4,a4⟩:=a3.c
 obtain ⟨nx,rfl,_⟩:=h4.i64 Tryz.underlying3
 obtain ⟨c5,cs5,rfl,h5,a5⟩:=a4.c
 obtain ⟨ul,ls,rfl,rl,_,_⟩:=lfHelds h5
 obtain ⟨c6,cs6,rfl,h6,a6⟩:=a5.c
 obtain ⟨u1,xs,rfl,r1,_,_⟩:=lfInts h6
 obtain ⟨c7,cs7,rfl,h7,a7⟩:=a6.c
 obtain ⟨u2,ys,rfl,r2,_,_⟩:=lfBools h7
 obtain ⟨c8,cs8,rfl,h8,a8⟩:=a7.c
 obtain ⟨u3,zs,rfl,r3,_,_⟩:=lfInts h8
 obtain ⟨c9,cs9,rfl,h9,a9⟩:=a8.c
 obtain ⟨u4,es,rfl,r4,g4,_⟩:=lfEvents h9
 obtain ⟨c10,cs10,rfl,h10,a10⟩:=a9.c
 obtain ⟨u5,ws,rfl,r5,_,_⟩:=lfInts h10
 obtain ⟨c11,cs11,rfl,h11,a11⟩:=a10.c
 obtain ⟨ud,ds,rfl,rd,_,_⟩:=lfDues h11
 obtain ⟨c12,cs12,rfl,h12,a12⟩:=a11.c
 obtain ⟨uo,os,rfl,ro,_,_⟩:=lfInts h12
 obtain ⟨c13,cs13,rfl,h13,a13⟩:=a12.c
 obtain ⟨un,ns,rfl,rn,_,_⟩:=lfInts h13
 have e:=a13.n; subst e
 exact ⟨⟨⟨uf,ul,u1,u2,u3,u4,u5,ud⟩,uo,un⟩,⟨⟨(n1,n2),fs,⟨nx,ls⟩,⟨⟨xs,ys,zs⟩,es,ws⟩,ds⟩,os,ns⟩,rfl,⟨⟨rf,rl,⟨⟨r1,r2,r3⟩,r4,r5⟩,rd⟩,ro,rn⟩,⟨q1,q2⟩,fun x hx=>(g4 x hx).1⟩
end
end Go.Proofs.YtlbdpklikfddlaaGreat
end
