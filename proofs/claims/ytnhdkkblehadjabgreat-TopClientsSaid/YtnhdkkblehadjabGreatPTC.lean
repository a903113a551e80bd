/- The engine, parts TX, TY, TV, put together. Conditions: none. -/
import Derived.Test.YtnhdkkblehadjabGreatPTB
import Derived.Test.YtnhdkkblehadjabGreatPQ4
import Derived.Test.YtnhdkkblehadjabGreatVgBase
import Derived.Test.YtnhdkkblehadjabGreatVgOracle
import Derived.Test.YtnhdkkblehadjabGreatFs
import Derived.Test.YtnhdkkblehadjabGreatVgPast
import Derived.Test.YtnhdkkblehadjabGreatVgStd
set_option linter.unusedVariables false
section
/- An ask is done: a point is put in; time goes on. Conditions: none. -/
set_option maxRecDepth 100000
open Go Go.Eng Go.Proofs
namespace Go.Proofs.YtnhdkkblehadjabGreat

theorem yqs{H:Hp}{t:Int×Int}(a:z85 t):Qf Tryz.prog F.f97 #[raW t] H (.int .i64 0):=by
 obtain⟨ot,a1,a2,a3⟩:=a
 have q:=yqv (H:=H) ot.fit
 rw[zl5.2 ot] at q
 have n1:=ot.n1;have n2:=ot.n2
 refine vc97 ⟨0,q,λh=>by simp at h,λ_=>⟨_,yqp (show inI t.1 by unfold inI;omega),λh=>?_,λ_=>⟨rfl,Hp.le_refl _⟩⟩⟩
 exfalso
 have e:=z2z (x:=t.1) (m:=1073741824) (by omega) (by omega)
 simp only[Bool.or_eq_true,decide_eq_true_eq] at h
 omega
theorem yq4{H:Hp}{b:Nat}{o:Obj}(h:H b=some o):H.put b o=H:=by
 funext k;unfold Hp.put;split
 ·rename_i e;rw[e,h]
 ·rfl
theorem zba{H:Hp}{b:Nat}{vs:List Value}{T:TypeId}(h:Cel H b vs.toArray T):H.canStore (Addr.mk b 0 none) 0 vs/\H.store (Addr.mk b 0 none) 0 vs=H:=by
 obtain⟨can,st⟩:=x1u h vs (by simp)
 refine⟨can,?_⟩
 rw[st];exact yq4 h
theorem z42{b i:Nat}:(Addr.mk b 0 none).add i=⟨b,i,none⟩:=by
 by_cases h:i=0
 ·subst h;rfl
 ·simp[Addr.add,h]
theorem zbc{H:Hp}{b:Nat}{cs cs':Array Value}{T:TypeId}(h:Cel H b cs T)(i:Nat)(vs:List Value)(hv:i+vs.length<=cs.size)(hc:cs'=(cs.toList.take i++vs++cs.toList.drop (i+vs.length)).toArray){Q:Hp->Prop}
  (q:∀H',H'=H.put b (.cells cs' T (0,0))->Q H'):H.canStore ((Addr.mk b 0 none).add i) 0 vs/\∀H',H'=H.store ((Addr.mk b 0 none).add i) 0 vs->Q H':=by
 obtain⟨can,st⟩:=x1y (b:=b) (off:=i) vs 0 H cs h (by omega)
 have e:(Addr.mk b 0 none).add i=⟨b,i,none⟩:=z42
 rw[e]
 refine⟨can,λH' hH=>q H' ?_⟩
 rw[hH,st,hc];rfl
theorem zcj{H:Hp}{b:Nat}{x0 x1 x2 x3 x4 x5:Value}{T:TypeId}(h:Cel H b #[x0,x1,x2,x3,x4,x5] T):H.at ((Addr.mk b 0 none).add 0)=some x0/\H.at ((Addr.mk b 0 none).add 1)=some x1/\H.at ((Addr.mk b 0 none).add 2)=some x2/\H.at ((Addr.mk b 0 none).add 3)=some x3/\H.at ((Addr.mk b 0 none).add 4)=some x4/\H.at ((Addr.mk b 0 none).add 5)=some x5:=by
 have key:∀j,H.at ((Addr.mk b 0 none).add j)=#[x0,x1,x2,x3,x4,x5][j]?:=λj=>by
  rw[z42,Cel.at h]
 exact⟨key 0,key 1,key 2,key 3,key 4,key 5⟩
theorem zcm{H H':Hp}{b c:Nat}{cs:Array Value}{T:TypeId}{o:Obj}(h:Cel H b cs T)(hne:b≠c)(hH:H'=H.put c o):Cel H' b cs T:=by
 subst hH;unfold Cel at *;rw[Hp.put_ne _ _ hne];exact h
theorem z7x{H:Hp}{b1 b3:Nat}{x1 x2 r1 r2 r3 r4 r5:Int}{u w:Slc}{T1 T3:TypeId}{post:Value->Hp->Prop}(C1:Cel H b1 #[.int .i64 x1,.int .i64 x2,u.v] T1)(C3:Cel H b3 #[.int .i64 r1,.int .i64 r2,.int .i64 r3,.int .i64 r4,.int .i64 r5,w.v] T3)
  (q:post (.tuple #[.agg #[.int .i64 x1,.int .i64 x2,u.v],.agg #[.int .i64 r1,.int .i64 r2,.int .i64 r3,.int .i64 r4,.int .i64 r5,w.v]]) H) :
  ∃n30 n31:Int,∃u30:Slc,(H.at ((Addr.mk b1 0 none).add 0)=some (Value.int .i64 n30)/\H.at ((Addr.mk b1 0 none).add 1)=some (Value.int .i64 n31)/\H.at ((Addr.mk b1 0 none).add 2)=some (u30.v))/\(∃n40 n41 n42 n43 n44:Int,∃u40:Slc,(H.at ((Addr.mk b3 0 none).add 0)=some (Value.int .i64 n40)/\H.at ((Addr.mk b3 0 none).add 1)=some (Value.int .i64 n41)/\H.at ((Addr.mk b3 0 none).add 2)=some (Value.int .i64 n42)/\H.at ((Addr.mk b3 0 none).add 3)=some (Value.int .i64 n43)/\H.at ((Addr.mk b3 0 none).add 4)=some (Value.int .i64 n44)/\H.at ((Addr.mk b3 0 none).add 5)=some (u40.v))/\H.canStore (Addr.mk b1 0 none) 0 [Value.int .i64 n30,Value.int .i64 n31,u30.v]/\∀H39,H39=H.store (Addr.mk b1 0 none) 0 [Value.int .i64 n30,Value.int .i64 n31,u30.v]->H39.canStore (Addr.mk b3 0 none) 0 [Value.int .i64 n40,Value.int .i64 n41,Value.int .i64 n42,Value.int .i64 n43,Value.int .i64 n44,u40.v]/\∀H40,H40=H39.store (Addr.mk b3 0 none) 0 [Value.int .i64 n40,Value.int .i64 n41,Value.int .i64 n42,Value.int .i64 n43,Value.int .i64 n44,u40.v]->∃n50 n51:Int,∃u50:Slc,(H40.at ((Addr.mk b1 0 none).add 0)=some (Value.int .i64 n50)/\H40.at ((Addr.mk b1 0 none).add 1)=some (Value.int .i64 n51)/\H40.at ((Addr.mk b1 0 none).add 2)=some (u50.v))/\∃n60 n61 n62 n63 n64:Int,∃u60:Slc,(H40.at ((Addr.mk b3 0 none).add 0)=some (Value.int .i64 n60)/\H40.at ((Addr.mk b3 0 none).add 1)=some (Value.int .i64 n61)/\H40.at ((Addr.mk b3 0 none).add 2)=some (Value.int .i64 n62)/\H40.at ((Addr.mk b3 0 none).add 3)=some (Value.int .i64 n63)/\H40.at ((Addr.mk b3 0 none).add 4)=some (Value.int .i64 n64)/\H40.at ((Addr.mk b3 0 none).add 5)=some (u60.v))/\post (Value.tuple #[Value.agg #[Value.int .i64 n50,Value.int .i64 n51,u50.v],Value.agg #[Value.int .i64 n60,Value.int .i64 n61,Value.int .i64 n62,Value.int .i64 n63,Value.int .i64 n64,u60.v]]) H40)/\H.canStore (Addr.mk b1 0 none) 0 [Value.int .i64 n30,Value.int .i64 n31,u30.v]/\∀H50,H50=H.store (Addr.mk b1 0 none) 0 [Value.int .i64 n30,Value.int .i64 n31,u30.v]->∃n70 n71 n72 n73 n74:Int,∃u70:Slc,(H50.at ((Addr.mk b3 0 none).add 0)=some (Value.int .i64 n70)/\H50.at ((Addr.mk b3 0 none).add 1)=some (Value.int .i64 n71)/\H50.at ((Addr.mk b3 0 none).add 2)=some (Value.int .i64 n72)/\H50.at ((Addr.mk b3 0 none).add 3)=some (Value.int .i64 n73)/\H50.at ((Addr.mk b3 0 none).add 4)=some (Value.int .i64 n74)/\H50.at ((Addr.mk b3 0 none).add 5)=some (u70.v))/\H50.canStore (Addr.mk b3 0 none) 0 [Value.int .i64 n70,Value.int .i64 n71,Value.int .i64 n72,Value.int .i64 n73,Value.int .i64 n74,u70.v]/\∀H57,H57=H50.store (Addr.mk b3 0 none) 0 [Value.int .i64 n70,Value.int .i64 n71,Value.int .i64 n72,Value.int .i64 n73,Value.int .i64 n74,u70.v]->∃n80 n81:Int,∃u80:Slc,(H57.at ((Addr.mk b1 0 none).add 0)=some (Value.int .i64 n80)/\H57.at ((Addr.mk b1 0 none).add 1)=some (Value.int .i64 n81)/\H57.at ((Addr.mk b1 0 none).add 2)=some (u80.v))/\∃n90 n91 n92 n93 n94:Int,∃u90:Slc,(H57.at ((Addr.mk b3 0 none).add 0)=some (Value.int .i64 n90)/\H57.at ((Addr.mk b3 0 none).add 1)=some (Value.int .i64 n91)/\H57.at ((Addr.mk b3 0 none).add 2)=some (Value.int .i64 n92)/\H57.at ((Addr.mk b3 0 none).add 3)=some (Value.int .i64 n93)/\H57.at ((Addr.mk b3 0 none).add 4)=some (Value.int .i64 n94)/\H57.at ((Addr.mk b3 0 none).add 5)=some (u90.v))/\post (Value.tuple #[Value.agg #[Value.int .i64 n80,Value.int .i64 n81,u80.v],Value.agg #[Value.int .i64 n90,Value.int .i64 n91,Value.int .i64 n92,Value.int .i64 n93,Value.int .i64 n94,u90.v]]) H57:=by
 have l1:=zci C1
 have l3:=zcj C3
 obtain⟨s1,e1⟩:=zba (vs:=[.int .i64 x1,.int .i64 x2,u.v]) C1
 obtain⟨s3,e3⟩:=zba (vs:=[.int .i64 r1,.int .i64 r2,.int .i64 r3,.int .i64 r4,.int .i64 r5,w.v]) C3
 refine⟨x1,x2,u,l1,⟨r1,r2,r3,r4,r5,w,l3,s1,λH39 h39=>?_⟩,s1,λH50 h50=>?_⟩
 ·rw[e1] at h39;subst h39
  refine⟨s3,λH40 h40=>?_⟩
  rw[e3] at h40;subst h40
  exact⟨x1,x2,u,l1,r1,r2,r3,r4,r5,w,l3,q⟩
 ·rw[e1] at h50;subst h50
  refine⟨r1,r2,r3,r4,r5,w,l3,s3,λH57 h57=>?_⟩
  rw[e3] at h57;subst h57
  exact⟨x1,x2,u,l1,r1,r2,r3,r4,r5,w,l3,q⟩
theorem z7l{H:Hp}{k i a b j n d:Int}(h:(k=1/\j=0/\n=0/\d=0)\/(k=4/\i=0/\a=0/\b=0/\j=0)) :
  Qf Tryz.prog F.f152 #[.agg #[.int .u8 k,.int .i64 i,.int .i64 a,.int .i64 b,.int .i64 j,.int .i64 n,.int .i64 d]] H (.bool true):=by
 rcases h with⟨rfl,rfl,rfl,rfl⟩|⟨rfl,rfl,rfl,rfl,rfl⟩
 ·exact vc152 ⟨λ_=>⟨λ_=>⟨rfl,Hp.le_refl _⟩,λh=>by simp at h⟩,λh=>by simp at h⟩
 ·exact vc152 ⟨λh=>by simp at h,λ_=>⟨λh=>by simp at h,λ_=>⟨λh=>by simp at h,λ_=>⟨λ_=>⟨rfl,Hp.le_refl _⟩,λh=>by simp at h⟩⟩⟩⟩
structure z0g(H0 H:Hp)(b1 b3:Nat)(t:Int×Int)(u:Slc):Prop where
 le:Hp.le H0 H
 n1:H0 b1=none
 n3:H0 b3=none
 ne:b1≠b3
 c1:Cel H b1 #[.int .i64 t.1,.int .i64 t.2,u.v] T.api_Model
 c3:Cel H b3 #[.int .i64 0,.int .i64 0,.int .i64 0,.int .i64 0,.int .i64 0,.slice none 0 0] T.api_Reply
set_option maxHeartbeats 2000000 in
theorem z7u{H H2 H4 H6:Hp}{b1 b3:Nat}{t:Int×Int}{u:Slc}(hb1:H b1=none)(hH2:H2=H.put b1 (.cells #[.int .i64 0,.int .i64 0,.slice none 0 0] T.api_Model))(hb3:H2 b3=none)(hH4:H4=H2.put b3 (.cells #[.int .i64 0,.int .i64 0,.int .i64 0,.int .i64 0,.int .i64 0,.slice none 0 0] T.api_Reply))(l6:Hp.le H4 H6) :
  H6.canStore (Addr.mk b1 0 none) 0 [.int .i64 t.1,.int .i64 t.2,u.v]/\∀H8,H8=H6.store (Addr.mk b1 0 none) 0 [.int .i64 t.1,.int .i64 t.2,u.v]->z0g H H8 b1 b3 t u/\∀c,c≠b1->H8 c=H6 c:=by
 have l2:Hp.le H H2:=Hp.le_new (Hp.le_refl _) hb1 hH2
 have l4:Hp.le H2 H4:=Hp.le_new (Hp.le_refl _) hb3 hH4
 have c2:Cel H2 b1 #[.int .i64 0,.int .i64 0,.slice none 0 0] T.api_Model:=by subst hH2;exact Cel.put
 have ne:=zcl c2 hb3
 have c6:=(c2.le l4).le l6
 have c3:Cel H4 b3 #[.int .i64 0,.int .i64 0,.int .i64 0,.int .i64 0,.int .i64 0,.slice none 0 0] T.api_Reply:=by subst hH4;exact Cel.put
 obtain⟨can,st⟩:=x1u c6 [.int .i64 t.1,.int .i64 t.2,u.v] rfl
 refine⟨can,λH8 h8=>?_⟩
 rw[st] at h8
 refine⟨⟨?_,hb1,yfy l2 hb3,ne,by subst h8;exact Cel.put,zcm (c3.le l6) ne.symm h8⟩,λc hc=>by subst h8;exact Hp.put_ne _ _ hc⟩
 subst h8
 exact Hp.le_put (Hp.le_trans l2 (Hp.le_trans l4 l6)) hb1
set_option maxHeartbeats 4000000 in
theorem z7t{H:Hp}{w:Slc}{f:List Pt}{p:Pt}{t:Int×Int}(hf:Rd 3 fD H w f)(of:okF f)(op:okP p)(hno:ynk f p.1<0)(hl:f.length<64) :
  Go.Eng.Fn Tryz.prog F.f93 #[.agg #[.int .i64 t.1,.int .i64 t.2,w.v],.agg #[.int .u8 1,.int .i64 p.1,.int .i64 p.2.1,.int .i64 p.2.2,.int .i64 0,.int .i64 0,.int .i64 0]] H λv H' =>
   ∃w':Slc,v=.tuple #[.agg #[.int .i64 t.1,.int .i64 t.2,w'.v],.agg #[.int .i64 0,.int .i64 0,.int .i64 0,.int .i64 0,.int .i64 0,zs.v]]/\Hp.le H H'/\Rd 3 fD H' w' (y43 f p):=by
 refine vc93 λb1 H2 hb1 hH2 b3 H4 hb3 hH4=>?_
 have l4:Hp.le H H4:=Hp.le_trans (Hp.le_new (Hp.le_refl _) hb1 hH2) (Hp.le_new (Hp.le_refl _) hb3 hH4)
 refine(zmq (hf.le l4) (by have:=of.len;omega)).mono λv H6 ⟨u,hv,l6,_⟩=>⟨l6,u,hv,?_⟩
 obtain⟨can,fin⟩:=z7u (t:=t) (u:=u) hb1 hH2 hb3 hH4 l6
 refine⟨can,λH8 h8=>?_⟩
 obtain⟨B,_⟩:=fin H8 h8
 refine⟨true,z7l (.inl ⟨rfl,rfl,rfl,rfl⟩),λh=>by simp at h,λ_=>⟨λ_=>?_,λh=>by simp at h⟩⟩
 have ep:putF f p=(y43 f p,0):=by
  unfold putF;rw[if_neg (by rw[zke.2 of];simp),if_neg (by simpa using op),if_neg (by omega),if_neg (by omega)]
 have qp:=zvm (p:=p) hf
 rw[ep] at qp
 refine(Fn.frame qp B.le).mono λv H25 ⟨G,⟨w',hv,lG,rG⟩,h1,h2,h3⟩=>⟨w',0,hv,?_⟩
 have l25:=h3 lG
 have g1:=h2 b1 B.n1 (by have:=B.c1;unfold Cel at this;rw[this];simp)
 have c1:=B.c1.le l25
 have c3:=B.c3.le l25
 refine⟨_,_,_,rfl,⟨_,Tryz.func151,by kernel_rfl⟩,vc151 (a2:=⟨b3,0,none⟩) (a3:=⟨b1,0,none⟩) ?_⟩
 refine zbc (cs':=#[.int .i64 0,.int .i64 0,.int .i64 0,.int .i64 0,.int .i64 0,.slice none 0 0]) c3 0 [.int .i64 0] (by simp) rfl λH26 h26=>⟨λ_=>?_,λh=>by simp at h⟩
 rw[yq4 c3] at h26
 subst h26
 refine zbc (cs':=#[.int .i64 t.1,.int .i64 t.2,w'.v]) c1 2 [w'.v] (by simp) rfl λH27 h27=>⟨rfl,?_⟩
 have d1:Cel H27 b1 #[.int .i64 t.1,.int .i64 t.2,w'.v] T.api_Model:=by subst h27;exact Cel.put
 have d3:=zcm c3 B.ne.symm h27
 have le27:Hp.le H H27:=by subst h27;exact Hp.le_put (Hp.le_trans B.le l25) B.n1
 have r27:Rd 3 fD H27 w' (y43 f p):=rG.le (by subst h27;exact Hp.le_put h1 g1)
 refine z7x (w:=zs) (post:=λv H'=>∃w':Slc,v=.tuple #[.agg #[.int .i64 t.1,.int .i64 t.2,w'.v],.agg #[.int .i64 0,.int .i64 0,.int .i64 0,.int .i64 0,.int .i64 0,zs.v]]/\Hp.le H H'/\Rd 3 fD H' w' (y43 f p)) d1 d3 ?_
 exact⟨w',rfl,le27,r27⟩
set_option maxHeartbeats 4000000 in
theorem z7r{H:Hp}{w:Slc}{f:List Pt}{t to:Int×Int}(hf:Rd 3 fD H w f)(of:okF f)(ot:okR t)(a:z85 to)(hlt:¬ leR to t) :
  Go.Eng.Fn Tryz.prog F.f93 #[.agg #[.int .i64 t.1,.int .i64 t.2,w.v],.agg #[.int .u8 4,.int .i64 0,.int .i64 0,.int .i64 0,.int .i64 0,.int .i64 to.1,.int .i64 to.2]] H λv H' =>
   ∃w' s:Slc,v=.tuple #[.agg #[.int .i64 to.1,.int .i64 to.2,w'.v],.agg #[.int .i64 0,.int .i64 0,.int .i64 0,.int .i64 0,.int .i64 0,s.v]]/\Hp.le H H'/\Rd 3 fD H' w' f/\s.n=(zae f t to).length:=by
 refine vc93 λb1 H2 hb1 hH2 b3 H4 hb3 hH4=>?_
 have l2:Hp.le H H2:=Hp.le_new (Hp.le_refl _) hb1 hH2
 have l4:Hp.le H H4:=Hp.le_trans l2 (Hp.le_new (Hp.le_refl _) hb3 hH4)
 have hle:leR t to:=(y6u t to).resolve_right hlt
 refine(Fn.frame (zmq hf (by have:=of.len;omega)) l4).mono λv H6 ⟨G,⟨u,hv,lG,mG⟩,h1,h2,h3⟩=>⟨h3 lG,u,hv,?_⟩
 have l6:=h3 lG
 have c4:Cel H4 b1 #[.int .i64 0,.int .i64 0,.slice none 0 0] T.api_Model:=Cel.le (by subst hH2;exact Cel.put) (Hp.le_new (Hp.le_refl _) hb3 hH4)
 have c34:Cel H4 b3 #[.int .i64 0,.int .i64 0,.int .i64 0,.int .i64 0,.int .i64 0,.slice none 0 0] T.api_Reply:=by subst hH4;exact Cel.put
 have g1:=h2 b1 hb1 (by unfold Cel at c4;rw[c4];simp)
 have g3:=h2 b3 (yfy l2 hb3) (by unfold Cel at c34;rw[c34];simp)
 have rG:Rd 3 fD G u f:=mG.rdD
 obtain⟨can,fin⟩:=z7u (t:=t) (u:=u) hb1 hH2 hb3 hH4 l6
 refine⟨can,λH8 h8=>?_⟩
 obtain⟨B,k8⟩:=fin H8 h8
 have lG8:Hp.le G H8:=λc o hc=>by
  have hne:c≠b1:=λe=>by rw[e,g1] at hc;cases hc
  rw[k8 c hne];exact h1 c o hc
 refine⟨true,z7l (.inr ⟨rfl,rfl,rfl,rfl,rfl⟩),λh=>by simp at h,λ_=>⟨λh=>by simp at h,λ_=>⟨λh=>by simp at h,λ_=>⟨λh=>by simp at h,λ_=>⟨λ_=>?_,λh=>by simp at h⟩⟩⟩⟩⟩
 refine⟨0,yqs a,?_⟩
 refine zbc (cs':=#[.int .i64 0,.int .i64 0,.int .i64 0,.int .i64 0,.int .i64 0,.slice none 0 0]) B.c3 0 [.int .i64 0] (by simp) rfl λH9 h9=>?_
 rw[yq4 B.c3] at h9
 subst h9
 have qc:=yqw (H:=H9) a.1.fit ot.fit
 rw[show zng to t=(znm to t,0) from if_pos ⟨a.1,ot⟩] at qc
 refine⟨0,(zcj B.c3).1,λh=>by simp at h,λ_=>⟨_,_,qc,λh=>?_,λ_=>?_⟩⟩
 ·have h:=of_decide_eq_true h
  exact absurd (zns.1 h) hlt
 refine(y9t (hf.le B.le) of ot a.1 hle).mono λv H38 ⟨s,hv,l38,rs⟩=>⟨s,0,hv,?_⟩
 have sl:=rs.len
 have c1:=B.c1.le l38
 have c3:=B.c3.le l38
 have l038:=Hp.le_trans B.le l38
 have lG38:=Hp.le_trans lG8 l38
 refine zbc (cs':=#[.int .i64 0,.int .i64 0,.int .i64 0,.int .i64 0,.int .i64 0,s.v]) c3 5 [s.v] (by simp) rfl λH41 h41=>?_
 have d3:Cel H41 b3 #[.int .i64 0,.int .i64 0,.int .i64 0,.int .i64 0,.int .i64 0,s.v] T.api_Reply:=by subst h41;exact Cel.put
 have d1:=zcm c1 B.ne h41
 have l41:Hp.le H H41:=by subst h41;exact Hp.le_put l038 B.n3
 have lG41:Hp.le G H41:=by subst h41;exact Hp.le_put lG38 g3
 refine zbc (cs':=#[.int .i64 0,.int .i64 0,.int .i64 0,.int .i64 0,.int .i64 0,s.v]) d3 0 [.int .i64 0] (by simp) rfl λH42 h42=>?_
 rw[yq4 d3] at h42
 subst h42
 refine zbc (cs':=#[.int .i64 to.1,.int .i64 to.2,u.v]) d1 0 [.int .i64 to.1,.int .i64 to.2] (by simp) rfl λH43 h43=>?_
 have e1:Cel H43 b1 #[.int .i64 to.1,.int .i64 to.2,u.v] T.api_Model:=by subst h43;exact Cel.put
 have e3:=zcm d3 B.ne.symm h43
 refine z7x (w:=s) (post:=λv H'=>∃w' s:Slc,v=.tuple #[.agg #[.int .i64 to.1,.int .i64 to.2,w'.v],.agg #[.int .i64 0,.int .i64 0,.int .i64 0,.int .i64 0,.int .i64 0,s.v]]/\Hp.le H H'/\Rd 3 fD H' w' f/\s.n=(zae f t to).length) e1 e3 ?_
 exact⟨u,s,rfl,by subst h43;exact Hp.le_put l41 B.n1,rG.le (by subst h43;exact Hp.le_put lG41 g1),sl⟩

/-! ### Points put in in the order of their IDs -/
theorem yh2{f:List Pt}(of:okF f)(k:Nat):okF (f.take k):=by
 refine⟨?_,λp hp=>of.each p (List.mem_of_mem_take hp),?_⟩
 ·have:=of.len;rw[List.length_take];omega
 ·rw[List.map_take];exact of.inc.sublist (List.take_sublist _ _)
theorem x45{f:List Pt}(of:okF f){k:Nat}{p:Pt}(hk:f[k]?=some p):∀q∈f.take k,q.1<p.1:=λq hq=>by
 obtain⟨j,hj,e⟩:=List.mem_take_iff_getElem.1 hq
 obtain⟨hl,ep⟩:=List.getElem?_eq_some_iff.1 hk
 have:=List.pairwise_iff_getElem.1 (List.pairwise_map.1 of.inc) j k (by omega) hl (by omega)
 rw[e,ep] at this;exact this
theorem x43{f:List Pt}(of:okF f){k:Nat}{p:Pt}(hk:f[k]?=some p):ynk (f.take k) p.1<0/\y43 (f.take k) p=f.take (k+1):=by
 have low:=x45 of hk
 refine⟨?_,?_⟩
 ·rcases Int.lt_or_le (ynk (f.take k) p.1) 0 with h|h
  ·exact h
  ·obtain⟨_,h2,h3⟩:=ynp h
   have:=low _ (List.mem_of_getElem? h2)
   omega
 ·have e:y8o (f.take k) p.1=(f.take k).length:=by
   unfold y8o yo0
   rw[List.findIdx_eq_length.2,List.length_map]
   intro x hx
   obtain⟨q,hq,rfl⟩:=List.mem_map.1 hx
   have:=low q hq
   exact decide_eq_false (by omega)
  unfold y43
  rw[e,List.take_length,List.drop_length,List.take_add_one,hk];rfl

/-! ### What is asked -/
abbrev z07:=Int×Pt×Int×Int×Int
def zud(a:z07):List Value:=[.int .u8 a.1,.int .i64 a.2.1.1,.int .i64 a.2.1.2.1,.int .i64 a.2.1.2.2,.int .i64 a.2.2.1,.int .i64 a.2.2.2.1,.int .i64 a.2.2.2.2]
theorem zue:∀(x:z07),∀v∈zud x,v.oneCell'=true:=λx v hv=>by
 simp[zud] at hv
 rcases hv with rfl|rfl|rfl|rfl|rfl|rfl|rfl <;> rfl
def z7s(p:Pt):z07:=(1,p,0,0,0)
def z7y(t:Int×Int):z07:=(4,(0,0,0),0,t.1,t.2)
def z8b(f:List Pt)(to:Int×Int):List z07:=f.map z7s++[z7y to]
theorem z8e{f:List Pt}{to:Int×Int}:(z8b f to).length=f.length+1:=by unfold z8b;simp
theorem z8g{f:List Pt}{to:Int×Int}{k:Nat}{p:Pt}(h:f[k]?=some p):(z8b f to)[k]?=some (z7s p):=by
 have hl:=(List.getElem?_eq_some_iff.1 h).1
 unfold z8b
 rw[List.getElem?_append_left (by rw[List.length_map];exact hl),List.getElem?_map,h];rfl
theorem z8f{f:List Pt}{to:Int×Int}:(z8b f to)[f.length]?=some (z7y to):=by
 unfold z8b
 rw[List.getElem?_append_right (by rw[List.length_map];exact Nat.le_refl _)];simp
def yg4(f:List Pt)(a b:Int×Int)(k:Nat):Int×Int:=if k<=f.length then a else b
structure z24(f:List Pt)(a b:Int×Int):Prop where
 of:okF f
 few:f.length<=12
 aa:z85 a
 ab:z85 b
 lt:¬ leR b a
section
variable {f:List Pt} {a b:Int×Int}
theorem z24.now(R:z24 f a b)(k:Nat):z85 (yg4 f a b k):=by
 unfold yg4;split
 ·exact R.aa
 ·exact R.ab
abbrev y9n(t:Int×Int)(w:Slc):Value:=.agg #[.int .i64 t.1,.int .i64 t.2,w.v]
abbrev z7z(x:z07):Value:=.agg #[.int .u8 x.1,.int .i64 x.2.1.1,.int .i64 x.2.1.2.1,.int .i64 x.2.1.2.2,.int .i64 x.2.2.1,.int .i64 x.2.2.2.1,.int .i64 x.2.2.2.2]
abbrev rpV(s:Slc):Value:=.agg #[.int .i64 0,.int .i64 0,.int .i64 0,.int .i64 0,.int .i64 0,s.v]
theorem z7m(R:z24 f a b){H:Hp}{w:Slc}{k:Nat}{x:z07}(hk:k<=f.length)(hx:(z8b f b)[k]?=some x)(hf:Rd 3 fD H w (f.take k)) :
  Go.Eng.Fn Tryz.prog F.f93 #[y9n (yg4 f a b k) w,z7z x] H λv H'=>∃w' s:Slc,v=.tuple #[y9n (yg4 f a b (k+1)) w',rpV s]/\Hp.le H H'/\Rd 3 fD H' w' (f.take (k+1))/\(k=f.length->s.n=(zae f a b).length):=by
 have n0:yg4 f a b k=a:=if_pos hk
 rw[n0]
 rcases Nat.lt_or_ge k f.length with h|h
 ·have gk:f[k]?=some (f.getD k (0,0,0)):=by rw[List.getD_eq_getElem?_getD,List.getElem?_eq_getElem h];rfl
  have ex:=z8g (to:=b) gk
  rw[ex] at hx;cases hx
  have n1:yg4 f a b (k+1)=a:=if_pos h
  obtain⟨t1,t2⟩:=x43 R.of gk
  have l64:=R.few
  have q:=z7t (t:=a) hf (yh2 R.of k) (R.of.each _ (List.mem_of_getElem? gk)) t1 (by rw[List.length_take];omega)
  rw[t2] at q
  rw[n1]
  exact q.mono λv H' ⟨w',hv,l,r⟩=>⟨w',zs,hv,l,r,λe=>by omega⟩
 ·have e:k=f.length:=by omega
  subst e
  rw[z8f] at hx;cases hx
  have n1:yg4 f a b (f.length+1)=b:=if_neg (by omega)
  rw[n1]
  rw[List.take_length] at hf
  have q:=z7r hf R.of R.aa.1 R.ab R.lt
  exact q.mono λv H' ⟨w',s,hv,l,r,n⟩=>⟨w',s,hv,l,by rw[List.take_of_length_le (by omega)];exact r,λ_=>n⟩
theorem zwr{H:Hp}{u:Slc}(r:RdI H u [0,0]):Qf Tryz.prog F.f150 #[u.v] H (.int .i64 0):=by
 have un:(u.n:Int)=2:=by have:=r.len;simp at this;omega
 refine vc150 ?_
 rw[un]
 refine upto (N:=2) (J:=λ_=>True) (by omega) trivial λn h0 h1 _=>⟨λhn=>?_,λ_=>⟨rfl,Hp.le_refl _⟩⟩
 have hn:n<2:=of_decide_eq_true hn
 have g:=RdI.get r h0 (by simp;omega)
 have z:([0,0]:List Int).getD n.toNat 0=0:=by
  have:n=0\/n=1:=by omega
  rcases this with rfl|rfl <;> rfl
 rw[z] at g
 exact⟨r.inS h0 (by simp;omega),_,g,λh=>by simp at h,λ_=>upto.nx h0 hn (by omega) trivial⟩
theorem yi8{H:Hp}{w:Slc}{g:List Pt}{t:Int×Int}(hf:Rd 3 fD H w g)(og:okF g)(at_:z85 t):Qf Tryz.prog F.f92 #[y9n t w] H (.int .i64 0):=by
 have q:=zvi hf
 rw[zke.2 og] at q
 refine vc92 ⟨0,yqs at_,0,q,λb3 H4 hb hH=>?_⟩
 have r:RdI H4 ⟨some ⟨b3,0,none⟩,2,2⟩ [0,0]:=yrl (k:=1) (f:=fI) (λ_=>rfl) hH rfl rfl
 have q2:=zwr r
 exact⟨0,q2,λh=>by simp at h,λ_=>⟨rfl,Hp.le_new (Hp.le_refl _) hb hH⟩⟩
theorem yi9(R:z24 f a b){H:Hp}{w:Slc}{k:Nat}{x:z07}(hk:k<=f.length)(hx:(z8b f b)[k]?=some x)(hf:Rd 3 fD H w (f.take k)) :
  Go.Eng.Fn Tryz.prog F.f43 #[y9n (yg4 f a b k) w,z7z x] H λv H'=>∃w' s:Slc,v=.tuple #[y9n (yg4 f a b (k+1)) w',rpV s,.int .i64 0]/\Hp.le H H'/\Rd 3 fD H' w' (f.take (k+1)) :=
 vc43 ⟨0,yi8 hf (yh2 R.of k) (R.now k),λh=>by simp at h,λ_=>(z7m R hk hx hf).mono λv H' ⟨w',s,hv,l,r,_⟩=>⟨_,_,w',0,0,0,0,0,s,hv,w',s,rfl,l,r⟩⟩
theorem RdAsk.get{H:Hp}{l:Slc}{L:List z07}{i:Int}{x:z07}(r:Rd 7 zud H l L)(h0:0<=i)(hx:L[i.toNat]?=some x) :
  H.at (zrr l.a 7 i)=some (.int .u8 x.1)/\H.at ((zrr l.a 7 i).add 1)=some (.int .i64 x.2.1.1)/\H.at ((zrr l.a 7 i).add 2)=some (.int .i64 x.2.1.2.1)/\H.at ((zrr l.a 7 i).add 3)=some (.int .i64 x.2.1.2.2) /\
   H.at ((zrr l.a 7 i).add 4)=some (.int .i64 x.2.2.1)/\H.at ((zrr l.a 7 i).add 5)=some (.int .i64 x.2.2.2.1)/\H.at ((zrr l.a 7 i).add 6)=some (.int .i64 x.2.2.2.2) :=
 ⟨r.at0 h0 hx rfl,r.atj h0 hx (j:=1) rfl,r.atj h0 hx (j:=2) rfl,r.atj h0 hx (j:=3) rfl,r.atj h0 hx (j:=4) rfl,r.atj h0 hx (j:=5) rfl,r.atj h0 hx (j:=6) rfl⟩
def zur(s:Slc):List Value:=[.int .i64 0,.int .i64 0,.int .i64 0,.int .i64 0,.int .i64 0,s.v]
theorem zus:∀(x:Slc),∀v∈zur x,v.oneCell'=true:=λx v hv=>by
 simp[zur] at hv
 rcases hv with rfl|rfl <;> rfl
set_option maxHeartbeats 2000000 in
theorem yic(R:z24 f a b){H:Hp}{w l:Slc}(hw:Rd 3 fD H w [])(hl:Rd 7 zud H l (z8b f b)) :
  Go.Eng.Fn Tryz.prog F.f41 #[y9n a w,l.v] H λv H'=>∃(n d:Int)(u r:Slc)(L:List Slc)(s:Slc),v=.tuple #[.agg #[.int .i64 n,.int .i64 d,u.v],r.v,.int .i64 0]/\Hp.le H H'/\Rd 6 zur H' r L/\L.length=f.length+1/\L[f.length]?=some s/\s.n=(zae f a b).length:=by
 have few:=R.few
 have ln:(l.n:Int)=f.length+1:=by have:=hl.len;rw[z8e] at this;omega
 refine vc41 ?_
 rw[ln]
 refine⟨0,yi8 hw (yh2 R.of 0) R.aa,λh=>by simp at h,λ_=>⟨λh=>?_,λ_=>?_⟩⟩
 ·have:=of_decide_eq_true h;omega
 refine(zmq hw (by simp)).mono λv H3 ⟨u,hv,l3,m3⟩=>⟨l3,u,hv,?_⟩
 refine⟨λr n n9 n10 w' H12=>∃k:Nat,n=k/\k<=f.length+1/\(n9,n10)=yg4 f a b k/\Hp.le H3 H12/\(∃G,Hp.le G H12/\Rd 3 fD G w' (f.take k)/\∀p,r.a=some p->G p.block=none)/\∃L:List Slc,Mine 6 zur T.api_Reply H3 H12 r L/\L.length=k/\(k=f.length+1->∃s,L[f.length]?=some s/\s.n=(zae f a b).length),
  λ_ n _ _ _ _=>((f.length:Int)+1-n).toNat,⟨0,rfl,by omega,(if_pos (Nat.zero_le _)).symm,Hp.le_refl _,⟨H3,Hp.le_refl _,m3.rdD,λp hp=>by cases hp⟩,[],.inl ⟨rfl,rfl⟩,rfl,λh=>by omega⟩,?_⟩
 rintro r n n9 n10 w' H12 ⟨k,rfl,hk,en,l12,⟨G,lG,rw',gr⟩,L,mL,Ll,hL⟩
 have e9:n9=(yg4 f a b k).1:=congrArg Prod.fst en
 have e10:n10=(yg4 f a b k).2:=congrArg Prod.snd en
 subst e9;subst e10
 refine⟨λhn=>?_,λhn=>?_⟩
 ·have hn:k<=f.length:=by have:=of_decide_eq_true hn;omega
  have gx:(z8b f b)[k]?=some ((z8b f b).getD k (z7y b)):=by rw[List.getD_eq_getElem?_getD,List.getElem?_eq_getElem (by rw[z8e];omega)];rfl
  have ga:=RdAsk.get (i:=(k:Int)) ((hl.le l3).le l12) (by omega) (by rw[Int.toNat_natCast];exact gx)
  have ms:((f.length:Int)+1-((k:Int)+1)).toNat<((f.length:Int)+1-(k:Int)).toNat:=by omega
  generalize (z8b f b).getD k (z7y b)=x at gx ga
  refine⟨((hl.le l3).le l12).inS (by omega) (by rw[z8e];omega),_,_,_,_,_,_,_,ga,?_⟩
  refine(Fn.frame (z7m R hn gx rw') lG).mono λv H21 ⟨G2,⟨w2,s,hv,lG2,r21,hs⟩,k1,k2,k3⟩=>⟨_,_,w2,0,0,0,0,0,s,hv,λb31 H32 hb hH=>?_⟩
  have l21:=k3 lG2
  have gr2:∀p,r.a=some p->G2 p.block=none:=λp hp=>k2 _ (gr p hp) (mL.isOld p hp)
  have lt21:=Hp.le_trans l12 l21
  refine(z78 (k:=6) (f:=zur) (bytes:=64) (x:=s) (by kernel_rfl) (by decide) (λ_=>rfl) zus lt21 (mL.le l21) hb hH rfl (by omega) (by omega)).mono λv H34 ⟨r',hv,l34,m34,c34,x34⟩=>⟨r',hv,by unfold inI;omega,⟨k+1,by omega,by omega,rfl,l34,⟨G2,λc o hc=>?_,r21,λp hp=>?_⟩,L++[s],m34,by rw[List.length_append,Ll];rfl,λh=>⟨s,?_,hs (by omega)⟩⟩,ms⟩
  ·have h1:=k1 c o hc
   rw[c34 c (by rw[h1];simp) λp hp e=>by rw[← e,gr2 p hp] at hc;cases hc];exact h1
  ·rcases x34 p hp with h|h
   ·exact gr2 p h
   ·exact yfy k1 h
  ·have:f.length=L.length:=by omega
   rw[this,List.getElem?_append_right (Nat.le_refl _)];simp
 ·have hn:k=f.length+1:=by have:=of_decide_eq_false hn;omega
  obtain⟨s,e1,e2⟩:=hL hn
  exact⟨_,_,w',r,L,s,rfl,Hp.le_trans l3 l12,Mine.rd (λ_=>rfl) mL,by omega,e1,e2⟩
end

theorem zs9{H:Hp}{u v:Slc}{xs ys:List Pt}(hu:Rd 3 fD H u xs)(hv:Rd 3 fD H v ys)(hl:xs.length<=1000000):Qf Tryz.prog F.f158 #[u.v,v.v] H (.bool (decide (xs=ys))):=by
 have ul:=hu.len;have vl:=hv.len
 refine vc158 ⟨λh=>⟨?_,Hp.le_refl _⟩,λh=>?_⟩
 ·have h:(u.n:Int)≠v.n:=bne_iff_ne.1 h
  rw[decide_eq_false λe=>h (by rw[ul,vl,e])]
 have h:(u.n:Int)=v.n:=bne_eq_false_iff_eq.1 h
 have hll:xs.length=ys.length:=by omega
 rw[show (u.n:Int)=xs.length by omega]
 refine upto (N:=(xs.length:Int)) (J:=λn=>∀j:Nat,(j:Int)<n->xs.getD j (0,0,0)=ys.getD j (0,0,0)) (by omega) (λj h=>by omega) λn h0 h1 hJ=>⟨λhn=>?_,λhn=>⟨?_,Hp.le_refl _⟩⟩
 ·have hn:n<xs.length:=of_decide_eq_true hn
  have g1:=hu.gD h0 hn
  have g2:=hv.gD h0 (by omega)
  refine⟨hu.inS h0 hn,_,_,_,g1,hv.inS h0 (by omega),_,_,_,g2,λhc=>⟨?_,Hp.le_refl _⟩,λhc=>upto.nx h0 hn (by omega) λj hj=>?_⟩
  ·rw[decide_eq_false]
   intro e
   rw[e] at hc;simp at hc
  ·by_cases e:(j:Int)<n
   ·exact hJ j e
   ·have e:j=n.toNat:=by omega
    subst e
    simp only[Bool.not_eq_false',Bool.and_eq_true,beq_iff_eq] at hc
    exact Prod.ext hc.1.1 (Prod.ext hc.1.2 hc.2)
 ·have hn:¬ n<xs.length:=of_decide_eq_false hn
  rw[decide_eq_true]
  refine List.ext_getElem? λj=>?_
  by_cases hj:j<xs.length
  ·have:=hJ j (by omega)
   rw[List.getD_eq_getElem?_getD,List.getD_eq_getElem?_getD,List.getElem?_eq_getElem hj,List.getElem?_eq_getElem (by omega)] at this
   rw[List.getElem?_eq_getElem hj,List.getElem?_eq_getElem (by omega)]
   exact congrArg some this
  ·rw[List.getElem?_eq_none (by omega),List.getElem?_eq_none (by omega)]
theorem yjz{H:Hp}{w:Slc}{g:List Pt}(hf:Rd 3 fD H w g)(hl:g.length<=1000000):Go.Eng.Fn Tryz.prog F.f94 #[vFd w] H λv H'=>∃u:Slc,v=vFd u/\Hp.le H H'/\Mine 3 fD T.api_Point H H' u g :=
 vc94 ((zmq hf (by omega)).mono λv H' ⟨u,hv,l,m⟩=>⟨u,hv,u,rfl,l,m⟩)
theorem yk4{H:Hp}{u v:Slc}{xs ys:List Pt}(hu:Rd 3 fD H u xs)(hv:Rd 3 fD H v ys)(hl:xs.length<=1000000):Qf Tryz.prog F.f96 #[vFd u,vFd v] H (.bool (decide (xs=ys))) :=
 vc96 ⟨_,zs9 hu hv hl,rfl,Hp.le_refl _⟩

/-! ### One moment -/
def fMo(x:(Int×Int)×Slc):List Value:=[.int .i64 x.1.1,.int .i64 x.1.2,x.2.v]
theorem zuo:∀(x:(Int×Int)×Slc),∀v∈fMo x,v.oneCell'=true:=λx v hv=>by
 simp[fMo] at hv
 rcases hv with rfl|rfl|rfl <;> rfl
structure z1p(H:Hp)(o:Slc)(a:Int×Int)(g:List Pt):Prop where
 mo:∃s:Slc,Rd 3 fMo H o [(a,s)]/\Rd 3 fD H s g
theorem z1p.le{H H':Hp}{o:Slc}{a:Int×Int}{g:List Pt}(p:z1p H o a g)(l:Hp.le H H'):z1p H' o a g:=by
 obtain⟨s,h1,h2⟩:=p.mo
 exact⟨s,h1.le l,h2.le l⟩
abbrev ykr(t:Int×Int)(o:Slc):Value:=.agg #[.int .i64 t.1,.int .i64 t.2,o.v]
theorem yc4{H:Hp}{o s:Slc}{a:Int×Int}(r:Rd 3 fMo H o [(a,s)]):H.at (zrr o.a 3 0)=some (.int .i64 a.1)/\H.at ((zrr o.a 3 0).add 1)=some (.int .i64 a.2)/\H.at ((zrr o.a 3 0).add 2)=some s.v :=
 ⟨r.at0 (by omega) (x:=(a,s)) rfl rfl,r.atj (by omega) (x:=(a,s)) rfl (j:=1) rfl,r.atj (by omega) (x:=(a,s)) rfl (j:=2) rfl⟩
set_option maxHeartbeats 1000000 in
theorem yjy{H:Hp}{o:Slc}{a t:Int×Int}{g:List Pt}(p:z1p H o a g)(og:okF g)(aa:z85 a)(at_:z85 t)(hle:leR a t):Qf Tryz.prog F.f95 #[ykr t o] H (.int .i64 0):=by
 obtain⟨s,r,rs⟩:=p.mo
 have on:(o.n:Int)=1:=by have:=r.len;simp at this;omega
 obtain⟨g1,g2,g3⟩:=yc4 r
 have qf:=zvi rs
 rw[zke.2 og] at qf
 have qc:=yqw (H:=H) aa.1.fit at_.1.fit
 rw[show zng a t=(znm a t,0) from if_pos ⟨aa.1,at_.1⟩] at qc
 have cl:=zns.2 hle
 refine vc95 ?_
 rw[on]
 refine⟨0,λ_=>yqs at_,λh=>by simp at h,λ_=>?_⟩
 refine⟨λn H'=>(n=0\/n=1)/\H'=H,λn _=>(1-n).toNat,⟨.inl rfl,rfl⟩,λn H5 ⟨hn,e⟩=>?_⟩
 subst e
 refine⟨λh=>?_,λ_=>⟨rfl,Hp.le_refl _⟩⟩
 have h:=of_decide_eq_true h
 have:n=0:=by omega
 subst this
 refine⟨r.inS (by omega) (by simp),_,_,s,⟨g1,g2,g3⟩,0,yqs aa,0,λ_=>qf,λh=>by simp at h,λ_=>⟨by unfold inI;omega,λh=>by simp at h,λ_=>⟨_,_,qc,λ_=>by unfold inI;omega,λh=>?_,λ_=>⟨by unfold inI;omega,⟨.inr rfl,rfl⟩,by dsimp only;omega⟩⟩⟩⟩
 simp only[Bool.or_eq_true,Bool.and_eq_true,decide_eq_true_eq] at h
 rcases h with(h|h)|h
 ·simp at h
 ·omega
 ·omega
theorem yk1{H:Hp}{w:Slc}{a:Int×Int}(hw:Rd 3 fD H w [])(aa:z85 a):Go.Eng.Fn Tryz.prog F.f42 #[y9n a w] H λv H'=>∃o:Slc,v=.tuple #[ykr a o,.int .i64 0]/\Hp.le H H'/\z1p H' o a []:=by
 have o0:okF []:=⟨by simp,λp hp=>(by cases hp),List.Pairwise.nil⟩
 refine vc42 ⟨0,yi8 hw o0 aa,λh=>by simp at h,λ_=>(yjz hw (by simp)).mono λv H3 ⟨u,hv,l3,m3⟩=>⟨l3,u,hv,λb5 H6 hb hH=>?_⟩⟩
 have l6:Hp.le H3 H6:=Hp.le_new (Hp.le_refl _) hb hH
 exact⟨⟨some ⟨b5,0,none⟩,1,1⟩,rfl,Hp.le_trans l3 l6,u,yrl (k:=3) (f:=fMo) (λ_=>rfl) hH rfl rfl,m3.rdD.le l6⟩
set_option maxHeartbeats 2000000 in
theorem yk0{H:Hp}{o w:Slc}{a t t':Int×Int}{g g':List Pt}(p:z1p H o a g)(hw:Rd 3 fD H w g')(og:okF g)(og':okF g')(aa:z85 a)(at_:z85 t)(at':z85 t')(h1:leR a t)(h2:leR t t')(hg:g=g'\/a=t') :
  Go.Eng.Fn Tryz.prog F.f44 #[ykr t o,y9n t' w] H λv H'=>∃o':Slc,v=.tuple #[ykr t' o',.int .i64 0]/\Hp.le H H'/\z1p H' o' a g':=by
 have qk:=yjy p og aa at_ h1
 obtain⟨s,r,rs⟩:=p.mo
 have on:(o.n:Int)=1:=by have:=r.len;simp at this;omega
 have qc:=yqw (H:=H) at'.1.fit at_.1.fit
 rw[show zng t' t=(znm t' t,0) from if_pos ⟨at'.1,at_.1⟩] at qc
 have gl:=og.len
 have gl':=og'.len
 refine vc44 ?_
 rw[on]
 refine⟨0,qk,λh=>by simp at h,λ_=>⟨0,yi8 hw og' at',λh=>by simp at h,λ_=>⟨_,_,qc,λh=>?_,λ_=>?_⟩⟩⟩
 ·have h:=of_decide_eq_true h
  exact absurd h2 (znv.1 h)
 refine⟨λn n8 n9 u H'=>n8=t'.1/\n9=t'.2/\Hp.le H H'/\((n=0/\u=⟨none,0,0⟩)\/(n=1/\∃s',Mine 3 fMo T.api_Moment H H' u [(a,s')]/\Rd 3 fD H' s' g)),λn _ _ _ _=>(1-n).toNat,⟨rfl,rfl,Hp.le_refl _,.inl ⟨rfl,rfl⟩⟩,?_⟩
 rintro n n8 n9 u H11 ⟨rfl,rfl,l11,hI⟩
 refine⟨λhn=>?_,λhn=>?_⟩
 ·have hn:=of_decide_eq_true hn
  rcases hI with⟨rfl,rfl⟩|⟨rfl,_⟩
  ·obtain⟨g1,g2,g3⟩:=yc4 (r.le l11)
   refine⟨(r.le l11).inS (by omega) (by simp),_,_,s,⟨g1,g2,g3⟩,(yjz (rs.le l11) (by omega)).mono λv H16 ⟨u17,hv,l16,m16⟩=>⟨l16,u17,hv,λb18 H19 hb hH=>?_⟩⟩
   have e0:Mine 3 fMo T.api_Moment H H16 ⟨none,0,0⟩ []:=.inl ⟨rfl,rfl⟩
   have app:=z78 (k:=3) (f:=fMo) (P:=Tryz.prog) (t:=61) (ty:=61) (cs:=#[false,false]) (bytes:=40) (x:=(a,u17)) (by kernel_rfl) (by decide) (λ_=>rfl) zuo (Hp.le_trans l11 l16) e0 hb hH rfl (by simp) (by omega)
   refine app.mono λv H21 ⟨u22,hv,l21,m21,c21,_⟩=>⟨u22,hv,by unfold inI;omega,⟨rfl,rfl,l21,.inr ⟨rfl,u17,m21,?_⟩⟩,by dsimp only;omega⟩
   have l1621:Hp.le H16 H21:=λc x hc=>by rw[c21 c (by rw[hc];simp) λp hp=>by cases hp];exact hc
   exact m16.rdD.le l1621
  ·omega
 ·have hn:=of_decide_eq_false hn
  rcases hI with⟨rfl,_⟩|⟨rfl,s',ms,rg⟩
  ·omega
  have ru:Rd 3 fMo H11 u [(a,s')]:=Mine.rd (λ_=>rfl) ms
  have un:(u.n:Int)=1:=by have:=ru.len;simp at this;omega
  rw[un]
  obtain⟨g1,g2,g3⟩:=yc4 ru
  have z:((zrr u.a 3 ((1:Int)-1)).add 2).add 0=(zrr u.a 3 0).add 2:=rfl
  refine⟨by unfold inI;omega,ru.inS (by omega) (by simp),s',by rw[z];exact g3,_,yk4 rg (hw.le l11) (by omega),λhe=>?_,λhe=>⟨a.1,a.2,⟨g1,g2⟩,λ_=>?_,λhc=>?_⟩⟩
  ·have he:=of_decide_eq_true he
   subst he
   exact⟨u,rfl,l11,s',ru,rg⟩
  ·refine(yjz (hw.le l11) (by omega)).mono λv H28 ⟨u29,hv,l28,m28⟩=>⟨u29,hv,?_⟩
   have sep:Sep u29 u:=λp q hp hq e=>ms.isOld q hq (by rw[← e];exact m28.isNew p hp)
   refine Mine.setP (k:=3) (f:=fMo) (vs:=[u29.v]) (j:=2) (i:=(1:Int)-1) (y:=(a,u29)) (λ_=>rfl) (ms.le l28) (by omega) (x:=(a,s')) rfl rfl (Nat.le_refl 3) λH30 m30 c30=>?_
   exact⟨u,rfl,Hp.le_chg (Hp.le_trans l11 l28) c30 ms.isNew,u29,Mine.rd (k:=3) (f:=fMo) (λ_=>rfl) m30,(m28.chg c30 sep).rdD⟩
  ·exfalso
   have he:=of_decide_eq_false he
   rcases hg with h|h
   ·exact he h
   ·rw[h] at hc;simp at hc
theorem yc3{H:Hp}{a t:Int×Int}{s:Slc}(aa:okR a)(at_:okR t):QfV Tryz.prog (.func (.func F.f99) #[] #[]) [.agg #[.int .i64 a.1,.int .i64 a.2,s.v],raW t] H (.int .i64 (znm a t)):=by
 have qc:=yqw (H:=H) aa.fit at_.fit
 rw[show zng a t=(znm a t,0) from if_pos ⟨aa,at_⟩] at qc
 exact⟨F.f99,#[],_,rfl,⟨_,Tryz.func99,by kernel_rfl⟩,vc99 ⟨_,_,qc,rfl,Hp.le_refl _⟩⟩
set_option maxHeartbeats 1000000 in
theorem yc5{H:Hp}{o s:Slc}{a t:Int×Int}(r:Rd 3 fMo H o [(a,s)])(aa:okR a)(at_:okR t)(hle:leR a t) :
  Qf Tryz.prog F.f98 #[o.v,raW t,.func (.func F.f99) #[] #[]] H (.tuple #[.int .i64 (if znm a t<0 then 1 else 0),.bool (decide (znm a t=0))]):=by
 have on:(o.n:Int)=1:=by have:=r.len;simp at this;omega
 have q:=yc3 (H:=H) (s:=s) aa at_
 have cl:=zns.2 hle
 obtain⟨g1,g2,g3⟩:=yc4 r
 refine vc98 ?_
 rw[on]
 refine⟨λn m H'=>H'=H/\((n=0/\m=1)\/(n=m/\n=if znm a t<0 then 1 else 0)),λn m _=>(m-n).toNat,⟨rfl,.inl ⟨rfl,rfl⟩⟩,λn m H5 ⟨e,hI⟩=>?_⟩
 subst e
 refine⟨λh=>?_,λh=>?_⟩
 ·have h:=of_decide_eq_true h
  rcases hI with⟨rfl,rfl⟩|⟨e,_⟩
  ·have z:(IntKind.i64.wrap ((x8o (0+1)).fdiv (2 ^ Min.min (Int.toNat 1) IntKind.u64.bits)):Int)=0:=by decide
   rw[z]
   refine⟨by unfold inI;omega,by unfold nn;omega,r.inS (by omega) (by simp),_,_,s,⟨g1,g2,g3⟩,_,q,λhc=>⟨by unfold inI;omega,⟨rfl,.inr ⟨rfl,?_⟩⟩,by dsimp only;omega⟩,λhc=>⟨⟨rfl,.inr ⟨rfl,?_⟩⟩,by dsimp only;omega⟩⟩
   ·rw[if_pos (of_decide_eq_true hc)];rfl
   ·rw[if_neg (of_decide_eq_false hc)]
  ·omega
 ·have h:=of_decide_eq_false h
  rcases hI with⟨rfl,rfl⟩|⟨e,e2⟩
  ·omega
  ·by_cases c:znm a t<0
   ·rw[if_pos c] at e2 ⊢
    subst e2
    exact⟨λh=>by simp at h,0,0,s,λh=>by simp at h,0,λh=>by simp at h,by rw[decide_eq_false (show ¬ znm a t=0 by omega)];rfl,Hp.le_refl _⟩
   ·rw[if_neg c] at e2 ⊢
    subst e2
    exact⟨λ_=>r.inS (by omega) (by simp),_,_,s,λ_=>⟨g1,g2,g3⟩,_,λ_=>q,by rw[decide_eq_true (show znm a t=0 by omega),show (znm a t==0)=true from beq_iff_eq.2 (by omega)];rfl,Hp.le_refl _⟩
set_option maxHeartbeats 1000000 in
theorem yk2{H:Hp}{o:Slc}{a b t:Int×Int}{g:List Pt}(p:z1p H o a g)(og:okF g)(aa:z85 a)(ab:z85 b)(at_:z85 t)(h1:leR a t)(h2:leR t b) :
  Go.Eng.Fn Tryz.prog F.f14 #[ykr b o,raW t] H λv H'=>∃u:Slc,v=.tuple #[u.v,.int .i64 0]/\Hp.le H H'/\RdI H' u (yis g t):=by
 have qk:=yjy p og aa ab (y6v aa.1 at_.1 ab.1 h1 h2)
 obtain⟨s,r,rs⟩:=p.mo
 obtain⟨g1,g2,g3⟩:=yc4 r
 have gl:=og.len
 have qc:=yqw (H:=H) at_.1.fit ab.1.fit
 rw[show zng t b=(znm t b,0) from if_pos ⟨at_.1,ab.1⟩] at qc
 have cl:=zns.2 h1
 have fin:Go.Eng.Fn Tryz.prog F.f94 #[vFd s] H λv8 H9=>∃u10:Slc,v8=vFd u10/\Rd 3 fD H9 u10 g/\Hp.le H H9:=(yjz rs (by omega)).mono λv H9 ⟨u,hv,l,m⟩=>⟨u,hv,m.rdD,l⟩
 have what:Go.Eng.Fn Tryz.prog F.f45 #[ykr b o,raW t] H λv H'=>∃u:Slc,v=.tuple #[vFd u,.int .i64 0]/\Rd 3 fD H' u g/\Hp.le H H':=by
  refine vc45 ⟨0,qk,λh=>by simp at h,λ_=>⟨0,yqs at_,λh=>by simp at h,λ_=>⟨_,_,qc,λh=>?_,λ_=>⟨_,_,yc5 r aa.1 at_.1 h1,λhc=>?_,λhc=>?_⟩⟩⟩⟩
  ·have h:=of_decide_eq_true h
   have:=zns.2 h2
   dsimp only at h;omega
  ·have hc:¬ znm a t=0:=by simpa using hc
   rw[if_pos (show znm a t<0 by omega)]
   refine⟨by unfold inI;omega,λh=>by simp at h,λ_=>⟨r.inS (by omega) (by simp),s,g3,fin.mono λv H9 ⟨u,hv,m,l⟩=>⟨u,hv,u,rfl,m,l⟩⟩⟩
  ·have hc:znm a t=0:=by simpa using hc
   rw[if_neg (show ¬ znm a t<0 by omega)]
   refine⟨λh=>by simp at h,λ_=>⟨r.inS (by omega) (by simp),s,g3,fin.mono λv H9 ⟨u,hv,m,l⟩=>⟨u,hv,u,rfl,m,l⟩⟩⟩
 refine vc14 (what.mono λv H2 ⟨u,hv,ru,l2⟩=>⟨u,0,hv,λh=>by simp at h,λ_=>?_⟩)
 have q:=zvl ru at_.1.fit
 rw[yja og at_.1] at q
 exact q.mono λv H6 ⟨x,hv,l6,m⟩=>⟨x,0,hv,x,rfl,Hp.le_trans l2 l6,m.rdI⟩
set_option maxHeartbeats 2000000 in
theorem yk3{f:List Pt}{a b:Int×Int}(R:z24 f a b){H:Hp}{w l:Slc}(hw:Rd 3 fD H w [])(hl:Rd 7 zud H l (z8b f b)) :
  Go.Eng.Fn Tryz.prog F.f13 #[y9n a w,l.v] H λv H'=>∃(o r:Slc)(L:List Slc)(s:Slc),v=.tuple #[ykr b o,r.v,.int .i64 0]/\Hp.le H H'/\z1p H' o a f/\Rd 6 zur H' r L/\L.length=f.length+1/\L[f.length]?=some s/\s.n=(zae f a b).length:=by
 have few:=R.few
 have ln:(l.n:Int)=f.length+1:=by have:=hl.len;rw[z8e] at this;omega
 have hab:leR a b:=(y6u a b).resolve_right R.lt
 refine vc13 ((yic R hw hl).mono λv H2 ⟨n3,n4,u5,r6,L,s,hv,l2,rL,Ll,hs,hsn⟩=>⟨n3,n4,u5,r6,0,hv,λh=>by simp at h,λ_=>?_⟩)
 refine(yk1 (hw.le l2) R.aa).mono λv H9 ⟨o,hv,l9,p9⟩=>⟨_,_,o,0,hv,?_⟩
 have l29:=Hp.le_trans l2 l9
 rw[ln]
 refine⟨λ_ n n18 n19 u n21 n22 o' H'=>∃k:Nat,n=k/\k<=f.length+1/\(n18,n19)=yg4 f a b k/\(n21,n22)=yg4 f a b k/\Hp.le H9 H'/\Rd 3 fD H' u (f.take k)/\z1p H' o' a (f.take k),
  λ_ n _ _ _ _ _ _ _=>((f.length:Int)+1-n).toNat,⟨0,rfl,by omega,(if_pos (Nat.zero_le _)).symm,(if_pos (Nat.zero_le _)).symm,Hp.le_refl _,hw.le l29,p9⟩,?_⟩
 rintro n16 n n18 n19 u n21 n22 o' H24 ⟨k,rfl,hk,en,em,l24,ru,p24⟩
 have e18:n18=(yg4 f a b k).1:=congrArg Prod.fst en
 have e19:n19=(yg4 f a b k).2:=congrArg Prod.snd en
 have e21:n21=(yg4 f a b k).1:=congrArg Prod.fst em
 have e22:n22=(yg4 f a b k).2:=congrArg Prod.snd em
 subst e18;subst e19;subst e21;subst e22
 refine⟨λhn=>?_,λhn=>?_⟩
 ·have hn:k<=f.length:=by have:=of_decide_eq_true hn;omega
  have hl24:=(hl.le l29).le l24
  have gx:(z8b f b)[k]?=some ((z8b f b).getD k (z7y b)):=by rw[List.getD_eq_getElem?_getD,List.getElem?_eq_getElem (by rw[z8e];omega)];rfl
  have ga:=RdAsk.get (i:=(k:Int)) hl24 (by omega) (by rw[Int.toNat_natCast];exact gx)
  have ms:((f.length:Int)+1-((k:Int)+1)).toNat<((f.length:Int)+1-(k:Int)).toNat:=by omega
  generalize (z8b f b).getD k (z7y b)=x at gx ga
  refine⟨hl24.inS (by omega) (by rw[z8e];omega),_,_,_,_,_,_,_,ga,?_⟩
  refine(yi9 R hn gx ru).mono λv H33 ⟨w2,s2,hv,l33,r33⟩=>⟨_,_,w2,0,0,0,0,0,s2,0,hv,?_⟩
  have n0:yg4 f a b k=a:=if_pos hn
  have le2:leR (yg4 f a b k) (yg4 f a b (k+1)):=by
   rw[n0];unfold yg4;split
   ·exact y6t _
   ·exact hab
  have hg:f.take k=f.take (k+1)\/a=yg4 f a b (k+1):=by
   rcases Nat.lt_or_ge k f.length with h|h
   ·exact .inr (if_pos (by omega)).symm
   ·exact .inl (by rw[List.take_of_length_le h,List.take_of_length_le (by omega)])
  refine(yk0 (p24.le l33) r33 (yh2 R.of k) (yh2 R.of (k+1)) R.aa (R.now k) (R.now (k+1)) (by rw[n0];exact y6t _) le2 hg).mono λv H45 ⟨o2,hv,l45,p45⟩=>⟨_,_,o2,0,hv,λh=>by simp at h,λ_=>⟨by unfold inI;omega,⟨k+1,by omega,by omega,rfl,rfl,Hp.le_trans l24 (Hp.le_trans l33 l45),r33.le l45,p45⟩,ms⟩⟩
 ·have hn:k=f.length+1:=by have:=of_decide_eq_false hn;omega
  subst hn
  have n1:yg4 f a b (f.length+1)=b:=if_neg (by omega)
  rw[List.take_of_length_le (by omega)] at p24
  exact⟨o',r6,L,s,by rw[n1],Hp.le_trans l29 l24,p24,(rL.le l9).le l24,Ll,hs,hsn⟩
end Go.Proofs.YtnhdkkblehadjabGreat
end
