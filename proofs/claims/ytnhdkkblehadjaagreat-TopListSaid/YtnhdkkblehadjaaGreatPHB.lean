/- The engine, parts H6, H7, H8, H9, put together. Conditions: none. -/
import Derived.Test.YtnhdkkblehadjaaGreatPHA
open Go.Addr renaming mk->Qa
open Bool renaming and_eq_true->Qb
open Go.Eng.Hp renaming le->Qc,le_refl->Qd,le_new->Qe,put_same->Qg
open Int renaming toNat_natCast->Qh
open Go.Obj renaming cells->Qi
open Go.Value renaming int->Qj,tuple->Ql,slice->Qm,pointer->Qn
set_option linter.unusedVariables false
set_option maxHeartbeats 8000000
section
set_option maxRecDepth 100000
open Go Go.Eng Go.Proofs
namespace Go.Proofs.YtnhdkkblehadjaaGreat
variable{l:Ls}{H:Hp}{u:Lu}{f:List Pt}{rk:Nat}{p:Pt}
theorem z0e.fin{H0:Hp}{b:Nat}(B:z0e H0 H b u l){Zw:Value->Hp->Prop}(q:Zw (.tuple #[lsV u l,vi 0]) H) :
  ∃n72 n73:Int,∃u74:Slc,∃n75:Int,∃u76 u77 u78 u79 u80 u81 u82:Slc,∃u83:Slc,∃u84:Slc,(H.at ((Qa b 0 none).add 0)=some (vi n72)/\H.at ((Qa b 0 none).add 1)=some (vi n73)/\H.at ((Qa b 0 none).add 2)=some u74.v/\H.at ((Qa b 0 none).add 3)=some (vi n75)/\H.at ((Qa b 0 none).add 4)=some u76.v/\H.at ((Qa b 0 none).add 5)=some u77.v/\H.at ((Qa b 0 none).add 6)=some u78.v/\H.at ((Qa b 0 none).add 7)=some u79.v/\H.at ((Qa b 0 none).add 8)=some u80.v/\H.at ((Qa b 0 none).add 9)=some u81.v/\H.at ((Qa b 0 none).add 10)=some u82.v/\H.at ((Qa b 0 none).add 11)=some u83.v/\H.at ((Qa b 0 none).add 12)=some u84.v) /\
   Zw (.tuple #[vLs n72 n73 u74 n75 u76 u77 u78 u79 u80 u81 u82 u83 u84,vi 0]) H :=
 ⟨_,_,u.k.f,_,u.k.cl,u.k.u1,u.k.u2,u.k.u3,u.k.u4,u.k.u5,u.k.d,u.o,u.n,⟨Cel.at B.box 0,Cel.at B.box 1,Cel.at B.box 2,Cel.at B.box 3,Cel.at B.box 4,Cel.at B.box 5,Cel.at B.box 6,Cel.at B.box 7,Cel.at B.box 8,Cel.at B.box 9,Cel.at B.box 10,Cel.at B.box 11,Cel.at B.box 12⟩,q⟩
section
variable{H0 H:Hp}{b:Nat}{u:Lu}{l:Ls}{Zw:Value->Hp->Prop}
theorem zct{len:Nat}(B:z0e H0 H b u l)(m:Mid l (rk-1) (min (rk+1) len))(hn:l.num.length=len)(hr:rk<=len)
  (hpost:∀(v:Value)(H':Hp)(w:Lu),v=.tuple #[lsV w (yc6 l (rk-1) (min (rk+1) len-(rk-1))).1,vi (yc6 l (rk-1) (min (rk+1) len-(rk-1))).2]->Qc H0 H'->RdL H' w (yc6 l (rk-1) (min (rk+1) len-(rk-1))).1->Zw v H') :
  inI ((rk:Int)-1)/\∀(b67:Nat)(H68:Hp),H b67=none->H68=H.put b67 (.cells #[vi ((rk:Int)-1),vi (rk:Int)] 3 (0,0))->fN F.f105 #[.pointer (some ⟨b,0,none⟩),.slice (some ⟨b67,0,none⟩) 2 2] H68 λv69 H70=>∃n71:Int,v69=vi n71 /\
   ((n71 != 0)=true->Zw (.tuple #[vLs 0 0 zs 0 zs zs zs zs zs zs zs zs zs,vi n71]) H70)/\((n71 != 0)=false ->
   ∃n72 n73:Int,∃u74:Slc,∃n75:Int,∃u76 u77 u78 u79 u80 u81 u82:Slc,∃u83:Slc,∃u84:Slc,(H70.at ((Qa b 0 none).add 0)=some (vi n72)/\H70.at ((Qa b 0 none).add 1)=some (vi n73)/\H70.at ((Qa b 0 none).add 2)=some u74.v/\H70.at ((Qa b 0 none).add 3)=some (vi n75)/\H70.at ((Qa b 0 none).add 4)=some u76.v/\H70.at ((Qa b 0 none).add 5)=some u77.v/\H70.at ((Qa b 0 none).add 6)=some u78.v/\H70.at ((Qa b 0 none).add 7)=some u79.v/\H70.at ((Qa b 0 none).add 8)=some u80.v/\H70.at ((Qa b 0 none).add 9)=some u81.v/\H70.at ((Qa b 0 none).add 10)=some u82.v/\H70.at ((Qa b 0 none).add 11)=some u83.v/\H70.at ((Qa b 0 none).add 12)=some u84.v) /\
    Zw (.tuple #[vLs n72 n73 u74 n75 u76 u77 u78 u79 u80 u81 u82 u83 u84,vi 0]) H70):=by
 have sm:=m.small;have nl:=m.nl;refine⟨by unfold inI;omega,λb67 H68 hb67 hH68=>?_⟩;have l68:Qc H H68:=Qe (Qd _) hb67 hH68;have B68:=B.up l68;have rw67:RdI H68 ⟨some ⟨b67,0,none⟩,2,2⟩ [(rk:Int)-1,(rk:Int)]:=yva (k:=1) (f:=fI) (λ_=>rfl) hH68 rfl rfl;have np:=B.notProt hb67;obtain⟨e,good⟩:=zci m hn hr;refine(zd6 B68 rw67 (λp hp e=>by cases hp;exact np (.inl e)) (λp q hp hq e=>by cases hp;exact np (.inr (.inr ⟨q,hq,e.symm⟩))) (by simp) good).mono λv H70 ⟨hv,l70,hok⟩=>⟨_,hv,λhe=>?_,λhe=>?_⟩
 ·rw[e] at he ⊢;have he:(yc6 l (rk-1) (min (rk+1) len-(rk-1))).2≠0:=by simpa using he
  have hz:=yca _ he;exact hpost _ _ zlu (by rw[hz];rfl) l70 (by rw[hz];exact RdL.zero)
 ·rw[e] at he hok;have he:(yc6 l (rk-1) (min (rk+1) len-(rk-1))).2=0:=by simpa using he
  obtain⟨w,B70⟩:=hok he;exact B70.fin (hpost _ _ ⟨w,u.o,u.n⟩ (by rw[he]) B70.le B70.rd)
theorem ytm{c:Ck}{ln:Nat}{x:Int}(B:z0e H0 H b u ⟨c,l.ord,l.num⟩)(eln:ln=l.ord.length)(enl:l.num.length=ln-1)
    (m:Mid ⟨c,y6j l.ord rk x,if ln=0 then l.num else y6j l.num (min rk (ln-1)) 0⟩ (rk-1) (min (rk+1) ln)) (hn:(if ln=0 then l.num else y6j l.num (min rk (ln-1)) 0).length=ln) (hr:rk<=ln) (hs:ln<=100)
    (hpost:∀(v:Value)(H':Hp)(w:Lu),v=.tuple #[lsV w (yc6 ⟨c,y6j l.ord rk x,if ln=0 then l.num else y6j l.num (min rk (ln-1)) 0⟩ (rk-1) (min (rk+1) ln-(rk-1))).1,vi (yc6 ⟨c,y6j l.ord rk x,if ln=0 then l.num else y6j l.num (min rk (ln-1)) 0⟩ (rk-1) (min (rk+1) ln-(rk-1))).2]->Qc H0 H'->RdL H' w (yc6 ⟨c,y6j l.ord rk x,if ln=0 then l.num else y6j l.num (min rk (ln-1)) 0⟩ (rk-1) (min (rk+1) ln-(rk-1))).1->Zw v H') :
     (decide ((ln:Int)>0)=true->∃u53:Slc,H.at (((Qa b 0 none).add 12).add 0)=some u53.v/\inI ((ln:Int)-1)/\∀(b54:Nat)(H55:Hp),H b54=none->H55=H.put b54 (Qi #[vi 0] 3)->fN F.f161 #[u53.v,vi (if (ln :
      Int)-1<(rk:Int) then (ln:Int)-1 else (rk:Int)),Qm (some (Qa b54 0 none)) 1 1] H55 λ(v56:Value) (H57:Hp)=>∃u58:Slc,v56=u58.v/\H57.canStore ((Qa b 0 none).add 12) 0 [u58.v]/\∀(H59:Hp),H59=H57.store ((Qa b 0 none).add 12) 0 [u58.v]->∃
      u60:Slc,H59.at (((Qa b 0 none).add 11).add 0)=some u60.v/\∀(b61:Nat)(H62:Hp),H59 b61=none->H62=H59.put b61 (Qi #[vi x] 3)->fN F.f161 #[u60.v,vi (rk:Int),Qm (some (Qa b61 0 none)) 1 1] H62
      λ(v63:Value) (H64:Hp)=>∃u65:Slc,v63=u65.v/\H64.canStore ((Qa b 0 none).add 11) 0 [u65.v]/\∀(H66:Hp),H66=H64.store ((Qa b 0 none).add 11) 0 [u65.v]->inI ((rk:Int)-1)/\∀(b67:Nat)(H68:Hp),H66 b67=none->H68=H66.put b67 (Qi #[Qj .i64
      ((rk:Int)-1),vi (rk:Int)] 3)->fN F.f105 #[Qn (some ⟨b,0,none⟩),Qm (some (Qa b67 0 none)) 2 2] H68 λ(v69:Value) (H70:Hp)=>∃n71:Int,v69=vi n71/\((n71 != 0)=true->Zw (Ql #[(vLs 0 0
      zs 0 zs zs zs zs zs zs zs zs zs),vi n71]) H70)/\((n71 != 0)=false->∃n72 n73:Int,∃u74:Slc,∃n75:Int,∃u76 u77 u78 u79 u80 u81 u82:Slc,∃(u83:Slc),∃u84:Slc,(H70.at ((Qa b 0 none).add 0)=some (vi n72)/\H70.at ((Qa b 0 none).add 1) =
      some (vi n73)/\H70.at ((Qa b 0 none).add 2)=some u74.v/\H70.at ((Qa b 0 none).add 3)=some (vi n75)/\H70.at ((Qa b 0 none).add 4)=some u76.v/\H70.at ((Qa b 0 none).add 5)=some u77.v/\H70.at ((Qa b 0 none).add 6)=some u78.v/\H70.at
      ((Qa b 0 none).add 7)=some u79.v/\H70.at ((Qa b 0 none).add 8)=some u80.v/\H70.at ((Qa b 0 none).add 9)=some u81.v/\H70.at ((Qa b 0 none).add 10)=some u82.v/\H70.at ((Qa b 0 none).add 11)=some u83.v/\H70.at ((Qa b 0 none).add 12)=some u84.v)/\Zw
      (Ql #[(vLs n72 n73 u74 n75 u76 u77 u78 u79 u80 u81 u82 u83 u84),vi 0]) H70))/\(decide ((ln:Int)>0)=false->∃u85:Slc,H.at (((Qa b 0 none).add 11).add 0)=some u85.v/\∀(b86:Nat)(H87:Hp),H b86=none->H87=H.put b86 (Qi #[vi x] 3)
      -> fN F.f161 #[u85.v,vi (rk:Int),Qm (some (Qa b86 0 none)) 1 1] H87 λ(v88:Value) (H89:Hp)=>∃u90:Slc,v88=u90.v/\H89.canStore ((Qa b 0 none).add 11) 0 [u90.v]/\∀(H91:Hp),H91=H89.store ((Qa b 0
      none).add 11) 0 [u90.v]->inI ((rk:Int)-1)/\∀(b92:Nat)(H93:Hp),H91 b92=none->H93=H91.put b92 (Qi #[vi ((rk:Int)-1),vi (rk:Int)] 3)->fN F.f105 #[Qn (some ⟨b,0,none⟩),Qm (some (Qa b92 0
      none)) 2 2] H93 λ(v94:Value) (H95:Hp)=>∃n96:Int,v94=vi n96/\((n96 != 0)=true->Zw (Ql #[(vLs 0 0 zs 0 zs zs zs zs zs zs zs zs zs),vi n96]) H95)/\((n96 != 0)=false->∃n97 n98:Int,∃u99:Slc,∃n100:Int,∃u101 u102 u103 u104 u105
      u106 u107 u108:Slc,∃(u109:Slc),(H95.at ((Qa b 0 none).add 0)=some (vi n97)/\H95.at ((Qa b 0 none).add 1)=some (vi n98)/\H95.at ((Qa b 0 none).add 2)=some u99.v/\H95.at ((Qa b 0 none).add 3)=some (vi n100)/\H95.at
      ((Qa b 0 none).add 4)=some u101.v/\H95.at ((Qa b 0 none).add 5)=some u102.v/\H95.at ((Qa b 0 none).add 6)=some u103.v/\H95.at ((Qa b 0 none).add 7)=some u104.v/\H95.at ((Qa b 0 none).add 8)=some u105.v/\H95.at ((Qa b 0 none).add 9)=some u106.v /\
      H95.at ((Qa b 0 none).add 10)=some u107.v/\H95.at ((Qa b 0 none).add 11)=some u108.v/\H95.at ((Qa b 0 none).add 12)=some u109.v)/\Zw (Ql #[(vLs n97 n98 u99 n100 u101 u102 u103 u104 u105 u106 u107 u108 u109),vi 0]) H95)):=by
  have ordPart:∀{H:Hp}{u:Lu}{n':List Int},n'=(if ln=0 then l.num else y6j l.num (min rk (ln-1)) 0)->z0e H0 H b u ⟨c,l.ord,n'⟩->∀(b61:Nat)(H62:Hp),H b61=none->H62=H.put b61 (.cells #[vi x] 3 (0,0)) ->
      fN F.f161 #[u.o.v,vi (rk:Int),.slice (some ⟨b61,0,none⟩) 1 1] H62 λv63 H64=>∃u65:Slc,v63=u65.v/\H64.canStore ((Qa b 0 none).add 11) 0 [u65.v]/\∀H66,H66=H64.store ((Qa b 0 none).add 11) 0 [u65.v] ->
        z0e H0 H66 b ⟨u.k,u65,u.n⟩ ⟨c,y6j l.ord rk x,if ln=0 then l.num else y6j l.num (min rk (ln-1)) 0⟩:=by
    intro H u n' en B b61 H62 hb61 hH62;subst en;have l62:Qc H H62:=Qe (Qd _) hb61 hH62;have B62:=B.up l62;have np:=B.notProt hb61;refine(y6s (x:=x) B62.le B62.o (i:=(rk:Int)) (by omega) (by show (rk:Int)<=l.ord.length;omega) (by show l.ord.length<=_;omega) (by rw[hH62];exact Qg _ _ _) (λp hp e=>np (.inr (.inl ⟨p,hp,e⟩)))).mono λv H64 ⟨w,hv,l64,m64,ch,ex⟩=>⟨w,hv,?_⟩
    rw[Qh] at m64;exact B62.newO l64 m64 ch ex λH' B' _=>B'
  refine⟨λhc=>?_,λhc=>?_⟩
  · have hc:0<ln:=by have:(ln:Int)>0:=by simpa using hc
                     omega
    refine⟨u.n,Cel.at B.box 12,by unfold inI;omega,λb54 H55 hb54 hH55=>?_⟩;have l55:Qc H H55:=Qe (Qd _) hb54 hH55;have B55:=B.up l55;have np:=B.notProt hb54;have emin:(if (ln:Int)-1<(rk:Int) then (ln:Int)-1 else (rk:Int))=((min rk (ln-1):Nat):Int):=by split <;> omega
    rw[emin];refine(y6s (x:=0) B55.le B55.n (i:=((min rk (ln-1):Nat):Int)) (by omega) (by show ((min rk (ln-1):Nat):Int)<=l.num.length;omega) (by show l.num.length<=_;omega) (by rw[hH55];exact Qg _ _ _) (λp hp e=>np (.inr (.inr ⟨p,hp,e⟩)))).mono λv H57 ⟨w,hv,l57,m57,ch,ex⟩=>⟨w,hv,?_⟩
    rw[Qh] at m57;refine B55.newN l57 m57 ch ex λH59 B59 _=>⟨u.o,Cel.at B59.box 11,λb61 H62 hb61 hH62=>?_⟩
    refine(ordPart (by rw[Zn (by omega)]) B59 b61 H62 hb61 hH62).mono λv H64 ⟨w2,hv,can,st⟩=>⟨w2,hv,can,λH66 e66=>?_⟩
    exact zct (st H66 e66) m hn hr hpost
  · have hc:ln=0:=by have:¬ (ln:Int)>0:=by simpa using hc
                     omega
    refine⟨u.o,Cel.at B.box 11,λb61 H62 hb61 hH62=>?_⟩;refine(ordPart (n':=l.num) (by rw[Zp hc]) B b61 H62 hb61 hH62).mono λv H64 ⟨w2,hv,can,st⟩=>⟨w2,hv,can,λH66 e66=>?_⟩
    exact zct (st H66 e66) m hn hr hpost
end
theorem z6t(ok:yk9 l)(of:okF f)(kn:y8l l.ck.ct f=true):z6s l.ck f=z6x l.ck f:=by
 unfold z6s;rw[Zp ok.ck,Zp (zlh.2 of),Zp kn]
theorem y8o(ok:yk9 l)(p:Pt):y8l l.ck.ct (y6b l.ck.f p)=true:=y8p λx hm=>by
 obtain⟨a,b⟩:=y8n ok.ck.known hm;have key:∀id,0<=yr5 l.ck.f id->0<=yr5 (y6b l.ck.f p) id:=λid h=>yr7.2 (((y6e l.ck.f p).map _).mem_iff.2 (List.mem_cons_of_mem _ (yr7.1 h)))
 exact⟨key _ a,key _ b⟩
theorem y9x(r:RdL H u l)(ok:yk9 l)(op:okP p) :
  fN F.f99 #[lsV u l,.agg #[vi p.1,vi p.2.1,vi p.2.2]] H λv H'=>∃w:Lu,v=.tuple #[lsV w (yt7 l p).1,vi (yt7 l p).2]/\Qc H H'/\RdL H' w (yt7 l p).1:=by
 have fl:=ok.fit;refine vc99 ((zxu (p:=p) r.k.f).mono λv H2 ⟨u3,hv,l2,rf⟩=>⟨u3,_,hv,λhe=>?_,λhe=>?_⟩)
 ·have he:(putF l.ck.f p).2≠0:=by simpa using he
  unfold yt7;rw[Zp he];exact⟨zlu,rfl,l2,RdL.zero⟩
 have he:(putF l.ck.f p).2=0:=by simpa using he
 obtain⟨_,hn,hl,ef⟩:=ytq ok he;have P:=yth ok op hn hl;rw[ef] at rf;have r2:=r.le l2;refine⟨_,y9z r2 ok op,(y9v r2 fl).mono λv H7 ⟨b,so,sn,hv,B⟩=>⟨⟨b,0,none⟩,hv,?_⟩⟩;have q:=Go.Eng.Fn.frame (zmn (f:=y6b l.ck.f p) r2.k fl.k rf) B.le;have ea:z6s l.ck (y6b l.ck.f p)=z6x l.ck (y6b l.ck.f p):=z6t ok (yk3 ok.ck.f op hn hl) (y8o ok p);rw[ea] at q;refine q.mono λv H10 ⟨G,⟨z,hv,lG,rG⟩,g1,g2,g3⟩=>⟨_,_,z.f,_,z.cl,z.u1,z.u2,z.u3,z.u4,z.u5,z.d,_,hv,?_⟩
 refine B.clockG (g3 lG) g1 (λx hx=>g2 x (B.fresh x hx) (B.used x hx)) rG λH23 B23=>⟨λhe=>?_,λhe=>?_⟩
 ·have he2:(z6x l.ck (y6b l.ck.f p)).2≠0:=by simpa using he
  exact absurd P.calm.z he2
 have w:=ok.weak;have nl:=ok.nl;have rk:=P.rk;have hle:=ok.weak.fit.o;have lo:so.n=l.ord.length:=B23.o.rdI.len;have ln:sn.n=l.num.length:=B23.n.rdI.len;have fin:∀(v:Value)(H':Hp)(w:Lu),v=.tuple #[lsV w (yc6 (ytl l p) (rkI l p-1) (min (rkI l p+1) l.ord.length-(rkI l p-1))).1,vi (yc6 (ytl l p) (rkI l p-1) (min (rkI l p+1) l.ord.length-(rkI l p-1))).2]->Qc H2 H'->RdL H' w (yc6 (ytl l p) (rkI l p-1) (min (rkI l p+1) l.ord.length-(rkI l p-1))).1 ->
   ∃w:Lu,v=.tuple #[lsV w (yt7 l p).1,vi (yt7 l p).2]/\Qc H H'/\RdL H' w (yt7 l p).1:=λv H' w hv lH hr=>by
  have e:yt7 l p=yc6 (ytl l p) (rkI l p-1) (min (rkI l p+1) l.ord.length-(rkI l p-1)):=by
   unfold yt7;rw[Zn (by rw[‹(putF l.ck.f p).2=0›];simp),Zn (by rw[P.calm.z];simp)]
  rw[e];exact⟨w,hv,Hp.le_trans l2 lH,hr⟩
 have hlen:=ok.len;have hsm:=ok.ck.f.len;refine⟨so,Cel.at B23.box 11,λhc=>?_,λhc=>?_⟩
 ·have hc:0<rkI l p/\rkI l p<l.ord.length:=by
   rw[lo] at hc;simp only[Qb,Zq] at hc;omega
  have bx:=B23.box;have bn:RdI H23 sn l.num:=B23.n.rdI;refine⟨_,_,z.f,_,z.cl,z.u1,z.u2,z.u3,z.u4,z.u5,z.d,⟨Cel.at bx 0,Cel.at bx 1,Cel.at bx 2,Cel.at bx 3,Cel.at bx 4,Cel.at bx 5,Cel.at bx 6,Cel.at bx 7,Cel.at bx 8,Cel.at bx 9,Cel.at bx 10⟩,sn,Cel.at bx 12,by unfold inI;omega,bn.inS (by omega) (by omega),_,RdI.get bn (by omega) (by omega),?_⟩;rw[show ((rkI l p:Int)-1).toNat=rkI l p-1 by omega];have hh:=P.held hc.1 hc.2;refine B23.retire (n:=l.num.getD (rkI l p-1) 0) ⟨P.calm.ok.fit,fl.o,fl.n⟩ P.calm.ok hh (rs:=⟨none,0,0⟩) (xs:=[]) Rd.nil (λp hp=>by cases hp) λw3 H52 B52 _=>?_
  have es:ytl l p=⟨y3q (z6x l.ck (y6b l.ck.f p)).1 (l.num.getD (rkI l p-1) 0),y6j l.ord (rkI l p) p.1,if l.ord.length=0 then l.num else y6j l.num (min (rkI l p) (l.ord.length-1)) 0⟩:=by
   unfold ytl goneIf;rw[Zp (by simp only[Qb,Zq];exact hc)]
  have pm:=P.mid;have pn:=P.nlen;rw[es] at pm pn fin;exact ytm B52 lo (by rw[lo];omega) (by rw[lo];exact pm) (by rw[lo];exact pn) (by rw[lo];omega) (by omega) (by rw[lo];exact fin)
 ·have hc:¬ (0<rkI l p/\rkI l p<l.ord.length):=λh=>by
   rw[lo] at hc;have:(decide ((rkI l p:Int)>0)&&decide ((rkI l p:Int)<(l.ord.length:Int)))=true:=by simp only[Qb,Zq];omega
   rw[this] at hc;cases hc
  have es:ytl l p=⟨(z6x l.ck (y6b l.ck.f p)).1,y6j l.ord (rkI l p) p.1,if l.ord.length=0 then l.num else y6j l.num (min (rkI l p) (l.ord.length-1)) 0⟩:=by
   unfold ytl goneIf;rw[Zn (by simp only[Qb,Zq];exact hc)]
  have pm:=P.mid;have pn:=P.nlen;rw[es] at pm pn fin;exact ytm B23 lo (by rw[lo];omega) (by rw[lo];exact pm) (by rw[lo];exact pn) (by rw[lo];omega) (by omega) (by rw[lo];exact fin)
section
variable{H0 H:Hp}{b:Nat}{u:Lu}{l:Ls}{Zw:Value->Hp->Prop}
theorem z0e.alter(B:z0e H0 H b u l)(fk:zze l.ck){w:Slc}{G1:Hp}(g1:Qc G1 H)(g2:∀x,ysh b u.o u.n x->G1 x=none)(g3:Rd 3 fD G1 w f) :
  fN F.f104 #[ckV u.k l.ck,vFd w] H λv H'=>Qc H H'/\∃z:Cu,v=.tuple #[ckV z (z6s l.ck f).1,vi (z6s l.ck f).2]/\∃G,Qc G H'/\(∀x,ysh b u.o u.n x->G x=none)/\RdK G z (z6s l.ck f).1:=by
 obtain⟨G,k1,k2,k3⟩:=B.k;have up:∀{G:Hp},Qc G H->(∀x,ysh b u.o u.n x->G x=none)->Qc G (hideP (ysh b u.o u.n) H):=λ{G} h1 h2 x o hx=>by
  rw[y4u (λh=>by rw[h2 x h] at hx;cases hx)];exact h1 x o hx
 refine(Fn.frame (zmn (k3.le (up k1 k2)) fk (g3.le (up g1 g2))) (y4t (ysh b u.o u.n) H)).mono λv H' ⟨G2,⟨z,hv,lG,rG⟩,h1,h2,h3⟩=>⟨h3 lG,z,hv,G2,h1,λx hx=>h2 x (y4s hx) (B.used x hx),rG⟩
theorem x7y{fs:Slc}{i:Nat}{id:Int}(B:z0e H0 H b u l)(fl:zzh l)(hf:Rd 3 fD H0 fs f)(of:okF f)(hp:0<=yr5 f id)(ea:z6s l.ck (yme f id)=z6x l.ck (yme f id))(hz:(z6x l.ck (yme f id)).2=0)
    (m:Mid ⟨(z6x l.ck (yme f id)).1,l.ord,l.num⟩ (i-1) (i-1+if 0<i/\i<l.ord.length then 1 else 0)) (hi:i<=l.ord.length)
    (hpost:∀(v:Value)(H':Hp)(w:Lu)(r:Ls×Int),r=(if 0<i/\i<l.ord.length then yby ⟨(z6x l.ck (yme f id)).1,l.ord,l.num⟩ (i-1) else (⟨(z6x l.ck (yme f id)).1,l.ord,l.num⟩,0))->v=.tuple #[lsV w r.1,vi r.2]->Qc H0 H'->RdL H' w r.1->Zw v H') :
     fN F.f103 #[(vFd fs),vi id] H λ(v51:Value) (H52:Hp)=>∃u53:Slc,∃n54:Int,v51=Ql #[(vFd u53),vi n54]/\∃n55 n56:Int,∃u57:Slc,∃n58:Int,∃u59 u60 u61 u62 u63 u64 u65:Slc,(H52.at (((Qa b 0 none).add 0).add 0)
      = some (vi n55)/\H52.at (((Qa b 0 none).add 0).add 1)=some (vi n56)/\H52.at (((Qa b 0 none).add 0).add 2)=some u57.v/\H52.at (((Qa b 0 none).add 0).add 3)=some (vi n58)/\H52.at (((Qa b 0 none).add 0).add 4)=some u59.v/\H52.at
      (((Qa b 0 none).add 0).add 5)=some u60.v/\H52.at (((Qa b 0 none).add 0).add 6)=some u61.v/\H52.at (((Qa b 0 none).add 0).add 7)=some u62.v/\H52.at (((Qa b 0 none).add 0).add 8)=some u63.v/\H52.at (((Qa b 0 none).add 0).add 9)=some u64.v/\H52.at (((Qa
      b 0 none).add 0).add 10)=some u65.v)/\fN F.f104 #[(vCk n55 n56 u57 n58 u59 u60 u61 u62 u63 u64 u65),(vFd u53)] H52 λ(v66:Value) (H67:Hp)=>H52.le H67/\∃n68 n69:Int,∃u70:Slc,∃n71:Int,∃u72 u73 u74 u75 u76 u77 u78:Slc,∃n79:Int,v66 =
      Ql #[(vCk n68 n69 u70 n71 u72 u73 u74 u75 u76 u77 u78),vi n79]/\H67.canStore ((Qa b 0 none).add 0) 0 [vi n68,vi n69,u70.v,vi n71,u72.v,u73.v,u74.v,u75.v,u76.v,u77.v,u78.v]/\∀(H80:Hp),H80=H67.store ((Qa b 0
      none).add 0) 0 [vi n68,vi n69,u70.v,vi n71,u72.v,u73.v,u74.v,u75.v,u76.v,u77.v,u78.v]->((n79 != 0)=true->Zw (Ql #[(vLs 0 0 zs 0 zs zs zs zs zs zs zs zs zs),vi n79]) H80)/\((n79 != 0)=false->∃u81:Slc,(decide ((i :
      Int)>0)=true->H80.at (((Qa b 0 none).add 11).add 0)=some u81.v)/\((decide ((i:Int)>0)&&decide ((i:Int)<(u81.n:Int)))=true->inI ((i:Int)-1)/\∀(b82:Nat)(H83:Hp),H80 b82=none->H83=H80.put b82 (Qi #[vi ((i:Int)-1)] 3)->Go.Eng.Fn
      Tryz.prog F.f105 #[Qn (some ⟨b,0,none⟩),Qm (some (Qa b82 0 none)) 1 1] H83 λ(v84:Value) (H85:Hp)=>∃n86:Int,v84=vi n86/\((n86 != 0)=true->Zw (Ql #[(vLs 0 0 zs 0 zs zs zs zs zs zs zs zs zs),vi n86]) H85) /\
      ((n86 != 0)=false->∃n87 n88:Int,∃u89:Slc,∃n90:Int,∃u91 u92 u93:Slc,∃(u94:Slc),∃u95 u96 u97 u98 u99:Slc,(H85.at ((Qa b 0 none).add 0)=some (vi n87)/\H85.at ((Qa b 0 none).add 1)=some (vi n88)/\H85.at ((Qa b 0 none).add 2) =
      some u89.v/\H85.at ((Qa b 0 none).add 3)=some (vi n90)/\H85.at ((Qa b 0 none).add 4)=some u91.v/\H85.at ((Qa b 0 none).add 5)=some u92.v/\H85.at ((Qa b 0 none).add 6)=some u93.v/\H85.at ((Qa b 0 none).add 7)=some u94.v/\H85.at ((Qa b 0
      none).add 8)=some u95.v/\H85.at ((Qa b 0 none).add 9)=some u96.v/\H85.at ((Qa b 0 none).add 10)=some u97.v/\H85.at ((Qa b 0 none).add 11)=some u98.v/\H85.at ((Qa b 0 none).add 12)=some u99.v)/\Zw (Ql #[Value.agg #[vi n87,
      vi n88,u89.v,vi n90,u91.v,u92.v,u93.v,u94.v,u95.v,u96.v,u97.v,u98.v,u99.v],vi 0]) H85))/\((decide ((i:Int)>0)&&decide ((i:Int)<(u81.n:Int)))=false->∃n100 n101:Int,∃u102:Slc,∃n103:Int,∃u104 u105 u106 u107 u108 u109
      u110 u111 u112:Slc,(H80.at ((Qa b 0 none).add 0)=some (vi n100)/\H80.at ((Qa b 0 none).add 1)=some (vi n101)/\H80.at ((Qa b 0 none).add 2)=some u102.v/\H80.at ((Qa b 0 none).add 3)=some (vi n103)/\H80.at ((Qa b 0
      none).add 4)=some u104.v/\H80.at ((Qa b 0 none).add 5)=some u105.v/\H80.at ((Qa b 0 none).add 6)=some u106.v/\H80.at ((Qa b 0 none).add 7)=some u107.v/\H80.at ((Qa b 0 none).add 8)=some u108.v/\H80.at ((Qa b 0 none).add 9)=some u109.v/\H80.at ((Qa
      b 0 none).add 10)=some u110.v/\H80.at ((Qa b 0 none).add 11)=some u111.v/\H80.at ((Qa b 0 none).add 12)=some u112.v)/\Zw (Ql #[(vLs n100 n101 u102 n103 u104 u105 u106 u107 u108 u109 u110 u111 u112),vi 0]) H80)):=by
  have et:x7m f id=(yme f id,0):=by
    unfold x7m;rw[Zn (by rw[zlh.2 of];simp),Zn (by omega)]
  refine(Fn.frame (zxw (id:=id) hf) B.le).mono λv H52 ⟨G1,⟨w,hv,lG,rG⟩,h1,h2,h3⟩=>?_
  rw[et] at hv rG;have l52:Qc H H52:=h3 lG;have B52:=B.up l52;have bx:=B52.box;refine⟨w,0,hv,_,_,u.k.f,_,u.k.cl,u.k.u1,u.k.u2,u.k.u3,u.k.u4,u.k.u5,u.k.d,⟨Cel.at bx 0,Cel.at bx 1,Cel.at bx 2,Cel.at bx 3,Cel.at bx 4,Cel.at bx 5,Cel.at bx 6,Cel.at bx 7,Cel.at bx 8,Cel.at bx 9,Cel.at bx 10⟩,?_⟩;have q:=B52.alter fl.k h1 (λx hx=>h2 x (B.fresh x hx) (B.used x hx)) rG;rw[ea] at q;refine q.mono λv H67 ⟨l67,z,hv,G,k1,k2,k3⟩=>⟨l67,_,_,z.f,_,z.cl,z.u1,z.u2,z.u3,z.u4,z.u5,z.d,_,hv,?_⟩
  refine B52.clockG l67 k1 k2 k3 λH80 B80=>⟨λhe=>absurd hz (by simpa using he),λ_=>?_⟩
  have lo:(u.o.n:Int)=l.ord.length:=congrArg Nat.cast (show u.o.n=_ from B80.o.rdI.len);have sm:=m.small;have sm:l.ord.length<=64:=sm;have nl:l.num.length=l.ord.length-1:=m.nl;refine⟨u.o,λ_=>Cel.at B80.box 11,?_⟩;rw[lo];refine⟨λhc=>?_,λhc=>?_⟩
  · have hc:0<i/\i<l.ord.length:=by simp only[Qb,Zq] at hc;omega
    rw[Zp hc] at m;have fine:=m.fine (i:=i-1) (by show i-1<l.num.length;omega);refine⟨by unfold inI;omega,λb82 H83 hb82 hH83=>?_⟩;have l83:Qc H80 H83:=Qe (Qd _) hb82 hH83;have B83:=B80.up l83;have rw82:RdI H83 ⟨some ⟨b82,0,none⟩,1,1⟩ [(i:Int)-1]:=yva (k:=1) (f:=fI) (λ_=>rfl) hH83 rfl rfl;have np:=B80.notProt hb82;have e1:zcf ⟨(z6x l.ck (yme f id)).1,l.ord,l.num⟩ [(i:Int)-1]=yby ⟨(z6x l.ck (yme f id)).1,l.ord,l.num⟩ (i-1):=by
      show zcs (_,0) _=_;unfold zcs;rw[Zn (by simp),Zp (by show 0<=(i:Int)-1/\(i:Int)-1<l.num.length;omega),show ((i:Int)-1).toNat=i-1 by omega]
    refine(zd6 B83 rw82 (λp hp e=>by cases hp;exact np (.inl e)) (λp q hp hq e=>by cases hp;exact np (.inr (.inr ⟨q,hq,e.symm⟩))) (by simp) (λk x hk _ _ _=>?_)).mono λv H85 ⟨hv,l85,hok⟩=>⟨_,hv,λhe=>?_,λhe=>?_⟩
    · match k,hk with
      | 0,hk =>
        have:x=(i:Int)-1:=by simpa using hk.symm
        subst this;rw[show ((i:Int)-1).toNat=i-1 by omega];exact fine
      | k+1,hk=>simp at hk
    · rw[e1] at he ⊢
      have he:(yby ⟨(z6x l.ck (yme f id)).1,l.ord,l.num⟩ (i-1)).2≠0:=by simpa using he
      have hz:=yc0 he;exact hpost _ _ zlu _ (by rw[Zp hc]) (by rw[hz];rfl) l85 (by rw[hz];exact RdL.zero)
    · rw[e1] at he hok
      have he:(yby ⟨(z6x l.ck (yme f id)).1,l.ord,l.num⟩ (i-1)).2=0:=by simpa using he
      obtain⟨w2,B85⟩:=hok he;exact B85.fin (hpost _ _ ⟨w2,u.o,u.n⟩ _ (by rw[Zp hc]) (by rw[he]) B85.le B85.rd)
  · have hc:¬ (0<i/\i<l.ord.length):=λh=>by
      have:(decide ((i:Int)>0)&&decide ((i:Int)<(l.ord.length:Int)))=true:=by simp only[Qb,Zq];omega
      rw[this] at hc;cases hc
    exact B80.fin (hpost _ _ ⟨z,u.o,u.n⟩ _ (by rw[Zn hc]) rfl B80.le B80.rd)
end
def x5q(l:Ls)(i:Nat)(n:Int):Ck:=if n=0 then l.ck else if n=1 then goneIf l.ck (decide (0<i)) (l.num.getD (i-1) 0) else goneIf (goneIf l.ck (decide (0<i)) (l.num.getD (i-1) 0)) (decide (i<l.num.length)) (l.num.getD i 0)
theorem y9y{id:Int}(r:RdL H u l)(fl:zzh l) :
  fN F.f52 #[lsV u l,vi id] H λv H'=>∃w:Lu,v=.tuple #[lsV w (x7q l id).1,vi (x7q l id).2]/\Qc H H'/\RdL H' w (x7q l id).1:=by
 have qr:=y7t (id:=id) r fl;unfold y7u at qr;by_cases ok:yk9 l
 rotate_left
 ·rw[Zn ok] at qr;have e:x7q l id=(.zero,8):=by unfold x7q;rw[Zn ok]
  rw[e];exact vc52 ⟨_,_,qr,λ_=>⟨zlu,rfl,Qd _,RdL.zero⟩,λh=>by simp at h⟩
 rw[Zp ok] at qr;by_cases h0:yrt l.ord id<0
 ·rw[Zp h0] at qr;have e:x7q l id=(.zero,6):=by unfold x7q;rw[Zp ok,Zp h0]
  rw[e];exact vc52 ⟨_,_,qr,λ_=>⟨zlu,rfl,Qd _,RdL.zero⟩,λh=>by simp at h⟩
 rw[Zn h0] at qr;have em:x7q l id=x7n l id:=by unfold x7q;rw[Zp ok,Zn h0]
 have T:=x7w ok (id:=id) (by omega);have ei:yrt l.ord id=(yml l id:Int):=by unfold yml;omega
 rw[ei] at qr;have nl:=ok.nl;have hlen:=ok.len;have hsm:=ok.ck.f.len;have tlt:=T.lt;have ll:(u.n.n:Int)=l.num.length:=congrArg Nat.cast r.n.len;refine vc52 ⟨_,_,qr,λh=>by simp at h,λ_=>(y9v r fl).mono λv H4 ⟨b,so,sn,hv,B⟩=>⟨⟨b,0,none⟩,hv,by unfold inI;omega,λb6 H7 hb6 hH7=>?_⟩⟩;have l7:Qc H4 H7:=Qe (Qd _) hb6 hH7;have B7:=B.up l7;have rw6:RdI H7 ⟨some ⟨b6,0,none⟩,2,2⟩ [(yml l id:Int)-1,(yml l id:Int)]:=yva (k:=1) (f:=fI) (λ_=>rfl) hH7 rfl rfl;have np:=B.notProt hb6;have sb:∀p,(⟨some ⟨b6,0,none⟩,2,2⟩:Slc).a=some p->p.block≠b:=λp hp e=>by cases hp;exact np (.inl e)
 have ht:x7l l id=x5q l (yml l id) 2:=rfl;refine⟨λn H'=>0<=n/\n<=2/\(∃w2,z0e H H' b ⟨w2,so,sn⟩ ⟨x5q l (yml l id) n,l.ord,l.num⟩)/\RdI H' ⟨some ⟨b6,0,none⟩,2,2⟩ [(yml l id:Int)-1,(yml l id:Int)],λn _=>(2-n).toNat,⟨by omega,by omega,⟨u.k,B7⟩,rw6⟩,λn H11 ⟨n0,n1,⟨w2,B2⟩,r2⟩=>⟨λhn=>?_,λhn=>?_⟩⟩
 ·have hn:n<2:=Zr hn;have rn:RdI H11 u.n l.num:=r.n.le B2.le;refine⟨r2.inS n0 (by simp;omega),_,RdI.get r2 n0 (by simp;omega),?_⟩;have hcase:n=0\/n=1:=by omega
  rcases hcase with rfl|rfl
  ·have ev:([(yml l id:Int)-1,(yml l id:Int)]:List Int).getD (0:Int).toNat 0=(yml l id:Int)-1:=rfl;rw[ev,ll];have ec:x5q l (yml l id) 1=goneIf l.ck (decide (0<yml l id)) (l.num.getD (yml l id-1) 0):=rfl;refine⟨λhc=>?_,λhc=>?_⟩
   ·simp only[Qb,Zq] at hc;have h0:0<yml l id:=by omega
    have box2:=B2.box;refine⟨_,_,w2.f,_,w2.cl,w2.u1,w2.u2,w2.u3,w2.u4,w2.u5,w2.d,⟨Cel.at box2 0,Cel.at box2 1,Cel.at box2 2,Cel.at box2 3,Cel.at box2 4,Cel.at box2 5,Cel.at box2 6,Cel.at box2 7,Cel.at box2 8,Cel.at box2 9,Cel.at box2 10⟩,rn.inS (by omega) (by omega),_,RdI.get rn (by omega) (by omega),?_⟩;rw[show ((yml l id:Int)-1).toNat=yml l id-1 by omega];refine B2.retire (n:=l.num.getD (yml l id-1) 0) fl ok.ck (T.held0 h0) r2 sb λw3 H71 B71 r71=>⟨by unfold inI;omega,⟨by omega,by omega,⟨w3,?_⟩,r71⟩,by show (2-(0+1):Int).toNat<(2-0:Int).toNat;omega⟩
    show z0e H H71 b _ ⟨x5q l (yml l id) 1,l.ord,l.num⟩;rw[ec,Zu h0];exact B71
   ·have h0:¬ 0<yml l id:=λh0=>by
     have:(decide ((yml l id:Int)-1>=0)&&decide ((yml l id:Int)-1<l.num.length))=true:=by simp only[Qb,Zq];omega
     rw[this] at hc;cases hc
    refine⟨by unfold inI;omega,⟨by omega,by omega,⟨w2,?_⟩,r2⟩,by show (2-(0+1):Int).toNat<(2-0:Int).toNat;omega⟩;show z0e H H11 b _ ⟨x5q l (yml l id) 1,l.ord,l.num⟩;rw[ec,Zv h0];exact B2
  ·have ev:([(yml l id:Int)-1,(yml l id:Int)]:List Int).getD (1:Int).toNat 0=(yml l id:Int):=rfl;rw[ev,ll];have ec:x5q l (yml l id) 2=goneIf (goneIf l.ck (decide (0<yml l id)) (l.num.getD (yml l id-1) 0)) (decide (yml l id<l.num.length)) (l.num.getD (yml l id) 0):=rfl;refine⟨λhc=>?_,λhc=>?_⟩
   ·simp only[Qb,Zq] at hc;have h0:yml l id<l.num.length:=by omega
    have box2:=B2.box;refine⟨_,_,w2.f,_,w2.cl,w2.u1,w2.u2,w2.u3,w2.u4,w2.u5,w2.d,⟨Cel.at box2 0,Cel.at box2 1,Cel.at box2 2,Cel.at box2 3,Cel.at box2 4,Cel.at box2 5,Cel.at box2 6,Cel.at box2 7,Cel.at box2 8,Cel.at box2 9,Cel.at box2 10⟩,rn.inS (by omega) (by omega),_,RdI.get rn (by omega) (by omega),?_⟩;rw[Qh];obtain⟨k1,k2⟩:=T.held1 h0;have fl2:zzh ⟨goneIf l.ck (decide (0<yml l id)) (l.num.getD (yml l id-1) 0),l.ord,l.num⟩:=⟨k1.fit,fl.o,fl.n⟩;refine B2.retire (l:=⟨goneIf l.ck (decide (0<yml l id)) (l.num.getD (yml l id-1) 0),l.ord,l.num⟩) (n:=l.num.getD (yml l id) 0) fl2 k1 k2 r2 sb λw3 H71 B71 r71=>⟨by unfold inI;omega,⟨by omega,by omega,⟨w3,?_⟩,r71⟩,by show (2-(1+1):Int).toNat<(2-1:Int).toNat;omega⟩
    show z0e H H71 b _ ⟨x5q l (yml l id) 2,l.ord,l.num⟩;rw[ec,Zu h0];exact B71
   ·have h0:¬ yml l id<l.num.length:=λh0=>by
     have:(decide ((yml l id:Int)>=0)&&decide ((yml l id:Int)<l.num.length))=true:=by simp only[Qb,Zq];omega
     rw[this] at hc;cases hc
    refine⟨by unfold inI;omega,⟨by omega,by omega,⟨w2,?_⟩,r2⟩,by show (2-(1+1):Int).toNat<(2-1:Int).toNat;omega⟩;show z0e H H11 b _ ⟨x5q l (yml l id) 2,l.ord,l.num⟩;rw[ec,Zv h0];exact B2
 have hn:n=2:=by
  have:¬ n<2:=Zs hn;omega
 subst hn;have B2:z0e H H11 b ⟨w2,so,sn⟩ ⟨x7l l id,l.ord,l.num⟩:=B2;refine⟨so,Cel.at B2.box 11,by unfold inI;omega,?_⟩;refine(zsv B2.le B2.o (i:=(yml l id:Int)) (by omega) (by show (yml l id:Int)<l.ord.length;omega)).mono λv H42 ⟨w41,hv,l42,m42,ch42,zuv⟩=>⟨w41,hv,?_⟩
 rw[Qh] at m42;refine B2.newO l42 m42 ch42 zuv λH44 B44 _=>⟨sn,Cel.at B44.box 12,?_⟩
 have ln:sn.n=l.num.length:=B44.n.rdI.len;have ea:z6s (x7l l id) (yme l.ck.f id)=z6x (x7l l id) (yme l.ck.f id):=by
  unfold z6s;rw[Zp T.okc,Zp (zlh.2 (yk5 ok.ck.f id)),Zp T.known]
 have cl:=zsq (o:=l.ord) (i:=yml l id) T.lt;have f1:=fl.o;have f2:=fl.n;have eo:(0<yml l id/\yml l id<(zso l.ord (yml l id)).length)↔(0<yml l id/\yml l id<l.num.length):=by rw[cl,nl]
 have fin:∀(v:Value)(H':Hp)(w:Lu)(r:Ls×Int),r=(if 0<yml l id/\yml l id<(zso l.ord (yml l id)).length then yby (ymm l id) (yml l id-1) else (ymm l id,0))->v=.tuple #[lsV w r.1,vi r.2]->Qc H H'->RdL H' w r.1 ->
   ∃w:Lu,v=.tuple #[lsV w (x7q l id).1,vi (x7q l id).2]/\Qc H H'/\RdL H' w (x7q l id).1:=λv H' w r er hv lH hr=>by
  have e:x7q l id=r:=by
   rw[em,er];unfold x7n;rw[Zn (by rw[T.calm.z];simp)];by_cases h:0<yml l id/\yml l id<l.num.length
   ·rw[Zp h,Zp (eo.2 h)]
   ·rw[Zn h,Zn λh'=>h (eo.1 h')]
  rw[e];exact⟨w,hv,lH,hr⟩
 have pm:=T.mid;have pm:Mid (ymm l id) (yml l id-1) (yml l id-1+if 0<yml l id/\yml l id<(zso l.ord (yml l id)).length then 1 else 0):=by
  by_cases h:0<yml l id/\yml l id<l.num.length
  ·rw[Zp h] at pm;rw[Zp (eo.2 h)];exact pm
  ·rw[Zn h] at pm;rw[Zn λh'=>h (eo.1 h')];exact pm
 refine⟨λhc=>?_,λhc=>?_⟩
 ·have hc:0<l.num.length:=by
   rw[ln] at hc;have:(l.num.length:Int)>0:=by simpa using hc
   omega
  have emin:(if (sn.n:Int)-1<(yml l id:Int) then (sn.n:Int)-1 else (yml l id:Int))=((min (yml l id) (l.num.length-1):Nat):Int):=by rw[ln];split <;> omega
  rw[emin];refine⟨by unfold inI;omega,sn,Cel.at B44.box 12,by unfold inI;omega,?_⟩;refine(zsv B44.le B44.n (i:=((min (yml l id) (l.num.length-1):Nat):Int)) (by omega) (by show ((min (yml l id) (l.num.length-1):Nat):Int)<l.num.length;omega)).mono λv H48 ⟨w47,hv,l48,m48,ch48,ex48⟩=>⟨w47,hv,?_⟩
  rw[Qh] at m48;refine B44.newN l48 m48 ch48 ex48 λH50 B50 _=>?_
  have cn:=zsq (o:=l.num) (i:=min (yml l id) (l.num.length-1)) (by omega);exact x7y B50 ⟨T.okc.fit,by show (zso l.ord (yml l id)).length<=_;omega,by show (zso l.num (min (yml l id) (l.num.length-1))).length<=_;omega⟩ r.k.f ok.ck.f T.pos ea T.calm.z pm (by show yml l id<=(zso l.ord (yml l id)).length;omega) fin
 ·have hc:l.num.length=0:=by
   rw[ln] at hc;have:¬ (l.num.length:Int)>0:=by simpa using hc
   omega
  have en:l.num=zso l.num (min (yml l id) (l.num.length-1)):=by
   have:l.num=[]:=List.length_eq_zero_iff.1 hc;rw[this];simp[zso]
  have B44:z0e H H44 b ⟨w2,w41,sn⟩ ⟨x7l l id,zso l.ord (yml l id),zso l.num (min (yml l id) (l.num.length-1))⟩:=by rw[← en];exact B44
  have cn:=congrArg List.length en;exact x7y B44 ⟨T.okc.fit,by show (zso l.ord (yml l id)).length<=_;omega,by show (zso l.num (min (yml l id) (l.num.length-1))).length<=_;omega⟩ r.k.f ok.ck.f T.pos ea T.calm.z pm (by show yml l id<=(zso l.ord (yml l id)).length;omega) fin
theorem y9w(r:RdL H u l)(fl:zzh l) :
  fN F.f51 #[lsV u l,.agg #[vi p.1,vi p.2.1,vi p.2.2]] H λv H'=>∃w:Lu,v=.tuple #[lsV w (ytc l p).1,vi (ytc l p).2]/\Qc H H'/\RdL H' w (ytc l p).1:=by
 unfold ytc;refine vc51 ⟨_,y9u r fl,λhc=>?_,λhc=>?_⟩
 ·have hn:¬ (yk9 l/\okP p):=λh=>by rw[Zp h] at hc;simp at hc
  rw[Zn hn,Zn hn];exact⟨zlu,rfl,Qd _,RdL.zero⟩
 ·have hn:yk9 l/\okP p:=Decidable.byContradiction λh=>by rw[Zn h] at hc;simp at hc
  rw[Zp hn];exact(y9x r hn.1 hn.2).mono λv H3 ⟨w,hv,l3,rw3⟩=>⟨_,_,w.k.f,_,w.k.cl,w.k.u1,w.k.u2,w.k.u3,w.k.u4,w.k.u5,w.k.d,w.o,w.n,_,hv,w,rfl,l3,rw3⟩
