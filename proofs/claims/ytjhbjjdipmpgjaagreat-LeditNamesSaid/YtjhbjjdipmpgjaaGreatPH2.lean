/- The engine, parts H6, H7, H8, H9, HA, put together. Conditions: none. -/
import Derived.Test.YtjhbjjdipmpgjaaGreatPH1
import Derived.Test.YtjhbjjdipmpgjaaGreatFs
import Derived.Test.YtjhbjjdipmpgjaaGreatPS1
import Derived.Test.YtjhbjjdipmpgjaaGreatVgLedit
set_option linter.unusedVariables false
section
/- ledit.put and Put. Printed by mkH6.py. Conditions: none. -/
set_option maxRecDepth 100000
open Go Go.Eng Go.Proofs
namespace Go.Proofs.YtjhbjjdipmpgjaaGreat

theorem BoxL.fin {H0 H:Hp} {b:Nat} {u:Lu} {l:Ls} (B:BoxL H0 H b u l) {post:Value→Hp→Prop} (q:post (.tuple #[lsV u l,.int .i64 0]) H) :
  ∃ n72 n73:Int,∃ u74:Slc,∃ n75:Int,∃ u76 u77 u78 u79 u80 u81 u82:Slc,∃ u83:Slc,∃ u84:Slc,(H.at ((Addr.mk b 0 none).add 0)=some (.int .i64 n72)∧H.at ((Addr.mk b 0 none).add 1)=some (.int .i64 n73)∧H.at ((Addr.mk b 0 none).add 2)=some u74.v∧H.at ((Addr.mk b 0 none).add 3)=some (.int .i64 n75)∧H.at ((Addr.mk b 0 none).add 4)=some u76.v∧H.at ((Addr.mk b 0 none).add 5)=some u77.v∧H.at ((Addr.mk b 0 none).add 6)=some u78.v∧H.at ((Addr.mk b 0 none).add 7)=some u79.v∧H.at ((Addr.mk b 0 none).add 8)=some u80.v∧H.at ((Addr.mk b 0 none).add 9)=some u81.v∧H.at ((Addr.mk b 0 none).add 10)=some u82.v∧H.at ((Addr.mk b 0 none).add 11)=some u83.v∧H.at ((Addr.mk b 0 none).add 12)=some u84.v) ∧
   post (.tuple #[vLs n72 n73 u74 n75 u76 u77 u78 u79 u80 u81 u82 u83 u84,.int .i64 0]) H :=
 ⟨_,_,u.k.f,_,u.k.cl,u.k.u1,u.k.u2,u.k.u3,u.k.u4,u.k.u5,u.k.d,u.o,u.n,⟨Cel.at B.box 0,Cel.at B.box 1,Cel.at B.box 2,Cel.at B.box 3,Cel.at B.box 4,Cel.at B.box 5,Cel.at B.box 6,Cel.at B.box 7,Cel.at B.box 8,Cel.at B.box 9,Cel.at B.box 10,Cel.at B.box 11,Cel.at B.box 12⟩,q⟩

section
variable {H0 H:Hp} {b:Nat} {u:Lu} {l:Ls} {post:Value→Hp→Prop}
theorem certTail {rk len:Nat} (B:BoxL H0 H b u l) (m:Mid l (rk-1) (min (rk+1) len)) (hn:l.num.length=len) (hr:rk≤len)
  (hpost:∀ (v:Value) (H':Hp) (w:Lu),v=.tuple #[lsV w (makesN l (rk-1) (min (rk+1) len-(rk-1))).1,.int .i64 (makesN l (rk-1) (min (rk+1) len-(rk-1))).2]→Hp.le H0 H'→RdL H' w (makesN l (rk-1) (min (rk+1) len-(rk-1))).1→post v H') :
  inI ((rk:Int)-1)∧∀ (b67:Nat) (H68:Hp),H b67=none→H68=H.put b67 (.cells #[.int .i64 ((rk:Int)-1),.int .i64 (rk:Int)] 3 (0,0))→Go.Eng.Fn Tryz.prog F.ledit_certify #[.pointer (some ⟨b,0,none⟩),.slice (some ⟨b67,0,none⟩) 2 2] H68 fun v69 H70=>∃ n71:Int,v69=.int .i64 n71 ∧
   ((n71 != 0)=true→post (.tuple #[vLs 0 0 zs 0 zs zs zs zs zs zs zs zs zs,.int .i64 n71]) H70)∧((n71 != 0)=false →
   ∃ n72 n73:Int,∃ u74:Slc,∃ n75:Int,∃ u76 u77 u78 u79 u80 u81 u82:Slc,∃ u83:Slc,∃ u84:Slc,(H70.at ((Addr.mk b 0 none).add 0)=some (.int .i64 n72)∧H70.at ((Addr.mk b 0 none).add 1)=some (.int .i64 n73)∧H70.at ((Addr.mk b 0 none).add 2)=some u74.v∧H70.at ((Addr.mk b 0 none).add 3)=some (.int .i64 n75)∧H70.at ((Addr.mk b 0 none).add 4)=some u76.v∧H70.at ((Addr.mk b 0 none).add 5)=some u77.v∧H70.at ((Addr.mk b 0 none).add 6)=some u78.v∧H70.at ((Addr.mk b 0 none).add 7)=some u79.v∧H70.at ((Addr.mk b 0 none).add 8)=some u80.v∧H70.at ((Addr.mk b 0 none).add 9)=some u81.v∧H70.at ((Addr.mk b 0 none).add 10)=some u82.v∧H70.at ((Addr.mk b 0 none).add 11)=some u83.v∧H70.at ((Addr.mk b 0 none).add 12)=some u84.v) ∧
    post (.tuple #[vLs n72 n73 u74 n75 u76 u77 u78 u79 u80 u81 u82 u83 u84,.int .i64 0]) H70):=by
 have sm:=m.small
 have nl:=m.nl
 refine ⟨by unfold inI; omega,fun b67 H68 hb67 hH68=>?_⟩
 have l68:Hp.le H H68:=Hp.le_new (Hp.le_refl _) hb67 hH68
 have B68:=B.up l68
 have rw67:RdI H68 ⟨some ⟨b67,0,none⟩,2,2⟩ [(rk:Int)-1,(rk:Int)]:=rdConst (k:=1) (f:=fI) (fun _=>rfl) hH68 rfl rfl
 have np:=B.notProt hb67
 obtain ⟨e,good⟩:=certI_two m hn hr
 refine (certifyB B68 rw67 (fun p hp e=>by cases hp; exact np (.inl e)) (fun p q hp hq e=>by cases hp; exact np (.inr (.inr ⟨q,hq,e.symm⟩))) (by simp) good).mono fun v H70 ⟨hv,l70,hok⟩=>⟨_,hv,fun he=>?_,fun he=>?_⟩
 ·rw [e] at he ⊢
  have he:(makesN l (rk-1) (min (rk+1) len-(rk-1))).2≠0:=by simpa using he
  have hz:=makesN_zero _ he
  exact hpost _ _ zlu (by rw [hz]; rfl) l70 (by rw [hz]; exact RdL.zero)
 ·rw [e] at he hok
  have he:(makesN l (rk-1) (min (rk+1) len-(rk-1))).2=0:=by simpa using he
  obtain ⟨w,B70⟩:=hok he
  exact B70.fin (hpost _ _ ⟨w,u.o,u.n⟩ (by rw [he]) B70.le B70.rd)

set_option maxHeartbeats 1000000 in
theorem putTail {c:Ck} {ln rk:Nat} {x:Int} (B:BoxL H0 H b u ⟨c,l.ord,l.num⟩) (eln:ln=l.ord.length) (enl:l.num.length=ln-1)
    (m:Mid ⟨c,insI l.ord rk x,if ln=0 then l.num else insI l.num (min rk (ln-1)) 0⟩ (rk-1) (min (rk+1) ln)) (hn:(if ln=0 then l.num else insI l.num (min rk (ln-1)) 0).length=ln) (hr:rk≤ln) (hs:ln≤100)
    (hpost:∀ (v:Value) (H':Hp) (w:Lu),v=.tuple #[lsV w (makesN ⟨c,insI l.ord rk x,if ln=0 then l.num else insI l.num (min rk (ln-1)) 0⟩ (rk-1) (min (rk+1) ln-(rk-1))).1,.int .i64 (makesN ⟨c,insI l.ord rk x,if ln=0 then l.num else insI l.num (min rk (ln-1)) 0⟩ (rk-1) (min (rk+1) ln-(rk-1))).2]→Hp.le H0 H'→RdL H' w (makesN ⟨c,insI l.ord rk x,if ln=0 then l.num else insI l.num (min rk (ln-1)) 0⟩ (rk-1) (min (rk+1) ln-(rk-1))).1→post v H') :
     (decide ((ln:Int)>0)=true→∃ u53:Slc,H.at (((Addr.mk b 0 none).add 12).add 0)=some u53.v∧inI ((ln:Int)-1)∧∀ (b54:Nat) (H55:Hp),H b54=none→H55=H.put b54 (Obj.cells #[Value.int .i64 0] 3)→Go.Eng.Fn Tryz.prog F.slices_Insert_int_int #[u53.v,Value.int .i64 (if (ln :
      Int)-1<(rk:Int) then (ln:Int)-1 else (rk:Int)),Value.slice (some (Addr.mk b54 0 none)) 1 1] H55 fun (v56:Value) (H57:Hp)=>∃ u58:Slc,v56=u58.v∧H57.canStore ((Addr.mk b 0 none).add 12) 0 [u58.v]∧∀ (H59:Hp),H59=H57.store ((Addr.mk b 0 none).add 12) 0 [u58.v]→∃
      u60:Slc,H59.at (((Addr.mk b 0 none).add 11).add 0)=some u60.v∧∀ (b61:Nat) (H62:Hp),H59 b61=none→H62=H59.put b61 (Obj.cells #[Value.int .i64 x] 3)→Go.Eng.Fn Tryz.prog F.slices_Insert_int_int #[u60.v,Value.int .i64 (rk:Int),Value.slice (some (Addr.mk b61 0 none)) 1 1] H62
      fun (v63:Value) (H64:Hp)=>∃ u65:Slc,v63=u65.v∧H64.canStore ((Addr.mk b 0 none).add 11) 0 [u65.v]∧∀ (H66:Hp),H66=H64.store ((Addr.mk b 0 none).add 11) 0 [u65.v]→inI ((rk:Int)-1)∧∀ (b67:Nat) (H68:Hp),H66 b67=none→H68=H66.put b67 (Obj.cells #[Value.int .i64
      ((rk:Int)-1),Value.int .i64 (rk:Int)] 3)→Go.Eng.Fn Tryz.prog F.ledit_certify #[Value.pointer (some ⟨b,0,none⟩),Value.slice (some (Addr.mk b67 0 none)) 2 2] H68 fun (v69:Value) (H70:Hp)=>∃ n71:Int,v69=Value.int .i64 n71∧((n71 != 0)=true→post (Value.tuple #[(vLs 0 0
      zs 0 zs zs zs zs zs zs zs zs zs),Value.int .i64 n71]) H70)∧((n71 != 0)=false→∃ n72 n73:Int,∃ u74:Slc,∃ n75:Int,∃ u76 u77 u78 u79 u80 u81 u82:Slc,∃ (u83:Slc),∃ u84:Slc,(H70.at ((Addr.mk b 0 none).add 0)=some (Value.int .i64 n72)∧H70.at ((Addr.mk b 0 none).add 1) =
      some (Value.int .i64 n73)∧H70.at ((Addr.mk b 0 none).add 2)=some u74.v∧H70.at ((Addr.mk b 0 none).add 3)=some (Value.int .i64 n75)∧H70.at ((Addr.mk b 0 none).add 4)=some u76.v∧H70.at ((Addr.mk b 0 none).add 5)=some u77.v∧H70.at ((Addr.mk b 0 none).add 6)=some u78.v∧H70.at
      ((Addr.mk b 0 none).add 7)=some u79.v∧H70.at ((Addr.mk b 0 none).add 8)=some u80.v∧H70.at ((Addr.mk b 0 none).add 9)=some u81.v∧H70.at ((Addr.mk b 0 none).add 10)=some u82.v∧H70.at ((Addr.mk b 0 none).add 11)=some u83.v∧H70.at ((Addr.mk b 0 none).add 12)=some u84.v)∧post
      (Value.tuple #[(vLs n72 n73 u74 n75 u76 u77 u78 u79 u80 u81 u82 u83 u84),Value.int .i64 0]) H70))∧(decide ((ln:Int)>0)=false→∃ u85:Slc,H.at (((Addr.mk b 0 none).add 11).add 0)=some u85.v∧∀ (b86:Nat) (H87:Hp),H b86=none→H87=H.put b86 (Obj.cells #[Value.int .i64 x] 3)
      → Go.Eng.Fn Tryz.prog F.slices_Insert_int_int #[u85.v,Value.int .i64 (rk:Int),Value.slice (some (Addr.mk b86 0 none)) 1 1] H87 fun (v88:Value) (H89:Hp)=>∃ u90:Slc,v88=u90.v∧H89.canStore ((Addr.mk b 0 none).add 11) 0 [u90.v]∧∀ (H91:Hp),H91=H89.store ((Addr.mk b 0
      none).add 11) 0 [u90.v]→inI ((rk:Int)-1)∧∀ (b92:Nat) (H93:Hp),H91 b92=none→H93=H91.put b92 (Obj.cells #[Value.int .i64 ((rk:Int)-1),Value.int .i64 (rk:Int)] 3)→Go.Eng.Fn Tryz.prog F.ledit_certify #[Value.pointer (some ⟨b,0,none⟩),Value.slice (some (Addr.mk b92 0
      none)) 2 2] H93 fun (v94:Value) (H95:Hp)=>∃ n96:Int,v94=Value.int .i64 n96∧((n96 != 0)=true→post (Value.tuple #[(vLs 0 0 zs 0 zs zs zs zs zs zs zs zs zs),Value.int .i64 n96]) H95)∧((n96 != 0)=false→∃ n97 n98:Int,∃ u99:Slc,∃ n100:Int,∃ u101 u102 u103 u104 u105
      u106 u107 u108:Slc,∃ (u109:Slc),(H95.at ((Addr.mk b 0 none).add 0)=some (Value.int .i64 n97)∧H95.at ((Addr.mk b 0 none).add 1)=some (Value.int .i64 n98)∧H95.at ((Addr.mk b 0 none).add 2)=some u99.v∧H95.at ((Addr.mk b 0 none).add 3)=some (Value.int .i64 n100)∧H95.at
      ((Addr.mk b 0 none).add 4)=some u101.v∧H95.at ((Addr.mk b 0 none).add 5)=some u102.v∧H95.at ((Addr.mk b 0 none).add 6)=some u103.v∧H95.at ((Addr.mk b 0 none).add 7)=some u104.v∧H95.at ((Addr.mk b 0 none).add 8)=some u105.v∧H95.at ((Addr.mk b 0 none).add 9)=some u106.v ∧
      H95.at ((Addr.mk b 0 none).add 10)=some u107.v∧H95.at ((Addr.mk b 0 none).add 11)=some u108.v∧H95.at ((Addr.mk b 0 none).add 12)=some u109.v)∧post (Value.tuple #[(vLs n97 n98 u99 n100 u101 u102 u103 u104 u105 u106 u107 u108 u109),Value.int .i64 0]) H95)):=by
  -- the ID put into the order
  have ordPart:∀ {H:Hp} {u:Lu} {n':List Int},n'=(if ln=0 then l.num else insI l.num (min rk (ln-1)) 0)→BoxL H0 H b u ⟨c,l.ord,n'⟩→∀ (b61:Nat) (H62:Hp),H b61=none→H62=H.put b61 (.cells #[.int .i64 x] 3 (0,0)) →
      Go.Eng.Fn Tryz.prog F.slices_Insert_int_int #[u.o.v,.int .i64 (rk:Int),.slice (some ⟨b61,0,none⟩) 1 1] H62 fun v63 H64=>∃ u65:Slc,v63=u65.v∧H64.canStore ((Addr.mk b 0 none).add 11) 0 [u65.v]∧∀ H66,H66=H64.store ((Addr.mk b 0 none).add 11) 0 [u65.v] →
        BoxL H0 H66 b ⟨u.k,u65,u.n⟩ ⟨c,insI l.ord rk x,if ln=0 then l.num else insI l.num (min rk (ln-1)) 0⟩:=by
    intro H u n' en B b61 H62 hb61 hH62
    subst en
    have l62:Hp.le H H62:=Hp.le_new (Hp.le_refl _) hb61 hH62
    have B62:=B.up l62
    have np:=B.notProt hb61
    refine (insertInt (x:=x) B62.le B62.o (i:=(rk:Int)) (by omega) (by show (rk:Int)≤l.ord.length; omega) (by show l.ord.length≤_; omega) (by rw [hH62]; exact Hp.put_same _ _ _) (fun p hp e=>np (.inr (.inl ⟨p,hp,e⟩)))).mono fun v H64 ⟨w,hv,l64,m64,ch,ex⟩=>⟨w,hv,?_⟩
    rw [Int.toNat_natCast] at m64
    exact B62.newO l64 m64 ch ex fun H' B' _=>B'
  refine ⟨fun hc=>?_,fun hc=>?_⟩
  · have hc:0<ln:=by have:(ln:Int)>0:=by simpa using hc
                     omega
    refine ⟨u.n,Cel.at B.box 12,by unfold inI; omega,fun b54 H55 hb54 hH55=>?_⟩
    have l55:Hp.le H H55:=Hp.le_new (Hp.le_refl _) hb54 hH55
    have B55:=B.up l55
    have np:=B.notProt hb54
    have emin:(if (ln:Int)-1<(rk:Int) then (ln:Int)-1 else (rk:Int))=((min rk (ln-1):Nat):Int):=by split <;> omega
    rw [emin]
    refine (insertInt (x:=0) B55.le B55.n (i:=((min rk (ln-1):Nat):Int)) (by omega) (by show ((min rk (ln-1):Nat):Int)≤l.num.length; omega) (by show l.num.length≤_; omega) (by rw [hH55]; exact Hp.put_same _ _ _) (fun p hp e=>np (.inr (.inr ⟨p,hp,e⟩)))).mono fun v H57 ⟨w,hv,l57,m57,ch,ex⟩=>⟨w,hv,?_⟩
    rw [Int.toNat_natCast] at m57
    refine B55.newN l57 m57 ch ex fun H59 B59 _=>⟨u.o,Cel.at B59.box 11,fun b61 H62 hb61 hH62=>?_⟩
    refine (ordPart (by rw [if_neg (by omega)]) B59 b61 H62 hb61 hH62).mono fun v H64 ⟨w2,hv,can,st⟩=>⟨w2,hv,can,fun H66 e66=>?_⟩
    exact certTail (st H66 e66) m hn hr hpost
  · have hc:ln=0:=by have:¬ (ln:Int)>0:=by simpa using hc
                     omega
    refine ⟨u.o,Cel.at B.box 11,fun b61 H62 hb61 hH62=>?_⟩
    refine (ordPart (n':=l.num) (by rw [if_pos hc]) B b61 H62 hb61 hH62).mono fun v H64 ⟨w2,hv,can,st⟩=>⟨w2,hv,can,fun H66 e66=>?_⟩
    exact certTail (st H66 e66) m hn hr hpost
end

theorem alterK_at {l:Ls} (ok:okLs l) {f:List Pt} (of:okF f) (kn:knownC l.ck.ct f=true):alterK l.ck f=alteredK l.ck f:=by
 unfold alterK
 rw [if_pos ok.ck,if_pos (chkF_zero.2 of),if_pos kn]
theorem known_ins {l:Ls} (ok:okLs l) (p:Pt):knownC l.ck.ct (insF l.ck.f p)=true:=known_of fun x hm=>by
 obtain ⟨a,b⟩:=knownC_at ok.ck.known hm
 have key:∀ id,0≤posF l.ck.f id→0≤posF (insF l.ck.f p) id:=fun id h=>posF_mem.2 (((insF_perm l.ck.f p).map _).mem_iff.2 (List.mem_cons_of_mem _ (posF_mem.1 h)))
 exact ⟨key _ a,key _ b⟩

set_option maxHeartbeats 1000000 in
theorem leditPut0 {H:Hp} {u:Lu} {l:Ls} {p:Pt} (r:RdL H u l) (ok:okLs l) (op:okP p) :
  Go.Eng.Fn Tryz.prog F.ledit_put #[lsV u l,.agg #[.int .i64 p.1,.int .i64 p.2.1,.int .i64 p.2.2]] H fun v H'=>∃ w:Lu,v=.tuple #[lsV w (putL l p).1,.int .i64 (putL l p).2]∧Hp.le H H'∧RdL H' w (putL l p).1:=by
 have fl:=ok.fit
 refine ledit_put_vc ((fieldPut (p:=p) r.k.f).mono fun v H2 ⟨u3,hv,l2,rf⟩=>⟨u3,_,hv,fun he=>?_,fun he=>?_⟩)
 ·have he:(putF l.ck.f p).2≠0:=by simpa using he
  unfold putL
  rw [if_pos he]
  exact ⟨zlu,rfl,l2,RdL.zero⟩
 have he:(putF l.ck.f p).2=0:=by simpa using he
 obtain ⟨_,hn,hl,ef⟩:=put_parts ok he
 have P:=putOk ok op hn hl
 rw [ef] at rf
 have r2:=r.le l2
 refine ⟨_,leditWhere r2 ok op,(leditCopied r2 fl).mono fun v H7 ⟨b,so,sn,hv,B⟩=>⟨⟨b,0,none⟩,hv,?_⟩⟩
 have q:=Go.Eng.Fn.frame (clockAlter (f:=insF l.ck.f p) r2.k fl.k rf) B.le
 have ea:alterK l.ck (insF l.ck.f p)=alteredK l.ck (insF l.ck.f p):=alterK_at ok (okF_insF ok.ck.f op hn hl) (known_ins ok p)
 rw [ea] at q
 refine q.mono fun v H10 ⟨G,⟨z,hv,lG,rG⟩,g1,g2,g3⟩=>⟨_,_,z.f,_,z.cl,z.u1,z.u2,z.u3,z.u4,z.u5,z.d,_,hv,?_⟩
 refine B.clockG (g3 lG) g1 (fun x hx=>g2 x (B.fresh x hx) (B.used x hx)) rG fun H23 B23=>⟨fun he=>?_,fun he=>?_⟩
 ·have he2:(alteredK l.ck (insF l.ck.f p)).2≠0:=by simpa using he
  exact absurd P.calm.z he2
 have w:=ok.weak
 have nl:=ok.nl
 have rk:=P.rk
 have hle:=ok.weak.fit.o
 have lo:so.n=l.ord.length:=B23.o.rdI.len
 have ln:sn.n=l.num.length:=B23.n.rdI.len
 have fin:∀ (v:Value) (H':Hp) (w:Lu),v=.tuple #[lsV w (makesN (putS l p) (rkI l p-1) (min (rkI l p+1) l.ord.length-(rkI l p-1))).1,.int .i64 (makesN (putS l p) (rkI l p-1) (min (rkI l p+1) l.ord.length-(rkI l p-1))).2]→Hp.le H2 H'→RdL H' w (makesN (putS l p) (rkI l p-1) (min (rkI l p+1) l.ord.length-(rkI l p-1))).1 →
   ∃ w:Lu,v=.tuple #[lsV w (putL l p).1,.int .i64 (putL l p).2]∧Hp.le H H'∧RdL H' w (putL l p).1:=fun v H' w hv lH hr=>by
  have e:putL l p=makesN (putS l p) (rkI l p-1) (min (rkI l p+1) l.ord.length-(rkI l p-1)):=by
   unfold putL
   rw [if_neg (by rw [‹(putF l.ck.f p).2=0›]; simp),if_neg (by rw [P.calm.z]; simp)]
  rw [e]
  exact ⟨w,hv,Hp.le_trans l2 lH,hr⟩
 have hlen:=ok.len
 have hsm:=ok.ck.f.len
 refine ⟨so,Cel.at B23.box 11,fun hc=>?_,fun hc=>?_⟩
 ·have hc:0<rkI l p∧rkI l p<l.ord.length:=by
   rw [lo] at hc
   simp only [Bool.and_eq_true,decide_eq_true_eq] at hc
   omega
  have bx:=B23.box
  have bn:RdI H23 sn l.num:=B23.n.rdI
  refine ⟨_,_,z.f,_,z.cl,z.u1,z.u2,z.u3,z.u4,z.u5,z.d,⟨Cel.at bx 0,Cel.at bx 1,Cel.at bx 2,Cel.at bx 3,Cel.at bx 4,Cel.at bx 5,Cel.at bx 6,Cel.at bx 7,Cel.at bx 8,Cel.at bx 9,Cel.at bx 10⟩,sn,Cel.at bx 12,by unfold inI; omega,bn.inS (by omega) (by omega),_,RdI.get bn (by omega) (by omega),?_⟩
  rw [show ((rkI l p:Int)-1).toNat=rkI l p-1 by omega]
  have hh:=P.held hc.1 hc.2
  refine B23.retire (n:=l.num.getD (rkI l p-1) 0) ⟨P.calm.ok.fit,fl.o,fl.n⟩ P.calm.ok hh (rs:=⟨none,0,0⟩) (xs:=[]) Rd.nil (fun p hp=>by cases hp) fun w3 H52 B52 _=>?_
  have es:putS l p=⟨goneK (alteredK l.ck (insF l.ck.f p)).1 (l.num.getD (rkI l p-1) 0),insI l.ord (rkI l p) p.1,if l.ord.length=0 then l.num else insI l.num (min (rkI l p) (l.ord.length-1)) 0⟩:=by
   unfold putS goneIf
   rw [if_pos (by simp only [Bool.and_eq_true,decide_eq_true_eq]; exact hc)]
  have pm:=P.mid; have pn:=P.nlen
  rw [es] at pm pn fin
  exact putTail B52 lo (by rw [lo]; omega) (by rw [lo]; exact pm) (by rw [lo]; exact pn) (by rw [lo]; omega) (by omega) (by rw [lo]; exact fin)
 ·have hc:¬ (0<rkI l p∧rkI l p<l.ord.length):=fun h=>by
   rw [lo] at hc
   have:(decide ((rkI l p:Int)>0)&&decide ((rkI l p:Int)<(l.ord.length:Int)))=true:=by simp only [Bool.and_eq_true,decide_eq_true_eq]; omega
   rw [this] at hc; cases hc
  have es:putS l p=⟨(alteredK l.ck (insF l.ck.f p)).1,insI l.ord (rkI l p) p.1,if l.ord.length=0 then l.num else insI l.num (min (rkI l p) (l.ord.length-1)) 0⟩:=by
   unfold putS goneIf
   rw [if_neg (by simp only [Bool.and_eq_true,decide_eq_true_eq]; exact hc)]
  have pm:=P.mid; have pn:=P.nlen
  rw [es] at pm pn fin
  exact putTail B23 lo (by rw [lo]; omega) (by rw [lo]; exact pm) (by rw [lo]; exact pn) (by rw [lo]; omega) (by omega) (by rw [lo]; exact fin)

section
variable {H0 H:Hp} {b:Nat} {u:Lu} {l:Ls} {post:Value→Hp→Prop}
theorem BoxL.alter (B:BoxL H0 H b u l) (fk:fitK l.ck) {w:Slc} {f:List Pt} {G1:Hp} (g1:Hp.le G1 H) (g2:∀ x,prot b u.o u.n x→G1 x=none) (g3:Rd 3 fD G1 w f) :
  Go.Eng.Fn Tryz.prog F.clock_Alter #[ckV u.k l.ck,vFd w] H fun v H'=>Hp.le H H'∧∃ z:Cu,v=.tuple #[ckV z (alterK l.ck f).1,.int .i64 (alterK l.ck f).2]∧∃ G,Hp.le G H'∧(∀ x,prot b u.o u.n x→G x=none)∧RdK G z (alterK l.ck f).1:=by
 obtain ⟨G,k1,k2,k3⟩:=B.k
 have up:∀ {G:Hp},Hp.le G H→(∀ x,prot b u.o u.n x→G x=none)→Hp.le G (hideP (prot b u.o u.n) H):=fun {G} h1 h2 x o hx=>by
  rw [hideP_out (fun h=>by rw [h2 x h] at hx; cases hx)]; exact h1 x o hx
 refine (Fn.frame (clockAlter (k3.le (up k1 k2)) fk (g3.le (up g1 g2))) (hideP_le (prot b u.o u.n) H)).mono fun v H' ⟨G2,⟨z,hv,lG,rG⟩,h1,h2,h3⟩=>⟨h3 lG,z,hv,G2,h1,fun x hx=>h2 x (hideP_in hx) (B.used x hx),rG⟩

set_option maxHeartbeats 1000000 in
theorem takeTail {fs:Slc} {i:Nat} {id:Int} {f:List Pt} (B:BoxL H0 H b u l) (fl:fitL l) (hf:Rd 3 fD H0 fs f) (of:okF f) (hp:0≤posF f id) (ea:alterK l.ck (outF f id)=alteredK l.ck (outF f id)) (hz:(alteredK l.ck (outF f id)).2=0)
    (m:Mid ⟨(alteredK l.ck (outF f id)).1,l.ord,l.num⟩ (i-1) (i-1+if 0<i∧i<l.ord.length then 1 else 0)) (hi:i≤l.ord.length)
    (hpost:∀ (v:Value) (H':Hp) (w:Lu) (r:Ls × Int),r=(if 0<i∧i<l.ord.length then madeL ⟨(alteredK l.ck (outF f id)).1,l.ord,l.num⟩ (i-1) else (⟨(alteredK l.ck (outF f id)).1,l.ord,l.num⟩,0))→v=.tuple #[lsV w r.1,.int .i64 r.2]→Hp.le H0 H'→RdL H' w r.1→post v H') :
     Go.Eng.Fn Tryz.prog F.field_Take #[(vFd fs),Value.int .i64 id] H fun (v51:Value) (H52:Hp)=>∃ u53:Slc,∃ n54:Int,v51=Value.tuple #[(vFd u53),Value.int .i64 n54]∧∃ n55 n56:Int,∃ u57:Slc,∃ n58:Int,∃ u59 u60 u61 u62 u63 u64 u65:Slc,(H52.at (((Addr.mk b 0 none).add 0).add 0)
      = some (Value.int .i64 n55)∧H52.at (((Addr.mk b 0 none).add 0).add 1)=some (Value.int .i64 n56)∧H52.at (((Addr.mk b 0 none).add 0).add 2)=some u57.v∧H52.at (((Addr.mk b 0 none).add 0).add 3)=some (Value.int .i64 n58)∧H52.at (((Addr.mk b 0 none).add 0).add 4)=some u59.v∧H52.at
      (((Addr.mk b 0 none).add 0).add 5)=some u60.v∧H52.at (((Addr.mk b 0 none).add 0).add 6)=some u61.v∧H52.at (((Addr.mk b 0 none).add 0).add 7)=some u62.v∧H52.at (((Addr.mk b 0 none).add 0).add 8)=some u63.v∧H52.at (((Addr.mk b 0 none).add 0).add 9)=some u64.v∧H52.at (((Addr.mk
      b 0 none).add 0).add 10)=some u65.v)∧Go.Eng.Fn Tryz.prog F.clock_Alter #[(vCk n55 n56 u57 n58 u59 u60 u61 u62 u63 u64 u65),(vFd u53)] H52 fun (v66:Value) (H67:Hp)=>H52.le H67∧∃ n68 n69:Int,∃ u70:Slc,∃ n71:Int,∃ u72 u73 u74 u75 u76 u77 u78:Slc,∃ n79:Int,v66 =
      Value.tuple #[(vCk n68 n69 u70 n71 u72 u73 u74 u75 u76 u77 u78),Value.int .i64 n79]∧H67.canStore ((Addr.mk b 0 none).add 0) 0 [Value.int .i64 n68,Value.int .i64 n69,u70.v,Value.int .i64 n71,u72.v,u73.v,u74.v,u75.v,u76.v,u77.v,u78.v]∧∀ (H80:Hp),H80=H67.store ((Addr.mk b 0
      none).add 0) 0 [Value.int .i64 n68,Value.int .i64 n69,u70.v,Value.int .i64 n71,u72.v,u73.v,u74.v,u75.v,u76.v,u77.v,u78.v]→((n79 != 0)=true→post (Value.tuple #[(vLs 0 0 zs 0 zs zs zs zs zs zs zs zs zs),Value.int .i64 n79]) H80)∧((n79 != 0)=false→∃ u81:Slc,(decide ((i :
      Int)>0)=true→H80.at (((Addr.mk b 0 none).add 11).add 0)=some u81.v)∧((decide ((i:Int)>0)&&decide ((i:Int)<(↑u81.n:Int)))=true→inI ((i:Int)-1)∧∀ (b82:Nat) (H83:Hp),H80 b82=none→H83=H80.put b82 (Obj.cells #[Value.int .i64 ((i:Int)-1)] 3)→Go.Eng.Fn
      Tryz.prog F.ledit_certify #[Value.pointer (some ⟨b,0,none⟩),Value.slice (some (Addr.mk b82 0 none)) 1 1] H83 fun (v84:Value) (H85:Hp)=>∃ n86:Int,v84=Value.int .i64 n86∧((n86 != 0)=true→post (Value.tuple #[(vLs 0 0 zs 0 zs zs zs zs zs zs zs zs zs),Value.int .i64 n86]) H85) ∧
      ((n86 != 0)=false→∃ n87 n88:Int,∃ u89:Slc,∃ n90:Int,∃ u91 u92 u93:Slc,∃ (u94:Slc),∃ u95 u96 u97 u98 u99:Slc,(H85.at ((Addr.mk b 0 none).add 0)=some (Value.int .i64 n87)∧H85.at ((Addr.mk b 0 none).add 1)=some (Value.int .i64 n88)∧H85.at ((Addr.mk b 0 none).add 2) =
      some u89.v∧H85.at ((Addr.mk b 0 none).add 3)=some (Value.int .i64 n90)∧H85.at ((Addr.mk b 0 none).add 4)=some u91.v∧H85.at ((Addr.mk b 0 none).add 5)=some u92.v∧H85.at ((Addr.mk b 0 none).add 6)=some u93.v∧H85.at ((Addr.mk b 0 none).add 7)=some u94.v∧H85.at ((Addr.mk b 0
      none).add 8)=some u95.v∧H85.at ((Addr.mk b 0 none).add 9)=some u96.v∧H85.at ((Addr.mk b 0 none).add 10)=some u97.v∧H85.at ((Addr.mk b 0 none).add 11)=some u98.v∧H85.at ((Addr.mk b 0 none).add 12)=some u99.v)∧post (Value.tuple #[Value.agg #[Value.int IntKind.i64 n87,
      Value.int .i64 n88,u89.v,Value.int .i64 n90,u91.v,u92.v,u93.v,u94.v,u95.v,u96.v,u97.v,u98.v,u99.v],Value.int .i64 0]) H85))∧((decide ((i:Int)>0)&&decide ((i:Int)<(↑u81.n:Int)))=false→∃ n100 n101:Int,∃ u102:Slc,∃ n103:Int,∃ u104 u105 u106 u107 u108 u109
      u110 u111 u112:Slc,(H80.at ((Addr.mk b 0 none).add 0)=some (Value.int .i64 n100)∧H80.at ((Addr.mk b 0 none).add 1)=some (Value.int .i64 n101)∧H80.at ((Addr.mk b 0 none).add 2)=some u102.v∧H80.at ((Addr.mk b 0 none).add 3)=some (Value.int .i64 n103)∧H80.at ((Addr.mk b 0
      none).add 4)=some u104.v∧H80.at ((Addr.mk b 0 none).add 5)=some u105.v∧H80.at ((Addr.mk b 0 none).add 6)=some u106.v∧H80.at ((Addr.mk b 0 none).add 7)=some u107.v∧H80.at ((Addr.mk b 0 none).add 8)=some u108.v∧H80.at ((Addr.mk b 0 none).add 9)=some u109.v∧H80.at ((Addr.mk
      b 0 none).add 10)=some u110.v∧H80.at ((Addr.mk b 0 none).add 11)=some u111.v∧H80.at ((Addr.mk b 0 none).add 12)=some u112.v)∧post (Value.tuple #[(vLs n100 n101 u102 n103 u104 u105 u106 u107 u108 u109 u110 u111 u112),Value.int .i64 0]) H80)):=by
  have et:takeF f id=(outF f id,0):=by
    unfold takeF
    rw [if_neg (by rw [chkF_zero.2 of]; simp),if_neg (by omega)]
  refine (Fn.frame (fieldTake (id:=id) hf) B.le).mono fun v H52 ⟨G1,⟨w,hv,lG,rG⟩,h1,h2,h3⟩=>?_
  rw [et] at hv rG
  have l52:Hp.le H H52:=h3 lG
  have B52:=B.up l52
  have bx:=B52.box
  refine ⟨w,0,hv,_,_,u.k.f,_,u.k.cl,u.k.u1,u.k.u2,u.k.u3,u.k.u4,u.k.u5,u.k.d,⟨Cel.at bx 0,Cel.at bx 1,Cel.at bx 2,Cel.at bx 3,Cel.at bx 4,Cel.at bx 5,Cel.at bx 6,Cel.at bx 7,Cel.at bx 8,Cel.at bx 9,Cel.at bx 10⟩,?_⟩
  have q:=B52.alter fl.k h1 (fun x hx=>h2 x (B.fresh x hx) (B.used x hx)) rG
  rw [ea] at q
  refine q.mono fun v H67 ⟨l67,z,hv,G,k1,k2,k3⟩=>⟨l67,_,_,z.f,_,z.cl,z.u1,z.u2,z.u3,z.u4,z.u5,z.d,_,hv,?_⟩
  refine B52.clockG l67 k1 k2 k3 fun H80 B80=>⟨fun he=>absurd hz (by simpa using he),fun _=>?_⟩
  have lo:(u.o.n:Int)=l.ord.length:=congrArg Nat.cast (show u.o.n=_ from B80.o.rdI.len)
  have sm:=m.small
  have sm:l.ord.length≤64:=sm
  have nl:l.num.length=l.ord.length-1:=m.nl
  refine ⟨u.o,fun _=>Cel.at B80.box 11,?_⟩
  rw [lo]
  refine ⟨fun hc=>?_,fun hc=>?_⟩
  · have hc:0<i∧i<l.ord.length:=by simp only [Bool.and_eq_true,decide_eq_true_eq] at hc; omega
    rw [if_pos hc] at m
    have fine:=m.fine (i:=i-1) (by show i-1<l.num.length; omega)
    refine ⟨by unfold inI; omega,fun b82 H83 hb82 hH83=>?_⟩
    have l83:Hp.le H80 H83:=Hp.le_new (Hp.le_refl _) hb82 hH83
    have B83:=B80.up l83
    have rw82:RdI H83 ⟨some ⟨b82,0,none⟩,1,1⟩ [(i:Int)-1]:=rdConst (k:=1) (f:=fI) (fun _=>rfl) hH83 rfl rfl
    have np:=B80.notProt hb82
    have e1:certI ⟨(alteredK l.ck (outF f id)).1,l.ord,l.num⟩ [(i:Int)-1]=madeL ⟨(alteredK l.ck (outF f id)).1,l.ord,l.num⟩ (i-1):=by
      show certStep (_,0) _=_
      unfold certStep
      rw [if_neg (by simp),if_pos (by show 0≤(i:Int)-1∧(i:Int)-1<l.num.length; omega),show ((i:Int)-1).toNat=i-1 by omega]
    refine (certifyB B83 rw82 (fun p hp e=>by cases hp; exact np (.inl e)) (fun p q hp hq e=>by cases hp; exact np (.inr (.inr ⟨q,hq,e.symm⟩))) (by simp) (fun k x hk _ _ _=>?_)).mono fun v H85 ⟨hv,l85,hok⟩=>⟨_,hv,fun he=>?_,fun he=>?_⟩
    · match k,hk with
      | 0,hk =>
        have:x=(i:Int)-1:=by simpa using hk.symm
        subst this
        rw [show ((i:Int)-1).toNat=i-1 by omega]
        exact fine
      | k+1,hk=>simp at hk
    · rw [e1] at he ⊢
      have he:(madeL ⟨(alteredK l.ck (outF f id)).1,l.ord,l.num⟩ (i-1)).2≠0:=by simpa using he
      have hz:=madeL_zero he
      exact hpost _ _ zlu _ (by rw [if_pos hc]) (by rw [hz]; rfl) l85 (by rw [hz]; exact RdL.zero)
    · rw [e1] at he hok
      have he:(madeL ⟨(alteredK l.ck (outF f id)).1,l.ord,l.num⟩ (i-1)).2=0:=by simpa using he
      obtain ⟨w2,B85⟩:=hok he
      exact B85.fin (hpost _ _ ⟨w2,u.o,u.n⟩ _ (by rw [if_pos hc]) (by rw [he]) B85.le B85.rd)
  · have hc:¬ (0<i∧i<l.ord.length):=fun h=>by
      have:(decide ((i:Int)>0)&&decide ((i:Int)<(l.ord.length:Int)))=true:=by simp only [Bool.and_eq_true,decide_eq_true_eq]; omega
      rw [this] at hc; cases hc
    exact B80.fin (hpost _ _ ⟨z,u.o,u.n⟩ _ (by rw [if_neg hc]) rfl B80.le B80.rd)
end

def stepT (l:Ls) (i:Nat) (n:Int):Ck:=if n=0 then l.ck else if n=1 then goneIf l.ck (decide (0<i)) (l.num.getD (i-1) 0) else goneIf (goneIf l.ck (decide (0<i)) (l.num.getD (i-1) 0)) (decide (i<l.num.length)) (l.num.getD i 0)

set_option maxHeartbeats 2000000 in
theorem leditTake {H:Hp} {u:Lu} {l:Ls} {id:Int} (r:RdL H u l) (fl:fitL l) :
  Go.Eng.Fn Tryz.prog F.ledit_Take #[lsV u l,.int .i64 id] H fun v H'=>∃ w:Lu,v=.tuple #[lsV w (takeM l id).1,.int .i64 (takeM l id).2]∧Hp.le H H'∧RdL H' w (takeM l id).1:=by
 have qr:=kRank (id:=id) r fl
 unfold kRankM at qr
 by_cases ok:okLs l
 rotate_left
 ·rw [if_neg ok] at qr
  have e:takeM l id=(.zero,8):=by unfold takeM; rw [if_neg ok]
  rw [e]
  exact ledit_Take_vc ⟨_,_,qr,fun _=>⟨zlu,rfl,Hp.le_refl _,RdL.zero⟩,fun h=>by simp at h⟩
 rw [if_pos ok] at qr
 by_cases h0:posO l.ord id<0
 ·rw [if_pos h0] at qr
  have e:takeM l id=(.zero,6):=by unfold takeM; rw [if_pos ok,if_pos h0]
  rw [e]
  exact ledit_Take_vc ⟨_,_,qr,fun _=>⟨zlu,rfl,Hp.le_refl _,RdL.zero⟩,fun h=>by simp at h⟩
 rw [if_neg h0] at qr
 have em:takeM l id=takeL l id:=by unfold takeM; rw [if_pos ok,if_neg h0]
 have T:=takeOk ok (id:=id) (by omega)
 have ei:posO l.ord id=(outI l id:Int):=by unfold outI; omega
 rw [ei] at qr
 have nl:=ok.nl
 have hlen:=ok.len
 have hsm:=ok.ck.f.len
 have tlt:=T.lt
 have ll:(u.n.n:Int)=l.num.length:=congrArg Nat.cast r.n.len
 refine ledit_Take_vc ⟨_,_,qr,fun h=>by simp at h,fun _=>(leditCopied r fl).mono fun v H4 ⟨b,so,sn,hv,B⟩=>⟨⟨b,0,none⟩,hv,by unfold inI; omega,fun b6 H7 hb6 hH7=>?_⟩⟩
 have l7:Hp.le H4 H7:=Hp.le_new (Hp.le_refl _) hb6 hH7
 have B7:=B.up l7
 have rw6:RdI H7 ⟨some ⟨b6,0,none⟩,2,2⟩ [(outI l id:Int)-1,(outI l id:Int)]:=rdConst (k:=1) (f:=fI) (fun _=>rfl) hH7 rfl rfl
 have np:=B.notProt hb6
 have sb:∀ p,(⟨some ⟨b6,0,none⟩,2,2⟩:Slc).a=some p→p.block≠b:=fun p hp e=>by cases hp; exact np (.inl e)
 have ht:takeC l id=stepT l (outI l id) 2:=rfl
 refine ⟨fun n H'=>0≤n∧n≤2∧(∃ w2,BoxL H H' b ⟨w2,so,sn⟩ ⟨stepT l (outI l id) n,l.ord,l.num⟩)∧RdI H' ⟨some ⟨b6,0,none⟩,2,2⟩ [(outI l id:Int)-1,(outI l id:Int)],fun n _=>(2-n).toNat,⟨by omega,by omega,⟨u.k,B7⟩,rw6⟩,fun n H11 ⟨n0,n1,⟨w2,B2⟩,r2⟩=>⟨fun hn=>?_,fun hn=>?_⟩⟩
 ·have hn:n<2:=of_decide_eq_true hn
  have rn:RdI H11 u.n l.num:=r.n.le B2.le
  refine ⟨r2.inS n0 (by simp; omega),_,RdI.get r2 n0 (by simp; omega),?_⟩
  have hcase:n=0∨n=1:=by omega
  rcases hcase with rfl | rfl
  ·have ev:([(outI l id:Int)-1,(outI l id:Int)]:List Int).getD (0:Int).toNat 0=(outI l id:Int)-1:=rfl
   rw [ev,ll]
   have ec:stepT l (outI l id) 1=goneIf l.ck (decide (0<outI l id)) (l.num.getD (outI l id-1) 0):=rfl
   refine ⟨fun hc=>?_,fun hc=>?_⟩
   ·simp only [Bool.and_eq_true,decide_eq_true_eq] at hc
    have h0:0<outI l id:=by omega
    have box2:=B2.box
    refine ⟨_,_,w2.f,_,w2.cl,w2.u1,w2.u2,w2.u3,w2.u4,w2.u5,w2.d,⟨Cel.at box2 0,Cel.at box2 1,Cel.at box2 2,Cel.at box2 3,Cel.at box2 4,Cel.at box2 5,Cel.at box2 6,Cel.at box2 7,Cel.at box2 8,Cel.at box2 9,Cel.at box2 10⟩,rn.inS (by omega) (by omega),_,RdI.get rn (by omega) (by omega),?_⟩
    rw [show ((outI l id:Int)-1).toNat=outI l id-1 by omega]
    refine B2.retire (n:=l.num.getD (outI l id-1) 0) fl ok.ck (T.held0 h0) r2 sb fun w3 H71 B71 r71=>⟨by unfold inI; omega,⟨by omega,by omega,⟨w3,?_⟩,r71⟩,by show (2-(0+1):Int).toNat<(2-0:Int).toNat; omega⟩
    show BoxL H H71 b _ ⟨stepT l (outI l id) 1,l.ord,l.num⟩
    rw [ec,decide_eq_true h0]
    exact B71
   ·have h0:¬ 0<outI l id:=fun h0=>by
     have:(decide ((outI l id:Int)-1≥0)&&decide ((outI l id:Int)-1<l.num.length))=true:=by simp only [Bool.and_eq_true,decide_eq_true_eq]; omega
     rw [this] at hc; cases hc
    refine ⟨by unfold inI; omega,⟨by omega,by omega,⟨w2,?_⟩,r2⟩,by show (2-(0+1):Int).toNat<(2-0:Int).toNat; omega⟩
    show BoxL H H11 b _ ⟨stepT l (outI l id) 1,l.ord,l.num⟩
    rw [ec,decide_eq_false h0]
    exact B2
  ·have ev:([(outI l id:Int)-1,(outI l id:Int)]:List Int).getD (1:Int).toNat 0=(outI l id:Int):=rfl
   rw [ev,ll]
   have ec:stepT l (outI l id) 2=goneIf (goneIf l.ck (decide (0<outI l id)) (l.num.getD (outI l id-1) 0)) (decide (outI l id<l.num.length)) (l.num.getD (outI l id) 0):=rfl
   refine ⟨fun hc=>?_,fun hc=>?_⟩
   ·simp only [Bool.and_eq_true,decide_eq_true_eq] at hc
    have h0:outI l id<l.num.length:=by omega
    have box2:=B2.box
    refine ⟨_,_,w2.f,_,w2.cl,w2.u1,w2.u2,w2.u3,w2.u4,w2.u5,w2.d,⟨Cel.at box2 0,Cel.at box2 1,Cel.at box2 2,Cel.at box2 3,Cel.at box2 4,Cel.at box2 5,Cel.at box2 6,Cel.at box2 7,Cel.at box2 8,Cel.at box2 9,Cel.at box2 10⟩,rn.inS (by omega) (by omega),_,RdI.get rn (by omega) (by omega),?_⟩
    rw [Int.toNat_natCast]
    obtain ⟨k1,k2⟩:=T.held1 h0
    have fl2:fitL ⟨goneIf l.ck (decide (0<outI l id)) (l.num.getD (outI l id-1) 0),l.ord,l.num⟩:=⟨k1.fit,fl.o,fl.n⟩
    refine B2.retire (l:=⟨goneIf l.ck (decide (0<outI l id)) (l.num.getD (outI l id-1) 0),l.ord,l.num⟩) (n:=l.num.getD (outI l id) 0) fl2 k1 k2 r2 sb fun w3 H71 B71 r71=>⟨by unfold inI; omega,⟨by omega,by omega,⟨w3,?_⟩,r71⟩,by show (2-(1+1):Int).toNat<(2-1:Int).toNat; omega⟩
    show BoxL H H71 b _ ⟨stepT l (outI l id) 2,l.ord,l.num⟩
    rw [ec,decide_eq_true h0]
    exact B71
   ·have h0:¬ outI l id<l.num.length:=fun h0=>by
     have:(decide ((outI l id:Int)≥0)&&decide ((outI l id:Int)<l.num.length))=true:=by simp only [Bool.and_eq_true,decide_eq_true_eq]; omega
     rw [this] at hc; cases hc
    refine ⟨by unfold inI; omega,⟨by omega,by omega,⟨w2,?_⟩,r2⟩,by show (2-(1+1):Int).toNat<(2-1:Int).toNat; omega⟩
    show BoxL H H11 b _ ⟨stepT l (outI l id) 2,l.ord,l.num⟩
    rw [ec,decide_eq_false h0]
    exact B2
 have hn:n=2:=by
  have:¬ n<2:=of_decide_eq_false hn
  omega
 subst hn
 have B2:BoxL H H11 b ⟨w2,so,sn⟩ ⟨takeC l id,l.ord,l.num⟩:=B2
 refine ⟨so,Cel.at B2.box 11,by unfold inI; omega,?_⟩
 refine (deleteInt B2.le B2.o (i:=(outI l id:Int)) (by omega) (by show (outI l id:Int)<l.ord.length; omega)).mono fun v H42 ⟨w41,hv,l42,m42,ch42,ex42⟩=>⟨w41,hv,?_⟩
 rw [Int.toNat_natCast] at m42
 refine B2.newO l42 m42 ch42 ex42 fun H44 B44 _=>⟨sn,Cel.at B44.box 12,?_⟩
 have ln:sn.n=l.num.length:=B44.n.rdI.len
 have ea:alterK (takeC l id) (outF l.ck.f id)=alteredK (takeC l id) (outF l.ck.f id):=by
  unfold alterK
  rw [if_pos T.okc,if_pos (chkF_zero.2 (okF_outF ok.ck.f id)),if_pos T.known]
 have cl:=cutI_len (o:=l.ord) (i:=outI l id) T.lt
 have f1:=fl.o; have f2:=fl.n
 have eo:(0<outI l id∧outI l id<(cutI l.ord (outI l id)).length)↔(0<outI l id∧outI l id<l.num.length):=by rw [cl,nl]
 have fin:∀ (v:Value) (H':Hp) (w:Lu) (r:Ls × Int),r=(if 0<outI l id∧outI l id<(cutI l.ord (outI l id)).length then madeL (outS l id) (outI l id-1) else (outS l id,0))→v=.tuple #[lsV w r.1,.int .i64 r.2]→Hp.le H H'→RdL H' w r.1 →
   ∃ w:Lu,v=.tuple #[lsV w (takeM l id).1,.int .i64 (takeM l id).2]∧Hp.le H H'∧RdL H' w (takeM l id).1:=fun v H' w r er hv lH hr=>by
  have e:takeM l id=r:=by
   rw [em,er]
   unfold takeL
   rw [if_neg (by rw [T.calm.z]; simp)]
   by_cases h:0<outI l id∧outI l id<l.num.length
   ·rw [if_pos h,if_pos (eo.2 h)]
   ·rw [if_neg h,if_neg fun h'=>h (eo.1 h')]
  rw [e]
  exact ⟨w,hv,lH,hr⟩
 have pm:=T.mid
 have pm:Mid (outS l id) (outI l id-1) (outI l id-1+if 0<outI l id∧outI l id<(cutI l.ord (outI l id)).length then 1 else 0):=by
  by_cases h:0<outI l id∧outI l id<l.num.length
  ·rw [if_pos h] at pm; rw [if_pos (eo.2 h)]; exact pm
  ·rw [if_neg h] at pm; rw [if_neg fun h'=>h (eo.1 h')]; exact pm
 refine ⟨fun hc=>?_,fun hc=>?_⟩
 ·have hc:0<l.num.length:=by
   rw [ln] at hc
   have:(l.num.length:Int)>0:=by simpa using hc
   omega
  have emin:(if (sn.n:Int)-1<(outI l id:Int) then (sn.n:Int)-1 else (outI l id:Int))=((min (outI l id) (l.num.length-1):Nat):Int):=by rw [ln]; split <;> omega
  rw [emin]
  refine ⟨by unfold inI; omega,sn,Cel.at B44.box 12,by unfold inI; omega,?_⟩
  refine (deleteInt B44.le B44.n (i:=((min (outI l id) (l.num.length-1):Nat):Int)) (by omega) (by show ((min (outI l id) (l.num.length-1):Nat):Int)<l.num.length; omega)).mono fun v H48 ⟨w47,hv,l48,m48,ch48,ex48⟩=>⟨w47,hv,?_⟩
  rw [Int.toNat_natCast] at m48
  refine B44.newN l48 m48 ch48 ex48 fun H50 B50 _=>?_
  have cn:=cutI_len (o:=l.num) (i:=min (outI l id) (l.num.length-1)) (by omega)
  exact takeTail B50 ⟨T.okc.fit,by show (cutI l.ord (outI l id)).length≤_; omega,by show (cutI l.num (min (outI l id) (l.num.length-1))).length≤_; omega⟩ r.k.f ok.ck.f T.pos ea T.calm.z pm (by show outI l id≤(cutI l.ord (outI l id)).length; omega) fin
 ·have hc:l.num.length=0:=by
   rw [ln] at hc
   have:¬ (l.num.length:Int)>0:=by simpa using hc
   omega
  have en:l.num=cutI l.num (min (outI l id) (l.num.length-1)):=by
   have:l.num=[]:=List.length_eq_zero_iff.1 hc
   rw [this]; simp [cutI]
  have B44:BoxL H H44 b ⟨w2,w41,sn⟩ ⟨takeC l id,cutI l.ord (outI l id),cutI l.num (min (outI l id) (l.num.length-1))⟩:=by rw [← en]; exact B44
  have cn:=congrArg List.length en
  exact takeTail B44 ⟨T.okc.fit,by show (cutI l.ord (outI l id)).length≤_; omega,by show (cutI l.num (min (outI l id) (l.num.length-1))).length≤_; omega⟩ r.k.f ok.ck.f T.pos ea T.calm.z pm (by show outI l id≤(cutI l.ord (outI l id)).length; omega) fin

theorem leditPut {H:Hp} {u:Lu} {l:Ls} {p:Pt} (r:RdL H u l) (fl:fitL l) :
  Go.Eng.Fn Tryz.prog F.ledit_Put #[lsV u l,.agg #[.int .i64 p.1,.int .i64 p.2.1,.int .i64 p.2.2]] H fun v H'=>∃ w:Lu,v=.tuple #[lsV w (putM l p).1,.int .i64 (putM l p).2]∧Hp.le H H'∧RdL H' w (putM l p).1:=by
 unfold putM
 refine ledit_Put_vc ⟨_,leditCheck r fl,fun hc=>?_,fun hc=>?_⟩
 ·have hn:¬ (okLs l∧okP p):=fun h=>by rw [if_pos h] at hc; simp at hc
  rw [if_neg hn,if_neg hn]; exact ⟨zlu,rfl,Hp.le_refl _,RdL.zero⟩
 ·have hn:okLs l∧okP p:=Decidable.byContradiction fun h=>by rw [if_neg h] at hc; simp at hc
  rw [if_pos hn]
  exact (leditPut0 r hn.1 hn.2).mono fun v H3 ⟨w,hv,l3,rw3⟩=>⟨_,_,w.k.f,_,w.k.cl,w.k.u1,w.k.u2,w.k.u3,w.k.u4,w.k.u5,w.k.d,w.o,w.n,_,hv,w,rfl,l3,rw3⟩

theorem leditChange {H:Hp} {u:Lu} {l:Ls} {p:Pt} (r:RdL H u l) (fl:fitL l) :
  Go.Eng.Fn Tryz.prog F.ledit_Change #[lsV u l,.agg #[.int .i64 p.1,.int .i64 p.2.1,.int .i64 p.2.2]] H fun v H'=>∃ w:Lu,v=.tuple #[lsV w (changeM l p).1,.int .i64 (changeM l p).2]∧Hp.le H H'∧RdL H' w (changeM l p).1:=by
 unfold changeM
 refine ledit_Change_vc ⟨_,leditCheck r fl,fun hc=>?_,fun hc=>?_⟩
 ·have hn:¬ (okLs l∧okP p):=fun h=>by rw [if_pos h] at hc; simp at hc
  rw [if_neg hn,if_neg hn]; exact ⟨zlu,rfl,Hp.le_refl _,RdL.zero⟩
 have hn:okLs l∧okP p:=Decidable.byContradiction fun h=>by rw [if_neg h] at hc; simp at hc
 rw [if_pos hn]
 refine (leditTake (id:=p.1) r fl).mono fun v H3 ⟨w,hv,l3,rw3⟩=>⟨_,_,w.k.f,_,w.k.cl,w.k.u1,w.k.u2,w.k.u3,w.k.u4,w.k.u5,w.k.d,w.o,w.n,_,hv,fun he=>?_,fun he=>?_⟩
 ·have he:(takeM l p.1).2≠0:=by simpa using he
  rw [if_neg he]; exact ⟨zlu,rfl,l3,RdL.zero⟩
 ·have he:(takeM l p.1).2=0:=by simpa using he
  rw [if_pos he]
  obtain ⟨_,_,_,K⟩:=takeM_ok he
  exact (leditPut0 rw3 K.ok hn.2).mono fun v H19 ⟨z,hv,l19,rw19⟩=>⟨_,_,z.k.f,_,z.k.cl,z.k.u1,z.k.u2,z.k.u3,z.k.u4,z.k.u5,z.k.d,z.o,z.n,_,hv,z,rfl,Hp.le_trans l3 l19,rw19⟩

theorem putsM_append:∀ (ps qs:List Pt) (r:Ls × Int),putsM r (ps++qs)=putsM (putsM r ps) qs
 | [],_,_=>rfl
 | p :: ps,qs,r=>putsM_append ps qs (if r.2=0 then putM r.1 p else r)
theorem takesM_append:∀ (ps qs:List Int) (r:Ls × Int),takesM r (ps++qs)=takesM (takesM r ps) qs
 | [],_,_=>rfl
 | p :: ps,qs,r=>takesM_append ps qs (if r.2=0 then takeM r.1 p else r)
theorem putsM_succ {r:Ls × Int} {ps:List Pt} {n:Nat} {p:Pt} (h:ps[n]?=some p):putsM r (ps.take (n+1))=if (putsM r (ps.take n)).2=0 then putM (putsM r (ps.take n)).1 p else putsM r (ps.take n):=by
 rw [take_succ h,putsM_append]; rfl
theorem takesM_succ {r:Ls × Int} {ps:List Int} {n:Nat} {p:Int} (h:ps[n]?=some p):takesM r (ps.take (n+1))=if (takesM r (ps.take n)).2=0 then takeM (takesM r (ps.take n)).1 p else takesM r (ps.take n):=by
 rw [take_succ h,takesM_append]; rfl
theorem putM_okLs {l:Ls} {p:Pt} (h:(putM l p).2=0):okLs (putM l p).1:=by
 unfold putM at h ⊢
 split at h
 ·rename_i hc
  rw [if_pos hc]
  exact (putL_ok hc.1 h).2.ok
 ·cases h
def Sound (r:Ls × Int):Prop:=(r.2=0→okLs r.1)∧(r.2≠0→r.1=.zero)
theorem Sound.fit {r:Ls × Int} (s:Sound r) (h:r.2=0):fitL r.1:=(s.1 h).fit
theorem Sound.put {r:Ls × Int} (s:Sound r) (p:Pt):Sound (if r.2=0 then putM r.1 p else r):=by
 split
 ·exact ⟨putM_okLs,putM_zero⟩
 ·exact s
theorem Sound.take {r:Ls × Int} (s:Sound r) (id:Int):Sound (if r.2=0 then takeM r.1 id else r):=by
 split
 ·exact ⟨fun h=>(takeM_ok h).2.2.2.ok,takeM_zero⟩
 ·exact s
theorem Sound.puts:∀ (ps:List Pt) {r:Ls × Int},Sound r→Sound (putsM r ps)
 | [],_,s=>s
 | p :: ps,_,s=>Sound.puts ps (s.put p)
theorem Sound.takes:∀ (ps:List Int) {r:Ls × Int},Sound r→Sound (takesM r ps)
 | [],_,s=>s
 | p :: ps,_,s=>Sound.takes ps (s.take p)

set_option maxHeartbeats 2000000 in
theorem leditAll {H:Hp} {u:Lu} {l:Ls} {pv iv:Slc} {ps:List Pt} {ids:List Int} (r:RdL H u l) (fl:fitL l) (ft:fitR l.ck.now) (rp:Rd 3 fD H pv ps) (ri:RdI H iv ids) (hp:ps.length≤1000) (hi:ids.length≤1000) :
    Go.Eng.Fn Tryz.prog F.ledit_All #[lsV u l,pv.v,iv.v] H fun v H'=>∃ w:Lu,v=.tuple #[lsV w (allM l ps ids).1,.int .i64 (allM l ps ids).2]∧Hp.le H H'∧RdL H' w (allM l ps ids).1:=by
  have lp:=rp.len; have li:=ri.len
  unfold allM
  refine ledit_All_vc ⟨_,klistCheck r fl,fun hc=>?_,fun hc=>?_⟩
  · have hn:¬ okLs l:=fun ok=>by rw [chkLs_ok ok] at hc; simp at hc
    rw [chkLs_bad hn,if_neg hn]; exact ⟨zlu,rfl,Hp.le_refl _,RdL.zero⟩
  have ok:okLs l:=chkLs_zero.1 (by simpa using hc)
  rw [if_pos ok]
  refine (klistAdvance (to:=l.ck.now) r fl ft).mono fun v H3 ⟨w,hv,l3,r3⟩=>?_
  rw [ok.stayM] at hv r3
  have s0:Sound (l,0):=⟨fun _=>ok,fun h=>absurd rfl h⟩
  refine ⟨_,_,w.k.f,_,w.k.cl,w.k.u1,w.k.u2,w.k.u3,w.k.u4,w.k.u5,w.k.d,w.o,w.n,_,_,hv,?_⟩
  refine ⟨fun e n n1 n2 a1 n3 a2 v1 v2 v3 v4 v5 d uo un H'=>0≤n∧n≤ps.length∧Hp.le H H'∧e=(putsM (l,0) (ps.take n.toNat)).2∧n1=(putsM (l,0) (ps.take n.toNat)).1.ck.now.1∧n2=(putsM (l,0) (ps.take n.toNat)).1.ck.now.2∧n3=(putsM (l,0) (ps.take n.toNat)).1.ck.ct.next ∧
      RdL H' ⟨⟨a1,a2,v1,v2,v3,v4,v5,d⟩,uo,un⟩ (putsM (l,0) (ps.take n.toNat)).1,
    fun _ n _ _ _ _ _ _ _ _ _ _ _ _ _ _=>(ps.length-n).toNat,⟨Int.le_refl _,by omega,l3,rfl,rfl,rfl,rfl,r3⟩,fun e n n1 n2 a1 n3 a2 v1 v2 v3 v4 v5 d uo un H36 ⟨n0,nn,l36,ee,e1,e2,e3,r36⟩=>⟨fun hn=>?_,fun hn=>?_⟩⟩
  · subst ee; subst e1; subst e2; subst e3
    have hn:n<ps.length:=by have:n<pv.n:=by simpa using hn
                            omega
    have hg:=getX (d:=((0:Int),(0:Int),(0:Int))) n0 hn
    have es:=putsM_succ (r:=(l,0)) hg
    rw [show n.toNat+1=(n+1).toNat by omega] at es
    have sd:=Sound.puts (ps.take n.toNat) s0
    refine (rp.le l36).ldD n0 hn ?_
    generalize ps.getD n.toNat (0,0,0)=p at *
    refine ⟨fun he=>?_,fun he=>?_⟩
    · have he:(putsM (l,0) (ps.take n.toNat)).2=0:=by simpa using he
      rw [if_pos he] at es
      refine (leditPut (p:=p) r36 (sd.fit he)).mono fun v H41 ⟨q,hv,l41,rq⟩=>⟨_,_,q.k.f,_,q.k.cl,q.k.u1,q.k.u2,q.k.u3,q.k.u4,q.k.u5,q.k.d,q.o,q.n,_,hv,by unfold inI; omega,?_,by dsimp only; omega⟩
      dsimp only
      rw [es]
      exact ⟨by omega,by omega,Hp.le_trans l36 l41,rfl,rfl,rfl,rfl,rq⟩
    · have he:(putsM (l,0) (ps.take n.toNat)).2≠0:=by simpa using he
      rw [if_neg he] at es
      refine ⟨by unfold inI; omega,?_,by dsimp only; omega⟩
      dsimp only
      rw [es]
      exact ⟨by omega,by omega,l36,rfl,rfl,rfl,rfl,r36⟩
  · have hn:n=ps.length:=by have:¬ n<pv.n:=by simpa using hn
                            omega
    subst hn
    rw [Int.toNat_natCast,List.take_length] at ee e1 e2 e3 r36
    have sd:=Sound.puts ps s0
    generalize putsM (l,0) ps=R at *
    refine ⟨fun e n n1 n2 a1 n3 a2 v1 v2 v3 v4 v5 d uo un H'=>0≤n∧n≤ids.length∧Hp.le H H'∧e=(takesM R (ids.take n.toNat)).2∧n1=(takesM R (ids.take n.toNat)).1.ck.now.1∧n2=(takesM R (ids.take n.toNat)).1.ck.now.2∧n3=(takesM R (ids.take n.toNat)).1.ck.ct.next ∧
        RdL H' ⟨⟨a1,a2,v1,v2,v3,v4,v5,d⟩,uo,un⟩ (takesM R (ids.take n.toNat)).1,
      fun _ n _ _ _ _ _ _ _ _ _ _ _ _ _ _=>(ids.length-n).toNat,⟨Int.le_refl _,by omega,l36,ee,e1,e2,e3,r36⟩,fun e n n1 n2 a1 n3 a2 v1 v2 v3 v4 v5 d uo un H73 ⟨n0,nn,l73,ee,e1,e2,e3,r73⟩=>⟨fun hn=>?_,fun hn=>?_⟩⟩
    · subst ee; subst e1; subst e2; subst e3
      have hn:n<ids.length:=by have:n<iv.n:=by simpa using hn
                               omega
      have hg:=getI n0 hn
      have es:=takesM_succ (r:=R) hg
      rw [show n.toNat+1=(n+1).toNat by omega] at es
      have sd:=Sound.takes (ids.take n.toNat) sd
      refine (ri.le l73).ldI n0 hn ?_
      generalize ids.getD n.toNat 0=p at *
      refine ⟨fun he=>?_,fun he=>?_⟩
      · have he:(takesM R (ids.take n.toNat)).2=0:=by simpa using he
        rw [if_pos he] at es
        refine (leditTake (id:=p) r73 (sd.fit he)).mono fun v H41 ⟨q,hv,l41,rq⟩=>⟨_,_,q.k.f,_,q.k.cl,q.k.u1,q.k.u2,q.k.u3,q.k.u4,q.k.u5,q.k.d,q.o,q.n,_,hv,by unfold inI; omega,?_,by dsimp only; omega⟩
        dsimp only
        rw [es]
        exact ⟨by omega,by omega,Hp.le_trans l73 l41,rfl,rfl,rfl,rfl,rq⟩
      · have he:(takesM R (ids.take n.toNat)).2≠0:=by simpa using he
        rw [if_neg he] at es
        refine ⟨by unfold inI; omega,?_,by dsimp only; omega⟩
        dsimp only
        rw [es]
        exact ⟨by omega,by omega,l73,rfl,rfl,rfl,rfl,r73⟩
    · subst ee; subst e1; subst e2; subst e3
      have hn:n=ids.length:=by have:¬ n<iv.n:=by simpa using hn
                               omega
      subst hn
      rw [Int.toNat_natCast,List.take_length] at r73 ⊢
      exact ⟨_,rfl,l73,r73⟩
end Go.Proofs.YtjhbjjdipmpgjaaGreat
end
