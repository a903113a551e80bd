/- The engine, parts H6, H7, H8, H9, HA, put together. Conditions: none. -/
import Derived.Test.YtjhbjjdipmpgjaaGreatPH1
import Derived.Test.YtjhbjjdipmpgjaaGreatFs
import Derived.Test.YtjhbjjdipmpgjaaGreatPS1
import Derived.Test.YtjhbjjdipmpgjaaGreatVgLedit
set_option linter.unusedVariables false
section
/- ledit.put and Put. Printed by mkH6.py. Conditions: none. -/
set_option maxRecDepth 100000
open Go Go.Eng Go.Proofs
namespace Go.Proofs.YtjhbjjdipmpgjaaGreat

theorem BoxL.fin {H0 H:Hp} {b:Nat} {u:Lu} {l:Ls} (B:BoxL H0 H b u l) {post:Value→Hp→Prop} (q:post (.tuple #[lsV u l,.int .i64 0]) H) :
  ∃ n72 n73:Int,∃ u74:Slc,∃ n75:Int,∃ u76 u77 u78 u79 u80 u81 u82:Slc,∃ u83:Slc,∃ u84:Slc,(H.at ((Addr.mk b 0 none).add 0) = some (.int .i64 n72)∧H.at ((Addr.mk b 0 none).add 1) = some (.int .i64 n73)∧H.at ((Addr.mk b 0 none).add 2) = some u74.v∧H.at ((Addr.mk b 0 none).add 3) = some (.int .i64 n75)∧H.at ((Addr.mk b 0 none).add 4) = some u76.v∧H.at ((Addr.mk b 0 none).add 5) = some u77.v∧H.at ((Addr.mk b 0 none).add 6) = some u78.v∧H.at ((Addr.mk b 0 none).add 7) = some u79.v∧H.at ((Addr.mk b 0 none).add 8) = some u80.v∧H.at ((Addr.mk b 0 none).add 9) = some u81.v∧H.at ((Addr.mk b 0 none).add 10) = some u82.v∧H.at ((Addr.mk b 0 none).add 11) = some u83.v∧H.at ((Addr.mk b 0 none).add 12) = some u84.v) ∧
   post (.tuple #[vLs n72 n73 u74 n75 u76 u77 u78 u79 u80 u81 u82 u83 u84,.int .i64 0]) H :=
 ⟨_,_,u.k.f,_,u.k.cl,u.k.u1,u.k.u2,u.k.u3,u.k.u4,u.k.u5,u.k.d,u.o,u.n,⟨Cel.at B.box 0,Cel.at B.box 1,Cel.at B.box 2,Cel.at B.box 3,Cel.at B.box 4,Cel.at B.box 5,Cel.at B.box 6,Cel.at B.box 7,Cel.at B.box 8,Cel.at B.box 9,Cel.at B.box 10,Cel.at B.box 11,Cel.at B.box 12⟩,q⟩

section
variable {H0 H:Hp} {b:Nat} {u:Lu} {l:Ls} {post:Value→Hp→Prop}
theorem certTail {rk len:Nat} (B:BoxL H0 H b u l) (m:Mid l (rk - 1) (min (rk + 1) len)) (hn:l.num.length = len) (hr:rk≤len)
  (hpost:∀ (v:Value) (H':Hp) (w:Lu),v = .tuple #[lsV w (makesN l (rk - 1) (min (rk + 1) len - (rk - 1))).1,.int .i64 (makesN l (rk - 1) (min (rk + 1) len - (rk - 1))).2]→Hp.le H0 H'→RdL H' w (makesN l (rk - 1) (min (rk + 1) len - (rk - 1))).1→post v H') :
  inI ((rk:Int) - 1)∧∀ (b67:Nat) (H68:Hp),H b67 = none→H68 = H.put b67 (.cells #[.int .i64 ((rk:Int) - 1),.int .i64 (rk:Int)] 3 (0,0))→Go.Eng.Fn Tryz.prog F.ledit_certify #[.pointer (some ⟨b,0,none⟩),.slice (some ⟨b67,0,none⟩) 2 2] H68 fun v69 H70=>∃ n71:Int,v69 = .int .i64 n71 ∧
   ((n71 != 0) = true→post (.tuple #[vLs 0 0 zs 0 zs zs zs zs zs zs zs zs zs,.int .i64 n71]) H70)∧((n71 != 0) = false →
   ∃ n72 n73:Int,∃ u74:Slc,∃ n75:Int,∃ u76 u77 u78 u79 u80 u81 u82:Slc,∃ u83:Slc,∃ u84:Slc,(H70.at ((Addr.mk b 0 none).add 0) = some (.int .i64 n72)∧H70.at ((Addr.mk b 0 none).add 1) = some (.int .i64 n73)∧H70.at ((Addr.mk b 0 none).add 2) = some u74.v∧H70.at ((Addr.mk b 0 none).add 3) = some (.int .i64 n75)∧H70.at ((Addr.mk b 0 none).add 4) = some u76.v∧H70.at ((Addr.mk b 0 none).add 5) = some u77.v∧H70.at ((Addr.mk b 0 none).add 6) = some u78.v∧H70.at ((Addr.mk b 0 none).add 7) = some u79.v∧H70.at ((Addr.mk b 0 none).add 8) = some u80.v∧H70.at ((Addr.mk b 0 none).add 9) = some u81.v∧H70.at ((Addr.mk b 0 none).add 10) = some u82.v∧H70.at ((Addr.mk b 0 none).add 11) = some u83.v∧H70.at ((Addr.mk b 0 none).add 12) = some u84.v) ∧
    post (.tuple #[vLs n72 n73 u74 n75 u76 u77 u78 u79 u80 u81 u82 u83 u84,.int .i64 0]) H70):=by
 have sm:=m.small
 have nl:=m.nl
 refine ⟨by unfold inI; omega,fun b67 H68 hb67 hH68=>?_⟩
 have l68:Hp.le H H68:=Hp.le_new (Hp.le_refl _) hb67 hH68
 have B68:=B.up l68
 have rw67:RdI H68 ⟨some ⟨b67,0,none⟩,2,2⟩ [(rk:Int) - 1,(rk:Int)]:=rdConst (k:=1) (f:=fI) (fun _=>rfl) hH68 rfl rfl
 have np:=B.notProt hb67
 obtain ⟨e,good⟩:=certI_two m hn hr
 refine (certifyB B68 rw67 (fun p hp e=>by cases hp; exact np (.inl e)) (fun p q hp hq e=>by cases hp; exact np (.inr (.inr ⟨q,hq,e.symm⟩))) (by simp) good).mono fun v H70 ⟨hv,l70,hok⟩=>⟨_,hv,fun he=>?_,fun he=>?_⟩
 ·rw [e] at he ⊢
  have he:(makesN l (rk - 1) (min (rk + 1) len - (rk - 1))).2≠0:=by simpa using he
  have hz:=makesN_zero _ he
  exact hpost _ _ zlu (by rw [hz]; rfl) l70 (by rw [hz]; exact RdL.zero)
 ·rw [e] at he hok
  have he:(makesN l (rk - 1) (min (rk + 1) len - (rk - 1))).2 = 0:=by simpa using he
  obtain ⟨w,B70⟩:=hok he
  exact B70.fin (hpost _ _ ⟨w,u.o,u.n⟩ (by rw [he]) B70.le B70.rd)

set_option maxHeartbeats 1000000 in
theorem putTail {c:Ck} {ln rk:Nat} {x:Int} (B:BoxL H0 H b u ⟨c,l.ord,l.num⟩) (eln:ln = l.ord.length) (enl:l.num.length = ln - 1)
    (m:Mid ⟨c,insI l.ord rk x,if ln = 0 then l.num else insI l.num (min rk (ln - 1)) 0⟩ (rk - 1) (min (rk + 1) ln)) (hn:(if ln = 0 then l.num else insI l.num (min rk (ln - 1)) 0).length = ln) (hr:rk≤ln) (hs:ln≤100)
    (hpost:∀ (v:Value) (H':Hp) (w:Lu),v = .tuple #[lsV w (makesN ⟨c,insI l.ord rk x,if ln = 0 then l.num else insI l.num (min rk (ln - 1)) 0⟩ (rk - 1) (min (rk + 1) ln - (rk - 1))).1,.int .i64 (makesN ⟨c,insI l.ord rk x,if ln = 0 then l.num else insI l.num (min rk (ln - 1)) 0⟩ (rk - 1) (min (rk + 1) ln - (rk - 1))).2]→Hp.le H0 H'→RdL H' w (makesN ⟨c,insI l.ord rk x,if ln = 0 then l.num else insI l.num (min rk (ln - 1)) 0⟩ (rk - 1) (min (rk + 1) ln - (rk - 1))).1→post v H') :
     (decide ((ln:Int) > 0) = true→∃ u53:Slc,H.at (((Addr.mk b 0 none).add 12).add 0) = some u53.v∧inI ((ln:Int) - 1)∧∀ (b54:Nat) (H55:Hp),H b54 = none→H55 = H.put b54 (Obj.cells #[Value.int .i64 0] 3)→Go.Eng.Fn Tryz.prog F.slices_Insert_int_int #[u53.v,Value.int .i64 (if (ln :
      Int) - 1 < (rk:Int) then (ln:Int) - 1 else (rk:Int)),Value.slice (some (Addr.mk b54 0 none)) 1 1] H55 fun (v56:Value) (H57:Hp)=>∃ u58:Slc,v56 = u58.v∧H57.canStore ((Addr.mk b 0 none).add 12) 0 [u58.v]∧∀ (H59:Hp),H59 = H57.store ((Addr.mk b 0 none).add 12) 0 [u58.v]→∃
      u60:Slc,H59.at (((Addr.mk b 0 none).add 11).add 0) = some u60.v∧∀ (b61:Nat) (H62:Hp),H59 b61 = none→H62 = H59.put b61 (Obj.cells #[Value.int .i64 x] 3)→Go.Eng.Fn Tryz.prog F.slices_Insert_int_int #[u60.v,Value.int .i64 (rk:Int),Value.slice (some (Addr.mk b61 0 none)) 1 1] H62
      fun (v63:Value) (H64:Hp)=>∃ u65:Slc,v63 = u65.v∧H64.canStore ((Addr.mk b 0 none).add 11) 0 [u65.v]∧∀ (H66:Hp),H66 = H64.store ((Addr.mk b 0 none).add 11) 0 [u65.v]→inI ((rk:Int) - 1)∧∀ (b67:Nat) (H68:Hp),H66 b67 = none→H68 = H66.put b67 (Obj.cells #[Value.int .i64
      ((rk:Int) - 1),Value.int .i64 (rk:Int)] 3)→Go.Eng.Fn Tryz.prog F.ledit_certify #[Value.pointer (some ⟨b,0,none⟩),Value.slice (some (Addr.mk b67 0 none)) 2 2] H68 fun (v69:Value) (H70:Hp)=>∃ n71:Int,v69 = Value.int .i64 n71∧((n71 != 0) = true→post (Value.tuple #[(vLs 0 0
      zs 0 zs zs zs zs zs zs zs zs zs),Value.int .i64 n71]) H70)∧((n71 != 0) = false→∃ n72 n73:Int,∃ u74:Slc,∃ n75:Int,∃ u76 u77 u78 u79 u80 u81 u82:Slc,∃ (u83:Slc),∃ u84:Slc,(H70.at ((Addr.mk b 0 none).add 0) = some (Value.int .i64 n72)∧H70.at ((Addr.mk b 0 none).add 1) =
      some (Value.int .i64 n73)∧H70.at ((Addr.mk b 0 none).add 2) = some u74.v∧H70.at ((Addr.mk b 0 none).add 3) = some (Value.int .i64 n75)∧H70.at ((Addr.mk b 0 none).add 4) = some u76.v∧H70.at ((Addr.mk b 0 none).add 5) = some u77.v∧H70.at ((Addr.mk b 0 none).add 6) = some u78.v∧H70.at
      ((Addr.mk b 0 none).add 7) = some u79.v∧H70.at ((Addr.mk b 0 none).add 8) = some u80.v∧H70.at ((Addr.mk b 0 none).add 9) = some u81.v∧H70.at ((Addr.mk b 0 none).add 10) = some u82.v∧H70.at ((Addr.mk b 0 none).add 11) = some u83.v∧H70.at ((Addr.mk b 0 none).add 12) = some u84.v)∧post
      (Value.tuple #[(vLs n72 n73 u74 n75 u76 u77 u78 u79 u80 u81 u82 u83 u84),Value.int .i64 0]) H70))∧(decide ((ln:Int) > 0) = false→∃ u85:Slc,H.at (((Addr.mk b 0 none).add 11).add 0) = some u85.v∧∀ (b86:Nat) (H87:Hp),H b86 = none→H87 = H.put b86 (Obj.cells #[Value.int .i64 x] 3)
      → Go.Eng.Fn Tryz.prog F.slices_Insert_int_int #[u85.v,Value.int .i64 (rk:Int),Value.slice (some (Addr.mk b86 0 none)) 1 1] H87 fun (v88:Value) (H89:Hp)=>∃ u90:Slc,v88 = u90.v∧H89.canStore ((Addr.mk b 0 none).add 11) 0 [u90.v]∧∀ (H91:Hp),H91 = H89.store ((Addr.mk b 0
      none).add 11) 0 [u90.v]→inI ((rk:Int) - 1)∧∀ (b92:Nat) (H93:Hp),H91 b92 = none→H93 = H91.put b92 (Obj.cells #[Value.int .i64 ((rk:Int) - 1),Value.int .i64 (rk:Int)] 3)→Go.Eng.Fn Tryz.prog F.ledit_certify #[Value.pointer (some ⟨b,0,none⟩),Value.slice (some (Addr.mk b92 0
      none)) 2 2] H93 fun (v94:Value) (H95:Hp)=>∃ n96:Int,v94 = Value.int .i64 n96∧((n96 != 0) = true→post (Value.tuple #[(vLs 0 0 zs 0 zs zs zs zs zs zs zs zs zs),Value.int .i64 n96]) H95)∧((n96 != 0) = false→∃ n97 n98:Int,∃ u99:Slc,∃ n100:Int,∃ u101 u102 u103 u104 u105
      u106 u107 u108:Slc,∃ (u109:Slc),(H95.at ((Addr.mk b 0 none).add 0) = some (Value.int .i64 n97)∧H95.at ((Addr.mk b 0 none).add 1) = some (Value.int .i64 n98)∧H95.at ((Addr.mk b 0 none).add 2) = some u99.v∧H95.at ((Addr.mk b 0 none).add 3) = some (Value.int .i64 n100)∧H95.at
      ((Addr.mk b 0 none).add 4) = some u101.v∧H95.at ((Addr.mk b 0 none).add 5) = some u102.v∧H95.at ((Addr.mk b 0 none).add 6) = some u103.v∧H95.at ((Addr.mk b 0 none).add 7) = some u104.v∧H95.at ((Addr.mk b 0 none).add 8) = some u105.v∧H95.at ((Addr.mk b 0 none).add 9) = some u106.v ∧
      H95.at ((Addr.mk b 0 none).add 10) = some u107.v∧H95.at ((Addr.mk b 0 none).add 11) = some u108.v∧H95.at ((Addr.mk b 0 none).add 12) = some u109.v)∧post (Value.tuple #[(vLs n97 n98 u99 n100 u101 u102 u103 u104 u105 u106 u107 u108 u109),Value.int .i64 0]) H95)):=by
  -- the ID put into the order
  have ordPart:∀ {H:Hp} {u:Lu} {n':List Int},n' = (if ln = 0 then l.num else insI l.num (min rk (ln - 1)) 0)→BoxL H0 H b u ⟨c,l.ord,n'⟩→∀ (b61:Nat) (H62:Hp),H b61 = none→H62 = H.put b61 (.cells #[.int .i64 x] 3 (0,0)) →
      Go.Eng.Fn Tryz.prog F.slices_Insert_int_int #[u.o.v,.int .i64 (rk:Int),.slice (some ⟨b61,0,none⟩) 1 1] H62 fun v63 H64=>∃ u65:Slc,v63 = u65.v∧H64.canStore ((Addr.mk b 0 none).add 11) 0 [u65.v]∧∀ H66,H66 = H64.store ((Addr.mk b 0 none).add 11) 0 [u65.v] →
        BoxL H0 H66 b ⟨u.k,u65,u.n⟩ ⟨c,insI l.ord rk x,if ln = 0 then l.num else insI l.num (min rk (ln - 1)) 0⟩:=by
    intro H u n' en B b61 H62 hb61 hH62
    subst en
    have l62:Hp.le H H62:=Hp.le_new (Hp.le_refl _) hb61 hH62
    have B62:=B.up l62
    have np:=B.notProt hb61
    refine (insertInt (x:=x) B62.le B62.o (i:=(rk:Int)) (by omega) (by show (rk:Int)≤l.ord.length; omega) (by show l.ord.length≤_; omega) (by rw [hH62]; exact Hp.put_same _ _ _) (fun p hp e=>np (.inr (.inl ⟨p,hp,e⟩)))).mono fun v H64 ⟨w,hv,l64,m64,ch,ex⟩=>⟨w,hv,?_⟩
    rw [Int.toNat_natCast] at m64
    exact B62.newO l64 m64 ch ex fun H' B' _=>B'
  refine ⟨fun hc=>?_,fun hc=>?_⟩
  · have hc:0 < ln:=by have:(ln:Int) > 0:=by simpa using hc
                       omega
    refine ⟨u.n,Cel.at B.box 12,by unfold inI; omega,fun b54 H55 hb54 hH55=>?_⟩
    have l55:Hp.le H H55:=Hp.le_new (Hp.le_refl _) hb54 hH55
    have B55:=B.up l55
    have np:=B.notProt hb54
    have emin:(if (ln:Int) - 1 < (rk:Int) then (ln:Int) - 1 else (rk:Int)) = ((min rk (ln - 1):Nat):Int):=by split <;> omega
    rw [emin]
    refine (insertInt (x:=0) B55.le B55.n (i:=((min rk (ln - 1):Nat):Int)) (by omega) (by show ((min rk (ln - 1):Nat):Int)≤l.num.length; omega) (by show l.num.length≤_; omega) (by rw [hH55]; exact Hp.put_same _ _ _) (fun p hp e=>np (.inr (.inr ⟨p,hp,e⟩)))).mono fun v H57 ⟨w,hv,l57,m57,ch,ex⟩=>⟨w,hv,?_⟩
    rw [Int.toNat_natCast] at m57
    refine B55.newN l57 m57 ch ex fun H59 B59 _=>⟨u.o,Cel.at B59.box 11,fun b61 H62 hb61 hH62=>?_⟩
    refine (ordPart (by rw [if_neg (by omega)]) B59 b61 H62 hb61 hH62).mono fun v H64 ⟨w2,hv,can,st⟩=>⟨w2,hv,can,fun H66 e66=>?_⟩
    exact certTail (st H66 e66) m hn hr hpost
  · have hc:ln = 0:=by have:¬ (ln:Int) > 0:=by simpa using hc
                       omega
    refine ⟨u.o,Cel.at B.box 11,fun b61 H62 hb61 hH62=>?_⟩
    refine (ordPart (n':=l.num) (by rw [if_pos hc]) B b61 H62 hb61 hH62).mono fun v H64 ⟨w2,hv,can,st⟩=>⟨w2,hv,can,fun H66 e66=>?_⟩
    exact certTail (st H66 e66) m hn hr hpost
end

theorem alterK_at {l:Ls} (ok:okLs l) {f:List Pt} (of:okF f) (kn:knownC l.ck.ct f = true):alterK l.ck f = alteredK l.ck f:=by
 unfold alterK
 rw [if_pos ok.ck,if_pos (chkF_zero.2 of),if_pos kn]
theorem known_ins {l:Ls} (ok:okLs l) (p:Pt):knownC l.ck.ct (insF l.ck.f p) = true:=known_of fun x hm=>by
 obtain ⟨a,b⟩:=knownC_at ok.ck.known hm
 have key:∀ id,0≤posF l.ck.f id→0≤posF (insF l.ck.f p) id:=fun id h=>posF_mem.2 (((insF_perm l.ck.f p).map _).mem_iff.2 (List.mem_cons_of_mem _ (posF_mem.1 h)))
 exact ⟨key _ a,key _ b⟩

set_option maxHeartbeats 1000000 in
theorem leditPut0 {H:Hp} {u:Lu} {l:Ls} {p:Pt} (r:RdL H u l) (ok:okLs l) (op:okP p) :
  Go.Eng.Fn Tryz.prog F.ledit_put #[lsV u l,.agg #[.int .i64 p.1,.int .i64 p.2.1,.int .i64 p.2.2]] H fun v H'=>∃ w:Lu,v = .tuple #[lsV w (putL l p).1,.int .i64 (putL l p).2]∧Hp.le H H'∧RdL H' w (putL l p).1:=by
 have fl:=ok.fit
 refine ledit_put_vc ((fieldPut (p:=p) r.k.f).mono fun v H2 ⟨u3,hv,l2,rf⟩=>⟨u3,_,hv,fun he=>?_,fun he=>?_⟩)
 ·have he:(putF l.ck.f p).2≠0:=by simpa using he
  unfold putL
  rw [if_pos he]
  exact ⟨zlu,rfl,l2,RdL.zero⟩
 have he:(putF l.ck.f p).2 = 0:=by simpa using he
 obtain ⟨_,hn,hl,ef⟩:=put_parts ok he
 have P:=putOk ok op hn hl
 rw [ef] at rf
 have r2:=r.le l2
 refine ⟨_,leditWhere r2 ok op,(leditCopied r2 fl).mono fun v H7 ⟨b,so,sn,hv,B⟩=>⟨⟨b,0,none⟩,hv,?_⟩⟩
 have q:=Go.Eng.Fn.frame (clockAlter (f:=insF l.ck.f p) r2.k fl.k rf) B.le
 have ea:alterK l.ck (insF l.ck.f p) = alteredK l.ck (insF l.ck.f p):=alterK_at ok (okF_insF ok.ck.f op hn hl) (known_ins ok p)
 rw [ea] at q
 refine q.mono fun v H10 ⟨G,⟨z,hv,lG,rG⟩,g1,g2,g3⟩=>⟨_,_,z.f,_,z.cl,z.u1,z.u2,z.u3,z.u4,z.u5,z.d,_,hv,?_⟩
 refine B.clockG (g3 lG) g1 (fun x hx=>g2 x (B.fresh x hx) (B.used x hx)) rG fun H23 B23=>⟨fun he=>?_,fun he=>?_⟩
 ·have he2:(alteredK l.ck (insF l.ck.f p)).2≠0:=by simpa using he
  exact absurd P.calm.z he2
 have w:=ok.weak
 have nl:=ok.nl
 have rk:=P.rk
 have hle:=ok.weak.fit.o
 have lo:so.n = l.ord.length:=B23.o.rdI.len
 have ln:sn.n = l.num.length:=B23.n.rdI.len
 have fin:∀ (v:Value) (H':Hp) (w:Lu),v = .tuple #[lsV w (makesN (putS l p) (rkI l p - 1) (min (rkI l p + 1) l.ord.length - (rkI l p - 1))).1,.int .i64 (makesN (putS l p) (rkI l p - 1) (min (rkI l p + 1) l.ord.length - (rkI l p - 1))).2]→Hp.le H2 H'→RdL H' w (makesN (putS l p) (rkI l p - 1) (min (rkI l p + 1) l.ord.length - (rkI l p - 1))).1 →
   ∃ w:Lu,v = .tuple #[lsV w (putL l p).1,.int .i64 (putL l p).2]∧Hp.le H H'∧RdL H' w (putL l p).1:=fun v H' w hv lH hr=>by
  have e:putL l p = makesN (putS l p) (rkI l p - 1) (min (rkI l p + 1) l.ord.length - (rkI l p - 1)):=by
   unfold putL
   rw [if_neg (by rw [‹(putF l.ck.f p).2 = 0›]; simp),if_neg (by rw [P.calm.z]; simp)]
  rw [e]
  exact ⟨w,hv,Hp.le_trans l2 lH,hr⟩
 have hlen:=ok.len
 have hsm:=ok.ck.f.len
 refine ⟨so,Cel.at B23.box 11,fun hc=>?_,fun hc=>?_⟩
 ·have hc:0 < rkI l p∧rkI l p < l.ord.length:=by
   rw [lo] at hc
   simp only [Bool.and_eq_true,decide_eq_true_eq] at hc
   omega
  have bx:=B23.box
  have bn:RdI H23 sn l.num:=B23.n.rdI
  refine ⟨_,_,z.f,_,z.cl,z.u1,z.u2,z.u3,z.u4,z.u5,z.d,⟨Cel.at bx 0,Cel.at bx 1,Cel.at bx 2,Cel.at bx 3,Cel.at bx 4,Cel.at bx 5,Cel.at bx 6,Cel.at bx 7,Cel.at bx 8,Cel.at bx 9,Cel.at bx 10⟩,sn,Cel.at bx 12,by unfold inI; omega,bn.inS (by omega) (by omega),_,RdI.get bn (by omega) (by omega),?_⟩
  rw [show ((rkI l p:Int) - 1).toNat = rkI l p - 1 by omega]
  have hh:=P.held hc.1 hc.2
  refine B23.retire (n:=l.num.getD (rkI l p - 1) 0) ⟨P.calm.ok.fit,fl.o,fl.n⟩ P.calm.ok hh (rs:=⟨none,0,0⟩) (xs:=[]) Rd.nil (fun p hp=>by cases hp) fun w3 H52 B52 _=>?_
  have es:putS l p = ⟨goneK (alteredK l.ck (insF l.ck.f p)).1 (l.num.getD (rkI l p - 1) 0),insI l.ord (rkI l p) p.1,if l.ord.length = 0 then l.num else insI l.num (min (rkI l p) (l.ord.length - 1)) 0⟩:=by
   unfold putS goneIf
   rw [if_pos (by simp only [Bool.and_eq_true,decide_eq_true_eq]; exact hc)]
  have pm:=P.mid; have pn:=P.nlen
  rw [es] at pm pn fin
  exact putTail B52 lo (by rw [lo]; omega) (by rw [lo]; exact pm) (by rw [lo]; exact pn) (by rw [lo]; omega) (by omega) (by rw [lo]; exact fin)
 ·have hc:¬ (0 < rkI l p∧rkI l p < l.ord.length):=fun h=>by
   rw [lo] at hc
   have:(decide ((rkI l p:Int) > 0)&&decide ((rkI l p:Int) < (l.ord.length:Int))) = true:=by simp only [Bool.and_eq_true,decide_eq_true_eq]; omega
   rw [this] at hc; cases hc
  have es:putS l p = ⟨(alteredK l.ck (insF l.ck.f p)).1,insI l.ord (rkI l p) p.1,if l.ord.length = 0 then l.num else insI l.num (min (rkI l p) (l.ord.length - 1)) 0⟩:=by
   unfold putS goneIf
   rw [if_neg (by simp only [Bool.and_eq_true,decide_eq_true_eq]; exact hc)]
  have pm:=P.mid; have pn:=P.nlen
  rw [es] at pm pn fin
  exact putTail B23 lo (by rw [lo]; omega) (by rw [lo]; exact pm) (by rw [lo]; exact pn) (by rw [lo]; omega) (by omega) (by rw [lo]; exact fin)

section
variable {H0 H:Hp} {b:Nat} {u:Lu} {l:Ls} {post:Value→Hp→Prop}
end

theorem leditPut {H:Hp} {u:Lu} {l:Ls} {p:Pt} (r:RdL H u l) (fl:fitL l) :
  Go.Eng.Fn Tryz.prog F.ledit_Put #[lsV u l,.agg #[.int .i64 p.1,.int .i64 p.2.1,.int .i64 p.2.2]] H fun v H'=>∃ w:Lu,v = .tuple #[lsV w (putM l p).1,.int .i64 (putM l p).2]∧Hp.le H H'∧RdL H' w (putM l p).1:=by
 unfold putM
 refine ledit_Put_vc ⟨_,leditCheck r fl,fun hc=>?_,fun hc=>?_⟩
 ·have hn:¬ (okLs l∧okP p):=fun h=>by rw [if_pos h] at hc; simp at hc
  rw [if_neg hn,if_neg hn]; exact ⟨zlu,rfl,Hp.le_refl _,RdL.zero⟩
 ·have hn:okLs l∧okP p:=Decidable.byContradiction fun h=>by rw [if_neg h] at hc; simp at hc
  rw [if_pos hn]
  exact (leditPut0 r hn.1 hn.2).mono fun v H3 ⟨w,hv,l3,rw3⟩=>⟨_,_,w.k.f,_,w.k.cl,w.k.u1,w.k.u2,w.k.u3,w.k.u4,w.k.u5,w.k.d,w.o,w.n,_,hv,w,rfl,l3,rw3⟩


theorem putM_okLs {l:Ls} {p:Pt} (h:(putM l p).2 = 0):okLs (putM l p).1:=by
 unfold putM at h ⊢
 split at h
 ·rename_i hc
  rw [if_pos hc]
  exact (putL_ok hc.1 h).2.ok
 ·cases h
def Sound (r:Ls × Int):Prop:=(r.2 = 0→okLs r.1)∧(r.2≠0→r.1 = .zero)
theorem Sound.fit {r:Ls × Int} (s:Sound r) (h:r.2 = 0):fitL r.1:=(s.1 h).fit
theorem Sound.put {r:Ls × Int} (s:Sound r) (p:Pt):Sound (if r.2 = 0 then putM r.1 p else r):=by
 split
 ·exact ⟨putM_okLs,putM_zero⟩
 ·exact s
theorem Sound.take {r:Ls × Int} (s:Sound r) (id:Int):Sound (if r.2 = 0 then takeM r.1 id else r):=by
 split
 ·exact ⟨fun h=>(takeM_ok h).2.2.2.ok,takeM_zero⟩
 ·exact s
end Go.Proofs.YtjhbjjdipmpgjaaGreat
end
