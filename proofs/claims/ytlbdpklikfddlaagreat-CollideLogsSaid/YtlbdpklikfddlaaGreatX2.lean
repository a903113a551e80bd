/- The reference's meetings between two times. Conditions: none. -/
import Derived.Test.YtlbdpklikfddlaaGreatPYA
import Derived.Test.YtlbdpklikfddlaaGreatQB
import Derived.Test.YtlbdpklikfddlaaGreatPS1
import Derived.Test.YtlbdpklikfddlaaGreatPO1
import Derived.Test.YtlbdpklikfddlaaGreatVgR04
import Derived.Test.YtlbdpklikfddlaaGreatFs
set_option linter.unusedVariables false
set_option maxRecDepth 100000
open Go Go.Eng Go.Proofs
namespace Go.Proofs.YtlbdpklikfddlaaGreat

theorem take_snocP {m:List Pr} {n:Nat} (h:n<m.length):m.take (n+1)=m.take n++[m.getD n zPr]:=by
 rw [List.take_add_one,List.getD_eq_getElem?_getD,List.getElem?_eq_getElem h]; rfl
set_option maxHeartbeats 2000000 in
theorem refBetween4 {H:Hp} {w:Slc} {f:List Pt} {a b:Int × Int} (hf:Rd 3 fD H w f) (of:okF f) (oa:okR a) (ob:okR b) :
  Go.Eng.Fn Tryz.prog F.pelotonref04_Between #[vFd w,raW a,raW b] H fun v H'=>∃ u:Slc,v=u.v∧Hp.le H H'∧Mine 4 fM T.api_Meeting H H' u (betweenM f a b):=by
 refine pelotonref04_Between_vc ((refPairs4 hf of).mono fun v H2 ⟨u3,hv,l2,m2⟩=>⟨u3,hv,?_⟩)
 have okS:=metsM_ok of
 have lenS:(metsM f).length≤100000000:=by
  have h1:(metsM f).length=(upM4 f f.length).length:=by unfold metsM; rw [(sortP_perm _).length_eq,upM4_end]
  have h2:=upM4_len f f.length
  have h3:f.length * f.length≤64 * 64:=Nat.mul_le_mul of.len of.len
  omega
 have un:(u3.n:Int)=(metsM f).length:=by have:=m2.rdM.len; omega
 rw [un]
 unfold betweenM
 generalize metsM f=S at *
 refine ⟨fun u n H'=>0≤n∧n≤S.length∧Hp.le H2 H'∧Mine 4 fM T.api_Meeting H2 H' u ((S.take n.toNat).filter fun x=>inT a b x.2.2),fun _ n _=>((S.length:Int)-n).toNat,⟨Int.le_refl _,by omega,Hp.le_refl _,.inl ⟨rfl,rfl⟩⟩,?_⟩
 rintro u6 n H8 ⟨h0,h1,l8,m8⟩
 refine ⟨fun hn=>?_,fun hn=>?_⟩
 ·have hn:n<S.length:=of_decide_eq_true hn
  have hin:n.toNat<S.length:=by omega
  have r8:=m2.rdM.le l8
  have ox:=okS _ (mem_getP hin)
  have e1:(n+1).toNat=n.toNat+1:=by omega
  have hp:∀ c:Bool,inT a b (S.getD n.toNat zPr).2.2=c→(decide (cmpR (S.getD n.toNat zPr).2.2 a>0)&&decide (cmpR (S.getD n.toNat zPr).2.2 b≤0))=c:=fun c hc=>by
   rw [← hc]
   unfold inT
   congr 1
   rw [← decide_not]
   exact decide_eq_decide.2 (by omega)
  refine ⟨r8.inS h0 hn,_,_,RdM.getT r8 h0 hn,_,refCompareR ox oa,fun _=>r8.inS h0 hn,_,_,fun _=>RdM.getT r8 h0 hn,_,fun _=>refCompareR ox ob,fun hc=>⟨r8.inS h0 hn,_,_,_,_,RdM.get r8 h0 hn,fun c H20 hb hH=>?_⟩,fun hc=>⟨by unfold inI; omega,⟨by omega,by omega,l8,?_⟩,by dsimp only; omega⟩⟩
  ·have hlen:((S.take n.toNat).filter fun x=>inT a b x.2.2).length≤100000000:=by
    have:=List.length_filter_le (fun x:Pr=>inT a b x.2.2) (S.take n.toNat)
    have:=List.length_take_le n.toNat S
    omega
   refine (append1 (k:=4) (f:=fM) (bytes:=32) (x:=S.getD n.toNat zPr) (by kernel_rfl) (by decide) (fun _=>rfl) fM_one l8 m8 hb hH rfl hlen (by omega)).mono fun v H22 ⟨u,hu,l22,m22,_,_⟩=>⟨u,hu,by unfold inI; omega,⟨by omega,by omega,l22,?_⟩,by dsimp only; omega⟩
   have ht:inT a b (S.getD n.toNat zPr).2.2=true:=by
    cases hx:inT a b (S.getD n.toNat zPr).2.2 with
    | true=>rfl
    | false=>rw [hp false hx] at hc; cases hc
   rw [e1,take_snocP hin,List.filter_append,List.filter_cons_of_pos (by exact ht)]; exact m22
  ·have ht:inT a b (S.getD n.toNat zPr).2.2=false:=by
    cases hx:inT a b (S.getD n.toNat zPr).2.2 with
    | false=>rfl
    | true=>rw [hp true hx] at hc; cases hc
   rw [e1,take_snocP hin,List.filter_append,List.filter_cons_of_neg (by rw [ht]; simp),List.filter_nil,List.append_nil]; exact m8
 ·have hn:¬ n<S.length:=of_decide_eq_false hn
  rw [show n.toNat=S.length by omega,List.take_length] at m8
  exact ⟨u6,rfl,Hp.le_trans l2 l8,m8.low l2⟩
end Go.Proofs.YtlbdpklikfddlaaGreat
