/- The law CertNames. Conditions: none. -/
import Derived.Test.YtmnbekffebdfmaaC8
import Derived.Test.YtmnbekffebdfmaaVgBase
import Derived.Test.YtmnbekffebdfmaaVgLCertNames
import Derived.Test.YtmnbekffebdfmaaFs
set_option linter.unusedVariables false
set_option maxRecDepth 100000
open Go Go.Eng Go.Proofs
namespace Go.Proofs.Ytmnbekffebdfmaa

def fullL (n : Nat) : List (Int × Int × Int) := (List.range n).map fun i : Nat => ((i : Int), (i : Int), (65535 : Int))
def fullC : Ct := ⟨200, fullL 200⟩
def goodX : Int × Int := (1, 2)
def badC : List Ct := [⟨201, fullL 200 ++ [(200, 1, 2)]⟩, ⟨-1, []⟩, ⟨1000001, []⟩, ⟨1, [(1, 1, 2)]⟩, ⟨1, [(-1, 1, 2)]⟩, ⟨3, [(2, 1, 2), (1, 2, 1)]⟩, ⟨3, [(1, 1, 2), (2, 1, 2)]⟩, ⟨1, [(0, 3, 3)]⟩, ⟨1, [(0, -1, 3)]⟩, ⟨1, [(0, 1, 65536)]⟩]
theorem badC_all : (badC.all fun c => decide (chkC c = 8)) = true := by decide +kernel
theorem badC_at {i : Nat} {c : Ct} (h : badC[i]? = some c) : ¬ okC c := by
  have := List.all_eq_true.1 badC_all c (List.mem_of_getElem? h)
  simp only [decide_eq_true_eq] at this
  intro ok; rw [chkC_ok ok] at this; cases this

theorem bad_facts {c : Ct} (h : ¬ okC c) : addC c goodX = (.zero, 0, 8) ∧ removeC c 9 = (.zero, (0, 0), 8) ∧ getC c 9 = ((0, 0), 8) ∧ ofC c 9 = ([], 8) ∧ (∀ f t, holdsC c f t = ([], 8)) ∧ chkC c = 8 := by
  have e : getC c 9 = ((0, 0), 8) := by unfold getC; rw [if_neg h]
  refine ⟨by unfold addC; rw [if_neg fun hh => h hh.1], by unfold removeC; rw [e, if_neg (by decide)], e, by unfold ofC; rw [if_neg h], fun f t => by unfold holdsC; rw [if_neg h], chkC_bad h⟩

/-- A number and a slice. -/
def fNS (x : Int × Slc) : List Value := [.int .i64 x.1, x.2.v]

theorem fieldNew {H : Hp} : Qf Try.prog F.field_New #[] H (.agg #[.slice none 0 0]) := field_New_vc ⟨rfl, Hp.le_refl _⟩

theorem certNames {H : Hp} : Qf Try.prog F.pelotonlaw08_CertNames #[] H (.bool true) := by
  refine pelotonlaw08_CertNames_vc ⟨fun i nx u H' => 0 ≤ i ∧ i ≤ 200 ∧ nx = 0 ∧ Hp.le H H' ∧ Mine 3 fD T.api_Held H H' u (fullL i.toNat), fun i _ _ _ => (200 - i).toNat, ⟨by omega, by omega, rfl, Hp.le_refl _, .inl ⟨rfl, rfl⟩⟩, fun i nx u H6 ⟨i0, i1, i2, i3, i4⟩ => ⟨fun hn => ?_, fun hn => ?_⟩⟩
  · have hn : i < 200 := by simpa using hn
    intro b7 H8 hb7 hH8
    refine (append1 (k := 3) (f := fD) (bytes := 24) (x := (i, i, 65535)) (by kernel_rfl) (by decide) (fun _ => rfl) (fun x v hv => by simp [fD] at hv; rcases hv with rfl | rfl | rfl <;> rfl) i3 i4 hb7 hH8 rfl (by simp [fullL]; omega) (by omega)).mono fun v H14 ⟨w', hw, l14, mw, _, _⟩ => ?_
    refine ⟨w', hw, by unfold inI; omega, ⟨by omega, by omega, i2, l14, ?_⟩, ?_⟩
    · have : fullL (i + 1).toNat = fullL i.toNat ++ [(i, i, 65535)] := by
        rw [show (i + 1).toNat = i.toNat + 1 by omega]
        unfold fullL
        rw [List.range_succ, List.map_append, List.map_cons, List.map_nil, Int.toNat_of_nonneg i0]
      rw [this]; exact mw
    · show (200 - (i + 1)).toNat < (200 - i).toNat; omega
  have hn : i = 200 := by have : ¬ i < 200 := by simpa using hn
                          omega
  subst hn
  have rf : Rd 3 fD H6 u fullC.list := i4.rdD
  refine (rTwinC (c := fullC) rf (by decide)).mono fun v H13 ⟨a, hv, m13⟩ => ⟨_, a, hv, fun b16 H17 hb16 hH17 => ?_⟩
  refine (append1 (k := 3) (f := fD) (bytes := 24) (x := (200, 1, 2)) (by kernel_rfl) (by decide) (fun _ => rfl) (fun x v hv => by simp [fD] at hv; rcases hv with rfl | rfl | rfl <;> rfl) m13.le m13.list hb16 hH17 rfl (by decide) (by omega)).mono fun v H19 ⟨mn, hw, l19, m19, _, _⟩ => ⟨mn, hw, ?_⟩
  have l619 : Hp.le H6 H19 := l19
  intro b21 H22 hb21 e21 b23 H24 hb23 e23 b25 H26 hb25 e25 b27 H28 hb27 e27 b29 H30 hb29 e29 b31 H32 hb31 e31 b33 H34 hb33 e33 b35 H36 hb35 e35
  have m34 : Hp.le H34 H36 := Hp.le_new (Hp.le_refl _) hb35 e35
  have m32 : Hp.le H32 H36 := Hp.le_trans (Hp.le_new (Hp.le_refl _) hb33 e33) m34
  have m30 : Hp.le H30 H36 := Hp.le_trans (Hp.le_new (Hp.le_refl _) hb31 e31) m32
  have m28 : Hp.le H28 H36 := Hp.le_trans (Hp.le_new (Hp.le_refl _) hb29 e29) m30
  have m26 : Hp.le H26 H36 := Hp.le_trans (Hp.le_new (Hp.le_refl _) hb27 e27) m28
  have m24 : Hp.le H24 H36 := Hp.le_trans (Hp.le_new (Hp.le_refl _) hb25 e25) m26
  have m22 : Hp.le H22 H36 := Hp.le_trans (Hp.le_new (Hp.le_refl _) hb23 e23) m24
  have mm19 : Hp.le H19 H36 := Hp.le_trans (Hp.le_new (Hp.le_refl _) hb21 e21) m22
  have r21 : Rd 3 fD H36 ⟨some ⟨b21, 0, none⟩, 1, 1⟩ [(1, 1, 2)] := (rdPts (xs := [(1, 1, 2)]) e21 rfl rfl).le m22
  have r23 : Rd 3 fD H36 ⟨some ⟨b23, 0, none⟩, 1, 1⟩ [(-1, 1, 2)] := (rdPts (xs := [(-1, 1, 2)]) e23 rfl rfl).le m24
  have r25 : Rd 3 fD H36 ⟨some ⟨b25, 0, none⟩, 2, 2⟩ [(2, 1, 2), (1, 2, 1)] := (rdPts (xs := [(2, 1, 2), (1, 2, 1)]) e25 rfl rfl).le m26
  have r27 : Rd 3 fD H36 ⟨some ⟨b27, 0, none⟩, 2, 2⟩ [(1, 1, 2), (2, 1, 2)] := (rdPts (xs := [(1, 1, 2), (2, 1, 2)]) e27 rfl rfl).le m28
  have r29 : Rd 3 fD H36 ⟨some ⟨b29, 0, none⟩, 1, 1⟩ [(0, 3, 3)] := (rdPts (xs := [(0, 3, 3)]) e29 rfl rfl).le m30
  have r31 : Rd 3 fD H36 ⟨some ⟨b31, 0, none⟩, 1, 1⟩ [(0, -1, 3)] := (rdPts (xs := [(0, -1, 3)]) e31 rfl rfl).le m32
  have r33 : Rd 3 fD H36 ⟨some ⟨b33, 0, none⟩, 1, 1⟩ [(0, 1, 65536)] := (rdPts (xs := [(0, 1, 65536)]) e33 rfl rfl).le m34
  let L : List (Int × Slc) := [(201, mn), (-1, ⟨none, 0, 0⟩), (1000001, ⟨none, 0, 0⟩), (1, ⟨some ⟨b21, 0, none⟩, 1, 1⟩), (1, ⟨some ⟨b23, 0, none⟩, 1, 1⟩), (3, ⟨some ⟨b25, 0, none⟩, 2, 2⟩), (3, ⟨some ⟨b27, 0, none⟩, 2, 2⟩), (1, ⟨some ⟨b29, 0, none⟩, 1, 1⟩), (1, ⟨some ⟨b31, 0, none⟩, 1, 1⟩), (1, ⟨some ⟨b33, 0, none⟩, 1, 1⟩)]
  have rL : Rd 2 fNS H36 ⟨some ⟨b35, 0, none⟩, 10, 10⟩ L := rdConst (k := 2) (f := fNS) (fun _ => rfl) e35 rfl rfl
  have hall : ∀ (i : Nat), i < 10 → ∃ x c, L[i]? = some x ∧ badC[i]? = some c ∧ x.1 = c.next ∧ Rd 3 fD H36 x.2 c.list := by
    intro i hi
    match i, hi with
    | 0, _ => exact ⟨_, _, rfl, rfl, rfl, m19.rdD.le mm19⟩
    | 1, _ => exact ⟨_, _, rfl, rfl, rfl, Rd.nil⟩
    | 2, _ => exact ⟨_, _, rfl, rfl, rfl, Rd.nil⟩
    | 3, _ => exact ⟨_, _, rfl, rfl, rfl, r21⟩
    | 4, _ => exact ⟨_, _, rfl, rfl, rfl, r23⟩
    | 5, _ => exact ⟨_, _, rfl, rfl, rfl, r25⟩
    | 6, _ => exact ⟨_, _, rfl, rfl, rfl, r27⟩
    | 7, _ => exact ⟨_, _, rfl, rfl, rfl, r29⟩
    | 8, _ => exact ⟨_, _, rfl, rfl, rfl, r31⟩
    | 9, _ => exact ⟨_, _, rfl, rfl, rfl, r33⟩
  have ft0 : fitR (0, 0) := ⟨by unfold inI; omega, by unfold inI; omega⟩
  refine uptoH (N := 10) (J := fun _ H' => Hp.le H36 H') (by omega) (Hp.le_refl _) fun k H40 k0 k1 le40 => ⟨fun hk => ?_, fun hk => ?_⟩
  · have hk : k < 10 := by simpa using hk
    obtain ⟨x, c, hx, hc, hnx, rd⟩ := hall k.toNat (by omega)
    obtain ⟨q1, q2, q3, q4, q5, q6⟩ := bad_facts (badC_at hc)
    have hin : inSl (some (Addr.mk b35 0 none)) 10 k := ⟨k0, hk, rfl⟩
    have g : ∀ {H'}, Hp.le H36 H' → H'.at (eaddr (some (Addr.mk b35 0 none)) 2 k) = some (.int .i64 c.next) ∧ H'.at ((eaddr (some (Addr.mk b35 0 none)) 2 k).add 1) = some x.2.v := fun hl => by
      rw [← hnx]
      exact ⟨(rL.le hl).at0 k0 hx rfl, (rL.le hl).atj k0 hx (j := 1) rfl⟩
    have kA := certAdd (H := H40) (x := goodX) (rd.le le40)
    rw [q1] at kA
    refine ⟨hin, _, x.2, g le40, kA.mono fun v H44 ⟨u1, hv, n1⟩ => ⟨n1.le, _, u1, _, _, hv, hin, _, x.2, g (Hp.le_trans le40 n1.le), ?_⟩⟩
    have l44 := Hp.le_trans le40 n1.le
    have kR := certRemove (n := 9) (rd.le l44)
    rw [q2] at kR
    refine kR.mono fun v H52 ⟨u2, hv, n2⟩ => ⟨_, u2, _, _, _, hv, hin, _, x.2, g (Hp.le_trans l44 n2.le), ?_⟩
    have l52 := Hp.le_trans l44 n2.le
    have kG := certGet (n := 9) (rd.le l52)
    rw [q3] at kG
    refine ⟨_, _, _, kG, hin, _, x.2, g l52, ?_⟩
    have kO := certOf (id := 9) (rd.le l52)
    rw [q4] at kO
    refine kO.mono fun v H66 ⟨u3, hv, l3, n3⟩ => ⟨u3, _, hv, hin, _, x.2, g (Hp.le_trans l52 l3), fieldNew.mono fun v H72 ⟨hv, l72⟩ => ⟨l72, zs, hv, ?_⟩⟩
    have l72' := Hp.le_trans l52 (Hp.le_trans l3 l72)
    have kH := certHolds (w := zs) (f := []) (t := (0, 0)) (rd.le l72') Rd.nil ft0
    rw [q5] at kH
    refine kH.mono fun v H75 ⟨u4, hv, l75, n4⟩ => ⟨l75, u4, _, hv, hin, _, x.2, g (Hp.le_trans l72' l75), ?_⟩
    have l75' := Hp.le_trans l72' l75
    have kC := certCheck (rd.le l75')
    rw [q6] at kC
    exact ⟨_, kC, fun hb => by simp at hb, fun _ => uptoH.nx k0 hk (by omega) l75'⟩
  have l640 : Hp.le H6 H40 := Hp.le_trans l619 (Hp.le_trans mm19 le40)
  have a1 : addC fullC (5, 5) = (.zero, 0, 8) := by kernel_rfl
  have a2 : addC fullC (199, 65535) = (.zero, 0, 14) := by kernel_rfl
  have a3 : addC fullC (1, 2) = (.zero, 0, 18) := by kernel_rfl
  have a4 : addC ⟨1000000, []⟩ (1, 2) = (.zero, 0, 18) := by kernel_rfl
  have a5 : addC ⟨999999, []⟩ (1, 2) = (⟨1000000, [(999999, 1, 2)]⟩, 999999, 0) := by kernel_rfl
  have a6 : removeC fullC 200 = (.zero, (0, 0), 6) := by kernel_rfl
  have a7 : getC fullC (-1) = ((0, 0), 6) := by kernel_rfl
  have a8 : ofC fullC (-5) = ([], 0) := by kernel_rfl
  have a9 : holdsC ⟨1000000, [(999999, 1, 2)]⟩ [(1, 0, 0)] (0, 1) = ([], 6) := by kernel_rfl
  have a10 : holdsC ⟨1000000, [(999999, 1, 2)]⟩ [(1, 0, 0)] (0, 2) = ([], 8) := by kernel_rfl
  have a11 : holdsC ⟨1000000, [(999999, 1, 2)]⟩ (List.replicate 65 (0, 0, 0)) (0, 1) = ([], 4) := by kernel_rfl
  have a12 : (ofC fullC 65535).1.length = 200 ∧ (ofC fullC 65535).2 = 0 := ⟨by kernel_rfl, by kernel_rfl⟩
  have r40 := rf.le l640
  have k1 := certAdd (x := (5, 5)) r40
  rw [a1] at k1
  refine k1.mono fun v H82 ⟨u1, hv, n1⟩ => ⟨_, u1, _, _, hv, ?_⟩
  have k2 := certAdd (x := (199, 65535)) (r40.le n1.le)
  rw [a2] at k2
  refine k2.mono fun v H88 ⟨u2, hv, n2⟩ => ⟨_, u2, _, _, hv, ?_⟩
  have l88 := Hp.le_trans n1.le n2.le
  have k3 := certAdd (x := (1, 2)) (r40.le l88)
  rw [a3] at k3
  refine k3.mono fun v H94 ⟨u3, hv, n3⟩ => ⟨_, u3, _, _, hv, ?_⟩
  have l94 := Hp.le_trans l88 n3.le
  have k4 := certAdd (H := H94) (u := zs) (c := ⟨1000000, []⟩) (x := (1, 2)) Rd.nil
  rw [a4] at k4
  refine k4.mono fun v H100 ⟨u4, hv, n4⟩ => ⟨_, u4, _, _, hv, ?_⟩
  have k5 := certAdd (H := H100) (u := zs) (c := ⟨999999, []⟩) (x := (1, 2)) Rd.nil
  rw [a5] at k5
  refine k5.mono fun v H106 ⟨u5, hv, n5⟩ => ⟨_, u5, _, _, hv, ?_⟩
  have l106 := Hp.le_trans l94 (Hp.le_trans n4.le n5.le)
  have k6 := certRemove (n := 200) (r40.le l106)
  rw [a6] at k6
  refine k6.mono fun v H112 ⟨u6, hv, n6⟩ => ⟨_, u6, _, _, _, hv, ?_⟩
  have l112 := Hp.le_trans l106 n6.le
  have k7 := certGet (n := -1) (r40.le l112)
  rw [a7] at k7
  have k8 := certOf (id := -5) (r40.le l112)
  rw [a8] at k8
  refine ⟨_, _, _, k7, k8.mono fun v H122 ⟨u8, hv, l8, n8⟩ => ⟨u8, _, hv, 0, 1, law8at, fun b127 H128 hb127 e127 => ?_⟩⟩
  have l122 := Hp.le_trans l112 l8
  have ln8 : u8.n = 0 := n8.rdI.len
  have s128 : Hp.le H122 H128 := Hp.le_new (Hp.le_refl _) hb127 e127
  have r5 : Rd 3 fD H128 u5 [(999999, 1, 2)] := ((n5.rd.le n6.le).le l8).le s128
  have fit1 : ∀ a b : Int, -10 ≤ a → a ≤ 10 → -10 ≤ b → b ≤ 10 → fitR (a, b) := fun a b _ _ _ _ => ⟨by unfold inI; simp only; omega, by unfold inI; simp only; omega⟩
  have k9 := certHolds (c := ⟨1000000, [(999999, 1, 2)]⟩) (w := ⟨some ⟨b127, 0, none⟩, 1, 1⟩) (f := [(1, 0, 0)]) (t := (0, 1)) r5 (rdPts (xs := [(1, 0, 0)]) e127 rfl rfl) (fit1 0 1 (by omega) (by omega) (by omega) (by omega))
  rw [a9] at k9
  refine k9.mono fun v H130 ⟨u9, hv, l9, n9⟩ => ⟨l9, u9, _, hv, fun b133 H134 hb133 e133 => ?_⟩
  have s134 : Hp.le H130 H134 := Hp.le_new (Hp.le_refl _) hb133 e133
  have k10 := certHolds (c := ⟨1000000, [(999999, 1, 2)]⟩) (w := ⟨some ⟨b133, 0, none⟩, 1, 1⟩) (f := [(1, 0, 0)]) (t := (0, 2)) ((r5.le l9).le s134) (rdPts (xs := [(1, 0, 0)]) e133 rfl rfl) (fit1 0 2 (by omega) (by omega) (by omega) (by omega))
  rw [a10] at k10
  refine k10.mono fun v H136 ⟨u10, hv, l10, n10⟩ => ⟨u10, _, hv, 0, 1, law8at, ⟨rfl, by omega, by omega⟩, fun b141 H142 hb141 e141 => ?_⟩
  have s142 : Hp.le H136 H142 := Hp.le_new (Hp.le_refl _) hb141 e141
  have k11 := certHolds (c := ⟨1000000, [(999999, 1, 2)]⟩) (w := ⟨some ⟨b141, 0, none⟩, Int.toNat 65, Int.toNat 65⟩) (f := List.replicate 65 (0, 0, 0)) (t := (0, 1)) ((((r5.le l9).le s134).le l10).le s142) (rdPts (xs := List.replicate 65 (0, 0, 0)) e141 (by kernel_rfl) (by kernel_rfl)) (fit1 0 1 (by omega) (by omega) (by omega) (by omega))
  rw [a11] at k11
  refine k11.mono fun v H144 ⟨u11, hv, l11, n11⟩ => ⟨l11, u11, _, hv, ?_⟩
  have l144 : Hp.le H40 H144 := Hp.le_trans l122 (Hp.le_trans s128 (Hp.le_trans l9 (Hp.le_trans s134 (Hp.le_trans l10 (Hp.le_trans s142 l11)))))
  refine (certOf (id := 65535) (r40.le l144)).mono fun v H148 ⟨u12, hv, l12, n12⟩ => ⟨u12, _, hv, true, fun _ => law8alive, ?_, Hp.le_trans i3 (Hp.le_trans l640 (Hp.le_trans l144 l12))⟩
  have ln12 : u12.n = 200 := by rw [n12.rdI.len]; exact a12.1
  rw [a12.2, ln8, ln12]
  rfl
end Go.Proofs.Ytmnbekffebdfmaa
