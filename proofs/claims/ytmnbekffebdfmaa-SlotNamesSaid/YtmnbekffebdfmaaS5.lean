/- The law SlotNames. Conditions: none. -/
import Derived.Test.YtmnbekffebdfmaaS4
import Derived.Test.YtmnbekffebdfmaaUL
set_option linter.unusedVariables false
set_option maxRecDepth 100000
open Go Go.Eng Go.Proofs
namespace Go.Proofs.Ytmnbekffebdfmaa

/-- The tables that are not valid. -/
def badT : List Tb := [
 ⟨[], [], []⟩,
  ⟨List.replicate 201 0, List.replicate 201 false, []⟩,
  ⟨[0], [false], []⟩,
  ⟨[0], [false], [1]⟩,
  ⟨[0], [false], [-1]⟩,
  ⟨[0], [false], [0, 0]⟩,
  ⟨[0], [true], []⟩,
  ⟨[1], [true], [0]⟩,
  ⟨[1000001], [true], []⟩,
  ⟨[-1], [false], [0]⟩,
  ⟨[0, 0], [false], [0, 1]⟩]
theorem badT_all : (badT.all fun t => decide (chk t = 8) && decide (t.uses.length ≤ 1000) && decide (t.used.length ≤ 1000) && decide (t.free.length ≤ 1000)) = true := by decide +kernel
theorem badT_at {i : Nat} {t : Tb} (h : badT[i]? = some t) : ¬ okT t ∧ t.small := by
  have := List.all_eq_true.1 badT_all t (List.mem_of_getElem? h)
  simp only [Bool.and_eq_true, decide_eq_true_eq] at this
  obtain ⟨⟨⟨h1, h2⟩, h3⟩, h4⟩ := this
  exact ⟨fun ok => (by rw [chk_ok ok] at h1; cases h1), by omega, by omega, by omega⟩

theorem slotNames {H : Hp} : Qf Try.prog F.pelotonlaw06_SlotNames #[] H (.bool true) := by
  refine pelotonlaw06_SlotNames_vc (slotNew.mono fun v H2 ⟨a0, d0, c0, hv, n0⟩ => ⟨a0, d0, c0, _, hv, slotNew.mono fun v H8 ⟨a1, d1, c1, hv, n1⟩ => ⟨a1, d1, c1, _, hv, slotNew.mono fun v H14 ⟨a2, d2, c2, hv, n2⟩ => ⟨a2, d2, c2, _, hv, ?_⟩⟩⟩)
  have le14 : Hp.le H H14 := Hp.le_trans n0.le (Hp.le_trans n1.le n2.le)
  have e200 : newM 200 = (beginT 200, 0) := by kernel_rfl
  rw [e200] at n2 ⊢
  have ok200 : okT (beginT 200) := okT.begin (by omega) (by omega)
  have rdf : RdI H14 c2 (beginT 200).free := n2.rd.free
  have lf := rdf.len
  have lfr : (beginT 200).free.length = 200 := by kernel_rfl
  have f0 : (beginT 200).free.getD 0 0 = 199 := by kernel_rfl
  have f199 : (beginT 200).free.getD 199 0 = 0 := by kernel_rfl
  refine rdf.ldcI (fun _ => ⟨by omega, by omega⟩) (rdf.ldcI (fun _ => ⟨by omega, by omega⟩) ⟨fun hb => ?_, fun _ => ?_⟩)
  · exfalso
    have e0 : (0 : Int).toNat = 0 := rfl
    have e1 : (199 : Int).toNat = 199 := rfl
    rw [e0, e1, f0, f199, lf, lfr] at hb
    simp at hb
  intro b21 H22 hb21 eb21
  intro b23 H24 hb23 eb23
  refine ⟨⟨rfl, by omega, by omega⟩, ?_⟩
  intro b25 H26 hb25 eb25
  refine ⟨⟨rfl, by omega, by omega⟩, ?_⟩
  intro b27 H28 hb27 eb27
  intro b29 H30 hb29 eb29
  intro b31 H32 hb31 eb31
  intro b33 H34 hb33 eb33
  intro b35 H36 hb35 eb35
  intro b37 H38 hb37 eb37
  intro b39 H40 hb39 eb39
  intro b41 H42 hb41 eb41
  intro b43 H44 hb43 eb43
  intro b45 H46 hb45 eb45
  intro b47 H48 hb47 eb47
  intro b49 H50 hb49 eb49
  intro b51 H52 hb51 eb51
  intro b53 H54 hb53 eb53
  intro b55 H56 hb55 eb55
  intro b57 H58 hb57 eb57
  intro b59 H60 hb59 eb59
  have m58 : Hp.le H58 H60 := Hp.le_new (Hp.le_refl _) hb59 eb59
  have m56 : Hp.le H56 H60 := Hp.le_trans (Hp.le_new (Hp.le_refl _) hb57 eb57) m58
  have m54 : Hp.le H54 H60 := Hp.le_trans (Hp.le_new (Hp.le_refl _) hb55 eb55) m56
  have m52 : Hp.le H52 H60 := Hp.le_trans (Hp.le_new (Hp.le_refl _) hb53 eb53) m54
  have m50 : Hp.le H50 H60 := Hp.le_trans (Hp.le_new (Hp.le_refl _) hb51 eb51) m52
  have m48 : Hp.le H48 H60 := Hp.le_trans (Hp.le_new (Hp.le_refl _) hb49 eb49) m50
  have m46 : Hp.le H46 H60 := Hp.le_trans (Hp.le_new (Hp.le_refl _) hb47 eb47) m48
  have m44 : Hp.le H44 H60 := Hp.le_trans (Hp.le_new (Hp.le_refl _) hb45 eb45) m46
  have m42 : Hp.le H42 H60 := Hp.le_trans (Hp.le_new (Hp.le_refl _) hb43 eb43) m44
  have m40 : Hp.le H40 H60 := Hp.le_trans (Hp.le_new (Hp.le_refl _) hb41 eb41) m42
  have m38 : Hp.le H38 H60 := Hp.le_trans (Hp.le_new (Hp.le_refl _) hb39 eb39) m40
  have m36 : Hp.le H36 H60 := Hp.le_trans (Hp.le_new (Hp.le_refl _) hb37 eb37) m38
  have m34 : Hp.le H34 H60 := Hp.le_trans (Hp.le_new (Hp.le_refl _) hb35 eb35) m36
  have m32 : Hp.le H32 H60 := Hp.le_trans (Hp.le_new (Hp.le_refl _) hb33 eb33) m34
  have m30 : Hp.le H30 H60 := Hp.le_trans (Hp.le_new (Hp.le_refl _) hb31 eb31) m32
  have m28 : Hp.le H28 H60 := Hp.le_trans (Hp.le_new (Hp.le_refl _) hb29 eb29) m30
  have m26 : Hp.le H26 H60 := Hp.le_trans (Hp.le_new (Hp.le_refl _) hb27 eb27) m28
  have m24 : Hp.le H24 H60 := Hp.le_trans (Hp.le_new (Hp.le_refl _) hb25 eb25) m26
  have m22 : Hp.le H22 H60 := Hp.le_trans (Hp.le_new (Hp.le_refl _) hb23 eb23) m24
  have m14 : Hp.le H14 H60 := Hp.le_trans (Hp.le_new (Hp.le_refl _) hb21 eb21) m22
  have rb21 : Rd 1 fB H60 ⟨some ⟨b21, 0, none⟩, 1, 1⟩ ([false]) := (rdConst (k := 1) (f := fB) (fun _ => rfl) eb21 (by kernel_rfl) (by kernel_rfl)).le m22
  have rb23 : Rd 1 fB H60 ⟨some ⟨b23, 0, none⟩, 1, 1⟩ ([true]) := (rdConst (k := 1) (f := fB) (fun _ => rfl) eb23 (by kernel_rfl) (by kernel_rfl)).le m24
  have rb25 : Rd 1 fI H60 ⟨some ⟨b25, 0, none⟩, 201, 201⟩ (List.replicate 201 0) := (rdConst (k := 1) (f := fI) (fun _ => rfl) eb25 (by kernel_rfl) (by kernel_rfl)).le m26
  have rb27 : Rd 1 fB H60 ⟨some ⟨b27, 0, none⟩, 201, 201⟩ (List.replicate 201 false) := (rdConst (k := 1) (f := fB) (fun _ => rfl) eb27 (by kernel_rfl) (by kernel_rfl)).le m28
  have rb29 : Rd 1 fI H60 ⟨some ⟨b29, 0, none⟩, 1, 1⟩ ([0]) := (rdConst (k := 1) (f := fI) (fun _ => rfl) eb29 (by kernel_rfl) (by kernel_rfl)).le m30
  have rb31 : Rd 1 fI H60 ⟨some ⟨b31, 0, none⟩, 1, 1⟩ ([0]) := (rdConst (k := 1) (f := fI) (fun _ => rfl) eb31 (by kernel_rfl) (by kernel_rfl)).le m32
  have rb33 : Rd 1 fI H60 ⟨some ⟨b33, 0, none⟩, 1, 1⟩ ([1]) := (rdConst (k := 1) (f := fI) (fun _ => rfl) eb33 (by kernel_rfl) (by kernel_rfl)).le m34
  have rb35 : Rd 1 fI H60 ⟨some ⟨b35, 0, none⟩, 1, 1⟩ ([0]) := (rdConst (k := 1) (f := fI) (fun _ => rfl) eb35 (by kernel_rfl) (by kernel_rfl)).le m36
  have rb37 : Rd 1 fI H60 ⟨some ⟨b37, 0, none⟩, 1, 1⟩ ([-1]) := (rdConst (k := 1) (f := fI) (fun _ => rfl) eb37 (by kernel_rfl) (by kernel_rfl)).le m38
  have rb39 : Rd 1 fI H60 ⟨some ⟨b39, 0, none⟩, 1, 1⟩ ([0]) := (rdConst (k := 1) (f := fI) (fun _ => rfl) eb39 (by kernel_rfl) (by kernel_rfl)).le m40
  have rb41 : Rd 1 fI H60 ⟨some ⟨b41, 0, none⟩, 2, 2⟩ ([0, 0]) := (rdConst (k := 1) (f := fI) (fun _ => rfl) eb41 (by kernel_rfl) (by kernel_rfl)).le m42
  have rb43 : Rd 1 fI H60 ⟨some ⟨b43, 0, none⟩, 1, 1⟩ ([0]) := (rdConst (k := 1) (f := fI) (fun _ => rfl) eb43 (by kernel_rfl) (by kernel_rfl)).le m44
  have rb45 : Rd 1 fI H60 ⟨some ⟨b45, 0, none⟩, 1, 1⟩ ([1]) := (rdConst (k := 1) (f := fI) (fun _ => rfl) eb45 (by kernel_rfl) (by kernel_rfl)).le m46
  have rb47 : Rd 1 fI H60 ⟨some ⟨b47, 0, none⟩, 1, 1⟩ ([0]) := (rdConst (k := 1) (f := fI) (fun _ => rfl) eb47 (by kernel_rfl) (by kernel_rfl)).le m48
  have rb49 : Rd 1 fI H60 ⟨some ⟨b49, 0, none⟩, 1, 1⟩ ([1000001]) := (rdConst (k := 1) (f := fI) (fun _ => rfl) eb49 (by kernel_rfl) (by kernel_rfl)).le m50
  have rb51 : Rd 1 fI H60 ⟨some ⟨b51, 0, none⟩, 1, 1⟩ ([-1]) := (rdConst (k := 1) (f := fI) (fun _ => rfl) eb51 (by kernel_rfl) (by kernel_rfl)).le m52
  have rb53 : Rd 1 fI H60 ⟨some ⟨b53, 0, none⟩, 1, 1⟩ ([0]) := (rdConst (k := 1) (f := fI) (fun _ => rfl) eb53 (by kernel_rfl) (by kernel_rfl)).le m54
  have rb55 : Rd 1 fI H60 ⟨some ⟨b55, 0, none⟩, 2, 2⟩ ([0, 0]) := (rdConst (k := 1) (f := fI) (fun _ => rfl) eb55 (by kernel_rfl) (by kernel_rfl)).le m56
  have rb57 : Rd 1 fI H60 ⟨some ⟨b57, 0, none⟩, 2, 2⟩ ([0, 1]) := (rdConst (k := 1) (f := fI) (fun _ => rfl) eb57 (by kernel_rfl) (by kernel_rfl)).le m58
  have rus : Rd 3 fS H60 ⟨some ⟨b59, 0, none⟩, 11, 11⟩ [(⟨none, 0, 0⟩, ⟨none, 0, 0⟩, ⟨none, 0, 0⟩), (⟨some ⟨b25, 0, none⟩, 201, 201⟩, ⟨some ⟨b27, 0, none⟩, 201, 201⟩, ⟨none, 0, 0⟩), (⟨some ⟨b29, 0, none⟩, 1, 1⟩, ⟨some ⟨b21, 0, none⟩, 1, 1⟩, ⟨none, 0, 0⟩), (⟨some ⟨b31, 0, none⟩, 1, 1⟩, ⟨some ⟨b21, 0, none⟩, 1, 1⟩, ⟨some ⟨b33, 0, none⟩, 1, 1⟩), (⟨some ⟨b35, 0, none⟩, 1, 1⟩, ⟨some ⟨b21, 0, none⟩, 1, 1⟩, ⟨some ⟨b37, 0, none⟩, 1, 1⟩), (⟨some ⟨b39, 0, none⟩, 1, 1⟩, ⟨some ⟨b21, 0, none⟩, 1, 1⟩, ⟨some ⟨b41, 0, none⟩, 2, 2⟩), (⟨some ⟨b43, 0, none⟩, 1, 1⟩, ⟨some ⟨b23, 0, none⟩, 1, 1⟩, ⟨none, 0, 0⟩), (⟨some ⟨b45, 0, none⟩, 1, 1⟩, ⟨some ⟨b23, 0, none⟩, 1, 1⟩, ⟨some ⟨b47, 0, none⟩, 1, 1⟩), (⟨some ⟨b49, 0, none⟩, 1, 1⟩, ⟨some ⟨b23, 0, none⟩, 1, 1⟩, ⟨none, 0, 0⟩), (⟨some ⟨b51, 0, none⟩, 1, 1⟩, ⟨some ⟨b21, 0, none⟩, 1, 1⟩, ⟨some ⟨b53, 0, none⟩, 1, 1⟩), (⟨some ⟨b55, 0, none⟩, 2, 2⟩, ⟨some ⟨b21, 0, none⟩, 1, 1⟩, ⟨some ⟨b57, 0, none⟩, 2, 2⟩)] := rdConst (k := 3) (f := fS) (fun _ => rfl) eb59 rfl rfl
  have hall : ∀ (i : Nat), i < 11 → ∃ x t, ([(⟨none, 0, 0⟩, ⟨none, 0, 0⟩, ⟨none, 0, 0⟩), (⟨some ⟨b25, 0, none⟩, 201, 201⟩, ⟨some ⟨b27, 0, none⟩, 201, 201⟩, ⟨none, 0, 0⟩), (⟨some ⟨b29, 0, none⟩, 1, 1⟩, ⟨some ⟨b21, 0, none⟩, 1, 1⟩, ⟨none, 0, 0⟩), (⟨some ⟨b31, 0, none⟩, 1, 1⟩, ⟨some ⟨b21, 0, none⟩, 1, 1⟩, ⟨some ⟨b33, 0, none⟩, 1, 1⟩), (⟨some ⟨b35, 0, none⟩, 1, 1⟩, ⟨some ⟨b21, 0, none⟩, 1, 1⟩, ⟨some ⟨b37, 0, none⟩, 1, 1⟩), (⟨some ⟨b39, 0, none⟩, 1, 1⟩, ⟨some ⟨b21, 0, none⟩, 1, 1⟩, ⟨some ⟨b41, 0, none⟩, 2, 2⟩), (⟨some ⟨b43, 0, none⟩, 1, 1⟩, ⟨some ⟨b23, 0, none⟩, 1, 1⟩, ⟨none, 0, 0⟩), (⟨some ⟨b45, 0, none⟩, 1, 1⟩, ⟨some ⟨b23, 0, none⟩, 1, 1⟩, ⟨some ⟨b47, 0, none⟩, 1, 1⟩), (⟨some ⟨b49, 0, none⟩, 1, 1⟩, ⟨some ⟨b23, 0, none⟩, 1, 1⟩, ⟨none, 0, 0⟩), (⟨some ⟨b51, 0, none⟩, 1, 1⟩, ⟨some ⟨b21, 0, none⟩, 1, 1⟩, ⟨some ⟨b53, 0, none⟩, 1, 1⟩), (⟨some ⟨b55, 0, none⟩, 2, 2⟩, ⟨some ⟨b21, 0, none⟩, 1, 1⟩, ⟨some ⟨b57, 0, none⟩, 2, 2⟩)] : List (Slc × Slc × Slc))[i]? = some x ∧ badT[i]? = some t ∧ RdT H60 x.1 x.2.1 x.2.2 t := by
    intro i hi
    match i, hi with
    | 0, _ => exact ⟨_, _, rfl, rfl, RdI.none, RdB.none, RdI.none⟩
    | 1, _ => exact ⟨_, _, rfl, rfl, rb25, rb27, RdI.none⟩
    | 2, _ => exact ⟨_, _, rfl, rfl, rb29, rb21, RdI.none⟩
    | 3, _ => exact ⟨_, _, rfl, rfl, rb31, rb21, rb33⟩
    | 4, _ => exact ⟨_, _, rfl, rfl, rb35, rb21, rb37⟩
    | 5, _ => exact ⟨_, _, rfl, rfl, rb39, rb21, rb41⟩
    | 6, _ => exact ⟨_, _, rfl, rfl, rb43, rb23, RdI.none⟩
    | 7, _ => exact ⟨_, _, rfl, rfl, rb45, rb23, rb47⟩
    | 8, _ => exact ⟨_, _, rfl, rfl, rb49, rb23, RdI.none⟩
    | 9, _ => exact ⟨_, _, rfl, rfl, rb51, rb21, rb53⟩
    | 10, _ => exact ⟨_, _, rfl, rfl, rb55, rb21, rb57⟩
  refine uptoH (N := 11) (J := fun _ H' => Hp.le H60 H') (by omega) (Hp.le_refl _) fun k H64 k0 k1 le64 => ⟨fun hk => ?_, fun hk => ?_⟩
  · have hk : k < 11 := by simpa using hk
    obtain ⟨x, t, hx, ht, rd⟩ := hall k.toNat (by omega)
    obtain ⟨nok, sm⟩ := badT_at ht
    have g64 := (rus.le le64).gS k0 hx
    have hin : inSl (some (Addr.mk b59 0 none)) 11 k := ⟨k0, hk, rfl⟩
    have et : takeM t = (.zero, 0, 0, 8) := by rw [takeM, if_neg nok]
    have eg : giveM t 9 0 = (.zero, 8) := by rw [giveM, if_neg nok]
    refine ⟨hin, x.1, x.2.1, x.2.2, g64, (slotTake (rd.le le64) sm).mono fun v H69 ⟨p1, p2, p3, hv, q1⟩ => ⟨p1, p2, p3, _, _, _, hv, hin, x.1, x.2.1, x.2.2, (rus.le (Hp.le_trans le64 q1.le)).gS k0 hx, (slotGive (rd.le (Hp.le_trans le64 q1.le)) sm).mono fun v H80 ⟨p4, p5, p6, hv, q2⟩ => ⟨p4, p5, p6, _, hv, ?_⟩⟩⟩
    have le80 := Hp.le_trans le64 (Hp.le_trans q1.le q2.le)
    have g80 := (rus.le le80).gS k0 hx
    have rd80 := rd.le le80
    refine ⟨hin, x.1, x.2.1, x.2.2, g80, _, _, slotHas rd80 sm, hin, x.1, x.2.1, x.2.2, g80, _, _, slotRoom rd80 sm, hin, x.1, x.2.1, x.2.2, g80, _, slotCheck rd80 sm, fun hb => ?_, fun _ => uptoH.nx k0 hk (by omega) le80⟩
    exfalso
    rw [et, eg, hasM, roomM, if_neg nok, if_neg nok, chk_bad nok] at hb
    simp at hb
  · intro b99 H100 hb99 e99 b101 H102 hb101 e101 b103 H104 hb103 e103
    have l102 : Hp.le H102 H104 := Hp.le_new (Hp.le_refl _) hb103 e103
    have l100 : Hp.le H100 H104 := Hp.le_trans (Hp.le_new (Hp.le_refl _) hb101 e101) l102
    have l64 : Hp.le H64 H104 := Hp.le_trans (Hp.le_new (Hp.le_refl _) hb99 e99) l100
    have w1 : Rd 1 fI H104 ⟨some ⟨b99, 0, none⟩, 2, 2⟩ [0, 1000000] := (rdConst (xs := [0, 1000000]) (k := 1) (f := fI) (fun _ => rfl) e99 rfl rfl).le l100
    have w2 : Rd 1 fB H104 ⟨some ⟨b101, 0, none⟩, 2, 2⟩ [false, false] := (rdConst (xs := [false, false]) (k := 1) (f := fB) (fun _ => rfl) e101 rfl rfl).le l102
    have w3 : Rd 1 fI H104 ⟨some ⟨b103, 0, none⟩, 2, 2⟩ [0, 1] := rdConst (k := 1) (f := fI) (fun _ => rfl) e103 rfl rfl
    have wr : RdT H104 ⟨some ⟨b99, 0, none⟩, 2, 2⟩ ⟨some ⟨b101, 0, none⟩, 2, 2⟩ ⟨some ⟨b103, 0, none⟩, 2, 2⟩ ⟨[0, 1000000], [false, false], [0, 1]⟩ := ⟨w1, w2, w3⟩
    have wok : okT ⟨[0, 1000000], [false, false], [0, 1]⟩ := by decide +kernel
    refine (slotTake wr wok.small).mono fun v H106 ⟨p1, p2, p3, hv, q1⟩ => ⟨p1, p2, p3, _, _, _, hv, fun b113 H114 hb113 e113 b115 H116 hb115 e115 => ?_⟩
    have l114 : Hp.le H114 H116 := Hp.le_new (Hp.le_refl _) hb115 e115
    have l106 : Hp.le H106 H116 := Hp.le_trans (Hp.le_new (Hp.le_refl _) hb113 e113) l114
    have l60 : Hp.le H60 H116 := Hp.le_trans le64 (Hp.le_trans l64 (Hp.le_trans q1.le l106))
    have y1 : Rd 1 fI H116 ⟨some ⟨b113, 0, none⟩, 1, 1⟩ [999999] := (rdConst (xs := [999999]) (k := 1) (f := fI) (fun _ => rfl) e113 rfl rfl).le l114
    have y3 : Rd 1 fI H116 ⟨some ⟨b115, 0, none⟩, 1, 1⟩ [0] := rdConst (k := 1) (f := fI) (fun _ => rfl) e115 rfl rfl
    have yr : RdT H116 ⟨some ⟨b113, 0, none⟩, 1, 1⟩ ⟨some ⟨b21, 0, none⟩, 1, 1⟩ ⟨some ⟨b115, 0, none⟩, 1, 1⟩ ⟨[999999], [false], [0]⟩ := ⟨y1, rb21.le l60, y3⟩
    have yok : okT ⟨[999999], [false], [0]⟩ := by decide +kernel
    have et : takeM ⟨[999999], [false], [0]⟩ = (⟨[1000000], [true], []⟩, 0, 1000000, 0) := by kernel_rfl
    have ew : takeM ⟨[0, 1000000], [false, false], [0, 1]⟩ = (.zero, 0, 0, 18) := by kernel_rfl
    have yok2 : okT ⟨[1000000], [true], []⟩ := by decide +kernel
    have g1 : giveM ⟨[1000000], [true], []⟩ 0 999999 = (.zero, 6) := by kernel_rfl
    have g2 : giveM ⟨[1000000], [true], []⟩ 1 1 = (.zero, 6) := by kernel_rfl
    have g3 : giveM ⟨[1000000], [true], []⟩ (-1) 1 = (.zero, 6) := by kernel_rfl
    have hst := slotTake yr yok.small
    rw [et] at hst
    refine hst.mono fun v H118 ⟨x1, x2, x3, hv, q2⟩ => ⟨x1, x2, x3, _, _, _, hv, ?_⟩
    have hg1 := slotGive (i := 0) (u := 999999) q2.rd yok2.small
    rw [g1] at hg1
    refine hg1.mono fun v H126 ⟨x4, x5, x6, hv, q3⟩ => ⟨x4, x5, x6, _, hv, ?_⟩
    have hg2 := slotGive (i := 1) (u := 1) (q2.rd.le q3.le) yok2.small
    rw [g2] at hg2
    refine hg2.mono fun v H132 ⟨x7, x8, x9, hv, q4⟩ => ⟨x7, x8, x9, _, hv, ?_⟩
    have hg3 := slotGive (i := -1) (u := 1) (q2.rd.le (Hp.le_trans q3.le q4.le)) yok2.small
    rw [g3] at hg3
    refine hg3.mono fun v H138 ⟨y7, y8, y9, hv, q5⟩ => ⟨y7, y8, y9, _, hv, ?_⟩
    have l118 := Hp.le_trans q3.le (Hp.le_trans q4.le q5.le)
    have l116 := Hp.le_trans q2.le l118
    have lw : Hp.le H104 H138 := Hp.le_trans q1.le (Hp.le_trans l106 l116)
    have lall : Hp.le H14 H138 := Hp.le_trans m14 (Hp.le_trans l60 l116)
    have hr := slotRoom (q2.rd.le l118) yok2.small
    rw [roomM_ok yok2] at hr
    rw [ew]
    have n0e : (newM 0).2 = 2 := by kernel_rfl
    have n1e : (newM 201).2 = 2 := by kernel_rfl
    rw [n0e, n1e]
    have hn2 : RdT H138 a2 d2 c2 (beginT 200) := n2.rd.le lall
    have v1 : (beginT 200).live 0 0 = false := by kernel_rfl
    have v2 : (⟨[0, 1000000], [false, false], [0, 1]⟩ : Tb).live 1 1000000 = false := by kernel_rfl
    have x1 := lawHasOk hn2 ok200 v1
    have x2 := lawHasOk (wr.le lw) wok v2
    refine ⟨_, _, hr, true, fun _ => x2, true, fun _ => x1, true, fun _ => lawAlive, ?_, Hp.le_trans le14 lall⟩
    rfl
end Go.Proofs.Ytmnbekffebdfmaa
