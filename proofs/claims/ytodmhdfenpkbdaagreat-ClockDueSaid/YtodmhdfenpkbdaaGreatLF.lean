/- Clocks: altering, by the program. Conditions: none. -/
import Derived.Test.YtodmhdfenpkbdaaGreatLD
import Derived.Test.YtodmhdfenpkbdaaGreatLE
import Derived.Test.YtodmhdfenpkbdaaGreatVgClock
import Derived.Test.YtodmhdfenpkbdaaGreatFs
set_option linter.unusedVariables false
set_option maxRecDepth 100000
open Go Go.Eng Go.Proofs
namespace Go.Proofs.YtodmhdfenpkbdaaGreat

/-- A slice beside one that is appended to. -/
structure KpS {α : Type} (k : Nat) (f : α → List Value) (H : Hp) (x d : Slc) (xs : List α) : Prop where
  rd : Rd k f H x xs
  old : Old H x
  sep : Sep x d
section
variable {α : Type} {k : Nat} {f : α → List Value} {H H' : Hp} {x d d' : Slc} {xs : List α}
theorem KpS.le (h : KpS k f H x d xs) (l : Hp.le H H') : KpS k f H' x d xs := ⟨h.rd.le l, h.old.le l, h.sep⟩
theorem KpS.app (h : KpS k f H x d xs) (c : Chg H H' d) (e : Ext H d d') : KpS k f H' x d' xs :=
  ⟨h.rd.chg c h.sep, fun p hp => by rw [c _ (h.old p hp) fun q hq e => h.sep p q hp hq e.symm]; exact h.old p hp, (h.sep.symm.ext h.old e).symm⟩
theorem KpS.new {e : TypeId} {H0 : Hp} (m : Mine k f e H0 H x xs) (hk : ∀ x, (f x).length = k) (o : Old H0 d) : KpS k f H x d xs := ⟨m.rd hk, m.isOld, (Sep.of o m.isNew).symm⟩
end
structure AgS (H : Hp) (v1 v2 v3 v4 v5 d : Slc) (a : Ag) : Prop where
  k1 : KpS 1 fI H v1 d a.tb.uses
  k2 : KpS 1 fB H v2 d a.tb.used
  k3 : KpS 1 fI H v3 d a.tb.free
  k4 : KpS 5 fE H v4 d a.heap
  k5 : KpS 1 fI H v5 d a.wh
section
variable {H H' : Hp} {v1 v2 v3 v4 v5 d d' : Slc} {a : Ag}
theorem AgS.rd (h : AgS H v1 v2 v3 v4 v5 d a) : RdA H v1 v2 v3 v4 v5 a := ⟨⟨h.k1.rd, h.k2.rd, h.k3.rd⟩, h.k4.rd, h.k5.rd⟩
theorem AgS.le (h : AgS H v1 v2 v3 v4 v5 d a) (l : Hp.le H H') : AgS H' v1 v2 v3 v4 v5 d a := ⟨h.k1.le l, h.k2.le l, h.k3.le l, h.k4.le l, h.k5.le l⟩
theorem AgS.app (h : AgS H v1 v2 v3 v4 v5 d a) (c : Chg H H' d) (e : Ext H d d') : AgS H' v1 v2 v3 v4 v5 d' a := ⟨h.k1.app c e, h.k2.app c e, h.k3.app c e, h.k4.app c e, h.k5.app c e⟩
theorem AgS.new {H0 : Hp} (n : NewA H0 H v1 v2 v3 v4 v5 a) (o : Old H0 d) : AgS H v1 v2 v3 v4 v5 d a :=
  ⟨KpS.new n.tb.uses (fun _ => rfl) o, KpS.new n.tb.used (fun _ => rfl) o, KpS.new n.tb.free (fun _ => rfl) o, KpS.new n.heap (fun _ => rfl) o, KpS.new n.wh (fun _ => rfl) o⟩
theorem AgS.re {u1 u2 u3 u4 u5 : Slc} {b : Ag} (h : AgS H u1 u2 u3 u4 u5 d a) (r : ReA H H' u1 u2 u3 v1 v2 v3 v4 v5 b) (o : Old H d) : AgS H' v1 v2 v3 v4 v5 d b := by
  have k4 : KpS 5 fE H' v4 d b.heap := KpS.new r.my.heap (fun _ => rfl) o
  have k5 : KpS 1 fI H' v5 d b.wh := KpS.new r.my.wh (fun _ => rfl) o
  obtain ⟨t1, t2, t3⟩ := r.tb
  rcases r.or with ⟨rfl, rfl, rfl⟩ | ⟨rfl, rfl, rfl⟩
  · exact ⟨⟨t1, h.k1.old.le r.le, h.k1.sep⟩, ⟨t2, h.k2.old.le r.le, h.k2.sep⟩, ⟨t3, h.k3.old.le r.le, h.k3.sep⟩, k4, k5⟩
  · exact ⟨⟨t1, Old.zs, Sep.nil.symm⟩, ⟨t2, Old.zs, Sep.nil.symm⟩, ⟨t3, Old.zs, Sep.nil.symm⟩, k4, k5⟩
end

section
variable {c : Ck} {f : List Pt} {ps : List Ev}
theorem Alt.noHas (ok : okK c) (e : Evs c ps) {i : Nat} {s : Ag × List (Int × Int × Int)} {new rest : List Ev} (a : Alt c f ps i s new rest) {h : Int × Int × Int} (hi : c.ct.list[i]? = some h) (h0 : posD c h.1 < 0) : hasA s.1 h.1 = false := by
  have b2 := (a.had ok e hi).2 h0
  unfold hasA
  rw [List.any_eq_false]
  intro y hy hyn
  have hyn : y.no = h.1 := by simpa using hyn
  rcases List.mem_append.1 (a.heap.mem_iff.1 hy) with hy | hy
  · obtain ⟨h', hm', h1⟩ := dueF_no a.newT hy
    have := (take_lt ok.incL hi).1 hm'
    omega
  · obtain ⟨h', hm', h1⟩ := dueF_no b2 hy
    have := (take_lt ok.incL hi).2 hm'
    omega
theorem Alt.push (ok : okK c) (e : Evs c ps) {i : Nat} {s : Ag × List (Int × Int × Int)} {new rest : List Ev} (a : Alt c f ps i s new rest) {h : Int × Int × Int} (hi : c.ct.list[i]? = some h) (h0 : posD c h.1 < 0) {t : Int × Int} (ht : okR t) :
    pushA s.1 t h.1 = if s.1.tb.canTake = true then (pushedA s.1 t h.1, nextH s.1, 0) else (.zero, (0, 0), 18) := by
  have hno := a.noHas ok e hi h0
  have bd := ok.ct.ok.each h (List.mem_of_getElem? hi)
  have := ok.ct.n1
  unfold pushA
  rw [if_pos ⟨a.ag, ht⟩, if_neg (by omega), hno, if_neg (by simp)]
theorem dueF_len (f : List Pt) (t : Int × Int) (l : List (Int × Int × Int)) : (dueF f t l).length ≤ l.length := List.length_filterMap_le _ _
theorem Alt.len (ok : okK c) {i : Nat} {s : Ag × List (Int × Int × Int)} {new rest : List Ev} (a : Alt c f ps i s new rest) : s.2.length ≤ 200 := by
  have h1 := congrArg List.length a.newT
  have h2 := dueF_len f c.now (c.ct.list.take i)
  have h3 := ok.ct.len
  rw [a.due]
  simp at h1 h2 ⊢
  omega
end

theorem clockAlter {H : Hp} {u : Cu} {w : Slc} {c : Ck} {f : List Pt} (r : RdK H u c) (fk : fitK c) (hf : Rd 3 fD H w f) :
    Go.Eng.Fn Tryz.prog F.clock_Alter #[ckV u c, vFd w] H fun v H' => ∃ z : Cu, v = .tuple #[ckV z (alterK c f).1, .int .i64 (alterK c f).2] ∧ Hp.le H H' ∧ RdK H' z (alterK c f).1 := by
  have lc := r.cl.len
  have f1 := fk.ct
  refine clock_Alter_vc ⟨_, clockCheck r fk, fun hc => ?_, fun hc => ⟨_, fieldCheck hf, fun hc2 => ?_, fun hc2 => ?_⟩⟩
  · have hk : ¬ okK c := fun ok => by rw [chkK_ok ok] at hc; simp at hc
    rw [chkK_bad hk]
    unfold alterK; rw [if_neg hk]
    exact ⟨zu, rfl, Hp.le_refl _, RdK.zero⟩
  · have ok : okK c := chkK_zero.1 (by simpa using hc)
    have h2 : chkF f ≠ 0 := by simpa using hc2
    unfold alterK; rw [if_pos ok, if_neg h2]
    exact ⟨zu, rfl, Hp.le_refl _, RdK.zero⟩
  have ok : okK c := chkK_zero.1 (by simpa using hc)
  have h2 : chkF f = 0 := by simpa using hc2
  have of := chkF_zero.1 h2
  refine upto (N := c.ct.list.length) (J := fun i => ∀ y ∈ c.ct.list.take i.toNat, (!lostX f y.2) = true) (by omega) (by simp) fun i i0 i1 j => ⟨fun hn => ?_, fun hn => ?_⟩
  · have hn : i < c.ct.list.length := by have : i < u.cl.n := by simpa using hn
                                         omega
    have hg := getX (d := ((0 : Int), (0 : Int), (0 : Int))) i0 hn
    refine r.cl.ldD i0 hn ⟨_, _, _, clockPoint hf of, _, _, _, fun _ => clockPoint hf of, fun hb => ?_, fun hb => upto.nx i0 hn (by omega) ?_⟩
    · rw [pointM_neg of, pointM_neg of] at hb
      have hk : ¬ knownC c.ct f = true := fun h => by
        rw [knownC_all] at h
        have := List.all_eq_true.1 h _ (List.mem_of_getElem? hg)
        unfold lostX at this
        rw [hb] at this; cases this
      unfold alterK; rw [if_pos ok, if_pos h2, if_neg hk]
      exact ⟨zu, rfl, Hp.le_refl _, RdK.zero⟩
    · rw [pointM_neg of, pointM_neg of] at hb
      rw [show (i + 1).toNat = i.toNat + 1 by omega, take_succ hg]
      intro y hy
      rcases List.mem_append.1 hy with hy | hy
      · exact j y hy
      · simp only [List.mem_singleton] at hy; subst hy
        unfold lostX; rw [hb]; rfl
  have hi : i = c.ct.list.length := by have : ¬ i < u.cl.n := by simpa using hn
                                       omega
  rw [hi, Int.toNat_natCast, List.take_length] at j
  have kn : knownC c.ct f = true := by rw [knownC_all]; exact List.all_eq_true.2 j
  have ek : alterK c f = alteredK c f := by unfold alterK; rw [if_pos ok, if_pos h2, if_pos kn]
  rw [ek]
  clear j hi hn i1 i0 i ek
  obtain ⟨ps, e⟩ := ok.evs
  have lf := of.small
  refine (clockTwin r fk).mono fun v H17 ⟨w0, hv, l17, rw17, m17, s17, o17⟩ => ⟨_, _, w0.f, _, w0.cl, w0.u1, w0.u2, w0.u3, w0.u4, w0.u5, w0.d, hv, (clone_pt (hf.le l17) (by omega)).mono fun v H30 ⟨fw, hv, l30, mf⟩ => ⟨fw, hv, ?_⟩⟩
  have le30 := Hp.le_trans l17 l30
  refine ⟨fun i n1 n2 u37 n38 u39 v1 v2 v3 v4 v5 d H' => 0 ≤ i ∧ i ≤ c.ct.list.length ∧ n1 = c.now.1 ∧ n2 = c.now.2 ∧ n38 = c.ct.next ∧ Hp.le H H' ∧ KpS 3 fD H' u37 d f ∧ KpS 3 fD H' u39 d c.ct.list ∧
      ∃ s, altL c f (c.ct.list.take i.toNat) (c.ag, []) = some s ∧ AgS H' v1 v2 v3 v4 v5 d s.1 ∧ Mine 3 fD T.api_Due H H' d s.2,
    fun i _ _ _ _ _ _ _ _ _ _ _ _ => (c.ct.list.length - i).toNat, ⟨Int.le_refl _, by omega, rfl, rfl, rfl, le30, ⟨mf.rdD, mf.isOld, Sep.nil⟩, ⟨rw17.cl.le l30, o17.cl.le l30, Sep.nil⟩, (c.ag, []), rfl,
      ⟨⟨rw17.ag.tb.uses.le l30, o17.u1.le l30, Sep.nil⟩, ⟨rw17.ag.tb.used.le l30, o17.u2.le l30, Sep.nil⟩, ⟨rw17.ag.tb.free.le l30, o17.u3.le l30, Sep.nil⟩, ⟨rw17.ag.heap.le l30, o17.u4.le l30, Sep.nil⟩, ⟨rw17.ag.wh.le l30, o17.u5.le l30, Sep.nil⟩⟩, .inl ⟨rfl, rfl⟩⟩,
    fun i n1 n2 u37 n38 u39 v1 v2 v3 v4 v5 d H' ⟨i0, i1, e1, e2, e3, le, kf, kl, s, hs, ags, md⟩ => ?_⟩
  subst e1; subst e2; subst e3
  have r46 := r.le le
  have hf46 := hf.le le
  refine ⟨fun hn => ?_, fun hn => ?_⟩
  · have hn : i < c.ct.list.length := by have : i < u.cl.n := by simpa using hn
                                         omega
    have hg := getX (d := ((0 : Int), (0 : Int), (0 : Int))) i0 hn
    obtain ⟨new, rest, a⟩ := Alt.upto ok e of kn i.toNat (by omega) s hs
    obtain ⟨ip, b, hq, hb1, hb2⟩ := clockPlace (n := (c.ct.list.getD i.toNat (0, 0, 0)).1) r46 ok
    refine r46.cl.ldD i0 hn ⟨_, _, _, _, clockWhen (x := (c.ct.list.getD i.toNat (0, 0, 0)).2) hf46 of fk.now, ip, b, hq, ?_⟩
    generalize c.ct.list.getD i.toNat (0, 0, 0) = x at hg hq hb1 hb2 ⊢
    obtain ⟨p1, p2⟩ := knownC_at kn (List.mem_of_getElem? hg)
    have hv := (ok.ct.ok.each x (List.mem_of_getElem? hg)).1
    have hne : x.2.1 ≠ x.2.2 := by
      unfold validC at hv
      simp only [Bool.and_eq_true, bne_iff_ne] at hv
      exact hv.2
    rw [whenP_known of ok.now p1 p2 hne]
    have al := a.len ok
    have had := a.had ok e hg
    have wok := whenM_okR (h := x) of kn ok.now (List.mem_of_getElem? hg) (s := o2 (whenM f x.2 c.now))
    have nx : ∀ {z1 z2 z3 z4 z5 d' : Slc} {H2 : Hp} {s' : Ag × List (Int × Int × Int)}, Hp.le H H2 → KpS 3 fD H2 u37 d' f → KpS 3 fD H2 u39 d' c.ct.list → altStep c f x s = some s' → AgS H2 z1 z2 z3 z4 z5 d' s'.1 → Mine 3 fD T.api_Due H H2 d' s'.2 →
        inI (i + 1) ∧ (0 ≤ i + 1 ∧ i + 1 ≤ c.ct.list.length ∧ c.now.1 = c.now.1 ∧ c.now.2 = c.now.2 ∧ c.ct.next = c.ct.next ∧ Hp.le H H2 ∧ KpS 3 fD H2 u37 d' f ∧ KpS 3 fD H2 u39 d' c.ct.list ∧
          ∃ s, altL c f (c.ct.list.take (i + 1).toNat) (c.ag, []) = some s ∧ AgS H2 z1 z2 z3 z4 z5 d' s.1 ∧ Mine 3 fD T.api_Due H H2 d' s.2) ∧ (c.ct.list.length - (i + 1)).toNat < (c.ct.list.length - i).toNat := by
      intro z1 z2 z3 z4 z5 d' H2 s' g1 g2 g3 g4 g5 g6
      refine ⟨by unfold inI; omega, ⟨by omega, by omega, rfl, rfl, rfl, g1, g2, g3, s', ?_, g5, g6⟩, by omega⟩
      rw [show (i + 1).toNat = i.toNat + 1 by omega, takeS hg, altL_at, hs]
      exact g4
    cases hw : whenM f x.2 c.now with
    | some t =>
      have ht : okR t := whenM_okR of kn ok.now (List.mem_of_getElem? hg) hw
      cases b with
      | true =>
        refine ⟨fun _ => ?_, fun h => by simp at h⟩
        obtain ⟨h0, rfl⟩ := hb1 rfl
        obtain ⟨y, rest', hr, hy, hyn, hgd, hlt, _⟩ := had.1 h0
        have hyh := a.mem_heap (x := y) (by rw [hr]; exact List.mem_cons_self)
        have hlv := (a.ag.slot hyh).2.2.2.2
        have hgd' : c.due.getD (posD c x.1).toNat (0, 0, 0) = nh y := hgd
        have g2 := r46.due.gD2 h0 hlt
        rw [hgd'] at g2
        have er : rekeyA s.1 y.h t = (rekeyedA s.1 y.h t, 0) := by unfold rekeyA; rw [if_pos ⟨a.ag, ht⟩, if_pos hlv]
        refine ⟨r46.due.inS h0 hlt, _, _, g2, (agendaRekey (h := y.h) (t := t) ags.rd (okA.fitG a.ag) ht.fit).mono fun v H59 ⟨z1, z2, z3, z4, z5, hv, re⟩ => ⟨re.le, z1, z2, z3, z4, z5, _, hv, r46.due.inS h0 hlt, ?_⟩⟩
        have g1 := (r46.due.le re.le).gD h0 hlt
        rw [hgd'] at g1
        rw [er] at re ⊢
        refine ⟨_, _, _, g1, fun b69 H70 hb69 hH => ?_⟩
        refine (append1 (k := 3) (f := fD) (bytes := 24) (x := nh y) (e := T.api_Due) (by kernel_rfl) (by decide) (fun _ => rfl) fD_one (Hp.le_trans le re.le) (md.le re.le) hb69 hH rfl (by omega) (by omega)).mono fun v H72 ⟨d', hv, l72, m72, c72, e72⟩ => ⟨d', hv, fun h => by simp at h, fun _ => ?_⟩
        refine nx (s' := (rekeyedA s.1 y.h t, s.2 ++ [nh y])) l72 ((kf.le re.le).app c72 e72) ((kl.le re.le).app c72 e72) ?_ ((ags.re re md.isOld).app c72 e72) m72
        unfold altStep; rw [hw]; simp only; rw [if_pos h0, hgd]; rfl
      | false =>
        refine ⟨fun h => by simp at h, fun _ => ⟨fun _ => ?_, fun h => by simp at h⟩⟩
        have h0 := hb2 rfl
        have hp := a.push ok e hg h0 ht
        refine (agendaPush (t := t) (n := x.1) ags.rd (okA.fitG a.ag) ht.fit).mono fun v H75 ⟨z1, z2, z3, z4, z5, hv, na⟩ => ⟨z1, z2, z3, z4, z5, _, _, _, hv, fun b84 H85 hb84 hH => ?_⟩
        refine (append1 (k := 3) (f := fD) (bytes := 24) (x := (x.1, (pushA s.1 t x.1).2.1)) (e := T.api_Due) (by kernel_rfl) (by decide) (fun _ => rfl) fD_one (Hp.le_trans le na.le) (md.le na.le) hb84 hH rfl (by omega) (by omega)).mono fun v H87 ⟨d', hv, l87, m87, c87, e87⟩ => ⟨d', hv, fun h => ?_, fun h => ?_⟩
        · by_cases hct : s.1.tb.canTake = true
          · rw [hp, if_pos hct] at h; simp at h
          · rw [hp, if_neg hct]
            have es := altL_stop hg hs (by unfold altStep; rw [hw]; simp only; rw [if_neg (by omega), if_neg hct])
            rw [es]; exact ⟨zu, rfl, l87, RdK.zero⟩
        · by_cases hct : s.1.tb.canTake = true
          · rw [hp, if_pos hct] at na m87
            refine nx (s' := (pushedA s.1 t x.1, s.2 ++ [(x.1, nextH s.1)])) l87 ((kf.le na.le).app c87 e87) ((kl.le na.le).app c87 e87) ?_ ((AgS.new na md.isOld).app c87 e87) m87
            unfold altStep; rw [hw]; simp only; rw [if_neg (by omega), if_pos hct]
          · rw [hp, if_neg hct] at h; simp at h
    | none =>
      refine ⟨fun h => by simp at h, fun _ => ⟨fun h => by simp at h, fun _ => ?_⟩⟩
      cases b with
      | true =>
        refine ⟨fun _ => ?_, fun h => by simp at h⟩
        obtain ⟨h0, rfl⟩ := hb1 rfl
        obtain ⟨y, rest', hr, hy, hyn, hgd, hlt, _⟩ := had.1 h0
        have hyh := a.mem_heap (x := y) (by rw [hr]; exact List.mem_cons_self)
        have hgd' : c.due.getD (posD c x.1).toNat (0, 0, 0) = nh y := hgd
        have g2 := r46.due.gD2 h0 hlt
        rw [hgd'] at g2
        refine ⟨r46.due.inS h0 hlt, _, _, g2, (agendaRemove (h := y.h) ags.rd (okA.fitG a.ag)).mono fun v H92 ⟨z1, z2, z3, z4, z5, hv, na⟩ => ⟨na.le, z1, z2, z3, z4, z5, _, _, _, _, _, _, hv, ?_⟩⟩
        rw [removeA_at a.ag hyh] at na ⊢
        refine ⟨fun h => by simp at h, fun _ => nx (s' := (removedA s.1 y.h, s.2)) (Hp.le_trans le na.le) (kf.le na.le) (kl.le na.le) ?_ (AgS.new na md.isOld) (md.le na.le)⟩
        unfold altStep; rw [hw]; simp only; rw [if_pos h0, hgd]; rfl
      | false =>
        have h0 := hb2 rfl
        refine ⟨fun h => by simp at h, fun _ => ⟨fun h => by simp at h, fun _ => nx (s' := s) le kf kl ?_ ags md⟩⟩
        unfold altStep; rw [hw]; simp only; rw [if_neg (by omega)]
  · have hi : i = c.ct.list.length := by have : ¬ i < u.cl.n := by simpa using hn
                                         omega
    rw [hi, Int.toNat_natCast, List.take_length] at hs
    have es : alteredK c f = ({ c with f := f, ag := s.1, due := s.2 }, 0) := by unfold alteredK; rw [hs]
    rw [es]
    exact ⟨⟨u37, u39, v1, v2, v3, v4, v5, d⟩, rfl, le, kf.rd, kl.rd, ags.rd, md.rdD⟩
end Go.Proofs.YtodmhdfenpkbdaaGreat
