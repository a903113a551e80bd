/- Contracts of cert.Holds and its reference; the law CertTrue. Conditions: none. -/
import Derived.Test.YtodmhdfenpkbdaaGreatC5
import Derived.Test.YtodmhdfenpkbdaaGreatP4
import Derived.Test.YtodmhdfenpkbdaaGreatVgCert
import Derived.Test.YtodmhdfenpkbdaaGreatFs
set_option linter.unusedVariables false
set_option maxRecDepth 100000
open Go Go.Eng Go.Proofs
namespace Go.Proofs.YtodmhdfenpkbdaaGreat

def knownC (c : Ct) (f : List Pt) : Bool := c.list.all fun h => !(decide (posF f h.2.1 < 0)) && !(decide (posF f h.2.2 < 0))
def trueC (f : List Pt) (t : Int × Int) (x : Int × Int) : Bool := leads (gP f (posF f x.2)) (gP f (posF f x.1)) t
def holdsC (c : Ct) (f : List Pt) (t : Int × Int) : List Int × Int :=
  if okC c then (if timedF f t = 0 then (if knownC c f = true then (thoseC c (trueC f t), 0) else ([], 6)) else ([], timedF f t)) else ([], 8)

theorem posF_range {f : List Pt} {id : Int} (h : 0 ≤ posF f id) : posF f id < f.length ∧ f[(posF f id).toNat]? = some (gP f (posF f id)) ∧ (gP f (posF f id)).1 = id := by
  unfold posF at *
  unfold idx at *
  split at h
  · rename_i ha
    rw [if_pos ha]
    have hl : f.findIdx (fun p => p.1 == id) < f.length := by rw [List.findIdx_lt_length]; simpa using ha
    refine ⟨by omega, getX (by omega) (by omega), ?_⟩
    have := List.findIdx_getElem (xs := f) (p := fun p : Pt => p.1 == id) (w := hl)
    unfold gP
    rw [Int.toNat_natCast, List.getD_eq_getElem?_getD, List.getElem?_eq_getElem hl]
    simpa using this
  · omega

theorem refKnown {H : Hp} {u w : Slc} {c : Ct} {f : List Pt} (h : Rd 3 fD H u c.list) (hf : Rd 3 fD H w f) (hl : c.list.length ≤ 1000000000) (hlf : f.length ≤ 1000000000) :
    Qf Tryz.prog F.pelotonref08_Known #[.agg #[.int .i64 c.next, u.v], .agg #[w.v]] H (.bool (knownC c f)) := by
  have lu := h.len
  refine pelotonref08_Known_vc (upto (N := c.list.length) (J := fun i => ∀ y ∈ c.list.take i.toNat, (!(decide (posF f y.2.1 < 0)) && !(decide (posF f y.2.2 < 0))) = true) (by omega) (by simp) fun i i0 i1 i2 => ⟨fun hn => ?_, fun hn => ⟨?_, Hp.le_refl _⟩⟩)
  · have hn : i < c.list.length := by have : i < u.n := by simpa using hn
                                      omega
    have hg := getX (d := ((0 : Int), (0 : Int), (0 : Int))) i0 hn
    have h2 := h.gD2 i0 hn
    generalize c.list.getD i.toNat (0, 0, 0) = x at hg h2
    refine ⟨h.inS i0 hn, _, by rw [add_zero']; exact h2.1, _, refFAt hf hlf, fun _ => h.inS i0 hn, _, fun _ => by rw [add_zero']; exact h2.2, _, fun _ => refFAt hf hlf, fun hb => ⟨?_, Hp.le_refl _⟩, fun hb => upto.nx i0 hn (by omega) ?_⟩
    · have : knownC c f = false := by
        unfold knownC
        rw [List.all_eq_false]
        refine ⟨x, List.mem_of_getElem? hg, ?_⟩
        simp at hb ⊢
        intro h1
        rcases hb with hb | hb <;> omega
      rw [this]
    · rw [show (i + 1).toNat = i.toNat + 1 by omega, take_succ hg]
      intro y hy
      rcases List.mem_append.1 hy with hy | hy
      · exact i2 y hy
      · simp only [List.mem_singleton] at hy; subst hy
        simp at hb ⊢; exact hb
  · have : i = c.list.length := by have : ¬ i < u.n := by simpa using hn
                                   omega
    subst this
    rw [Int.toNat_natCast, List.take_length] at i2
    have : knownC c f = true := List.all_eq_true.2 i2
    rw [this]

theorem knownC_at {c : Ct} {f : List Pt} (h : knownC c f = true) {x : Int × Int × Int} (hx : x ∈ c.list) : 0 ≤ posF f x.2.1 ∧ 0 ≤ posF f x.2.2 := by
  have := List.all_eq_true.1 h x hx
  simp at this; exact this

/-- The points by their IDs. -/
def ptV (p : Pt) : Value := .agg #[.int .i64 p.1, .int .i64 p.2.1, .int .i64 p.2.2]
def ptOf (f : List Pt) (id : Int) : Pt := if posF f id < 0 then (0, 0, 0) else gP f (posF f id)
def kvP (f : List Pt) : List (Int × Value) := f.map fun p => (p.1, ptV p)
theorem kvP_get (f : List Pt) (id : Int) : getM (kvP f) id = if posF f id < 0 then none else some (ptV (gP f (posF f id))) := by
  unfold getM kvP
  rw [List.find?_map]
  have e : ((fun p : Int × Value => decide (p.1 = id)) ∘ fun p : Pt => (p.1, ptV p)) = fun p : Pt => p.1 == id := by
    funext p; simp [Function.comp]; try rfl
  rw [e]
  split
  · rename_i h
    have hn : f.find? (fun p => p.1 == id) = none := by
      rw [List.find?_eq_none]
      intro p hp hx
      have ha : f.any (fun p => p.1 == id) = true := List.any_eq_true.2 ⟨p, hp, hx⟩
      unfold posF idx at h
      rw [if_pos ha] at h; omega
    rw [hn]; try rfl
  · rename_i h
    obtain ⟨a1, a2, a3⟩ := posF_range (f := f) (id := id) (by omega)
    have hf : f.find? (fun p => p.1 == id) = some (gP f (posF f id)) := by
      unfold posF idx at a2 h ⊢
      split at a2
      · rename_i ha
        have hl : f.findIdx (fun p => p.1 == id) < f.length := by rw [List.findIdx_lt_length]; simpa using ha
        rw [Int.toNat_natCast] at a2
        rw [List.find?_eq_some_iff_getElem]
        rw [if_pos ha]
        refine ⟨?_, f.findIdx (fun p => p.1 == id), hl, ?_, fun j hj => ?_⟩
        · have := List.findIdx_getElem (xs := f) (p := fun p : Pt => p.1 == id) (w := hl)
          rw [(List.getElem?_eq_some_iff.1 a2).2] at this; exact this
        · exact (List.getElem?_eq_some_iff.1 a2).2
        · have := List.not_of_lt_findIdx hj
          simpa using this
      · rename_i ha; rw [if_neg ha] at h; omega
    rw [hf]; try rfl

theorem kvP_ok (f : List Pt) (id : Int) : (.tuple #[(getM (kvP f) id).getD (ptV (0, 0, 0)), .bool (getM (kvP f) id).isSome] : Value) = .tuple #[ptV (ptOf f id), .bool (!(decide (posF f id < 0)))] := by
  rw [kvP_get]
  unfold ptOf
  split <;> simp [*]

def heldM (f : List Pt) (t x : Int × Int) : Bool := (aheadM (ptOf f x.2) (ptOf f x.1) t).2 == 0 && (aheadM (ptOf f x.2) (ptOf f x.1) t).1
theorem heldM_true {f : List Pt} {t x : Int × Int} (of : okF f) (ot : okR t) (hx : validC x = true) (h1 : 0 ≤ posF f x.1) (h2 : 0 ≤ posF f x.2) : heldM f t x = trueC f t x := by
  obtain ⟨a1, a2, a3⟩ := posF_range h1
  obtain ⟨b1, b2, b3⟩ := posF_range h2
  unfold heldM ptOf
  rw [if_neg (by omega), if_neg (by omega)]
  have hne : x.1 ≠ x.2 := by
    unfold validC at hx; simp at hx; exact hx.2
  have : twoM (gP f (posF f x.2)) (gP f (posF f x.1)) t = 0 := twoM_zero.2 ⟨of.each _ (List.mem_of_getElem? b2), of.each _ (List.mem_of_getElem? a2), ot, by rw [a3, b3]; exact fun e => hne e.symm⟩
  unfold aheadM
  rw [if_pos this]; try rfl

theorem certHolds1 {H : Hp} {b1 b10 b24 b8 : Nat} {f : List Pt} {t x : Int × Int} {l : Bool} (ht : fitR t) (h1 : H.at ((Addr.mk b1 0 none).add 0) = some (.int .i64 t.1) ∧ H.at ((Addr.mk b1 0 none).add 1) = some (.int .i64 t.2)) (hb1 : b1 ≠ b24)
    (hv : Var H b10 (.map (some b8)) T.map_int_api_Point) (hm : MapR (fun x : Int => Value.int .i64 x) H b8 (kvP f)) (hl : Var H b24 (.bool l) T.bool) :
    FnV Tryz.prog (.func (.func F.cert_Holds_1) #[] #[.pointer (some ⟨b10, 0, none⟩), .pointer (some ⟨b24, 0, none⟩), .pointer (some ⟨b1, 0, none⟩)]) [.agg #[.int .i64 x.1, .int .i64 x.2]] H
      fun v H' => v = .bool (heldM f t x) ∧ H' = H.put b24 (.cells #[.bool (l || decide (posF f x.2 < 0) || decide (posF f x.1 < 0))] T.bool (0, 0)) := by
  refine ⟨F.cert_Holds_1, #[], _, rfl, cert_Holds_1_callable, ?_⟩
  have K : KL Tryz.prog T.int (fun x : Int => Value.int .i64 x) := KL.int Tryz.underlying3
  have look : ∀ id, OpQ Tryz.prog (semV (Instr.lookup T.map_int_api_Point (.map (some b8)) (.int .i64 id) true)) H (.tuple #[ptV (ptOf f id), .bool (!(decide (posF f id < 0)))]) := fun id => by
    have := K.lookOk (t := T.map_int_api_Point) (e := T.api_Point) (x := id) (z := ptV (0, 0, 0)) Tryz.underlying226 (by kernel_rfl) hm
    rw [kvP_ok] at this; exact this
  refine cert_Holds_1_vc (a2 := ⟨b10, 0, none⟩) (a3 := ⟨b24, 0, none⟩) (a4 := ⟨b1, 0, none⟩) ⟨_, hv.at, _, _, _, _, look x.2, _, hv.at, _, _, _, _, look x.1, l, hl.at, hl.set _ fun H12 hH12 => ?_⟩
  have hat : ∀ i, H12.at (Addr.add ⟨b1, 0, none⟩ i) = H.at (Addr.add ⟨b1, 0, none⟩ i) := fun i => by
    subst hH12
    refine Hp.at_put ?_
    unfold Addr.add
    split <;> exact hb1
  refine ⟨t.1, t.2, ⟨by rw [hat]; exact h1.1, by rw [hat]; exact h1.2⟩, _, _, courseAhead (p := ptOf f x.2) (q := ptOf f x.1) ht, rfl, ?_⟩
  rw [hH12]
  simp only [Bool.not_not]

theorem certHolds {H : Hp} {u w : Slc} {c : Ct} {f : List Pt} {t : Int × Int} (h : Rd 3 fD H u c.list) (hf : Rd 3 fD H w f) (ht : fitR t) :
    Go.Eng.Fn Tryz.prog F.cert_Holds #[.agg #[.int .i64 c.next, u.v], .agg #[w.v], .agg #[.int .i64 t.1, .int .i64 t.2]] H fun v H' => ∃ a : Slc, v = .tuple #[a.v, .int .i64 (holdsC c f t).2] ∧ Hp.le H H' ∧ Mine 1 fI T.int H H' a (holdsC c f t).1 := by
  have lu := h.len
  have lw := hf.len
  refine cert_Holds_vc fun b1 H2 hb1 hH2 => ?_
  have le2 : Hp.le H H2 := Hp.le_new (Hp.le_refl _) hb1 hH2
  refine ⟨_, certCheck (h.le le2), fun hc => ?_, fun hc => ?_⟩
  · have hc : chkC c ≠ 0 := by simpa using hc
    have h8 : chkC c = 8 := by unfold chkC at *; split at hc <;> simp_all
    have : holdsC c f t = ([], 8) := by unfold holdsC; rw [if_neg fun ok => hc (chkC_ok ok)]
    rw [this, h8]; exact ⟨zs, rfl, le2, .inl ⟨rfl, rfl⟩⟩
  have hc : chkC c = 0 := by simpa using hc
  have ok := chkC_zero.1 hc
  have := ok.len
  refine ⟨_, fieldCheck (hf.le le2), fun hc => ?_, fun hc => ?_⟩
  · have hc : chkF f ≠ 0 := by simpa using hc
    have e : timedF f t = chkF f := by unfold timedF; rw [if_pos hc]
    have : holdsC c f t = ([], chkF f) := by unfold holdsC; rw [if_pos ok, e, if_neg hc]
    rw [this]; exact ⟨zs, rfl, le2, .inl ⟨rfl, rfl⟩⟩
  have hc : chkF f = 0 := by simpa using hc
  have of := chkF_zero.1 hc
  have := of.len
  have e : timedF f t = chkR t := by unfold timedF; rw [if_neg (by omega)]
  refine ⟨_, _, pair_at hH2, _, ratioCheck ht, fun hc => ?_, fun hc => ?_⟩
  · have hc : chkR t ≠ 0 := by simpa using hc
    have : holdsC c f t = ([], chkR t) := by unfold holdsC; rw [if_pos ok, e, if_neg hc]
    rw [this]; exact ⟨zs, rfl, le2, .inl ⟨rfl, rfl⟩⟩
  have hcr : chkR t = 0 := by simpa using hc
  have ot := chkR_zero.1 hcr
  intro b8 H9 hb8 hH9 b10 H11 hb10 hH11
  refine (Var.new hH11).set _ fun H12 hH12 => ?_
  have le9 : Hp.le H2 H9 := Hp.le_new (Hp.le_refl _) hb8 hH9
  have H2b10 : H2 b10 = none := by
    cases hx : H2 b10 with
    | none => rfl
    | some o => rw [le9 _ _ hx] at hb10; cases hb10
  have le12 : Hp.le H2 H12 := by subst hH12; exact Hp.le_put (Hp.le_new le9 hb10 hH11) H2b10
  have v12 : Var H12 b10 (.map (some b8)) T.map_int_api_Point := Var.new hH12
  have ne : b10 ≠ b8 := fun e => by rw [e, hH9] at hb10; simp at hb10
  have m9 : MapR (fun x : Int => Value.int .i64 x) H9 b8 [] := MapR.new hH9
  have m12 : MapR (fun x : Int => Value.int .i64 x) H12 b8 (kvP []) := by
    have m11 := m9.le (Hp.le_new (Hp.le_refl _) hb10 hH11)
    obtain ⟨es, n, h1, h2⟩ := m11
    exact ⟨es, n, by rw [hH12, Hp.put_ne _ _ (fun e => ne e.symm)]; exact h1, h2⟩
  have K : KL Tryz.prog T.int (fun x : Int => Value.int .i64 x) := KL.int Tryz.underlying3
  refine uptoH (N := f.length) (J := fun n H' => Hp.le H2 H' ∧ Var H' b10 (.map (some b8)) T.map_int_api_Point ∧ MapR (fun x : Int => Value.int .i64 x) H' b8 (kvP (f.take n.toNat))) (by omega) ⟨le12, v12, m12⟩ fun n H' h0 h1 ⟨j1, j2, j3⟩ => ⟨fun hn => ?_, fun hn => ?_⟩
  · have hn : n < f.length := by have : n < w.n := by simpa using hn
                                 omega
    have hg := getX (d := ((0 : Int), (0 : Int), (0 : Int))) h0 hn
    refine ((hf.le le2).le j1).ldD h0 hn ?_
    generalize f.getD n.toNat (0, 0, 0) = x at hg ⊢
    have hts := take_succ hg
    have hnone : getM (kvP (f.take n.toNat)) x.1 = none := by
      rw [kvP_get, if_pos]
      have : posF (f.take n.toNat) x.1 = -1 := idx_miss fun y hy => by
        rw [beq_eq_false_iff_ne]
        intro e
        have hi := of.inc
        have : (((f.take n.toNat) ++ [x]).map (·.1)).Pairwise (· < ·) := by
          rw [← hts]; exact hi.sublist ((List.take_sublist _ _).map _)
        rw [List.map_append] at this
        have : y.1 < x.1 := (inc_snoc.1 this).2 y.1 (List.mem_map.2 ⟨y, hy, rfl⟩)
        omega
      omega
    refine ⟨_, j2.at, (K.add (t := T.map_int_api_Point) (e := T.api_Point) (x := x.1) (v := ptV x) Tryz.underlying226 j3 hnone).mono fun v H22 ⟨o, hH, hm⟩ => ⟨v, rfl, uptoH.nx h0 hn (by omega) ⟨?_, ?_, ?_⟩⟩⟩
    · subst hH; exact Hp.le_put j1 hb8
    · subst hH; unfold Var Cel at *; rw [Hp.put_ne _ _ ne]; exact j2
    · rw [show (n + 1).toNat = n.toNat + 1 by omega, hts]
      unfold kvP at hm ⊢
      rw [List.map_append]; exact hm
  · have : n = f.length := by have : ¬ n < w.n := by simpa using hn
                              omega
    subst this
    rw [Int.toNat_natCast, List.take_length] at j3
    intro b24 H25 hb24 hH25
    refine (Var.new hH25).set _ fun H26 hH26 => ?_
    have le26 : Hp.le H' H26 := by subst hH26; exact Hp.le_put (Hp.le_new (Hp.le_refl _) hb24 hH25) hb24
    have v26 : Var H26 b24 (.bool false) T.bool := Var.new hH26
    have hp1 := pair_at hH2
    have b1ne : b1 ≠ b24 := fun e => by
      have : H2 b1 ≠ none := by rw [hH2]; simp
      obtain ⟨o, ho⟩ := Option.ne_none_iff_exists'.1 this
      rw [← e, j1 _ _ ho] at hb24; cases hb24
    have key := certThose (H := H26) (Hb := H') (u := u) (v0 := ⟨some ⟨b24, 0, none⟩, 1, 1⟩) (c := c) (fv := .func (.func F.cert_Holds_1) #[] #[.pointer (some ⟨b10, 0, none⟩), .pointer (some ⟨b24, 0, none⟩), .pointer (some ⟨b1, 0, none⟩)])
      (J := fun n H'' => Hp.le H' H'' ∧ Var H'' b24 (.bool ((c.list.take n.toNat).any fun h => decide (posF f h.2.2 < 0) || decide (posF f h.2.1 < 0))) T.bool) (p := heldM f t) (by omega)
      (fun n H'' ⟨q1, q2⟩ => ⟨q1, fun p hp => by (cases hp; unfold Var Cel at q2; rw [q2]; simp), ((h.le le2).le j1).le q1⟩) ⟨le26, v26⟩
      (fun n H'' x h0 hg ⟨q1, q2⟩ => by
        have ats : H''.at ((Addr.mk b1 0 none).add 0) = some (.int .i64 t.1) ∧ H''.at ((Addr.mk b1 0 none).add 1) = some (.int .i64 t.2) := ⟨Hp.at_le q1 (Hp.at_le j1 hp1.1), Hp.at_le q1 (Hp.at_le j1 hp1.2)⟩
        refine (certHolds1 (x := x.2) ht ats b1ne (j2.le q1) (j3.le q1) q2).mono fun v H3 ⟨hv, hH3⟩ => ⟨hv, ⟨?_, ?_⟩, fun b _ hn => ?_⟩
        · subst hH3; exact Hp.le_put q1 hb24
        · rw [show (n + 1).toNat = n.toNat + 1 by omega, take_succ hg, List.any_append]
          have e : (((c.list.take n.toNat).any fun h => decide (posF f h.2.2 < 0) || decide (posF f h.2.1 < 0)) || ([x].any fun h => decide (posF f h.2.2 < 0) || decide (posF f h.2.1 < 0))) = (((c.list.take n.toNat).any fun h => decide (posF f h.2.2 < 0) || decide (posF f h.2.1 < 0)) || decide (posF f x.2.2 < 0) || decide (posF f x.2.1 < 0)) := by
            simp [Bool.or_assoc]
          rw [e]; exact Var.new hH3
        · subst hH3; exact Hp.put_ne _ _ fun e => hn _ rfl e.symm)
      (fun n H'' H3 a ⟨q1, q2⟩ hc hs hnw => ⟨Hp.le_chg q1 hc hnw, q2.chg hc fun p hp => hs p ⟨b24, 0, none⟩ hp rfl⟩)
    refine key.mono fun v H28 ⟨a, hv, ⟨q1, q2⟩, m, _⟩ => ⟨a, hv, _, q2.at, fun hl => ?_, fun hl => ?_⟩
    · rw [Int.toNat_natCast, List.take_length] at hl
      have : knownC c f = false := by
        obtain ⟨y, hy, hx⟩ := List.any_eq_true.1 hl
        unfold knownC
        rw [List.all_eq_false]
        refine ⟨y, hy, ?_⟩
        simp at hx ⊢
        intro h1
        rcases hx with hx | hx <;> omega
      have : holdsC c f t = ([], 6) := by unfold holdsC; rw [if_pos ok, e, if_pos hcr, if_neg (by rw [this]; simp)]
      rw [this]; exact ⟨zs, rfl, Hp.le_trans le2 (Hp.le_trans j1 q1), .inl ⟨rfl, rfl⟩⟩
    · rw [Int.toNat_natCast, List.take_length] at hl
      have hk : knownC c f = true := by
        unfold knownC
        rw [List.all_eq_true]
        intro y hy
        have := List.any_eq_false.1 hl y hy
        simp at this ⊢
        exact ⟨this.2, this.1⟩
      have : holdsC c f t = (thoseC c (trueC f t), 0) := by unfold holdsC; rw [if_pos ok, e, if_pos hcr, if_pos hk]
      rw [this]
      have hth : thoseC c (heldM f t) = thoseC c (trueC f t) := by
        unfold thoseC
        congr 1
        refine List.filter_congr fun y hy => ?_
        obtain ⟨k1, k2⟩ := knownC_at hk hy
        exact heldM_true of ot (ok.ok.each y hy).1 k1 k2
      rw [← hth]
      exact ⟨a, rfl, Hp.le_trans le2 (Hp.le_trans j1 q1), m.low (Hp.le_trans le2 j1)⟩

end Go.Proofs.YtodmhdfenpkbdaaGreat
