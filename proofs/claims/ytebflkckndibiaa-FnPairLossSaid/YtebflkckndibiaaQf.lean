/- Plain laws: the law of the loss of an order. -/
import Derived.Test.YtebflkckndibiaaQe
namespace Gh
open Go
set_option linter.unusedSimpArgs false
set_option linter.unusedVariables false
set_option maxRecDepth 100000

theorem gapP_bd {l : List impl_Job} (hg : good l) {o : List Nat} (ho : ∀ i ∈ o, i < l.length) {obj : Int} {p : arr_2_int} (h : p ∈ invs l obj o) : -3000 ≤ gapP l obj p ∧ gapP l obj p ≤ 3000 := by
  obtain ⟨a, ha, b, hb, rfl⟩ := invs_mem h
  simp only [gapP, Int.toNat_natCast]
  exact gap_bd (jb_ok hg (ho a ha)) (jb_ok hg (ho b hb))

theorem isum_bd {α : Type} {f : α → Int} : ∀ {q : List α}, (∀ p ∈ q, -3000 ≤ f p ∧ f p ≤ 3000) → -3000 * (q.length : Int) ≤ isum f q ∧ isum f q ≤ 3000 * (q.length : Int)
  | [], _ => by simp [isum]
  | a :: q, h => by
    have h1 := h a (by simp)
    have h2 := isum_bd (q := q) fun p hp => h p (by simp [hp])
    simp only [isum, List.length_cons]
    omega

theorem sum_bd {α : Type} {f : α → Int} {q : List α} (h : ∀ p ∈ q, -3000 ≤ f p ∧ f p ≤ 3000) (hl : q.length ≤ 64) : -192000 ≤ isum f q ∧ isum f q ≤ 192000 := by
  have := isum_bd h
  omega

/-- What an order loses: both sums. -/
theorem PairLoss_both (l : List impl_Job) (hl : l.length < 900000) (o : List Int) (hol : o.length < 900000) : ∃ d ok, x_impl_PairLoss l o = some (d, ok) ∧ x_spec_PairLoss l o = some (d, ok) ∧
    (ok = true → ruled l 3 ∧ ∃ p, o = ic p ∧ IsOrd l.length p ∧ d = lossO l 3 p ∧ d ≤ 192000) := by
  unfold x_impl_PairLoss x_spec_PairLoss x_impl_isRuledAndOrdered x_spec_l3Both
  rw [bind_some_of (isRuled_eq l 3 hl), bind_some_of (l3Ruled_eq l 3 hl)]
  by_cases hr : ruled l 3
  · have hg := hr.1
    have h8 := hg.1
    rw [if_pos (by simpa using hr), if_pos (by simpa using hr)]
    obtain ⟨b1, e1, h1⟩ := isOrder_eq l.length hl o hol
    obtain ⟨b2, e2, h2⟩ := l2Order_eq l.length hg.1 o hol
    have hb : b2 = b1 := by rw [Bool.eq_iff_iff, h1, h2]
    subst hb
    rw [bind_some_of e1, bind_some_of e2, Option.bind_some, Option.bind_some]
    cases b2 with
    | false =>
      rw [if_neg (by simp), if_neg (by simp)]
      exact ⟨_, _, rfl, rfl, fun h => (by cases h)⟩
    | true =>
      obtain ⟨p, rfl, hp⟩ := h1.1 rfl
      have hpl := hp.1
      rw [if_pos rfl, if_pos rfl, bind_some_of (inversions_eq hg hp 3), bind_some_of (l3Inversions_eq hg hp 3)]
      have hT := invs_len l 3 p 8 (by omega)
      have hbd := sum_bd (f := gapP l 3) (q := invs l 3 p) (fun x hx => gapP_bd hg hp.2.2 hx) (by omega)
      have hbk : ∀ k, -192000 ≤ isum (gapP l 3) ((invs l 3 p).drop k) ∧ isum (gapP l 3) ((invs l 3 p).drop k) ≤ 192000 := fun k => sum_bd (fun x hx => gapP_bd hg hp.2.2 (List.mem_of_mem_drop hx)) (by rw [List.length_drop]; omega)
      have at_k : ∀ k (hk : k < (invs l 3 p).length), ∃ a b : Nat, (invs l 3 p)[k] = ⟨(a : Int), (b : Int)⟩ ∧ a < l.length ∧ b < l.length := fun k hk => by
        obtain ⟨a, ha, b, hb, e⟩ := invs_mem (List.getElem_mem hk)
        exact ⟨a, b, e, hp.2.2 a ha, hp.2.2 b hb⟩
      have k1 := loopS_inv (b := x_impl_PairLoss_l0 l (invs l 3 p) ((invs l 3 p).length : Int)) (fun k (s : Int × Int) => s.2 = (k : Int) ∧ s.1 + isum (gapP l 3) ((invs l 3 p).drop k) = isum (gapP l 3) (invs l 3 p))
        (fun q => q = isum (gapP l 3) (invs l 3 p)) (invs l 3 p).length (by
        rintro k ⟨s, z⟩ hk ⟨g1, g2⟩
        simp only at g1 g2
        subst g1
        obtain ⟨a, b, e, ha, hb⟩ := at_k k hk
        have g3 := hbk (k + 1)
        rw [List.drop_eq_getElem_cons hk] at g2
        simp only [isum] at g2
        have e' : gapP l 3 (invs l 3 p)[k] = gap 3 (jb l a) (jb l b) := by rw [e]; simp [gapP]
        rw [e'] at g2
        have g4 := gap_bd (obj := 3) (jb_ok hg ha) (jb_ok hg hb)
        unfold x_impl_PairLoss_l0
        simp only
        rw [if_pos (by omega), bind_some_of (ix_lt hk), e]
        simp only
        rw [bind_some_of (jb_ix ha), bind_some_of (jb_ix hb), bind_some_of (difference_eq (jb_ok hg ha) (jb_ok hg hb) 3), inc_i (by omega), add_i (by omega) (by omega)]
        exact .inl ⟨_, rfl, rfl, by simp only; omega⟩) (by
        rintro ⟨s, z⟩ ⟨g1, g2⟩
        simp only at g1 g2
        subst g1
        unfold x_impl_PairLoss_l0
        simp only
        rw [if_neg (by omega)]
        refine ⟨_, rfl, ?_⟩
        rw [List.drop_length] at g2
        simpa [isum] using g2) (LL_lt (by omega)) (0, 0) ⟨rfl, by simp⟩
      have k2 := loopS_inv (b := x_spec_PairLoss_l0 l (invs l 3 p)) (fun k (s : Int × Int) => s.2 = (k : Int) ∧ s.1 + isum (gapP l 3) ((invs l 3 p).drop k) = isum (gapP l 3) (invs l 3 p))
        (fun q => q = isum (gapP l 3) (invs l 3 p)) (invs l 3 p).length (by
        rintro k ⟨s, z⟩ hk ⟨g1, g2⟩
        simp only at g1 g2
        subst g1
        obtain ⟨a, b, e, ha, hb⟩ := at_k k hk
        have g3 := hbk (k + 1)
        rw [List.drop_eq_getElem_cons hk] at g2
        simp only [isum] at g2
        have e' : gapP l 3 (invs l 3 p)[k] = gap 3 (jb l a) (jb l b) := by rw [e]; simp [gapP]
        rw [e'] at g2
        have g4 := gap_bd (obj := 3) (jb_ok hg ha) (jb_ok hg hb)
        unfold x_spec_PairLoss_l0
        simp only
        rw [if_pos (by omega), bind_some_of (ix_lt hk), e]
        simp only
        rw [bind_some_of (l3Gap_eq hg ha hb 3), inc_i (by omega), add_i (by omega) (by omega)]
        exact .inl ⟨_, rfl, rfl, by simp only; omega⟩) (by
        rintro ⟨s, z⟩ ⟨g1, g2⟩
        simp only at g1 g2
        subst g1
        unfold x_spec_PairLoss_l0
        simp only
        rw [if_neg (by omega)]
        refine ⟨_, rfl, ?_⟩
        rw [List.drop_length] at g2
        simpa [isum] using g2) (LL_lt (by omega)) (0, 0) ⟨rfl, by simp⟩
      obtain ⟨_, e3, rfl⟩ := k1
      obtain ⟨_, e4, rfl⟩ := k2
      rw [bind_some_of e3, bind_some_of e4]
      exact ⟨_, _, rfl, rfl, fun _ => ⟨hr, p, rfl, hp, invs_sum l 3 p, hbd.2⟩⟩
  · rw [if_neg (by simpa using hr), if_neg (by simpa using hr), Option.bind_some, Option.bind_some, if_neg (by simp), if_neg (by simp)]
    exact ⟨_, _, rfl, rfl, fun h => (by cases h)⟩

/-- The wrong pairs: both lists. -/
theorem Inversions_both (l : List impl_Job) (hl : l.length < 900000) (o : List Int) (hol : o.length < 900000) (obj : Int) : ∃ d ok, x_impl_InversionsOf l o obj = some (d, ok) ∧ x_spec_InversionsOf l o obj = some (d, ok) ∧ d.length < 900000 ∧
    (ok = true → ruled l obj ∧ ∃ p, o = ic p ∧ IsOrd l.length p ∧ d = invs l obj p) := by
  unfold x_impl_InversionsOf x_spec_InversionsOf x_impl_isRuledAndOrdered x_spec_l3Both
  rw [bind_some_of (isRuled_eq l obj hl), bind_some_of (l3Ruled_eq l obj hl)]
  by_cases hr : ruled l obj
  · have hg := hr.1
    have h8 := hg.1
    rw [if_pos (by simpa using hr), if_pos (by simpa using hr)]
    obtain ⟨b1, e1, h1⟩ := isOrder_eq l.length hl o hol
    obtain ⟨b2, e2, h2⟩ := l2Order_eq l.length hg.1 o hol
    have hb : b2 = b1 := by rw [Bool.eq_iff_iff, h1, h2]
    subst hb
    rw [bind_some_of e1, bind_some_of e2, Option.bind_some, Option.bind_some]
    cases b2 with
    | false =>
      rw [if_neg (by simp), if_neg (by simp)]
      exact ⟨_, _, rfl, rfl, by simp, fun h => (by cases h)⟩
    | true =>
      obtain ⟨p, rfl, hp⟩ := h1.1 rfl
      have hpl := hp.1
      rw [if_pos rfl, if_pos rfl, bind_some_of (inversions_eq hg hp obj), bind_some_of (l3Inversions_eq hg hp obj)]
      have hT := invs_len l obj p 8 (by omega)
      exact ⟨_, _, rfl, rfl, by omega, fun _ => ⟨hr, p, rfl, hp, rfl⟩⟩
  · rw [if_neg (by simpa using hr), if_neg (by simpa using hr), Option.bind_some, Option.bind_some, if_neg (by simp), if_neg (by simp)]
    exact ⟨_, _, rfl, rfl, by simp, fun h => (by cases h)⟩

/-- Two jobs in each other's place. -/
theorem psum_swap (f : Nat → Nat → Int) (a b : Nat) (q : List Nat) : ∀ p : List Nat, psum f (p ++ a :: b :: q) - psum f (p ++ b :: a :: q) = f a b - f b a
  | [] => by simp only [List.nil_append, psum, isum]; omega
  | c :: p => by
    have h := psum_swap f a b q p
    simp only [List.cons_append, psum]
    rw [isum_perm (f c) (List.Perm.append_left p (List.Perm.swap b a q))]
    omega

theorem val_swap {l : List impl_Job} (h : Free l) {p q : List Nat} {a b : Nat} (h1 : IsOrd l.length (p ++ a :: b :: q)) : IsOrd l.length (p ++ b :: a :: q) ∧ val l (p ++ a :: b :: q) 3 - val l (p ++ b :: a :: q) 3 = gap 3 (jb l a) (jb l b) := by
  have hp : (p ++ b :: a :: q).Perm (p ++ a :: b :: q) := List.Perm.append_left p (List.Perm.swap a b q)
  have h2 := IsOrd.of_perm (hp.trans h1.perm)
  refine ⟨h2, ?_⟩
  rw [val_pairs h (.inr rfl) h1, val_pairs h (.inr rfl) h2, gap_pcost (.inr rfl), isum_perm _ hp]
  have := psum_swap (pcost l 3) a b q p
  omega

theorem exchanged_eq {p q : List Nat} {a b : Nat} (hl : (p ++ a :: b :: q).length ≤ 1000) : x_impl_exchanged (ic (p ++ a :: b :: q)) (p.length : Int) = some (ic (p ++ b :: a :: q)) := by
  have h0 : p.length < (p ++ a :: b :: q).length := by simp
  have h1 : p.length + 1 < (p ++ a :: b :: q).length := by simp
  have hl' := hl
  simp only [List.length_append, List.length_cons] at hl'
  unfold x_impl_exchanged
  rw [bind_some_of (copyInts_eq (by rw [ic_len]; omega)), inc_i (by omega), bind_some_of (ic_get h1), bind_some_of (ic_get h0), bind_some_of (put_lt (by rw [ic_len]; exact h0) _)]
  have h2 : p.length + 1 < ((ic (p ++ a :: b :: q)).set p.length ((p ++ a :: b :: q)[p.length + 1] : Int)).length := by rw [List.length_set, ic_len]; exact h1
  rw [bind_some_of (ix_lt h2), bind_some_of (put_lt h2 _)]
  congr 1
  have e1 : (p ++ a :: b :: q)[p.length + 1] = b := by simp
  have e0 : (p ++ a :: b :: q)[p.length] = a := by simp
  rw [e1, e0]
  simp [ic, List.set_append]

theorem gain_eq {l : List impl_Job} (hr : ruled l 3) {o : List Nat} (ho : IsOrd l.length o) {v : Nat} (hv : v + 1 < o.length) :
    x_impl_ExchangeGain l (ic o) (v : Int) 3 = some (gap 3 (jb l o[v]) (jb l o[v + 1]), true) := by
  have hg := hr.1
  have h8 := hg.1
  have hol := ho.1
  have hf : Free l := by
    rcases hr.2 with h | ⟨_, hp⟩
    · cases h
    · exact free_of_plain ⟨hr.1, hp⟩
  have e : o = o.take v ++ o[v] :: o[v + 1] :: o.drop (v + 2) := by
    have h1 := List.drop_eq_getElem_cons (l := o) (i := v) (by omega)
    have h2 := List.drop_eq_getElem_cons (l := o) (i := v + 1) hv
    rw [h2] at h1
    rw [← h1, List.take_append_drop]
  have hlen : (o.take v).length = v := by rw [List.length_take]; omega
  have ho' := ho
  rw [e] at ho'
  obtain ⟨ho2, hv2⟩ := val_swap hf ho'
  rw [← e] at hv2
  have hx : x_impl_exchanged (ic o) (v : Int) = some (ic (o.take v ++ o[v + 1] :: o[v] :: o.drop (v + 2))) := by
    have := exchanged_eq (p := o.take v) (q := o.drop (v + 2)) (a := o[v]) (b := o[v + 1]) (by rw [← e]; omega)
    rw [← e, hlen] at this
    exact this
  have hbd := gap_bd (obj := 3) (jb_ok hg (ho.2.2 _ (List.getElem_mem (show v < o.length by omega)))) (jb_ok hg (ho.2.2 _ (List.getElem_mem hv)))
  unfold x_impl_ExchangeGain x_impl_gain
  rw [bind_some_of (isValued_ok hg ho (by omega) (by omega)), if_pos rfl, bind_some_of (within_eq _ _ _), ic_len, sub_i (by omega) (by omega), if_pos (by simp; omega), bind_some_of (valueOf_eq hg ho 3), bind_some_of hx, bind_some_of (valueOf_eq hg ho2 3), sub_i (by omega) (by omega), hv2]
  rfl

theorem DrawPairLoss_ok {code : List Int} (hc : ∀ z ∈ code, 0 ≤ z ∧ z < 256) : ∃ l o, x_spec_DrawPairLoss code = some (l, o) ∧ (l.length ≤ 6 ∨ l.length = 9) ∧ o.length < 900000 := by
  unfold x_spec_DrawPairLoss
  obtain ⟨l, c1, e1, h1, hl⟩ := plain3_ok (m := 1000) (CK.start hc 1400 (by omega))
  obtain ⟨o, c2, e2, h2, ho⟩ := order_ok (m := 800) (c := c1) h1 l.length (by omega)
  rw [bind_some_of e1]
  simp only
  rw [bind_some_of e2]
  exact ⟨l, o, rfl, hl, by omega⟩

/-- impl's test of a ruled order. -/
theorem isRuled_impl (l : List impl_Job) (hl : l.length < 900000) {p : List Nat} {obj : Int} (hr : ruled l obj) (hp : IsOrd l.length p) : ∃ b, x_impl_IsRuledOrder l (ic p) obj = some (b, true) ∧ (b = true ↔ p.Pairwise fun a b => gap obj (jb l a) (jb l b) ≤ 0) := by
  unfold x_impl_IsRuledOrder x_impl_isRuledAndOrdered
  have hg := hr.1
  have h8 := hg.1
  have hpl := hp.1
  rw [bind_some_of (isRuled_eq l obj hl), if_pos (by simpa using hr)]
  obtain ⟨b1, e1, h1⟩ := isOrder_eq l.length hl (ic p) (by rw [ic_len]; omega)
  have hb := h1.2 ⟨p, rfl, hp⟩
  subst hb
  rw [bind_some_of e1, Option.bind_some, if_pos rfl]
  obtain ⟨b, e3, h3⟩ := isRuledLoop_eq hg hp obj
  refine ⟨b, ?_, h3⟩
  rw [bind_some_of e3]
  cases b <;> rfl

/-- impl's difference of two jobs. -/
theorem ruleDiff_impl (l : List impl_Job) (hl : l.length < 900000) {obj : Int} (hr : ruled l obj) {a b : Nat} (ha : a < l.length) (hb : b < l.length) : x_impl_RuleDifference l obj (a : Int) (b : Int) = some (gap obj (jb l a) (jb l b), true) := by
  unfold x_impl_RuleDifference
  rw [bind_some_of (isRuled_eq l obj hl), if_pos (by simpa using hr), bind_some_of (isNumber_eq _ _ hl), if_pos (by simp; omega), bind_some_of (isNumber_eq _ _ hl), if_pos (by simp; omega), bind_some_of (jb_ix ha), bind_some_of (jb_ix hb), bind_some_of (difference_eq (jb_ok hr.1 ha) (jb_ok hr.1 hb) obj)]

/-- The law of the loss of an order. -/
theorem pairLoss_true {code : List Int} (hc : ∀ z ∈ code, 0 ≤ z ∧ z < 256) : x_laws_FnPairLoss code = some true := by
  unfold x_laws_FnPairLoss x_laws_vBig
  rw [Option.bind_some]
  by_cases hbig : decide (65536 < (code.length : Int)) = true
  · rw [if_pos hbig]
  rw [if_neg hbig]
  have hlen : code.length ≤ 65536 := by
    simp at hbig
    omega
  obtain ⟨l, o, e1, hl, hol⟩ := DrawPairLoss_ok hc
  obtain ⟨cd1, e4, hc1⟩ := vCut_ok hc hlen 1
  have e4 : x_laws_vCut code 1 = some cd1 := e4
  obtain ⟨l2, o2, obj2, e5', hl2, hol2⟩ := DrawIsRuledOrder_ok hc1
  have e5 : x_spec_DrawInversionsOf cd1 = some (l2, o2, obj2) := by
    unfold x_spec_DrawInversionsOf
    rw [bind_some_of e5']
  have hl' : l.length < 900000 := by omega
  have hl2' : l2.length < 900000 := by omega
  obtain ⟨d, ok, e2, e3, k1⟩ := PairLoss_both l hl' o hol
  obtain ⟨d2, ok2, e6, e7, hd2, k2⟩ := Inversions_both l2 hl2' o2 hol2 obj2
  rw [bind_some_of e1, bind_some_of e2, bind_some_of e3, bind_some_of e4, bind_some_of e5, bind_some_of e6, bind_some_of e7, if_pos rfl, if_pos rfl, if_pos rfl, bind_some_of (vPairs_same d2 hd2), if_pos rfl]
  have h2 : ok2 = true → ∃ b, x_impl_IsRuledOrder l2 o2 obj2 = some (b, true) ∧ b = decide ((d2.length : Int) = 0) := fun h => by
    obtain ⟨hr, p, rfl, hp, rfl⟩ := k2 h
    obtain ⟨b, e8, h6⟩ := isRuled_impl l2 hl2' hr hp
    refine ⟨b, e8, ?_⟩
    rw [Bool.eq_iff_iff, h6, decide_eq_true_eq, ← invs_nil, ← List.length_eq_zero_iff]
    omega
  have h1 : ok = true → ∃ v b, x_impl_ValueOf l o 3 = some (v, true) ∧ x_impl_BestValue l 3 = some (b, true) ∧ subK .i64 v b = d ∧ loopS (x_laws_FnPairLoss_l0 l o) LL 0 = some (.inl ()) := fun h => by
    obtain ⟨hr, p, rfl, hp, rfl, hb⟩ := k1 h
    have hg := hr.1
    have h8 := hg.1
    have h6 : l.length ≤ 6 := by omega
    have hpl := hp.1
    have hf : Free l := by
      rcases hr.2 with h | ⟨_, hp⟩
      · cases h
      · exact free_of_plain ⟨hr.1, hp⟩
    obtain ⟨r, _, hro, hrs⟩ := l3Order_eq hg 3
    have hrs' := hrs.imp fun h => rsoon_le h
    have hbest := bestP_spec l 3
    obtain ⟨q, hq, _, hv⟩ := hbest.2
    have a1 := hbest.1 r hro
    have a2 := ruled_best hr hro hrs' hq
    have v1 := val_loss hf (.inr rfl) hro
    have v2 := val_loss hf (.inr rfl) hp
    have v3 := base_perm (l := l) (obj := 3) (hro.perm.trans hp.perm.symm)
    have v4 := loss_zero.2 hrs'
    have v5 := loss_nonneg l 3 p
    have hobj : x_impl_isObjective 3 = some true := by unfold x_impl_isObjective; rw [within_eq]; rfl
    refine ⟨val l p 3, (bestP l 3 (lexP l.length)).2.1, ?_, ?_, ?_, ?_⟩
    · unfold x_impl_ValueOf
      rw [bind_some_of (isValued_ok hg hp (by omega) (by omega)), if_pos rfl, bind_some_of (valueOf_eq hg hp 3)]
    · unfold x_impl_BestValue
      rw [bind_some_of (IsJobs_eq l), if_pos (decide_eq_true hg), bind_some_of hobj, if_pos rfl, bind_some_of (best_eq hg h6 3)]
    · rw [sub_i (by omega) (by omega)]
      omega
    · have key := loopS_inv (b := x_laws_FnPairLoss_l0 l (ic p)) (fun k (s : Int) => s = (k : Int)) (fun q => q = .inl ()) (p.length - 1) (by
        rintro k _ hk rfl
        have hk1 : k + 1 < p.length := by omega
        have ha : p[k] < l.length := hp.2.2 _ (List.getElem_mem _)
        have hb : p[k + 1] < l.length := hp.2.2 _ (List.getElem_mem _)
        have e9 := ruleDiff_impl l hl' hr ha hb
        unfold x_laws_FnPairLoss_l0
        simp only
        rw [inc_i (by omega), if_pos (by rw [ic_len]; omega), bind_some_of (gain_eq hr hp hk1), bind_some_of (ic_get (show k < p.length by omega)), bind_some_of (ic_get hk1), bind_some_of e9, if_pos rfl]
        exact .inl ⟨_, rfl, rfl⟩) (by
        rintro _ rfl
        unfold x_laws_FnPairLoss_l0
        simp only
        rw [inc_i (by omega), if_neg (by rw [ic_len]; omega)]
        exact ⟨_, rfl, rfl⟩) (LL_lt (by omega)) 0 rfl
      obtain ⟨q, e9, rfl⟩ := key
      exact e9
  by_cases h2' : ok2 = true
  · obtain ⟨b, e8, h3⟩ := h2 h2'
    rw [if_pos h2', bind_some_of e8, if_pos h3]
    by_cases h1' : ok = true
    · obtain ⟨v, b, g1, g2, g3, g4⟩ := h1 h1'
      rw [if_pos h1', bind_some_of g1, bind_some_of g2, if_pos g3, bind_some_of g4]
    · rw [if_neg h1']
  · rw [if_neg h2']
    by_cases h1' : ok = true
    · obtain ⟨v, b, g1, g2, g3, g4⟩ := h1 h1'
      rw [if_pos h1', bind_some_of g1, bind_some_of g2, if_pos g3, bind_some_of g4]
    · rw [if_neg h1']
end Gh
