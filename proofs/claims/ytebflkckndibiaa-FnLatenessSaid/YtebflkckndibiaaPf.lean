/- Plain laws: sorting, due order, and lateness. -/
import Derived.Test.YtebflkckndibiaaPe
namespace Gh
open Go
set_option linter.unusedSimpArgs false
set_option linter.unusedVariables false
set_option maxRecDepth 100000

/-- Where an element goes: behind the last that it does not come ahead of. -/
theorem sortedBy_place {out : List Int} {x : Int} {less : Int → Int → Option Bool} {lt : Int → Int → Bool} (hl : ∀ y ∈ out, less x y = some (lt x y)) (hlen : out.length < 900000) (y : List Int) (y1 y2 : Int) :
    ∃ k : Nat, k ≤ out.length ∧ loopS (x_impl_sortedBy_l1 out less x y y1 y2) LL (out.length : Int) = some (k : Int) ∧ (∀ j (h : j < out.length), k ≤ j → lt x out[j] = true) ∧ (∀ h : k - 1 < out.length, 0 < k → lt x out[k - 1] = false) := by
  have key := loopS_inv (b := x_impl_sortedBy_l1 out less x y y1 y2) (fun i (s : Int) => i ≤ out.length ∧ s = ((out.length - i : Nat) : Int) ∧ ∀ j (h : j < out.length), out.length - i ≤ j → lt x out[j] = true)
    (fun p => ∃ k : Nat, p = (k : Int) ∧ k ≤ out.length ∧ (∀ j (h : j < out.length), k ≤ j → lt x out[j] = true) ∧ (∀ h : k - 1 < out.length, 0 < k → lt x out[k - 1] = false)) out.length (by
    rintro i s hi ⟨h1, rfl, h2⟩
    have hpos : (0 : Int) < ((out.length - i : Nat) : Int) := by omega
    have hidx : out.length - i - 1 < out.length := by omega
    have hsub : subK .i64 ((out.length - i : Nat) : Int) 1 = ((out.length - i - 1 : Nat) : Int) := by rw [sub_i (by omega) (by omega)]; omega
    unfold x_impl_sortedBy_l1
    rw [if_pos hpos, hsub, bind_some_of (ix_lt hidx), bind_some_of (hl _ (List.getElem_mem hidx))]
    cases hlt : lt x out[out.length - i - 1] with
    | true =>
      refine .inl ⟨_, if_pos rfl, by omega, by rw [show out.length - (i + 1) = out.length - i - 1 by omega], fun j hj hle => ?_⟩
      by_cases e : j = out.length - i - 1
      · subst e; exact hlt
      · exact h2 j hj (by omega)
    | false => exact .inr ⟨_, if_neg (by simp), out.length - i, rfl, by omega, h2, fun _ _ => hlt⟩) (by
    rintro s ⟨h1, rfl, h2⟩
    unfold x_impl_sortedBy_l1
    rw [if_neg (by omega)]
    exact ⟨_, rfl, out.length - out.length, rfl, by omega, h2, fun _ h => absurd h (by omega)⟩) (LL_lt (by omega)) (out.length : Int) ⟨Nat.zero_le _, rfl, fun j hj hle => absurd hle (by omega)⟩
  obtain ⟨p, e, k, rfl, h1, h2, h3⟩ := key
  exact ⟨k, h1, e, h2, h3⟩

theorem cpy_shift (out : List Int) (x z : Int) (k : Nat) (hk : k ≤ out.length) : ∃ w, cpy (out ++ [z]) (k + 1) (out.length - k) k (out.length + 1 - k) = some w ∧ w.length = out.length + 1 ∧ w.set k x = out.take k ++ x :: out.drop k := by
  unfold cpy
  rw [if_pos (by simp only [List.length_append, List.length_cons, List.length_nil]; omega)]
  have e1 : ((out ++ [z]).drop k).take (out.length + 1 - k) = out.drop k ++ [z] := by
    rw [List.drop_append_of_le_length hk, List.take_of_length_le (by simp only [List.length_append, List.length_drop, List.length_cons, List.length_nil]; omega)]
  have e2 : (out.drop k ++ [z]).take (out.length - k) = out.drop k := List.take_left' (by simp)
  have e3 : (out ++ [z]).take (k + 1) = out.take k ++ (out.drop k ++ [z]).take 1 := by
    have : (out ++ [z]) = out.take k ++ (out.drop k ++ [z]) := by rw [← List.append_assoc, List.take_append_drop]
    conv => lhs; rw [this]
    rw [List.take_append, List.length_take, Nat.min_eq_left hk, List.take_of_length_le (by simp; omega), show k + 1 - k = 1 by omega]
  have e4 : (out ++ [z]).drop (k + 1 + (out.drop k).length) = [] := List.drop_eq_nil_of_le (by simp; omega)
  refine ⟨_, rfl, ?_, ?_⟩
  · rw [e1, e2, e3, e4]
    have : ((out.drop k ++ [z]).take 1).length = 1 := by simp
    simp only [List.length_append, List.length_take, List.length_drop, List.length_nil, this, List.length_cons]
    omega
  · rw [e1, e2, e3, e4, List.append_nil]
    have hl : (out.take k).length = k := by simp; omega
    obtain ⟨u, hu⟩ : ∃ u, (out.drop k ++ [z]).take 1 = [u] := by
      cases h : out.drop k ++ [z] with
      | nil => simp at h
      | cons a t => exact ⟨a, rfl⟩
    rw [hu, List.append_assoc, List.set_append_right _ _ (by omega), hl, Nat.sub_self]
    rfl

/-- Sorting by insertion. -/
theorem sortedBy_spec {list : List Int} {less : Int → Int → Option Bool} {lt : Int → Int → Bool} (hl : ∀ a ∈ list, ∀ b ∈ list, less a b = some (lt a b)) (hlen : list.length < 800000) (R : Int → Int → Prop) (hT : ∀ a b c, R a b → R b c → R a c)
    (h1 : list.Pairwise fun y x => (lt x y = true → R x y) ∧ (lt x y = false → R y x)) : ∃ r, x_impl_sortedBy list less = some r ∧ r.Perm list ∧ r.Pairwise R := by
  unfold x_impl_sortedBy
  have key := loopS_inv (b := x_impl_sortedBy_l0 less list (list.length : Int)) (fun i (s : List Int × Int) => s.2 = (i : Int) ∧ s.1.Perm (list.take i) ∧ s.1.Pairwise R) (fun p => p.Perm list ∧ p.Pairwise R) list.length (by
    rintro i ⟨out, y2⟩ hi ⟨h2, h3, h4⟩
    simp only at h2 h3 h4
    subst h2
    have hol : out.length = i := by have := h3.length_eq; rw [List.length_take] at this; omega
    have hmem : ∀ y ∈ out, y ∈ list := fun y hy => List.mem_of_mem_take (h3.mem_iff.1 hy)
    have hx : list[i] ∈ list := List.getElem_mem hi
    have hrel : ∀ y ∈ out, (lt list[i] y = true → R list[i] y) ∧ (lt list[i] y = false → R y list[i]) := fun y hy => by
      obtain ⟨j, hj, rfl⟩ := List.mem_take_iff_getElem.1 (h3.mem_iff.1 hy)
      exact (List.pairwise_iff_getElem.1 h1) j i (by omega) hi (by omega)
    obtain ⟨k, hk, e1, e2, e3⟩ := sortedBy_place (out := out) (x := list[i]) (less := less) (lt := lt) (fun y hy => hl _ hx _ (hmem y hy)) (by omega) list (list.length : Int) (i : Int)
    have e4 : app 8 out [0] = some (out ++ [0]) := app_ok (by simp; omega) (by omega)
    have hl1 : (out ++ [(0 : Int)]).length = out.length + 1 := by simp
    obtain ⟨w, e5, e6, e7⟩ := cpy_shift out list[i] 0 k hk
    have e8 : ix w (k : Int) = some (w[k]'(by omega)) := ix_lt (by omega)
    have e9 : put w (k : Int) list[i] = some (out.take k ++ list[i] :: out.drop k) := by rw [put_lt (by omega), e7]
    unfold x_impl_sortedBy_l0
    simp only
    have hinc : addK .i64 (k : Int) 1 = ((k + 1 : Nat) : Int) := inc_i (by omega)
    have hinc2 : addK .i64 (i : Int) 1 = ((i + 1 : Nat) : Int) := inc_i (by omega)
    rw [if_pos (show (i : Int) < (list.length : Int) by omega), bind_some_of (ix_lt hi), bind_some_of e1, bind_some_of e4, hl1, hinc, hinc2]
    rw [if_pos (by omega), if_pos (by omega), Int.toNat_natCast, Int.toNat_natCast, show out.length + 1 - (k + 1) = out.length - k by omega, bind_some_of e5, bind_some_of e8, bind_some_of e9]
    refine .inl ⟨_, rfl, rfl, ?_, ?_⟩
    · show (out.take k ++ list[i] :: out.drop k).Perm (list.take (i + 1))
      rw [List.take_add_one, List.getElem?_eq_getElem hi]
      refine List.perm_middle.trans ?_
      rw [List.take_append_drop]
      refine (List.Perm.cons _ h3).trans ?_
      exact (List.perm_append_comm (l₁ := [list[i]]) (l₂ := list.take i))
    · show (out.take k ++ list[i] :: out.drop k).Pairwise R
      have hsplit : (out.take k ++ out.drop k).Pairwise R := by rw [List.take_append_drop]; exact h4
      obtain ⟨p1, p2, p3⟩ := List.pairwise_append.1 hsplit
      have hd : ∀ b ∈ out.drop k, R list[i] b := fun b hb => by
        obtain ⟨j, hj, rfl⟩ := List.mem_drop_iff_getElem.1 hb
        exact (hrel _ (List.getElem_mem _)).1 (e2 _ (by omega) (by omega))
      have ht : ∀ a ∈ out.take k, R a list[i] := fun a ha => by
        have hk0 : 0 < k := by
          cases k with
          | zero => simp at ha
          | succ k => omega
        have hb : k - 1 < out.length := by omega
        have hy := (hrel _ (List.getElem_mem hb)).2 (e3 hb hk0)
        obtain ⟨j, hj, rfl⟩ := List.mem_take_iff_getElem.1 ha
        by_cases e : j = k - 1
        · subst e; exact hy
        · exact hT _ _ _ ((List.pairwise_iff_getElem.1 h4) j (k - 1) (by omega) hb (by omega)) hy
      refine List.pairwise_append.2 ⟨p1, List.pairwise_cons.2 ⟨hd, p2⟩, fun a ha b hb => ?_⟩
      rcases List.mem_cons.1 hb with rfl | hb
      · exact ht a ha
      · exact p3 a ha b hb) (by
    rintro ⟨out, y2⟩ ⟨h2, h3, h4⟩
    simp only at h2 h3 h4
    subst h2
    unfold x_impl_sortedBy_l0
    simp only
    rw [if_neg (by omega)]
    rw [List.take_length] at h3
    exact ⟨_, rfl, h3, h4⟩) (LL_lt (by omega)) ([], 0) ⟨rfl, by simp, List.Pairwise.nil⟩
  obtain ⟨p, e, h2, h3⟩ := key
  exact ⟨p, bind_some_of e, h2, h3⟩

/-- Two sorted lists of the same elements are the same. -/
theorem sorted_unique {α : Type} {R : α → α → Prop} (hA : ∀ a b, R a b → ¬ R b a) : ∀ {l m : List α}, l.Perm m → l.Pairwise R → m.Pairwise R → l = m
  | [], m, h, _, _ => (List.Perm.nil_eq h)
  | a :: l, [], h, _, _ => by have := h.length_eq; simp at this
  | a :: l, b :: m, h, h1, h2 => by
    rw [List.pairwise_cons] at h1 h2
    have hab : a = b := by
      have h3 : a ∈ b :: m := h.mem_iff.1 (by simp)
      have h4 : b ∈ a :: l := h.mem_iff.2 (by simp)
      rcases List.mem_cons.1 h3 with e | h3
      · exact e
      · rcases List.mem_cons.1 h4 with e | h4
        · exact e.symm
        · exact absurd (h1.1 b h4) (hA _ _ (h2.1 a h3))
    subst hab
    rw [sorted_unique hA (List.Perm.cons_inv h) h1.2 h2.2]

/-- A job comes before another one in due order. -/
def soon (l : List impl_Job) (a b : Nat) : Prop := (jb l a).Due < (jb l b).Due ∨ ((jb l a).Due = (jb l b).Due ∧ ((jb l a).Time < (jb l b).Time ∨ ((jb l a).Time = (jb l b).Time ∧ a < b)))
theorem soon_trans {l : List impl_Job} {a b c : Nat} (h1 : soon l a b) (h2 : soon l b c) : soon l a c := by unfold soon at *; omega
theorem soon_asymm {l : List impl_Job} {a b : Nat} (h1 : soon l a b) : ¬ soon l b a := by unfold soon at *; omega
theorem soon_total {l : List impl_Job} {a b : Nat} (h : a ≠ b) : soon l a b ∨ soon l b a := by unfold soon; omega

theorem ic_perm {r : List Int} {p : List Nat} (h : r.Perm (ic p)) : ∃ q : List Nat, r = ic q ∧ q.Perm p := by
  refine ⟨r.map Int.toNat, ?_, ?_⟩
  · unfold ic
    rw [List.map_map]
    refine (List.map_id' r).symm.trans (List.map_congr_left fun x hx => ?_)
    obtain ⟨i, _, rfl⟩ := ic_mem.1 (h.mem_iff.1 hx)
    simp
  · have := h.map Int.toNat
    have e : (ic p).map Int.toNat = p := by
      unfold ic
      rw [List.map_map]
      conv => rhs; rw [← List.map_id p]
      exact List.map_congr_left fun x _ => by simp
    rwa [e] at this

theorem ic_pairwise {R : Int → Int → Prop} {q : List Nat} (h : (ic q).Pairwise R) : q.Pairwise fun (a b : Nat) => R (a : Int) (b : Int) := List.pairwise_map.1 h

/-- Numbers in ascending order, by the program. -/
theorem ascending_eq {p : List Nat} (hn : p.Nodup) (hl : p.length < 800000) : ∃ q, x_impl_ascending (ic p) = some (ic q) ∧ q.Perm p ∧ q.Pairwise (· < ·) := by
  obtain ⟨r, e, h1, h2⟩ := sortedBy_spec (list := ic p) (less := x_impl_ascending_c1) (lt := fun a b => decide (a < b)) (fun a _ b _ => rfl) (by rw [ic_len]; exact hl) (fun a b => a < b) (fun a b c => Int.lt_trans) (by
    unfold ic
    rw [List.pairwise_map]
    refine (List.nodup_iff_pairwise_ne.1 hn).imp fun {y x} hne => ⟨fun h => by simpa using h, fun h => ?_⟩
    have : ¬ ((x : Int) < (y : Int)) := by simpa using h
    omega)
  obtain ⟨q, rfl, hq⟩ := ic_perm h1
  refine ⟨q, ?_, hq, (ic_pairwise h2).imp fun h => by omega⟩
  unfold x_impl_ascending
  exact bind_some_of e

theorem range_sorted (n : Nat) : (List.range n).Pairwise (· < ·) := List.pairwise_lt_range

theorem ascending_range {n : Nat} (hn : n < 800000) : x_impl_ascending (ic (List.range n)) = some (ic (List.range n)) := by
  obtain ⟨q, e, h1, h2⟩ := ascending_eq (p := List.range n) List.nodup_range (by simpa using hn)
  rw [e, sorted_unique (R := fun (a b : Nat) => a < b) (fun a b h => by omega) h1 h2 (range_sorted n)]

/-- Due order, by the program. -/
theorem inDueOrder_eq {l : List impl_Job} {p : List Nat} (hn : p.Nodup) (hb : ∀ i ∈ p, i < l.length) (hl : p.length < 800000) : ∃ q, x_impl_inDueOrder l (ic p) = some (ic q) ∧ q.Perm p ∧ q.Pairwise (soon l) := by
  obtain ⟨a, e1, h1, h2⟩ := ascending_eq hn hl
  have hab : ∀ i ∈ a, i < l.length := fun i hi => hb i (h1.mem_iff.1 hi)
  let lt : Int → Int → Bool := fun x y => decide ((jb l x.toNat).Due < (jb l y.toNat).Due ∨ ((jb l x.toNat).Due = (jb l y.toNat).Due ∧ (jb l x.toNat).Time < (jb l y.toNat).Time))
  obtain ⟨r, e2, h3, h4⟩ := sortedBy_spec (list := ic a) (less := x_impl_inDueOrder_c1 l) (lt := lt) (fun x hx y hy => by
    obtain ⟨i, hi, rfl⟩ := ic_mem.1 hx
    obtain ⟨k, hk, rfl⟩ := ic_mem.1 hy
    unfold x_impl_inDueOrder_c1
    rw [bind_some_of (jb_ix (hab i hi)), bind_some_of (jb_ix (hab k hk))]
    simp only [lt, Int.toNat_natCast]
    by_cases k1 : (jb l i).Due < (jb l k).Due
    · simp [k1]
    · by_cases k2 : (jb l i).Due = (jb l k).Due
      · simp [k2]
      · simp [k1, k2]) (by rw [ic_len, h1.length_eq]; exact hl) (fun x y => soon l x.toNat y.toNat) (fun a b c => soon_trans) (by
    unfold ic
    rw [List.pairwise_map]
    refine h2.imp fun {y x} hlt => ?_
    simp only [lt, Int.toNat_natCast]
    constructor
    · intro h
      have h := of_decide_eq_true h
      unfold soon; omega
    · intro h
      have h := of_decide_eq_false h
      unfold soon; omega)
  obtain ⟨q, rfl, hq⟩ := ic_perm h3
  refine ⟨q, ?_, hq.trans h1, (ic_pairwise h4).imp fun h => by simpa using h⟩
  unfold x_impl_inDueOrder
  rw [bind_some_of e1, bind_some_of e2]

theorem l6Sooner_eq {l : List impl_Job} {i k : Nat} (hi : i < l.length) (hk : k < l.length) : ∃ b, x_spec_l6Sooner l (i : Int) (k : Int) = some b ∧ (b = true ↔ soon l i k) := by
  unfold x_spec_l6Sooner
  rw [bind_some_of (jb_ix hi), bind_some_of (jb_ix hk)]
  by_cases k1 : (jb l i).Due = (jb l k).Due
  · by_cases k2 : (jb l i).Time = (jb l k).Time
    · rw [if_pos k1, if_pos k2]; refine ⟨_, rfl, ?_⟩; rw [decide_eq_true_eq]; unfold soon; omega
    · rw [if_pos k1, if_neg k2]; refine ⟨_, rfl, ?_⟩; rw [decide_eq_true_eq]; unfold soon; omega
  · rw [if_neg k1]; refine ⟨_, rfl, ?_⟩; rw [decide_eq_true_eq]; unfold soon; omega

/-- Due order, by the reference. -/
theorem l6Due_eq {l : List impl_Job} {p : List Nat} (hn : p.Nodup) (hb : ∀ i ∈ p, i < l.length) (hl : p.length < 400000) : ∃ q, x_spec_l6Due l (ic p) = some (ic q) ∧ q.Perm p ∧ q.Pairwise (soon l) := by
  unfold x_spec_l6Due
  have key := loopS_inv (b := x_spec_l6Due_l0 l (ic p)) (fun i (s : List Int × Int) => s.2 = (i : Int) ∧ ∃ out : List Nat, s.1 = ic out ∧ out.Perm (p.take i) ∧ out.Pairwise (soon l)) (fun r => ∃ q : List Nat, r = ic q ∧ q.Perm p ∧ q.Pairwise (soon l)) p.length (by
    rintro i ⟨out', y2⟩ hi ⟨h2, out, h0, h3, h4⟩
    simp only at h2 h0
    subst h2 h0
    have hol : out.length = i := by have := h3.length_eq; rw [List.length_take] at this; omega
    have hmem : ∀ y ∈ out, y ∈ p := fun y hy => List.mem_of_mem_take (h3.mem_iff.1 hy)
    have hne : ∀ y ∈ out, y ≠ p[i] := fun y hy e => by
      obtain ⟨j, hj, he⟩ := List.mem_take_iff_getElem.1 (h3.mem_iff.1 hy)
      exact (List.pairwise_iff_getElem.1 (List.nodup_iff_pairwise_ne.1 hn)) j i (by omega) hi (by omega) (he.trans e)
    have hpi : p[i] < l.length := hb _ (List.getElem_mem hi)
    have hic : ix (ic p) (i : Int) = some ((p[i] : Nat) : Int) := ic_get hi
    -- the place
    have kp := loopS_inv (b := x_spec_l6Due_l1 l (ic p) (ic out) (i : Int)) (fun k (s : Int) => s = (k : Int) ∧ ∀ j (h : j < out.length), j < k → soon l out[j] p[i])
      (fun r => ∃ k : Nat, r = (k : Int) ∧ k ≤ out.length ∧ (∀ j (h : j < out.length), j < k → soon l out[j] p[i]) ∧ ∀ h : k < out.length, ¬ soon l out[k] p[i]) out.length (by
      rintro k s hk ⟨rfl, hs⟩
      obtain ⟨b, e1, e2⟩ := l6Sooner_eq (l := l) (hb _ (hmem _ (List.getElem_mem hk))) hpi
      unfold x_spec_l6Due_l1
      rw [if_pos (by rw [ic_len]; omega), bind_some_of (ic_get hk), bind_some_of hic, bind_some_of e1, inc_i (by omega)]
      cases b with
      | true =>
        refine .inl ⟨_, if_pos rfl, rfl, fun j hj hjk => ?_⟩
        by_cases e : j = k
        · subst e; exact e2.1 rfl
        · exact hs j hj (by omega)
      | false => exact .inr ⟨_, if_neg (by simp), k, rfl, Nat.le_of_lt hk, hs, fun _ h => by cases e2.2 h⟩) (by
      rintro s ⟨rfl, hs⟩
      unfold x_spec_l6Due_l1
      rw [if_neg (by rw [ic_len]; omega)]
      exact ⟨_, rfl, out.length, rfl, Nat.le_refl _, hs, fun h => absurd h (by omega)⟩) (LL_lt (by omega)) 0 ⟨rfl, fun j _ h => absurd h (Nat.not_lt_zero _)⟩
    obtain ⟨_, e1, k, rfl, hk, hbefore, hat⟩ := kp
    have hil : (ic out).length = out.length := ic_len out
    have c1 : cut (ic out) 0 (k : Int) = some (ic (out.take k)) := by
      have := cut_ok (l := ic out) (lo := 0) (hi := k) (Nat.zero_le _) (by omega)
      simpa [ic] using this
    have c2 : cut (ic out) (k : Int) ((ic out).length : Int) = some (ic (out.drop k)) := by
      have := cut_ok (l := ic out) (lo := k) (hi := (ic out).length) (by omega) (Nat.le_refl _)
      rw [this, List.take_length]; simp [ic]
    have htl : (ic (out.take k)).length ≤ 400000 := by rw [ic_len, List.length_take]; omega
    have hdl : (ic (out.drop k)).length ≤ 400000 := by rw [ic_len, List.length_drop]; omega
    have a1 : app 8 (ic (out.take k)) [((p[i] : Nat) : Int)] = some (ic (out.take k) ++ [((p[i] : Nat) : Int)]) := app_ok (by simp; omega) (by omega)
    have a2 : app 8 (ic (out.take k) ++ [((p[i] : Nat) : Int)]) (ic (out.drop k)) = some (ic (out.take k ++ p[i] :: out.drop k)) := by
      rw [app_ok (by simp only [List.length_append, List.length_cons, List.length_nil]; omega) (by omega)]
      simp [ic]
    unfold x_spec_l6Due_l0
    simp only
    rw [if_pos (by rw [ic_len]; omega), bind_some_of e1, bind_some_of c1, if_pos (fits_ok (by omega) (by omega)), bind_some_of hic, bind_some_of a1, bind_some_of c2, bind_some_of a2, inc_i (by omega)]
    refine .inl ⟨_, rfl, rfl, _, rfl, ?_, ?_⟩
    · rw [List.take_add_one, List.getElem?_eq_getElem hi]
      refine List.perm_middle.trans ?_
      rw [List.take_append_drop]
      refine (List.Perm.cons _ h3).trans ?_
      exact (List.perm_append_comm (l₁ := [p[i]]) (l₂ := p.take i))
    · have hsplit : (out.take k ++ out.drop k).Pairwise (soon l) := by rw [List.take_append_drop]; exact h4
      obtain ⟨p1, p2, p3⟩ := List.pairwise_append.1 hsplit
      have hd : ∀ b ∈ out.drop k, soon l p[i] b := fun b hb' => by
        obtain ⟨j, hj, rfl⟩ := List.mem_drop_iff_getElem.1 hb'
        have hklt : k < out.length := by omega
        have h5 : soon l p[i] out[k] := (soon_total (fun e => hne _ (List.getElem_mem hklt) e.symm)).resolve_right (hat hklt)
        by_cases e : j = 0
        · subst e; exact h5
        · exact soon_trans h5 ((List.pairwise_iff_getElem.1 h4) k (k + j) hklt (by omega) (by omega))
      have ht : ∀ a ∈ out.take k, soon l a p[i] := fun a ha => by
        obtain ⟨j, hj, rfl⟩ := List.mem_take_iff_getElem.1 ha
        exact hbefore j (by omega) (by omega)
      refine List.pairwise_append.2 ⟨p1, List.pairwise_cons.2 ⟨hd, p2⟩, fun a ha b hb' => ?_⟩
      rcases List.mem_cons.1 hb' with rfl | hb'
      · exact ht a ha
      · exact p3 a ha b hb') (by
    rintro ⟨out', y2⟩ ⟨h2, out, h0, h3, h4⟩
    simp only at h2 h0
    subst h2 h0
    unfold x_spec_l6Due_l0
    simp only
    rw [if_neg (by rw [ic_len]; omega)]
    rw [List.take_length] at h3
    exact ⟨_, rfl, out, rfl, h3, h4⟩) (LL_lt (by omega)) ([], 0) ⟨rfl, [], rfl, by simp, List.Pairwise.nil⟩
  obtain ⟨r, e, q, rfl, h1, h2⟩ := key
  exact ⟨q, bind_some_of e, h1, h2⟩

theorem pow_cast (n : Nat) (hn : n ≤ 60) : subK .i64 (shlK .i64 1 (n : Int)) 1 = ((2 ^ n - 1 : Nat) : Int) := by
  have hb : 2 ^ n ≤ 2 ^ 60 := Nat.pow_le_pow_right (by decide) hn
  have hpos : 0 < 2 ^ n := Nat.pow_pos (by decide)
  have h1 : shlK .i64 1 (n : Int) = ((2 ^ n : Nat) : Int) := by
    unfold shlK
    have e : min (Int.toNat (n : Int)) IntKind.i64.bits = n := by
      have : IntKind.i64.bits = 64 := rfl
      rw [this, Int.toNat_natCast]; omega
    have e2 : (1 : Int) * 2 ^ n = ((2 ^ n : Nat) : Int) := by simp
    rw [e, e2]
    exact wrap_i64 (by omega) (by omega)
  rw [h1, sub_i (by omega) (by omega)]
  omega

theorem and_one (a : Int) : andK .i64 a 1 = a % 2 := by
  have h1 : (BitVec.ofInt IntKind.i64.bits a &&& BitVec.ofInt IntKind.i64.bits 1).toNat = (a % 18446744073709551616).toNat % 2 := by
    rw [BitVec.toNat_and]
    have e1 : (BitVec.ofInt IntKind.i64.bits 1).toNat = 1 := by decide
    have e2 : (BitVec.ofInt IntKind.i64.bits a).toNat = (a % 18446744073709551616).toNat := by
      rw [BitVec.toNat_ofInt]; rfl
    rw [e1, e2, Nat.and_one_is_mod]
  unfold andK
  rw [h1, wrap_i64 (by omega) (by omega)]
  omega

/-- A binary digit of a set. -/
def bit (c i : Nat) : Bool := c.testBit i
theorem shr_nat (c i : Nat) (h : i ≤ 64) : shrK .i64 (c : Int) (i : Int) = ((c / 2 ^ i : Nat) : Int) := by
  unfold shrK
  have e : min (Int.toNat (i : Int)) IntKind.i64.bits = i := by
    have : IntKind.i64.bits = 64 := rfl
    rw [this, Int.toNat_natCast]; omega
  rw [e, Int.fdiv_eq_ediv_of_nonneg _ (Int.le_of_lt (Int.pow_pos (by decide))), Int.natCast_ediv]
  simp

theorem bit_eq (c i : Nat) (h : i ≤ 64) : andK .i64 (shrK .i64 (c : Int) (i : Int)) 1 = 1 ↔ bit c i = true := by
  rw [and_one, shr_nat c i h]
  unfold bit
  rw [Nat.testBit_eq_decide_div_mod_eq, decide_eq_true_eq]
  omega

/-- The members of a set that is told by binary digits. -/
def setOf (n c : Nat) : List Nat := (List.range n).filter (bit c)

theorem l4Set_eq (n c : Nat) (hn : n ≤ 60) : x_spec_l4Set (n : Int) (c : Int) = some (ic (setOf n c)) := by
  unfold x_spec_l4Set
  have key := loop_fold (b := x_spec_l4Set_l0 (n : Int) (c : Int)) (fun (s : List Int) i => (s, (i : Int))) (fun s (i : Nat) => if bit c i = true then s ++ [(i : Int)] else s) (fun s => s) (List.range n) (fun i s => s = ic (setOf i c)) (by
    rintro i hi s rfl
    simp only [List.length_range] at hi
    simp only [List.getElem_range]
    have hle : (setOf i c).length ≤ i := by have := List.length_filter_le (bit c) (List.range i); simpa [setOf] using this
    have hsucc : setOf (i + 1) c = setOf i c ++ if bit c i = true then [i] else [] := by
      unfold setOf
      rw [List.range_succ, List.filter_append]
      cases h : bit c i <;> simp [h]
    unfold x_spec_l4Set_l0
    simp only
    rw [if_pos (by omega), if_pos (by omega), inc_i (by omega)]
    by_cases hb : bit c i = true
    · rw [if_pos ((bit_eq c i (by omega)).2 hb), bind_some_of (app_ok (by simp only [ic_len, List.length_cons, List.length_nil]; omega) (by omega)), if_pos hb, hsucc, if_pos hb]
      exact ⟨rfl, by simp [ic]⟩
    · rw [if_neg (fun h => hb ((bit_eq c i (by omega)).1 h)), if_neg hb, hsucc, if_neg hb]
      exact ⟨rfl, by simp⟩) (by
    rintro s _
    unfold x_spec_l4Set_l0
    simp only [List.length_range]
    rw [if_neg (by omega)]) (by simp; omega) [] rfl
  have h2 := key.2
  simp only [List.length_range] at h2
  rw [h2] at key
  exact bind_some_of key.1

theorem setOf_all (n : Nat) : setOf n (2 ^ n - 1) = List.range n := by
  unfold setOf
  apply List.filter_eq_self.2
  intro i hi
  have h1 := List.mem_range.1 hi
  unfold bit
  rw [Nat.testBit_two_pow_sub_one]
  simp [h1]

theorem l6All_eq (l : List impl_Job) (hl : l.length ≤ 60) : x_spec_l6All l = some (ic (List.range l.length)) := by
  unfold x_spec_l6All
  rw [pow_cast _ hl, bind_some_of (l4Set_eq _ _ hl), setOf_all]

end Gh
