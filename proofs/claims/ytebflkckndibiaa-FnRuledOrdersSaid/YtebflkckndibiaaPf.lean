/- Plain laws: sorting, due order, and lateness. -/
import Derived.Test.YtebflkckndibiaaPe
namespace Gh
open Go
set_option linter.unusedSimpArgs false
set_option linter.unusedVariables false
set_option maxRecDepth 100000

/-- Where an element goes: behind the last that it does not come ahead of. -/
theorem sortedBy_place {out : List Int} {x : Int} {less : Int → Int → Option Bool} {lt : Int → Int → Bool} (hl : ∀ y ∈ out, less x y = some (lt x y)) (hlen : out.length < 900000) (y : List Int) (y1 y2 : Int) :
    ∃ k : Nat, k ≤ out.length ∧ loopS (x_impl_sortedBy_l1 out less x y y1 y2) LL (out.length : Int) = some (k : Int) ∧ (∀ j (h : j < out.length), k ≤ j → lt x out[j] = true) ∧ (∀ h : k - 1 < out.length, 0 < k → lt x out[k - 1] = false) := by
  have key := loopS_inv (b := x_impl_sortedBy_l1 out less x y y1 y2) (fun i (s : Int) => i ≤ out.length ∧ s = ((out.length - i : Nat) : Int) ∧ ∀ j (h : j < out.length), out.length - i ≤ j → lt x out[j] = true)
    (fun p => ∃ k : Nat, p = (k : Int) ∧ k ≤ out.length ∧ (∀ j (h : j < out.length), k ≤ j → lt x out[j] = true) ∧ (∀ h : k - 1 < out.length, 0 < k → lt x out[k - 1] = false)) out.length (by
    rintro i s hi ⟨h1, rfl, h2⟩
    have hpos : (0 : Int) < ((out.length - i : Nat) : Int) := by omega
    have hidx : out.length - i - 1 < out.length := by omega
    have hsub : subK .i64 ((out.length - i : Nat) : Int) 1 = ((out.length - i - 1 : Nat) : Int) := by rw [sub_i (by omega) (by omega)]; omega
    unfold x_impl_sortedBy_l1
    rw [if_pos hpos, hsub, bind_some_of (ix_lt hidx), bind_some_of (hl _ (List.getElem_mem hidx))]
    cases hlt : lt x out[out.length - i - 1] with
    | true =>
      refine .inl ⟨_, if_pos rfl, by omega, by rw [show out.length - (i + 1) = out.length - i - 1 by omega], fun j hj hle => ?_⟩
      by_cases e : j = out.length - i - 1
      · subst e; exact hlt
      · exact h2 j hj (by omega)
    | false => exact .inr ⟨_, if_neg (by simp), out.length - i, rfl, by omega, h2, fun _ _ => hlt⟩) (by
    rintro s ⟨h1, rfl, h2⟩
    unfold x_impl_sortedBy_l1
    rw [if_neg (by omega)]
    exact ⟨_, rfl, out.length - out.length, rfl, by omega, h2, fun _ h => absurd h (by omega)⟩) (LL_lt (by omega)) (out.length : Int) ⟨Nat.zero_le _, rfl, fun j hj hle => absurd hle (by omega)⟩
  obtain ⟨p, e, k, rfl, h1, h2, h3⟩ := key
  exact ⟨k, h1, e, h2, h3⟩

theorem cpy_shift (out : List Int) (x z : Int) (k : Nat) (hk : k ≤ out.length) : ∃ w, cpy (out ++ [z]) (k + 1) (out.length - k) k (out.length + 1 - k) = some w ∧ w.length = out.length + 1 ∧ w.set k x = out.take k ++ x :: out.drop k := by
  unfold cpy
  rw [if_pos (by simp only [List.length_append, List.length_cons, List.length_nil]; omega)]
  have e1 : ((out ++ [z]).drop k).take (out.length + 1 - k) = out.drop k ++ [z] := by
    rw [List.drop_append_of_le_length hk, List.take_of_length_le (by simp only [List.length_append, List.length_drop, List.length_cons, List.length_nil]; omega)]
  have e2 : (out.drop k ++ [z]).take (out.length - k) = out.drop k := List.take_left' (by simp)
  have e3 : (out ++ [z]).take (k + 1) = out.take k ++ (out.drop k ++ [z]).take 1 := by
    have : (out ++ [z]) = out.take k ++ (out.drop k ++ [z]) := by rw [← List.append_assoc, List.take_append_drop]
    conv => lhs; rw [this]
    rw [List.take_append, List.length_take, Nat.min_eq_left hk, List.take_of_length_le (by simp; omega), show k + 1 - k = 1 by omega]
  have e4 : (out ++ [z]).drop (k + 1 + (out.drop k).length) = [] := List.drop_eq_nil_of_le (by simp; omega)
  refine ⟨_, rfl, ?_, ?_⟩
  · rw [e1, e2, e3, e4]
    have : ((out.drop k ++ [z]).take 1).length = 1 := by simp
    simp only [List.length_append, List.length_take, List.length_drop, List.length_nil, this, List.length_cons]
    omega
  · rw [e1, e2, e3, e4, List.append_nil]
    have hl : (out.take k).length = k := by simp; omega
    obtain ⟨u, hu⟩ : ∃ u, (out.drop k ++ [z]).take 1 = [u] := by
      cases h : out.drop k ++ [z] with
      | nil => simp at h
      | cons a t => exact ⟨a, rfl⟩
    rw [hu, List.append_assoc, List.set_append_right _ _ (by omega), hl, Nat.sub_self]
    rfl

/-- Sorting by insertion. -/
theorem sortedBy_spec {list : List Int} {less : Int → Int → Option Bool} {lt : Int → Int → Bool} (hl : ∀ a ∈ list, ∀ b ∈ list, less a b = some (lt a b)) (hlen : list.length < 800000) (R : Int → Int → Prop) (hT : ∀ a b c, R a b → R b c → R a c)
    (h1 : list.Pairwise fun y x => (lt x y = true → R x y) ∧ (lt x y = false → R y x)) : ∃ r, x_impl_sortedBy list less = some r ∧ r.Perm list ∧ r.Pairwise R := by
  unfold x_impl_sortedBy
  have key := loopS_inv (b := x_impl_sortedBy_l0 less list (list.length : Int)) (fun i (s : List Int × Int) => s.2 = (i : Int) ∧ s.1.Perm (list.take i) ∧ s.1.Pairwise R) (fun p => p.Perm list ∧ p.Pairwise R) list.length (by
    rintro i ⟨out, y2⟩ hi ⟨h2, h3, h4⟩
    simp only at h2 h3 h4
    subst h2
    have hol : out.length = i := by have := h3.length_eq; rw [List.length_take] at this; omega
    have hmem : ∀ y ∈ out, y ∈ list := fun y hy => List.mem_of_mem_take (h3.mem_iff.1 hy)
    have hx : list[i] ∈ list := List.getElem_mem hi
    have hrel : ∀ y ∈ out, (lt list[i] y = true → R list[i] y) ∧ (lt list[i] y = false → R y list[i]) := fun y hy => by
      obtain ⟨j, hj, rfl⟩ := List.mem_take_iff_getElem.1 (h3.mem_iff.1 hy)
      exact (List.pairwise_iff_getElem.1 h1) j i (by omega) hi (by omega)
    obtain ⟨k, hk, e1, e2, e3⟩ := sortedBy_place (out := out) (x := list[i]) (less := less) (lt := lt) (fun y hy => hl _ hx _ (hmem y hy)) (by omega) list (list.length : Int) (i : Int)
    have e4 : app 8 out [0] = some (out ++ [0]) := app_ok (by simp; omega) (by omega)
    have hl1 : (out ++ [(0 : Int)]).length = out.length + 1 := by simp
    obtain ⟨w, e5, e6, e7⟩ := cpy_shift out list[i] 0 k hk
    have e8 : ix w (k : Int) = some (w[k]'(by omega)) := ix_lt (by omega)
    have e9 : put w (k : Int) list[i] = some (out.take k ++ list[i] :: out.drop k) := by rw [put_lt (by omega), e7]
    unfold x_impl_sortedBy_l0
    simp only
    have hinc : addK .i64 (k : Int) 1 = ((k + 1 : Nat) : Int) := inc_i (by omega)
    have hinc2 : addK .i64 (i : Int) 1 = ((i + 1 : Nat) : Int) := inc_i (by omega)
    rw [if_pos (show (i : Int) < (list.length : Int) by omega), bind_some_of (ix_lt hi), bind_some_of e1, bind_some_of e4, hl1, hinc, hinc2]
    rw [if_pos (by omega), if_pos (by omega), Int.toNat_natCast, Int.toNat_natCast, show out.length + 1 - (k + 1) = out.length - k by omega, bind_some_of e5, bind_some_of e8, bind_some_of e9]
    refine .inl ⟨_, rfl, rfl, ?_, ?_⟩
    · show (out.take k ++ list[i] :: out.drop k).Perm (list.take (i + 1))
      rw [List.take_add_one, List.getElem?_eq_getElem hi]
      refine List.perm_middle.trans ?_
      rw [List.take_append_drop]
      refine (List.Perm.cons _ h3).trans ?_
      exact (List.perm_append_comm (l₁ := [list[i]]) (l₂ := list.take i))
    · show (out.take k ++ list[i] :: out.drop k).Pairwise R
      have hsplit : (out.take k ++ out.drop k).Pairwise R := by rw [List.take_append_drop]; exact h4
      obtain ⟨p1, p2, p3⟩ := List.pairwise_append.1 hsplit
      have hd : ∀ b ∈ out.drop k, R list[i] b := fun b hb => by
        obtain ⟨j, hj, rfl⟩ := List.mem_drop_iff_getElem.1 hb
        exact (hrel _ (List.getElem_mem _)).1 (e2 _ (by omega) (by omega))
      have ht : ∀ a ∈ out.take k, R a list[i] := fun a ha => by
        have hk0 : 0 < k := by
          cases k with
          | zero => simp at ha
          | succ k => omega
        have hb : k - 1 < out.length := by omega
        have hy := (hrel _ (List.getElem_mem hb)).2 (e3 hb hk0)
        obtain ⟨j, hj, rfl⟩ := List.mem_take_iff_getElem.1 ha
        by_cases e : j = k - 1
        · subst e; exact hy
        · exact hT _ _ _ ((List.pairwise_iff_getElem.1 h4) j (k - 1) (by omega) hb (by omega)) hy
      refine List.pairwise_append.2 ⟨p1, List.pairwise_cons.2 ⟨hd, p2⟩, fun a ha b hb => ?_⟩
      rcases List.mem_cons.1 hb with rfl | hb
      · exact ht a ha
      · exact p3 a ha b hb) (by
    rintro ⟨out, y2⟩ ⟨h2, h3, h4⟩
    simp only at h2 h3 h4
    subst h2
    unfold x_impl_sortedBy_l0
    simp only
    rw [if_neg (by omega)]
    rw [List.take_length] at h3
    exact ⟨_, rfl, h3, h4⟩) (LL_lt (by omega)) ([], 0) ⟨rfl, by simp, List.Pairwise.nil⟩
  obtain ⟨p, e, h2, h3⟩ := key
  exact ⟨p, bind_some_of e, h2, h3⟩

/-- Two sorted lists of the same elements are the same. -/
theorem sorted_unique {α : Type} {R : α → α → Prop} (hA : ∀ a b, R a b → ¬ R b a) : ∀ {l m : List α}, l.Perm m → l.Pairwise R → m.Pairwise R → l = m
  | [], m, h, _, _ => (List.Perm.nil_eq h)
  | a :: l, [], h, _, _ => by have := h.length_eq; simp at this
  | a :: l, b :: m, h, h1, h2 => by
    rw [List.pairwise_cons] at h1 h2
    have hab : a = b := by
      have h3 : a ∈ b :: m := h.mem_iff.1 (by simp)
      have h4 : b ∈ a :: l := h.mem_iff.2 (by simp)
      rcases List.mem_cons.1 h3 with e | h3
      · exact e
      · rcases List.mem_cons.1 h4 with e | h4
        · exact e.symm
        · exact absurd (h1.1 b h4) (hA _ _ (h2.1 a h3))
    subst hab
    rw [sorted_unique hA (List.Perm.cons_inv h) h1.2 h2.2]

theorem ic_perm {r : List Int} {p : List Nat} (h : r.Perm (ic p)) : ∃ q : List Nat, r = ic q ∧ q.Perm p := by
  refine ⟨r.map Int.toNat, ?_, ?_⟩
  · unfold ic
    rw [List.map_map]
    refine (List.map_id' r).symm.trans (List.map_congr_left fun x hx => ?_)
    obtain ⟨i, _, rfl⟩ := ic_mem.1 (h.mem_iff.1 hx)
    simp
  · have := h.map Int.toNat
    have e : (ic p).map Int.toNat = p := by
      unfold ic
      rw [List.map_map]
      conv => rhs; rw [← List.map_id p]
      exact List.map_congr_left fun x _ => by simp
    rwa [e] at this

theorem ic_pairwise {R : Int → Int → Prop} {q : List Nat} (h : (ic q).Pairwise R) : q.Pairwise fun (a b : Nat) => R (a : Int) (b : Int) := List.pairwise_map.1 h

theorem range_sorted (n : Nat) : (List.range n).Pairwise (· < ·) := List.pairwise_lt_range
end Gh
