/- '==' at a row of integers goes cell by cell. -/
import Derived.Test.YtebflkckndibiaaGs
import Derived.ChangeKeysEq
namespace Gh
open Go

theorem eqItems_ints {P : Program} {e : TypeId} {k : IntKind} (d : Nat) (he : P.underlying e = some (.int k)) (w : World) (rx ry : Array Value) : ∀ (m off : Nat) (xs ys : List V) (b : Bool),
    intsN xs m = true → (∀ (i : Nat) v, xs[i]? = some v → rx[off + i]? = constV v) → (∀ (i : Nat) v, ys[i]? = some v → ry[off + i]? = constV v) → eqCells xs ys = some b → (Op.eqItems (d + 1) e 1 rx ry (List.range' off m)).run P w = .ok b w
  | 0, off, [], [], b, _, _, _, h => by
    simp only [eqCells, Option.some.injEq] at h
    subst h
    simp [Op.eqItems]
  | 0, off, [], _ :: _, b, _, _, _, h => by simp [eqCells] at h
  | 0, off, x :: _, _, b, h, _, _, _ => by cases x <;> simp [intsN] at h
  | m + 1, off, [], _, b, h, _, _, _ => by simp [intsN] at h
  | m + 1, off, x :: xs, [], b, _, _, _, h => by simp [eqCells] at h
  | m + 1, off, x :: xs, y :: ys, b, hn, hx, hy, h => by
    cases x with
    | int k1 a =>
      simp only [eqCells, Option.bind_eq_some_iff, Option.map_eq_some_iff] at h
      obtain ⟨b1, h1, b2, h2, rfl⟩ := h
      cases y with
      | int k2 c =>
        simp only [eqCell] at h1
        split at h1
        · rename_i hk
          subst hk
          simp only [Option.some.injEq] at h1
          subst h1
          have e1 := hx 0 _ rfl
          have e2 := hy 0 _ rfl
          simp only [Nat.add_zero, constV] at e1 e2
          have ih := eqItems_ints d he w rx ry m (off + 1) xs ys b2 (by simpa [intsN] using hn) (fun i v hv => by rw [← hx (i + 1) v (by simpa using hv)]; congr 1; omega) (fun i v hv => by rw [← hy (i + 1) v (by simpa using hv)]; congr 1; omega) h2
          have p1 : (part e rx (off * 1)).run P w = .ok (.int k1 a) w := by simp [part, isAgg, run_underlying he, e1]
          have p2 : (part e ry (off * 1)).run P w = .ok (.int k1 c) w := by simp [part, isAgg, run_underlying he, e2]
          rw [List.range'_succ]
          simp only [Op.eqItems, Sem.run_bind, p1, p2, Result.andThen_ok, run_equalIn_int w d e k1 k a c he]
          cases hb : (a == c)
          · simp
          · simpa using ih
        · cases h1
      | _ => simp [eqCell] at h1
    | _ => simp [intsN] at hn

theorem intsN_len : ∀ {xs : List V} {n : Nat}, intsN xs n = true → xs.length = n
  | [], 0, _ => rfl
  | [], _ + 1, h => by simp [intsN] at h
  | x :: xs, 0, h => by cases x <;> simp [intsN] at h
  | x :: xs, n + 1, h => by
    cases x with
    | int k a => simp only [List.length_cons]; rw [intsN_len (xs := xs) (n := n) (by simpa [intsN] using h)]
    | _ => simp [intsN] at h

theorem eqAt_ints {P : Program} {t e : TypeId} {n : Nat} {k : IntKind} {i : TypeInfo} (hu : P.underlying t = some (.array n e)) (he : P.underlying e = some (.int k)) (hi : P.info? e = some i) (hs : P.cellsOf e = 1) (hg : P.eqGuardType P.depth t = false) : EqAt P t n := by
  refine ⟨hg, fun xs ys rx ry b w h1 h2 h3 h4 h5 h6 => ?_⟩
  show (Op.equalIn (9999 + 1) t (.agg rx) (.agg ry)).run P w = _
  rw [run_equalIn_array w 9999 rx ry hu hi, hs, List.range_eq_range']
  have get : ∀ {xs : List V} {rx : Array Value}, rx.size = xs.length → (∀ (i : Nat) v, xs[i]? = some v → constV v = some (rx.getD i Go.undef)) → ∀ (i : Nat) v, xs[i]? = some v → rx[0 + i]? = constV v := by
    intro xs rx h1 h3 i v hv
    have hl : i < rx.size := by
      rw [h1]
      exact (List.getElem?_eq_some_iff.1 hv).1
    rw [h3 i v hv, Nat.zero_add]
    simp [Array.getD, hl]
  exact eqItems_ints 9998 he w rx ry n 0 xs ys b h5 (get h1 h3) (get h2 h4) h6

end Gh
