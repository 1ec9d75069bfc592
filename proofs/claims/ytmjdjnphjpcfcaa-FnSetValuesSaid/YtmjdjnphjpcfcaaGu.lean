/- Contracts of functions that see their arguments alone, and what a call of them gives. -/
import Derived.Test.YtmjdjnphjpcfcaaGt
namespace Gh
open Go

theorem exp_pure {h : Hp} {n0 d : Nat} {v : V} (hv : v.pureC = true) : expC h n0 d v = some v := by
  cases v <;> simp [V.pureC] at hv <;> cases d <;> rfl

theorem mapMV_id {f : V → Option V} : ∀ {l : List V}, (∀ v ∈ l, f v = some v) → mapMV f l = some l
  | [], _ => rfl
  | a :: l, h => by
    have h1 := mapMV_id (f := f) (l := l) fun v hv => h v (List.mem_cons_of_mem _ hv)
    simp only [mapMV, h a (by simp), Option.bind_some, h1, Option.map_some]

theorem expV_far {h : Hp} {n0 : Nat} {v : V} (hv : v.far = true) : expV h n0 v = some v := by
  by_cases ha : ∃ cs, v = .agg cs
  · obtain ⟨cs, rfl⟩ := ha
    simp only [expV]
    rw [mapMV_id fun x hx => exp_pure (by obtain ⟨i, hi⟩ := List.mem_iff_getElem?.1 hx; exact pureCs_get hv i x hi)]
    rfl
  · have hp := far_nagg hv fun cs e => ha ⟨cs, e⟩
    cases v <;> first | exact absurd ⟨_, rfl⟩ ha | exact exp_pure hp | simp [V.pureC] at hp

theorem exps_far {h : Hp} {n0 : Nat} {l : List V} (hl : fars l = true) : mapMV (expV h n0) l = some l :=
  mapMV_id fun v hv => expV_far (by obtain ⟨i, hi⟩ := List.mem_iff_getElem?.1 hv; exact fars_get hl i v hi)

/-- Nothing of the callee's own memory in it. -/
def flat : V → Bool
  | .tup vs => fars vs
  | v => v.far

theorem outC_pure {own : Bool} {h : Hp} {n0 : Nat} {st : St3} {v : V} (hv : v.pureC = true) : outC own h n0 st v = some (v, st) := by
  cases v <;> simp [V.pureC] at hv <;> rfl

theorem outCs_pure {own : Bool} {h : Hp} {n0 : Nat} {st : St3} : ∀ {l : List V}, pureCs l = true → outCs own h n0 st l = some (l, st)
  | [], _ => rfl
  | v :: l, hl => by
    simp only [pureCs, Bool.and_eq_true] at hl
    simp only [outCs, outC_pure hl.1, Option.bind_some, outCs_pure hl.2, Option.map_some]

theorem outV_far {own : Bool} {h : Hp} {n0 : Nat} {st : St3} {v : V} (hv : v.far = true) : outV own h n0 st v = some (v, st) := by
  by_cases ha : ∃ cs, v = .agg cs
  · obtain ⟨cs, rfl⟩ := ha
    simp only [outV, outCs_pure (show pureCs cs = true from hv), Option.map_some]
  · have hp := far_nagg hv fun cs e => ha ⟨cs, e⟩
    have e : outV own h n0 st v = outC own h n0 st v := by cases v <;> first | exact absurd ⟨_, rfl⟩ ha | rfl
    rw [e]
    exact outC_pure hp

theorem outVs_far {own : Bool} {h : Hp} {n0 : Nat} {st : St3} : ∀ {l : List V}, fars l = true → outVs own h n0 st l = some (l, st)
  | [], _ => rfl
  | v :: l, hl => by
    simp only [fars, Bool.and_eq_true] at hl
    simp only [outVs, outV_far hl.1, Option.bind_some, outVs_far hl.2, Option.map_some]

theorem outR_flat {own : Bool} {h : Hp} {n0 : Nat} {st : St3} {v : V} (hv : flat v = true) : outR own h n0 st v = some (v, st) := by
  by_cases ha : ∃ vs, v = .tup vs
  · obtain ⟨vs, rfl⟩ := ha
    simp only [outR, outVs_far (show fars vs = true from hv), Option.map_some]
  · have e : outR own h n0 st v = outV own h n0 st v := by cases v <;> first | exact absurd ⟨_, rfl⟩ ha | rfl
    have e' : flat v = v.far := by cases v <;> first | exact absurd ⟨_, rfl⟩ ha | rfl
    rw [e]
    exact outV_far (e' ▸ hv)

abbrev Fun := List V → List Blk → Nat → Option (V × List Blk × Nat)

/-- A call's answer by value: 'r' is what its caller may read. -/
def Ret (k : Fun) (args : List V) (r : V) : Prop := ∃ v H ng, k args [] 0 = some (v, H, ng) ∧ ∀ (H0 : List Blk) (ng0 : Nat), outR false (hp H) 0 (H0, [], ng0) v = some (r, (H0, [], ng0))

/-- The same, and all of it is the callee's own. -/
def RetF (k : Fun) (args : List V) (r : V) : Prop := ∃ v H ng, k args [] 0 = some (v, H, ng) ∧ freshV (hp H) 0 v = true ∧ ∀ (H0 : List Blk) (ng0 : Nat), outR false (hp H) 0 (H0, [], ng0) v = some (r, (H0, [], ng0))

/-- A slice of the callee's own. -/
def RetO (k : Fun) (args : List V) (sz : Nat) (rows : List (List V)) : Prop := ∃ id g H ng, k args [] 0 = some (.os id g sz 0 rows.length, H, ng) ∧ hget (hp H) id g = some ⟨g, false, sz, rows⟩ ∧ scalRows rows = true

theorem RetF.ret {k : Fun} {args : List V} {r : V} (h : RetF k args r) : Ret k args r := by
  obtain ⟨v, H, ng, h1, _, h3⟩ := h
  exact ⟨v, H, ng, h1, h3⟩

theorem Ret.flat {k : Fun} {args : List V} {r : V} {H : List Blk} {ng : Nat} (h : k args [] 0 = some (r, H, ng)) (hf : flat r = true) : Ret k args r :=
  ⟨r, H, ng, h, fun _ _ => outR_flat hf⟩

theorem mapMV_scal {h : Hp} {n0 d : Nat} : ∀ {row : List V}, scalCs row = true → mapMV (expC h n0 d) row = some row
  | [], _ => rfl
  | v :: l, hl => by
    simp only [scalCs, Bool.and_eq_true] at hl
    have : v.pureC = true := by cases v <;> simp [V.scal] at hl <;> rfl
    simp only [mapMV, exp_pure this, Option.bind_some, mapMV_scal hl.2, Option.map_some]

theorem mapMV_scals {h : Hp} {n0 d : Nat} : ∀ {rows : List (List V)}, scalRows rows = true → mapMV (mapMV (expC h n0 d)) rows = some rows
  | [], _ => rfl
  | r :: l, hl => by
    simp only [scalRows, Bool.and_eq_true] at hl
    simp only [mapMV, mapMV_scal hl.1, Option.bind_some, mapMV_scals hl.2, Option.map_some]

theorem exp_own {H : List Blk} {n0 id g sz : Nat} {rows : List (List V)} (hn : n0 ≤ id) (hb : hget (hp H) id g = some ⟨g, false, sz, rows⟩) (hs : scalRows rows = true) : expC (hp H) n0 expDepth (.os id g sz 0 rows.length) = some (.fs rows) := by
  show expC (hp H) n0 3 (.os id g sz 0 rows.length) = some (.fs rows)
  simp only [expC, hn, if_true, hb, Option.bind_some, Nat.zero_add, Nat.le_refl, List.drop_zero, List.take_length, mapMV_scals hs, Option.map_some]

theorem RetO.retF {k : Fun} {args : List V} {sz : Nat} {rows : List (List V)} (h : RetO k args sz rows) : RetF k args (.fs rows) := by
  obtain ⟨id, g, H, ng, h1, h2, h3⟩ := h
  refine ⟨_, H, ng, h1, ?_, fun H0 ng0 => ?_⟩
  · simp [freshV, freshC, h2, h3]
  · simp only [outR, outV, outC, Nat.not_lt_zero, if_false, Bool.false_eq_true, exp_own (Nat.zero_le _) h2 h3, Option.map_some]

section
variable {sh : Nat → Bool} {cl : Callee} {f : Nat} {args as : List V} {r : V} {H : List Blk} {ng : Nat}

theorem call_far (hsh : sh f = false) (hfar : fars args = true) (h : Ret (cl f) args r) : gcall sh cl false f args H ng = some (r, H, ng, .inert) := by
  obtain ⟨v, H1, ng1, h1, h2⟩ := h
  simp only [gcall, hsh, Bool.false_eq_true, if_false, exps_far hfar, Option.bind_some, h1, hfar, if_true, h2 H ng, Option.map_some, and_self]

theorem call_near (hsh : sh f = false) (hexp : mapMV (expV (hp H) 0) args = some as) (hfar : fars args = false) (h : RetF (cl f) as r) : gcall sh cl false f args H ng = some (r, H, ng, .touch (idsVs (hp H) args) []) := by
  obtain ⟨v, H1, ng1, h1, h3, h2⟩ := h
  simp only [gcall, hsh, Bool.false_eq_true, if_false, hexp, Option.bind_some, h1, hfar, h3, if_true, h2 H ng, Option.map_some]

theorem out_own {H1 : List Blk} {id g sz : Nat} {rows : List (List V)} (hb : hget (hp H1) id g = some ⟨g, false, sz, rows⟩) (hs : scalRows rows = true) : outR true (hp H1) 0 (H, [], ng) (.os id g sz 0 rows.length) = some (.os H.length ng sz 0 rows.length, (H ++ [⟨ng, false, sz, rows⟩], [id], ng + 1)) := by
  simp [outR, outV, outC, hb, hs]

theorem call_far_own {sz : Nat} {rows : List (List V)} (hsh : sh f = false) (hfar : fars args = true) (h : RetO (cl f) args sz rows) : gcall sh cl true f args H ng = some (.os H.length ng sz 0 rows.length, H ++ [⟨ng, false, sz, rows⟩], ng + 1, .touch [] []) := by
  obtain ⟨id, g, H1, ng1, h1, h2, h3⟩ := h
  simp [gcall, hsh, exps_far hfar, h1, hfar, out_own h2 h3]

theorem call_near_own {sz : Nat} {rows : List (List V)} (hsh : sh f = false) (hexp : mapMV (expV (hp H) 0) args = some as) (hfar : fars args = false) (h : RetO (cl f) as sz rows) : gcall sh cl true f args H ng = some (.os H.length ng sz 0 rows.length, H ++ [⟨ng, false, sz, rows⟩], ng + 1, .touch (idsVs (hp H) args) []) := by
  obtain ⟨id, g, H1, ng1, h1, h2, h3⟩ := h
  have hfr : freshV (hp H1) 0 (.os id g sz 0 rows.length) = true := by simp [freshV, freshC, h2, h3]
  simp [gcall, hsh, hexp, h1, hfar, hfr, out_own h2 h3]

end

theorem gfun_succ {F : Table} {L d n : Nat} {c : GFun} (h : F n = some c) : gfun F L (d + 1) n = gbody F L (gfun F L d) c := by
  funext args H ng
  simp only [gfun, h]

end Gh
