/- One operation of the ghost's, told of the machine's: what it reads and what it leaves. -/
import Derived.Test.YtmjdjnphjpcfcaaGl
namespace Gh
open Go

def A.tm : A → List Nat
  | .t n => [n]
  | .c _ => []

def Atms : List A → List Nat
  | [] => []
  | x :: l => x.tm ++ Atms l

def Otm : Option A → List Nat
  | none => []
  | some x => x.tm

def Btms : List (Nat × Nat × A) → List Nat
  | [] => []
  | (_, _, x) :: l => x.tm ++ Btms l

def Rtms : List (Nat × A) → List Nat
  | [] => []
  | (_, x) :: l => x.tm ++ Rtms l

def GOp.tms : GOp → List Nat
  | .mv x | .nilck x | .box _ x | .load _ _ x | .un _ x | .conv _ x | .faddr _ x | .field _ _ _ x | .ext _ x | .len x | .frz x => x.tm
  | .pick c a b => c.tm ++ (a.tm ++ b.tm)
  | .alloc _ | .nilo _ => []
  | .build _ ps => Btms ps
  | .bsl _ _ _ _ ps => Rtms ps
  | .store _ x y | .bin _ _ x y | .append _ _ _ x y | .copy _ x y | .mvo x y => x.tm ++ y.tm
  | .mkfn _ xs | .mx xs | .mn xs => Atms xs
  | .mksl _ _ _ x y | .iaddr _ x y | .iaddrA _ _ x y | .index _ _ _ x y => x.tm ++ y.tm
  | .slice _ x lo hi => x.tm ++ (Otm lo ++ Otm hi)
  | .call _ f xs => f.tm ++ Atms xs

/-- Two readings of the slots agree where an operation looks. -/
def Agree (T T' : Tm) (l : List Nat) : Prop := ∀ n, n ∈ l → look T' n = look T n

theorem Agree.l {T T' : Tm} {l m : List Nat} (h : Agree T T' (l ++ m)) : Agree T T' l := fun n hn => h n (List.mem_append_left _ hn)
theorem Agree.r {T T' : Tm} {l m : List Nat} (h : Agree T T' (l ++ m)) : Agree T T' m := fun n hn => h n (List.mem_append_right _ hn)

theorem ev_congr {T T' : Tm} {x : A} (h : Agree T T' x.tm) : x.ev T' = x.ev T := by
  cases x with
  | t n => exact h n (by simp [A.tm])
  | c v => rfl

theorem evs_congr {T T' : Tm} : ∀ {l : List A}, Agree T T' (Atms l) → evs T' l = evs T l
  | [], _ => rfl
  | x :: l, h => by simp only [evs, ev_congr h.l, evs_congr h.r]

theorem fillG_congr {T T' : Tm} : ∀ {ps : List (Nat × Nat × A)} {cs : List V}, Agree T T' (Btms ps) → fillG T' cs ps = fillG T cs ps
  | [], _, _ => rfl
  | (o, s, x) :: l, cs, h => by
    simp only [fillG, ev_congr (x := x) h.l]
    split
    · exact fillG_congr h.r
    · rfl

theorem rowsG_congr {T T' : Tm} {sz : Nat} : ∀ {ps : List (Nat × A)} {rows : List (List V)}, Agree T T' (Rtms ps) → rowsG T' sz rows ps = rowsG T sz rows ps
  | [], _, _ => rfl
  | (i, x) :: l, rows, h => by
    simp only [rowsG, ev_congr (x := x) h.l]
    split
    · exact rowsG_congr h.r
    · rfl

theorem optev_congr {T T' : Tm} {x : Option A} (h : Agree T T' (Otm x)) : x.map (A.ev T') = x.map (A.ev T) := by
  cases x with
  | none => rfl
  | some y => simp only [Option.map_some, ev_congr (x := y) h]

theorem gop_congrT {T T' : Tm} {h : Hp} {nid ng : Nat} {g : GOp} (hg : Agree T T' g.tms) : gop T' h nid ng g = gop T h nid ng g := by
  cases g <;> simp only [GOp.tms] at hg <;> first
    | rfl
    | simp only [gop, ev_congr hg]
    | simp only [gop, ev_congr hg.l, ev_congr hg.r]
    | simp only [gop, ev_congr hg.l, ev_congr hg.r.l, ev_congr hg.r.r]
    | simp only [gop, evs_congr hg]
    | simp only [gop, fillG_congr hg]
    | simp only [gop, rowsG_congr hg]
    | simp only [gop, ev_congr hg.l, optev_congr hg.r.l, optev_congr hg.r.r]

theorem foot_congrT {T T' : Tm} {u : Up} {g : GOp} (hg : Agree T T' g.tms) : footOf T' u g = footOf T u g := by
  cases g <;> simp only [GOp.tms] at hg <;> first
    | rfl
    | simp only [footOf, ev_congr hg]
    | simp only [footOf, ev_congr hg.l, ev_congr hg.r]

theorem rowsOf_congr {h h' : Hp} {v : V} (e : ∀ id, id ∈ idOf v → h' id = h id) : rowsOf h' v = rowsOf h v := by
  cases v <;> try rfl
  rename_i id g sz off len
  simp only [rowsOf]
  rw [hget_congr (e id (by simp [idOf]))]

/-- What an operation answers hangs on what it touches alone. -/
theorem gop_congrH {T : Tm} {h h' : Hp} {nid ng : Nat} {g : GOp} {v : V} {u : Up} (e : gop T h nid ng g = some (v, u)) (ha : ∀ rd wr, footOf T u g = .touch rd wr → ∀ id, id ∈ rd ++ wr → h' id = h id) : gop T h' nid ng g = some (v, u) := by
  cases g <;> try exact e
  case load sz ag x =>
    simp only [gop] at e ⊢
    simp only [footOf] at ha
    cases hx : x.ev T <;> rw [hx] at e ha <;> simp only [idOf] at ha e ⊢ <;> first | exact e | skip
    rename_i id g row off
    rw [hget_congr (ha _ _ rfl id (by simp))]
    exact e
  case store sz x y =>
    simp only [gop] at e ⊢
    cases hx : x.ev T <;> rw [hx] at e <;> simp only at e ⊢ <;> first | exact e | skip
    rename_i id g row off
    have hu : wrOf u = [id] := by
      simp only [Option.bind_eq_some_iff, Option.ite_none_right_eq_some, Option.some.injEq, Prod.mk.injEq] at e
      obtain ⟨_, _, _, _, _, _, rfl⟩ := e
      rfl
    rw [hget_congr (ha [] (wrOf u) rfl id (by simp [hu]))]
    exact e
  case append fr sz bytes x y =>
    have h1 := ha _ _ rfl
    simp only [gop] at e ⊢
    rw [rowsOf_congr (h' := h') (fun id hi => h1 id (by simp [hi]))]
    cases hx : x.ev T <;> rw [hx] at e <;> simp only at e ⊢ <;> first | exact e | skip
    rename_i id g sz' off len
    rw [hget_congr (h1 id (by simp [hx, idOf]))]
    exact e
  case copy sz x y =>
    have h1 := ha _ _ rfl
    simp only [gop] at e ⊢
    rw [rowsOf_congr (h' := h') (fun id hi => h1 id (by simp [hi]))]
    cases hx : x.ev T <;> rw [hx] at e <;> simp only at e ⊢ <;> first | exact e | skip
    rename_i id g sz' off len
    rw [hget_congr (h1 id (by simp [hx, idOf]))]
    exact e
  case frz x =>
    have h1 := ha _ _ rfl
    simp only [gop] at e ⊢
    cases hx : x.ev T <;> rw [hx] at e <;> simp only at e ⊢ <;> first | exact e | skip
    rename_i id g sz' off len
    rw [hget_congr (h1 id (by simp [hx, idOf]))]
    exact e
  case mvo old x =>
    have h1 := ha _ _ rfl
    simp only [gop] at e ⊢
    cases ho : old.ev T <;> rw [ho] at e <;> first | exact e | skip
    rename_i id g sz' off len
    cases hx : x.ev T <;> rw [hx] at e <;> first | exact e | skip
    rename_i id2 g2 sz2 off2 len2
    dsimp only at e ⊢
    rw [hget_congr (h1 id (by simp [ho, idOf])), hget_congr (h1 id2 (by simp [hx, idOf]))]
    exact e

/-- What an operation writes is told. -/
theorem gop_foot {T : Tm} {h : Hp} {nid ng : Nat} {g : GOp} {v : V} {u : Up} (e : gop T h nid ng g = some (v, u)) : (footOf T u g = .inert ∧ u = .no) ∨ ∃ rd, footOf T u g = .touch rd (wrOf u) := by
  cases g
  case load sz ag x =>
    simp only [gop] at e
    have hu : u = .no := by
      split at e
      · simp only [Option.bind_eq_some_iff, Option.map_eq_some_iff, Prod.mk.injEq] at e
        obtain ⟨_, _, _, _, _, _, _, rfl⟩ := e; rfl
      · simp only [Option.map_eq_some_iff, Prod.mk.injEq] at e
        obtain ⟨_, _, _, rfl⟩ := e; rfl
      · cases e
    subst hu
    have hfo : footOf T .no (.load sz ag x) = match idOf (x.ev T) with | [] => .inert | l => .touch l [] := rfl
    rw [hfo]
    cases idOf (x.ev T) with
    | nil => exact .inl ⟨rfl, rfl⟩
    | cons a l => exact .inr ⟨_, rfl⟩
  case bsl own sz z len ps =>
    simp only [gop, Option.bind_eq_some_iff] at e
    obtain ⟨_, _, e⟩ := e
    cases own
    · simp only [Bool.false_eq_true, if_false, Option.ite_none_right_eq_some, Option.some.injEq, Prod.mk.injEq] at e
      obtain ⟨_, _, rfl⟩ := e
      exact .inl ⟨rfl, rfl⟩
    · simp only [if_true, Option.some.injEq, Prod.mk.injEq] at e
      obtain ⟨_, rfl⟩ := e
      exact .inr ⟨[], rfl⟩
  case alloc z => simp only [gop, Option.some.injEq, Prod.mk.injEq] at e; obtain ⟨_, rfl⟩ := e; exact .inr ⟨[], rfl⟩
  case nilo z => simp only [gop, Option.some.injEq, Prod.mk.injEq] at e; obtain ⟨_, rfl⟩ := e; exact .inr ⟨[], rfl⟩
  case box sz x => simp only [gop, Option.ite_none_right_eq_some, Option.some.injEq, Prod.mk.injEq] at e; obtain ⟨_, _, rfl⟩ := e; exact .inr ⟨[], rfl⟩
  case mksl sz z b l c =>
    simp only [gop] at e
    split at e
    · simp only [Option.ite_none_right_eq_some, Option.some.injEq, Prod.mk.injEq] at e
      obtain ⟨_, _, rfl⟩ := e; exact .inr ⟨[], rfl⟩
    · cases e
  case store => exact .inr ⟨[], rfl⟩
  case append => exact .inr ⟨_, rfl⟩
  case copy => exact .inr ⟨_, rfl⟩
  case frz => exact .inr ⟨_, rfl⟩
  case mvo => exact .inr ⟨_, rfl⟩
  case call => simp [gop] at e
  all_goals
    refine .inl ⟨rfl, ?_⟩
    simp only [gop] at e
    first
      | (simp only [Option.some.injEq, Prod.mk.injEq] at e; exact e.2.symm)
      | (simp only [Option.map_eq_some_iff, Prod.mk.injEq] at e; obtain ⟨_, _, _, h⟩ := e; exact h.symm)
      | (split at e <;> first | (simp only [Option.some.injEq, Prod.mk.injEq] at e; exact e.2.symm) | (simp only [Option.map_eq_some_iff, Prod.mk.injEq] at e; obtain ⟨_, _, _, h⟩ := e; exact h.symm) | cases e)
      | skip
  all_goals
    simp only [Option.bind_eq_some_iff, Option.ite_none_right_eq_some] at e
    obtain ⟨_, _, _, e⟩ := e
    split at e <;> first
      | (simp only [Option.bind_eq_some_iff, Option.ite_none_right_eq_some, Option.some.injEq, Prod.mk.injEq] at e; obtain ⟨_, _, _, _, h⟩ := e; exact h.symm)
      | (simp only [Option.ite_none_right_eq_some, Option.some.injEq, Prod.mk.injEq] at e; obtain ⟨_, _, h⟩ := e; exact h.symm)
      | (simp only [Option.map_eq_some_iff, Prod.mk.injEq] at e; obtain ⟨_, _, _, h⟩ := e; exact h.symm)
      | (simp only [Option.some.injEq, Prod.mk.injEq] at e; exact e.2.symm)
      | cases e

theorem hget_hp_lt {H : List Blk} {id g : Nat} {b : Blk} (h : hget (hp H) id g = some b) : id < H.length := by
  have := (hget_iff h).1
  exact (List.getElem?_eq_some_iff.1 this).1

theorem gop_ids {T : Tm} {H : List Blk} {nid ng : Nat} {g : GOp} {v : V} {u : Up} (e : gop T (hp H) nid ng g = some (v, u)) : ∀ id, id ∈ wrOf u → id < H.length := by
  have hf := gop_foot e
  cases g
  case store sz x y =>
    simp only [gop] at e
    split at e
    · simp only [Option.bind_eq_some_iff, Option.ite_none_right_eq_some, Option.some.injEq, Prod.mk.injEq] at e
      obtain ⟨b, hb, _, _, _, _, rfl⟩ := e
      intro id hi
      simp only [wrOf, List.mem_singleton] at hi
      subst hi
      exact hget_hp_lt hb
    · cases e
  case append fr sz bytes x y =>
    simp only [gop, Option.bind_eq_some_iff, Option.ite_none_right_eq_some] at e
    obtain ⟨ys, _, _, e⟩ := e
    split at e
    · simp only [Option.ite_none_right_eq_some] at e
      obtain ⟨_, e⟩ := e
      split at e
      · simp only [Option.some.injEq, Prod.mk.injEq] at e; obtain ⟨_, rfl⟩ := e; intro id hi; simp [wrOf] at hi
      · split at e
        · simp only [Option.ite_none_right_eq_some, Option.some.injEq, Prod.mk.injEq] at e; obtain ⟨_, _, rfl⟩ := e; intro id hi; simp [wrOf] at hi
        · simp only [Option.some.injEq, Prod.mk.injEq] at e; obtain ⟨_, rfl⟩ := e; intro id hi; simp [wrOf] at hi
    · simp only [Option.bind_eq_some_iff, Option.ite_none_right_eq_some] at e
      obtain ⟨b, hb, _, e⟩ := e
      split at e
      · simp only [Option.ite_none_right_eq_some, Option.some.injEq, Prod.mk.injEq] at e
        obtain ⟨_, _, rfl⟩ := e
        intro id hi
        simp only [wrOf, List.mem_singleton] at hi
        subst hi
        exact hget_hp_lt hb
      · simp only [Option.some.injEq, Prod.mk.injEq] at e
        obtain ⟨_, rfl⟩ := e
        intro id hi
        simp only [wrOf, List.mem_singleton] at hi
        subst hi
        exact hget_hp_lt hb
    · cases e
  case copy sz x y =>
    simp only [gop, Option.bind_eq_some_iff, Option.ite_none_right_eq_some] at e
    obtain ⟨ys, _, _, e⟩ := e
    split at e
    · simp only [Option.bind_eq_some_iff, Option.ite_none_right_eq_some, Option.some.injEq, Prod.mk.injEq] at e
      obtain ⟨b, hb, _, _, rfl⟩ := e
      intro id hi
      simp only [wrOf, List.mem_singleton] at hi
      subst hi
      exact hget_hp_lt hb
    · cases e
  case frz x =>
    simp only [gop] at e
    split at e
    · simp only [Option.bind_eq_some_iff, Option.ite_none_right_eq_some, Option.some.injEq, Prod.mk.injEq] at e
      obtain ⟨b, hb, _, _, rfl⟩ := e
      intro id hi
      simp only [wrOf, List.mem_singleton] at hi
      subst hi
      exact hget_hp_lt hb
    · simp only [Option.some.injEq, Prod.mk.injEq] at e; obtain ⟨_, rfl⟩ := e; intro id hi; simp [wrOf] at hi
  case mvo old x =>
    simp only [gop] at e
    split at e
    · split at e
      · simp only [Option.some.injEq, Prod.mk.injEq] at e; obtain ⟨_, rfl⟩ := e; intro id hi; simp [wrOf] at hi
      · split at e
        · simp only [Option.some.injEq, Prod.mk.injEq] at e; obtain ⟨_, rfl⟩ := e; intro id hi; simp [wrOf] at hi
        · rename_i b hb
          simp only [Option.bind_eq_some_iff, Option.ite_none_right_eq_some, Option.some.injEq, Prod.mk.injEq] at e
          obtain ⟨b2, hb2, _, _, rfl⟩ := e
          intro id hi
          simp only [wrOf, List.mem_cons, List.not_mem_nil, or_false] at hi
          rcases hi with rfl | rfl
          · exact hget_hp_lt hb
          · exact hget_hp_lt hb2
    · simp only [Option.some.injEq, Prod.mk.injEq] at e; obtain ⟨_, rfl⟩ := e; intro id hi; simp [wrOf] at hi
  case call => simp [gop] at e
  all_goals
    intro id hi
    rcases hf with ⟨_, rfl⟩ | ⟨rd, hf⟩
    · simp [wrOf] at hi
    · first
        | (simp [footOf] at hf; done)
        | (simp only [footOf, Foot.touch.injEq] at hf; rw [← hf.2] at hi; simp at hi)
        | (simp only [footOf] at hf; split at hf <;> simp only [reduceCtorEq, Foot.touch.injEq] at hf <;> (rw [← hf.2] at hi; simp at hi))

end Gh
