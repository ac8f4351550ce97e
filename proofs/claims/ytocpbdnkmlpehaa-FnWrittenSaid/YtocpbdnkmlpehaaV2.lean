/- An evaluator of the functions of the program, and the proof that the program does what the evaluator answers (part 2). -/
import Derived.Orders
import Derived.Test.YtocpbdnkmlpehaaV1
set_option linter.unusedVariables false
set_option linter.unusedSimpArgs false
set_option linter.unusedSectionVars false
/- Parts of slices. -/
namespace Go.VE
variable {P : Program} {w w' : World} {g g' : Gh} {D : Nat → Prop} {env : Env} {R R1 R' : Regs} {gv : Nat → Value} {a : Act} {C : Cfg} {dm : Bool} {o : Oper} {id : Nat} {v : AV} {V : Nat → Value}

theorem bounds_run {isS : Bool} {len cap m : Nat} {lo hi mx : Option Value} {l h : Int} (hl : (lo = none ∧ l = 0) ∨ ∃ k, lo = some (.int k l)) (hh : (hi = none ∧ h = len ∧ mx = none) ∨ ∃ k, hi = some (.int k h))
    (hm : (mx = none ∧ m = cap) ∨ ∃ k, mx = some (.int k (m : Int)) ∧ m ≤ cap) (h1 : 0 ≤ l) (h2 : l ≤ h) (h3 : h ≤ (m : Int)) : (Instr.sliceBounds isS len cap lo hi mx).run P w = .ok (l.toNat, h.toNat, m) w := by
  have hb : ∀ {k : IntKind} {z : Int} {y : Nat} {code : BoundsCode}, 0 ≤ z → z ≤ y → (Instr.sliceBound (.int k z) y code).run P w = .ok z.toNat w := by
    intro k z y code a b
    simp [Instr.sliceBound, asIntOf, a, b]
  have hle : l ≤ (h.toNat : Int) := by omega
  have h0 : 0 ≤ h := by omega
  rcases hm with ⟨hmx, hmc⟩ | ⟨k3, hmx, hmc⟩
  · subst hmx hmc
    rcases hh with ⟨hh, hhl, _⟩ | ⟨k2, hh⟩
    · subst hh hhl
      have hle' : l ≤ (len : Int) := h2
      rcases hl with ⟨hl, hl0⟩ | ⟨k1, hl⟩
      · subst hl hl0; simp [Instr.sliceBounds]
      · subst hl; simp [Instr.sliceBounds, hb h1 hle']
    · subst hh
      rcases hl with ⟨hl, hl0⟩ | ⟨k1, hl⟩
      · subst hl hl0; simp [Instr.sliceBounds, hb h0 h3]
      · subst hl; simp [Instr.sliceBounds, hb h0 h3, hb h1 hle]
  · subst hmx
    have hmn : (0 : Int) ≤ (m : Int) := by omega
    have hmc' : (m : Int) ≤ (cap : Int) := by omega
    rcases hh with ⟨hh, hhl, hx⟩ | ⟨k2, hh⟩
    · cases hx
    · subst hh
      rcases hl with ⟨hl, hl0⟩ | ⟨k1, hl⟩
      · subst hl hl0; simp [Instr.sliceBounds, hb hmn hmc', hb h0 h3]
      · subst hl; simp [Instr.sliceBounds, hb hmn hmc', hb h0 h3, hb h1 hle]

theorem optI_rel {α : Type} {x : Option Operand} {d : Int} {K : Int → Option α} {r : α} (p : Pre P C o a w g D id env R gv) (h : optI (x.map (ev env)) d K = some r) :
    ∃ l, K l = some r ∧ ((x.map a.eval = none ∧ l = d) ∨ ∃ k, x.map a.eval = some (.int k l)) := by
  cases x with
  | none => exact ⟨d, h, .inl ⟨rfl, rfl⟩⟩
  | some x =>
    simp only [optI, Option.map_some] at h
    obtain ⟨k, n, _, e, h⟩ := asI_rel h (p.rel x)
    exact ⟨n, h, .inr ⟨k, by simp [e]⟩⟩

theorem maxI_rel {x : Option Operand} {n : Nat} {h : Int} {α : Type} {K : Option α} {r : α} (p : Pre P C o a w g D id env R gv) (hk : maxI (x.map (ev env)) n h K = some r) (h0 : 0 ≤ h) :
    K = some r ∧ (x.map a.eval = none ∨ ∃ k m, x.map a.eval = some (.int k ((m : Nat) : Int)) ∧ h ≤ m ∧ m ≤ n) := by
  cases x with
  | none => exact ⟨hk, .inl rfl⟩
  | some x =>
    simp only [maxI, Option.map_some] at hk
    obtain ⟨k, m, _, e, hk⟩ := asI_rel hk (p.rel x)
    obtain ⟨hb, hk⟩ := cond_some hk
    simp only [Bool.and_eq_true, decide_eq_true_eq] at hb
    exact ⟨hk, .inr ⟨k, m.toNat, by rw [Option.map_some, e]; rw [Int.toNat_of_nonneg (by omega)], by omega, by omega⟩⟩

/-- a part of a slice, with less behind it -/
theorem cut_rep3 {t : Ty} {xs : List t.den} {I : Nat → Prop} {A : Option Addr} {len cap lo hi m : Nat} (h : Rep P (.slice t) w I xs [.slice A len cap]) (hl : lo ≤ hi) (hh : hi ≤ List.length xs) (hm : hi ≤ m) (hmc : m ≤ cap) :
    Rep P (.slice t) w I (cut xs lo hi) [.slice (if m = lo then A else A.map (·.add (lo * t.cells))) (hi - lo) (m - lo)] := by
  obtain ⟨A', cap', e, hc, h⟩ := h
  have e := (List.cons.inj e).1
  simp only [Value.slice.injEq] at e
  obtain ⟨rfl, rfl, rfl⟩ := e
  have hcl : List.length (cut xs lo hi) = hi - lo := cut_length (α := t.den) xs lo hi hh
  refine ⟨_, m - lo, by rw [hcl], by show List.length (cut xs lo hi) ≤ _; omega, ?_⟩
  rcases h with h | ⟨b, off, c, el, fz, rfl, hI, hb, hs, hx⟩
  · exact .inl (by omega)
  · by_cases hcap : m = lo
    · exact .inl (by omega)
    · right
      rw [if_neg hcap]
      refine ⟨b, off + lo * t.cells, c, el, fz, by simp [add_none], hI, hb, ?_, fun i hi' => ?_⟩
      · have h1 : lo * t.cells + (m - lo) * t.cells = m * t.cells := by rw [← Nat.add_mul]; congr 1; omega
        have h2 : m * t.cells ≤ cap * t.cells := Nat.mul_le_mul_right _ hmc
        omega
      · have h1 : lo + i < List.length xs := by omega
        have := hx (lo + i) h1
        rw [Nat.add_mul] at this
        rw [cut_get (α := t.den) xs lo hi i hi' h1, Nat.add_assoc]
        exact this

theorem slice_run {t et : TypeId} {nf : TypeInfo} {x : Operand} {lo hi mx : Option Operand} {A : Option Addr} {len cap m : Nat} {l h : Int} (H : o.op = .slice t x lo hi mx) (hu : P.underlying t = some (.slice et)) (hi' : P.info? et = some nf)
    (hx : a.eval x = .slice A len cap) (hb : (Instr.sliceBounds true len cap (lo.map a.eval) (hi.map a.eval) (mx.map a.eval)).run P w = .ok (l.toNat, h.toNat, m) w) :
    (execOp a.eval o).run P w = .ok (.value (.slice (if m = l.toNat then A else A.map (·.add (l.toNat * nf.size))) (h.toNat - l.toNat) (m - l.toNat))) w := by
  simp [execOp, H, Instr.sliceAt, Instr.slice, run_under hu, hx, hb, run_size hi']

theorem step_slice {t : TypeId} {x : Operand} {lo hi mx : Option Operand} (p : Pre P C o a w g D id env R gv) (H : o.op = .slice t x lo hi mx) : Step P C dm o a w g D id env R gv := by
  intro β K r h
  simp only [op, H] at h
  obtain ⟨i, hi', h⟩ := withTy_some h
  obtain ⟨hb, h⟩ := cond_some h
  rw [Bool.and_eq_true] at hb
  have hck := p.tys t i hi'
  have hr := p.rel x
  have hin := p.inn x
  have hmh : mx = none ∨ ∃ z, hi = some z := by
    have := hb.2
    rw [Bool.or_eq_true] at this
    rcases this with h | h
    · left; simpa using h
    · right; exact Option.isSome_iff_exists.1 h
  have val : ∀ {e : Ty} {xs : List e.den}, Rep P (.slice e) w g.imm xs [a.eval x] → elemTy e R (ev env x) = true ∨ True → (∃ e', i.ty = .slice e' ∧ e.cells = e'.cells) →
      (optI (lo.map (ev env)) 0 fun l => optI (hi.map (ev env)) (List.length xs : Int) fun h => cond (inSl l h (List.length xs)) (maxI (mx.map (ev env)) (List.length xs) h (K (.c (.val (.slice e) (cut xs l.toNat h.toNat))) R)) none) = some r →
      ∃ v R', K v R' = some r ∧ Good P C o a w g D id env gv v R' := by
    intro e xs hrep _ he h
    obtain ⟨e', he, hcells⟩ := he
    obtain ⟨et, hu, hce⟩ := chk_slice hck he
    obtain ⟨nf, q1, q2, _⟩ := chk_elem hce
    obtain ⟨l, h, hl⟩ := optI_rel p h
    obtain ⟨hh, h, hhi⟩ := optI_rel p h
    obtain ⟨hb', h⟩ := cond_some h
    simp only [inSl, Bool.and_eq_true, decide_eq_true_eq] at hb'
    obtain ⟨h, hm⟩ := maxI_rel p h (by omega)
    have hrep' := hrep
    obtain ⟨A, cap, ev', hlc, _⟩ := hrep
    have ex : a.eval x = .slice A (List.length xs) cap := (List.cons.inj ev').1
    have hhi' : (hi.map a.eval = none ∧ hh = (List.length xs : Int) ∧ mx.map a.eval = none) ∨ ∃ k, hi.map a.eval = some (.int k hh) := by
      rcases hhi with ⟨h1, h2⟩ | h1
      · left
        refine ⟨h1, h2, ?_⟩
        rcases hmh with rfl | ⟨z, rfl⟩
        · rfl
        · cases h1
      · exact .inr h1
    rw [ex] at hrep'
    rcases hm with hm | ⟨k, m, hm, hm1, hm2⟩
    · have hrun := bounds_run (P := P) (w := w) (isS := true) (len := List.length xs) (cap := cap) (m := cap) hl hhi' (.inl ⟨hm, rfl⟩) hb'.1 hb'.2.1 (by omega)
      refine ⟨_, R, h, Good.pure p.sim (slice_run H hu q1 ex hrun) ?_ (val_in _ _)⟩
      have := cut_rep3 (lo := l.toNat) (hi := hh.toNat) (m := cap) hrep' (by omega) (by omega) (by omega) (Nat.le_refl _)
      rw [hcells, ← q2] at this
      simpa only [AVRel, CellRel] using this
    · have hrun := bounds_run (P := P) (w := w) (isS := true) (len := List.length xs) (cap := cap) (m := m) hl hhi' (.inr ⟨k, hm, by omega⟩) hb'.1 hb'.2.1 (by omega)
      refine ⟨_, R, h, Good.pure p.sim (slice_run H hu q1 ex hrun) ?_ (val_in _ _)⟩
      have := cut_rep3 (lo := l.toNat) (hi := hh.toNat) (m := m) hrep' (by omega) (by omega) (by omega) (by omega)
      rw [hcells, ← q2] at this
      simpa only [AVRel, CellRel] using this
  unfold sliceK at h
  split at h
  · rename_i st hx
    have hu := chk_str hck (by have := hb.1; rw [hx] at this; generalize i.ty = ty at this; cases ty <;> simp_all [sliceTy, elemTy])
    rw [hx] at hr
    simp only [AVRel, CellRel, Rep] at hr
    have hr : a.eval x = .string st := (List.cons.inj hr).1
    cases hmx : mx with
    | some z => rw [hmx] at h; cases h
    | none =>
      rw [hmx] at h
      simp only [Option.map_none] at h
      obtain ⟨l, h, hl⟩ := optI_rel p h
      obtain ⟨hh, h, hhi⟩ := optI_rel p h
      obtain ⟨hb', h⟩ := cond_some h
      simp only [inSl, Bool.and_eq_true, decide_eq_true_eq] at hb'
      have hhi' : (hi.map a.eval = none ∧ hh = (st.size : Int) ∧ (none : Option Value) = none) ∨ ∃ k, hi.map a.eval = some (.int k hh) := by
        rcases hhi with ⟨h1, h2⟩ | h1
        · exact .inl ⟨h1, h2, rfl⟩
        · exact .inr h1
      have hrun := bounds_run (P := P) (w := w) (isS := false) (len := st.size) (cap := st.size) (m := st.size) (mx := none) hl hhi' (.inl ⟨rfl, rfl⟩) hb'.1 hb'.2.1 hb'.2.2
      refine ⟨_, R, h, Good.pure p.sim (vv := .string (st.extract l.toNat hh.toNat)) ?_ (str_rel _) (val_in _ _)⟩
      simp [execOp, H, hmx, Instr.sliceAt, Instr.slice, run_under hu, hr, hrun]
  · rename_i e xs hx
    rw [hx] at hr
    simp only [AVRel, CellRel] at hr
    refine val hr (.inr trivial) ?_ h
    have := hb.1
    rw [hx] at this
    generalize i.ty = ty at this
    cases ty <;> simp only [sliceTy, elemTy] at this <;> try (cases this)
    exact ⟨_, rfl, Nat.eq_of_beq_eq_true this⟩
  · rename_i q hx
    have hs := hb.1
    rw [hx] at hr hin hs
    simp only [AVRel, CellRel] at hr
    split at h
    · rename_i e xs hR
      refine val (by rw [hr]; exact p.sim.reg _ _ hR) (.inr trivial) ?_ h
      generalize i.ty = ty at hs
      cases ty <;> simp only [sliceTy, elemTy, hR] at hs <;> try (cases hs)
      exact ⟨_, rfl, Nat.eq_of_beq_eq_true hs⟩
    · rename_i e xs d hR
      obtain ⟨e', he, hcells⟩ : ∃ e', i.ty = .slice e' ∧ e.cells = e'.cells := by
        generalize i.ty = ty at hs
        cases ty <;> simp only [sliceTy, elemTy, hR] at hs <;> try (cases hs)
        exact ⟨_, rfl, Nat.eq_of_beq_eq_true hs⟩
      obtain ⟨et, hu, hce⟩ := chk_slice hck he
      obtain ⟨nf, q1, q2, _⟩ := chk_elem hce
      cases hmx : mx with
      | some z => rw [hmx] at h; cases h
      | none =>
        rw [hmx] at h
        simp only [Option.map_none] at h
        obtain ⟨l, h, hl⟩ := optI_rel p h
        obtain ⟨hh, h, hhi⟩ := optI_rel p h
        obtain ⟨hb', h⟩ := cond_some h
        simp only [inSl, Bool.and_eq_true, decide_eq_true_eq] at hb'
        obtain ⟨A, cap, k1, hlc, _⟩ := p.sim.reg _ _ hR
        have hhi' : (hi.map a.eval = none ∧ hh = (List.length xs : Int) ∧ mx.map a.eval = none) ∨ ∃ k, hi.map a.eval = some (.int k hh) := by
          rcases hhi with ⟨h1, h2⟩ | h1
          · exact .inl ⟨h1, h2, by rw [hmx]; rfl⟩
          · exact .inr h1
        have hrun := bounds_run (P := P) (w := w) (isS := true) (len := List.length xs) (cap := cap) (m := cap) hl hhi' (.inl ⟨by rw [hmx]; rfl, rfl⟩) hb'.1 hb'.2.1 (by omega)
        refine ⟨_, R, h, Good.pure p.sim (slice_run H hu q1 (hr.trans k1) hrun) ?_ (by simpa [AV.In, Cell.In] using hin)⟩
        simp only [AVRel, CellRel, k1, subSlice, lenV, q2, ← hcells, true_and]
        omega
    · cases h
  · cases h
end Go.VE
/- Append: what is appended. -/
namespace Go.VE
variable {P : Program} {w w' : World} {g g' : Gh} {D : Nat → Prop} {env : Env} {R R1 R' : Regs} {gv : Nat → Value} {a : Act} {C : Cfg} {dm : Bool} {o : Oper} {id : Nat} {v : AV} {V : Nat → Value}

/-- regions become one of a new name -/
def Gh.renew (g : Gh) (T : List Nat) (id : Nat) (u : Value) : Gh := Gh.pass ⟨g.O, upd g.ν id u⟩ (fun j => if j ∈ T then .mine id else .mine j)
theorem Sim.renew (S : Sim P w g D env R V) {T : List Nat} {u : Value} (hid : ¬ D id) (hu : okV u = true) (h : ∀ i r, R1 i = some r → R i = some r ∧ i ∉ T) :
    Sim P w (g.renew T id u) (fun i => D i ∨ i = id) env R1 V ∧ Tr w g w (g.renew T id u) := by
  have hν : ∀ i, D i → (⟨g.O, upd g.ν id u⟩ : Gh).ν i = g.ν i := fun i hi => upd_ne _ _ (fun e => hid (e ▸ hi))
  have S1 : Sim P w ⟨g.O, upd g.ν id u⟩ (fun i => D i ∨ i = id) env R V := S.move (fun b hb => ⟨rfl, hb⟩) hν (fun i hi => .inl hi) (fun _ b _ hb => ⟨rfl, hb⟩) (by
    rintro i (hi | rfl)
    · rw [hν i hi]; exact S.nu i hi
    · show okV (upd g.ν _ u _) = true
      rw [upd_same]; exact hu) S.fresh (fun b i hb => .inl (S.mine b i hb))
  obtain ⟨S2, T2⟩ := S1.pass (f := fun j => if j ∈ T then .mine id else .mine j) (R' := R1) (by
    intro j i h hj
    split at h
    · cases h; exact .inr rfl
    · cases h; exact hj) (by intro j h; split at h <;> cases h) (by
    intro i r hr
    obtain ⟨h1, h2⟩ := h i r hr
    exact .inl ⟨h1, by rw [if_neg h2]⟩)
  exact ⟨S2, ⟨Keeps.refl w, fun b hb => T2.imm b hb, fun b hlt hb => T2.other b hlt hb⟩⟩
theorem renew_mine {T : List Nat} {u : Value} {b j : Nat} (h : g.O b = .mine j) (hj : j ∈ T) : (g.renew T id u).O b = .mine id := by
  unfold Gh.renew
  rw [pass_mine (g := ⟨g.O, upd g.ν id u⟩) h, if_pos hj]

/-- a row of elements, as cells -/
structure Row (P : Program) (w : World) (g : Gh) (e : Ty) (d : Bool) (ys : List e.den) (new : List Value) (Sf : Nat → Nat → Prop) : Prop where
  len : new.length = List.length ys * e.cells
  rel : ∀ i (h : i < List.length ys), ElRel P w g d (Sf i) e (ys[i]'h) ((new.drop (i * e.cells)).take e.cells)
  dis : ∀ i j k, i ≠ j → Sf i k → Sf j k → False

theorem seg_list {c : Array Value} {off m n k : Nat} (h : k + n ≤ m) : ((seg c off m).drop k).take n = seg c (off + k) n := seg_seg h

/-- the cells of a row in memory -/
theorem row_of {e : Ty} {d : Bool} {xs : List e.den} {c : Array Value} {off : Nat} {Sf : Nat → Nat → Prop} (hs : off + List.length xs * e.cells ≤ c.size) (hdis : ∀ i j k, i ≠ j → Sf i k → Sf j k → False)
    (hel : ∀ i (h : i < List.length xs), ElRel P w g d (Sf i) e (xs[i]'h) (seg c (off + i * e.cells) e.cells)) : Row P w g e d xs (seg c off (List.length xs * e.cells)) Sf where
  len := by simp only [seg, List.length_take, List.length_drop, Array.length_toList]; omega
  rel i h := by
    have : (i + 1) * e.cells ≤ List.length xs * e.cells := Nat.mul_le_mul_right _ h
    rw [Nat.add_mul] at this
    rw [seg_list (by omega)]
    exact hel i h
  dis := hdis

theorem row_rep {e : Ty} {d : Bool} {xs : List e.den} {c : Array Value} {off : Nat} {I : Nat → Prop} (hs : off + List.length xs * e.cells ≤ c.size) (hI : (∀ b, I b → g.imm b) ∧ d = false ∨ e.flat = true)
    (hel : ∀ i (h : i < List.length xs), Rep P e w I (xs[i]'h) (seg c (off + i * e.cells) e.cells)) : Row P w g e d xs (seg c off (List.length xs * e.cells)) (fun _ _ => False) :=
  row_of hs (fun _ _ _ _ h => h.elim) (fun i h => by
    rcases hI with ⟨hI, hd⟩ | hf
    · subst hd; exact Rep.mono e (Ext.sub hI) (hel i h)
    · cases d with
      | true => exact Own'.of_flat e hf (hel i h)
      | false => exact flat_rep hf (hel i h))

theorem row_nil {e : Ty} {d : Bool} : Row P w g e d [] [] (fun _ _ => False) := ⟨by simp, fun i h => absurd h (by simp), fun _ _ _ _ h => h.elim⟩

/-- two rows side by side -/
theorem Row.app {e : Ty} {d : Bool} {xs ys : List e.den} {us vs : List Value} {Sf Sg : Nat → Nat → Prop} (h1 : Row P w g e d xs us Sf) (h2 : Row P w g e d ys vs Sg) (hx : ∀ i j k, Sf i k → Sg j k → False) :
    Row P w g e d (List.append xs ys) (us ++ vs) (fun i => if i < List.length xs then Sf i else Sg (i - List.length xs)) where
  len := by have := h1.len; have := h2.len; simp only [List.append_eq, List.length_append, Nat.add_mul]; omega
  rel i h := by
    have hl := h1.len
    have h' : i < List.length xs + List.length ys := by simpa using h
    show ElRel P w g d _ e ((xs ++ ys)[i]'(by simpa using h)) _
    by_cases hi : i < List.length xs
    · have : (i + 1) * e.cells ≤ List.length xs * e.cells := Nat.mul_le_mul_right _ hi
      rw [Nat.add_mul] at this
      rw [if_pos hi, List.getElem_append_left hi, List.drop_append_of_le_length (by omega), List.take_append_of_le_length (by simp; omega)]
      exact h1.rel i hi
    · have hle : List.length xs * e.cells ≤ i * e.cells := Nat.mul_le_mul_right _ (by omega)
      have e1 : i * e.cells - us.length = (i - List.length xs) * e.cells := by rw [hl, Nat.sub_mul]
      rw [if_neg hi, List.getElem_append_right (by omega), List.drop_append, List.drop_eq_nil_of_le (by omega), List.nil_append, e1]
      exact h2.rel (i - List.length xs) (by omega)
  dis i j k hij hi hj := by
    split at hi <;> split at hj
    · exact h1.dis i j k hij hi hj
    · exact hx _ _ _ hi hj
    · exact hx _ _ _ hj hi
    · exact h2.dis _ _ k (by omega) hi hj
theorem Row.mono {e : Ty} {d : Bool} {xs : List e.den} {us : List Value} {Sf Sg : Nat → Nat → Prop} (h : Row P w g e d xs us Sf) (hE : Ext w w' g.imm g'.imm) (hS : ∀ i k, Sf i k → w'.heap[k]? = w.heap[k]? ∧ Sg i k) (hd : ∀ i j k, i ≠ j → Sg i k → Sg j k → False) : Row P w' g' e d xs us Sg :=
  ⟨h.len, fun i hi => ElRel.mono hE (hS i) (h.rel i hi), hd⟩
end Go.VE
/- Append: the tail. -/
namespace Go.VE
variable {P : Program} {w w' : World} {g g' : Gh} {D : Nat → Prop} {env : Env} {R R1 R' : Regs} {gv : Nat → Value} {a : Act} {C : Cfg} {dm : Bool} {o : Oper} {id : Nat} {v : AV} {V : Nat → Value}

theorem rep_cells {e : Ty} {ys : List e.den} {I : Nat → Prop} {u : Value} (h : Rep P (.slice e) w I ys [u]) : ∃ A cap new, u = .slice A (List.length ys) cap ∧ (A = none → List.length ys = 0) ∧
    (∀ w2 : World, w2.heap = w.heap → (Builtin.firstCells e.cells (List.length ys) u).run P w2 = .ok new.toArray w2) ∧ ∀ (g : Gh) (d : Bool), ((∀ b, I b → g.imm b) ∧ d = false ∨ e.flat = true) → Row P w g e d ys new (fun _ _ => False) := by
  obtain ⟨A, cap, e1, hl, h⟩ := h
  have e1 := (List.cons.inj e1).1
  rcases h with h | ⟨b, off, c, el, fz, rfl, _, hh, hs, hx⟩
  · refine ⟨A, cap, [], e1, fun _ => h, ?_, ?_⟩
    · intro w2 _
      rw [e1, h]
      cases A <;> simp [Builtin.firstCells, loadCells, loadCellsFrom]
    · intro g d _
      have : ys = [] := List.length_eq_zero_iff.1 h
      subst this
      exact row_nil
  · have hm : List.length ys * e.cells ≤ cap * e.cells := Nat.mul_le_mul_right _ hl
    refine ⟨_, cap, seg c off (List.length ys * e.cells), e1, (fun h => by cases h), ?_, fun g d hI => row_rep (by omega) hI hx⟩
    intro w2 hw2
    rw [e1]
    simp only [Builtin.firstCells]
    exact load_cells (by rw [hw2]; exact hh) (by omega)

/-- the cells of a row of one's own -/
theorem own_cells {j : Nat} {e : Ty} {xs : List e.den} {d : Bool} (h : RegRel P w g j (.arr e xs d)) : ∃ A cap new, ∃ Sf : Nat → Nat → Prop, g.ν j = .slice A (List.length xs) cap ∧ (A = none → List.length xs = 0) ∧
    (∀ w2 : World, w2.heap = w.heap → (Builtin.firstCells e.cells (List.length xs) (g.ν j)).run P w2 = .ok new.toArray w2) ∧ Row P w g e d xs new Sf ∧ ∀ i k, Sf i k → g.O k = .mine j := by
  obtain ⟨A, cap, e1, hl, h⟩ := h
  rcases h with h | ⟨b, off, c, el, fz, Sf, rfl, k2, hh, hs, k5, k6, k7, hx⟩
  · have h0 : List.length xs = 0 := by omega
    refine ⟨A, cap, [], fun _ _ => False, e1, fun _ => h0, ?_, ?_, fun _ _ h => h.elim⟩
    · intro w2 _
      rw [e1, h0]
      cases A <;> simp [Builtin.firstCells, loadCells, loadCellsFrom]
    · have : xs = [] := List.length_eq_zero_iff.1 h0
      subst this
      exact row_nil
  · have hm : List.length xs * e.cells ≤ cap * e.cells := Nat.mul_le_mul_right _ hl
    refine ⟨_, cap, seg c off (List.length xs * e.cells), Sf, e1, (fun h => by cases h), ?_, row_of (by omega) k7 hx, fun i k hk => (k6 i k hk).1⟩
    intro w2 hw2
    rw [e1]
    simp only [Builtin.firstCells]
    exact load_cells (by rw [hw2]; exact hh) (by omega)

/-- what stands for the tail -/
structure Tail (P : Program) (w : World) (g : Gh) (D : Nat → Prop) (env : Env) (R1 : Regs) (V : Nat → Value) (e : Ty) (d : Bool) (ys : List e.den) (new : List Value) (g1 : Gh) (T : List Nat) (Sf : Nat → Nat → Prop) : Prop where
  sim : Sim P w g1 D env R1 V
  tr : Tr w g w g1
  row : Row P w g1 e d ys new Sf
  own : ∀ i k, Sf i k → ∃ j ∈ T, g1.O k = .mine j
  gone : ∀ j ∈ T, R1 j = none

theorem tail_slice {e : Ty} {c : Cell} {ys : List e.den} {u : Value} {d : Bool} (S : Sim P w g D env R V) (h : rdSlice R e c = some ys) (hc : CellRel P w g c u) (ht : takeOver e dm (.c c) R = some R1) (hd : e.flat = true ∨ d = dm) :
    ∃ A cap new g1 T Sf, u = .slice A (List.length ys) cap ∧ (∀ w2 : World, w2.heap = w.heap → (Builtin.firstCells e.cells (List.length ys) u).run P w2 = .ok new.toArray w2) ∧ Tail P w g D env R1 V e d ys new g1 T Sf := by
  cases hf : e.flat with
  | true =>
    unfold takeOver at ht
    rw [hf] at ht
    simp only [cond_true, Option.some.injEq] at ht
    subst ht
    have hrep := rdSlice_rep (B := borCell R c) S.regs h hc (fun _ h => h)
    obtain ⟨A, cap, new, e1, _, h1, h2⟩ := rep_cells hrep
    exact ⟨A, cap, new, g, [], _, e1, h1, S, Tr.refl _ _, h2 g d (.inr hf), fun _ _ h => h.elim, fun _ h => absurd h (by simp)⟩
  | false =>
    have hd : d = dm := by rcases hd with h | h; rw [hf] at h; cases h; exact h
    subst hd
    unfold takeOver at ht
    rw [hf] at ht
    simp only [cond_false] at ht
    cases c with
    | own j =>
      simp only [CellRel] at hc
      simp only at ht
      split at ht
      · rename_i t xs d' hR
        simp only [rdSlice, hR] at h
        obtain ⟨ee, hcast⟩ := cast_some h
        cases ee
        cases hcast
        cases d with
        | true =>
          simp only [cond_true] at ht
          obtain ⟨hd', ht⟩ := cond_some ht
          cases ht
          rw [hd'] at hR
          obtain ⟨A, cap, new, Sf, e1, _, h1, h2, h3⟩ := own_cells (S.reg _ _ hR)
          refine ⟨A, cap, new, g, [j], Sf, hc.trans e1, by rw [hc]; exact h1, S.remove j, Tr.refl _ _, h2, fun i k hk => ⟨j, by simp, h3 i k hk⟩, fun q hq => ?_⟩
          rw [List.mem_singleton] at hq; subst hq; exact upd_same _ _ _
        | false =>
          simp only [cond_false, Option.some.injEq] at ht
          subst ht
          have hrep : Rep P (.slice e) w (lent g [j]) xs [u] := by rw [hc]; exact arr_rep (by simp) (S.reg _ _ hR)
          obtain ⟨A, cap, new, e1, _, h1, h2⟩ := rep_cells hrep
          obtain ⟨S1, T1, k1⟩ := S.froze (B := [j]) (R1 := upd R j (some (.frz e xs))) (by
            intro i hi r hr
            rw [List.mem_singleton] at hi; subst hi
            rw [upd_same] at hr; cases hr
            exact ⟨e, xs, rfl, .inl ⟨d', hR⟩⟩) (by
            intro i hi r hr
            rwa [upd_ne _ _ (by simpa using hi)] at hr)
          exact ⟨A, cap, new, _, [], _, e1, h1, S1, T1, h2 _ false (.inl ⟨k1, rfl⟩), fun _ _ h => h.elim, fun _ h => absurd h (by simp)⟩
      · rename_i t xs hR
        obtain ⟨hd', ht⟩ := cond_some' ht
        cases ht
        subst hd'
        simp only [rdSlice, hR] at h
        obtain ⟨ee, hcast⟩ := cast_some h
        cases ee
        cases hcast
        have hrep : Rep P (.slice e) w g.imm xs [u] := by rw [hc]; exact S.reg _ _ hR
        obtain ⟨A, cap, new, e1, _, h1, h2⟩ := rep_cells hrep
        exact ⟨A, cap, new, g, [], _, e1, h1, S, Tr.refl _ _, h2 _ false (.inl ⟨fun _ h => h, rfl⟩), fun _ _ h => h.elim, fun _ h => absurd h (by simp)⟩
      · cases ht
    | nil =>
      simp only [Option.some.injEq] at ht
      subst ht
      simp only [rdSlice, Option.some.injEq] at h
      subst h
      simp only [CellRel] at hc
      exact ⟨none, 0, [], g, [], _, hc, by intro w2 _; rw [hc]; simp [Builtin.firstCells], S, Tr.refl _ _, row_nil, fun _ _ h => h.elim, fun _ h => absurd h (by simp)⟩
    | val t xs =>
      obtain ⟨hd', ht⟩ := cond_some' ht
      cases ht
      subst hd'
      simp only [rdSlice] at h
      obtain ⟨ee, hcast⟩ := cast_some h
      subst ee
      cases hcast
      simp only [CellRel] at hc
      obtain ⟨A, cap, new, e1, _, h1, h2⟩ := rep_cells hc
      exact ⟨A, cap, new, g, [], _, e1, h1, S, Tr.refl _ _, h2 _ false (.inl ⟨fun _ h => h, rfl⟩), fun _ _ h => h.elim, fun _ h => absurd h (by simp)⟩
    | top => cases ht
    | view => cases ht
    | ptr => cases ht
    | func => cases ht
end Go.VE
/- Append. -/
namespace Go.VE
variable {P : Program} {w w' : World} {g g' : Gh} {D : Nat → Prop} {env : Env} {R R1 R' : Regs} {gv : Nat → Value} {a : Act} {C : Cfg} {dm : Bool} {o : Oper} {id : Nat} {v : AV} {V : Nat → Value}

/-- what the model reads of the tail -/
structure TailRun (P : Program) (w : World) (nf : TypeInfo) (z : Value) (zeros : Bool) (xv : Value) (n : Nat) (new : List Value) : Prop where
  some' : zeros = false → (Builtin.lenOf xv).run P w = .ok n w ∧ ∀ w2 : World, w2.heap = w.heap → (Builtin.firstCells nf.size n xv).run P w2 = .ok new.toArray w2
  zero' : zeros = true → (∃ k, xv = .int k (n : Int)) ∧ new = (madeCells z.cells (n * nf.size)).toList

def isIntD : TypeDesc → Bool
  | .int _ => true
  | _ => false
set_option maxHeartbeats 8000000 in
theorem append_run {st xt et ty : TypeId} {nf : TypeInfo} {z : Value} {dx : TypeDesc} {zeros : Bool} {xv : Value} {n sLen sCap : Nat} {base : Option Addr} {new : List Value} (hu : P.underlying st = some (.slice et)) (hux : P.underlying xt = some dx) (hdx : isIntD dx = zeros)
    (hi : P.info? et = some nf) (hz : nf.zero = some z) (hzs : z.cells.size = nf.size) (hb : nf.bytes ≤ 16384) (hn : sLen + n < 4294967296) (T : TailRun P w nf z zeros xv n new) :
    (sLen + n ≤ sCap → ∀ w', (match base with | some a => storeCells (a.add (sLen * nf.size)) new | none => pure ()).run P w = .ok () w' → (Builtin.append_ #[st, xt] ty #[.slice base sLen sCap, xv]).run P w = .ok (.slice base (sLen + n) sCap) w') ∧
    (¬ sLen + n ≤ sCap → ∀ old : List Value, (∀ w2 : World, w2.heap = w.heap → (Builtin.firstCells nf.size sLen (.slice base sLen sCap)).run P w2 = .ok old.toArray w2) →
      (Builtin.append_ #[st, xt] ty #[.slice base sLen sCap, xv]).run P w = .ok (.slice (some ⟨w.heap.size, 0, none⟩) (sLen + n) (grownCap w (sLen + n) sCap et))
        (w.drew.alloc (.cells (old.toArray ++ new.toArray ++ Builtin.zeroCells z.cells (grownCap w (sLen + n) sCap et - (sLen + n))) et))) := by
  have hfit : ¬ sLen + n ≤ sCap → ¬ (281474976710656 < Builtin.nextslicecap (sLen + n) sCap * nf.bytes) := by
    intro h
    have h1 := nextslicecap_le (need := sLen + n) (old := sCap) (by omega)
    have h2 : Builtin.nextslicecap (sLen + n) sCap * nf.bytes ≤ (2 * (sLen + n)) * 16384 := Nat.mul_le_mul h1 hb
    omega
  have h63 : ¬ (9223372036854775807 < ((sLen : Int) + (n : Int))) := by omega
  cases zeros with
  | false =>
    obtain ⟨t1, t2⟩ := T.some' rfl
    constructor
    · intro hle w' hst
      have t3 := t2 w rfl
      cases base with
      | none =>
        simp only [Sem.run_pure, Result.ok.injEq, true_and] at hst
        subst hst
        cases dx <;> first | (simp [isIntD] at hdx; done) | simp [Builtin.append_, run_under hu, run_under hux, run_size hi, t1, t3, hle]
      | some b =>
        simp only at hst
        cases dx <;> first | (simp [isIntD] at hdx; done) | simp [Builtin.append_, run_under hu, run_under hux, run_size hi, t1, t3, hle, hst]
    · intro hgt old ho
      have t3 := t2 w.drew rfl
      have o3 := ho w.drew rfl
      have hf := hfit hgt
      have hin := fun w => run_info hi (P := P) w
      cases dx <;> first | (simp [isIntD] at hdx; done) | (simp [Builtin.append_, run_under hu, run_under hux, run_size hi, t1, t3, o3, hgt, hf, h63, hin, run_zero hi hz, Question.forced, newRow, grownCap]; congr 2; apply Array.ext'; simp [List.append_assoc]) | simp [Builtin.append_, run_under hu, run_under hux, run_size hi, t1, t3, o3, hgt, hf, h63, hin, run_zero hi hz, Question.forced, newRow, grownCap]
  | true =>
    obtain ⟨⟨k, rfl⟩, hnew⟩ := T.zero' rfl
    have hin := fun w => run_info hi (P := P) w
    have hw : IntKind.i64.wrap (n : Int) = n := by rw [IntKind.wrap_i64]; omega
    have hneg : ¬ ((n : Int) < 0) := by omega
    have hbig : ¬ (281474976710656 < (n : Int) * (nf.bytes : Int)) := by
      have h2 : n * nf.bytes ≤ 4294967296 * 16384 := Nat.mul_le_mul (by omega) hb
      have h3 : ((n * nf.bytes : Nat) : Int) ≤ 281474976710656 := by omega
      rw [Int.natCast_mul] at h3
      omega
    have hnew' : n * nf.size = 0 → new = [] := by
      intro h; rw [hnew, h]; simp [madeCells]
    have hzc : Builtin.zeroCells z.cells n = new.toArray := by
      rw [hnew, ← hzs]; apply Array.ext'; simp [Builtin.zeroCells, madeCells]
    constructor
    · intro hle w' hst
      by_cases h0 : n * nf.size = 0
      · have hn0 := hnew' h0
        subst hn0
        cases base with
        | none =>
          simp only [Sem.run_pure, Result.ok.injEq, true_and] at hst
          subst hst
          cases dx <;> first | (simp [isIntD] at hdx; done) | simp [Builtin.append_, run_under hu, run_under hux, run_size hi, asInt, asIntOf, hw, hneg, hbig, hin, hle, h0]
        | some b =>
          simp only at hst
          cases dx <;> first | (simp [isIntD] at hdx; done) | simp [Builtin.append_, run_under hu, run_under hux, run_size hi, asInt, asIntOf, hw, hneg, hbig, hin, hle, h0, hst]
      · cases base with
        | none =>
          simp only [Sem.run_pure, Result.ok.injEq, true_and] at hst
          subst hst
          cases dx <;> first | (simp [isIntD] at hdx; done) | simp [Builtin.append_, run_under hu, run_under hux, run_size hi, asInt, asIntOf, hw, hneg, hbig, hin, hle, h0, run_zero hi hz]
        | some b =>
          simp only at hst
          cases dx <;> first | (simp [isIntD] at hdx; done) | simp [Builtin.append_, run_under hu, run_under hux, run_size hi, asInt, asIntOf, hw, hneg, hbig, hin, hle, h0, run_zero hi hz, hzc, hst]
    · intro hgt old ho
      have o3 := ho w.drew rfl
      have hf := hfit hgt
      by_cases h0 : n * nf.size = 0
      · have hn0 := hnew' h0
        subst hn0
        cases dx <;> first | (simp [isIntD] at hdx; done) | (simp [Builtin.append_, run_under hu, run_under hux, run_size hi, asInt, asIntOf, hw, hneg, hbig, o3, hgt, hf, h63, h0, hin, run_zero hi hz, Question.forced, newRow, grownCap]; congr 2; apply Array.ext'; simp [List.append_assoc]) | simp [Builtin.append_, run_under hu, run_under hux, run_size hi, asInt, asIntOf, hw, hneg, hbig, o3, hgt, hf, h63, h0, hin, run_zero hi hz, Question.forced, newRow, grownCap]
      · cases dx <;> first | (simp [isIntD] at hdx; done) | (simp [Builtin.append_, run_under hu, run_under hux, run_size hi, asInt, asIntOf, hw, hneg, hbig, o3, hgt, hf, h63, h0, hin, run_zero hi hz, hzc, Question.forced, newRow, grownCap]; congr 2; apply Array.ext'; simp [List.append_assoc]) | simp [Builtin.append_, run_under hu, run_under hux, run_size hi, asInt, asIntOf, hw, hneg, hbig, o3, hgt, hf, h63, h0, hin, run_zero hi hz, hzc, Question.forced, newRow, grownCap]
end Go.VE
/- Append: tails that are no slices. -/
namespace Go.VE
variable {P : Program} {w w' : World} {g g' : Gh} {D : Nat → Prop} {env : Env} {R R1 R' : Regs} {V : Nat → Value}

theorem tail_zero {e : Ty} {d : Bool} {n : Nat} {z : Value} (S : Sim P w g D env R V) (hz : z.cells.size = e.cells) (h : ∀ (w : World) (S : Nat → Prop), Own' P e w S e.dflt z.cells.toList) :
    Tail P w g D env R V e d (List.replicate n e.dflt) (madeCells z.cells (n * e.cells)).toList g [] (fun _ _ => False) where
  sim := S
  tr := Tr.refl _ _
  row := by
    refine ⟨by simp [madeCells], fun i hi => ?_, fun _ _ _ _ h => h.elim⟩
    have hi' : i < n := by simpa using hi
    have := seg_made (m := n) hz hi' (cells_pos e)
    unfold seg at this
    rw [this, List.getElem_replicate]
    exact el_own (h w)
  own := fun _ _ h => h.elim
  gone := fun _ h => absurd h (by simp)

theorem tail_str {d : Bool} {s : ByteArray} (S : Sim P w g D env R V) :
    Tail P w g D env R V (.int .u8) d (bytesOf s) (s.data.toList.map fun b => Value.int .u8 (b.toNat : Int)) g [] (fun _ _ => False) where
  sim := S
  tr := Tr.refl _ _
  row := by
    refine ⟨by simp [bytesOf, Ty.cells], fun i hi => ?_, fun _ _ _ _ h => h.elim⟩
    have hlt : i < s.data.toList.length := by simpa [bytesOf] using hi
    have : ((s.data.toList.map fun b => Value.int .u8 (b.toNat : Int)).drop (i * 1)).take 1 = [.int .u8 ((bytesOf s)[i]'hi)] := by
      rw [Nat.mul_one, List.drop_eq_getElem_cons (by simpa using hlt)]
      simp [bytesOf]
    show ElRel P w g d _ (.int .u8) _ (((s.data.toList.map fun b => Value.int .u8 (b.toNat : Int)).drop (i * 1)).take 1)
    rw [this]
    cases d <;> simp [ElRel, Own', Rep]
  own := fun _ _ h => h.elim
  gone := fun _ h => absurd h (by simp)
end Go.VE
/- Append: rows written. -/
namespace Go.VE
variable {P : Program} {w w' : World} {g g' : Gh} {D : Nat → Prop} {env : Env} {R R1 R' : Regs} {V : Nat → Value}

theorem ElRel.rep {d : Bool} {S : Nat → Prop} {t : Ty} {x : t.den} {vs : List Value} (h : ElRel P w g d S t x vs) : ∃ I, Rep P t w I x vs := by
  cases d with
  | true => exact ⟨S, Own'.rep t (fun _ h => h) h⟩
  | false => exact ⟨_, h⟩

theorem Row.one {e : Ty} {d : Bool} {ys : List e.den} {new : List Value} {Sf : Nat → Nat → Prop} (h : Row P w g e d ys new Sf) : ∀ v ∈ new, oneV v = true := by
  intro v hv
  obtain ⟨q, hq, rfl⟩ := List.getElem_of_mem hv
  have hp := cells_pos e
  have hl := h.len
  have hi : q / e.cells < List.length ys := by rw [Nat.div_lt_iff_lt_mul hp]; omega
  obtain ⟨I, hr⟩ := (h.rel _ hi).rep
  refine Rep.oneV e hr _ ?_
  have h1 := Nat.div_add_mod q e.cells
  have h2 := Nat.mod_lt q hp
  rw [List.mem_take_iff_getElem]
  have hm : q / e.cells * e.cells = e.cells * (q / e.cells) := Nat.mul_comm _ _
  refine ⟨q % e.cells, by simp; omega, ?_⟩
  rw [List.getElem_drop]
  congr 1
  omega
end Go.VE
namespace Go.VE
variable {P : Program} {w w' : World} {g g' : Gh} {D : Nat → Prop} {env : Env} {R R1 R' : Regs} {gv : Nat → Value} {a : Act} {C : Cfg} {dm : Bool} {o : Oper} {id : Nat} {v : AV} {V : Nat → Value}

/-- a row as a region's elements -/
theorem Row.reg {e : Ty} {d : Bool} {ys : List e.den} {Sf : Nat → Nat → Prop} {c : Array Value} {off : Nat} (h : Row P w g e d ys (seg c off (List.length ys * e.cells)) Sf) (i : Nat) (hi : i < List.length ys) :
    ElRel P w g d (Sf i) e (ys[i]'hi) (seg c (off + i * e.cells) e.cells) := by
  have hm : (i + 1) * e.cells ≤ List.length ys * e.cells := Nat.mul_le_mul_right _ hi
  rw [Nat.add_mul] at hm
  have := h.rel i hi
  rwa [seg_list (by omega)] at this

/-- appended in place -/
theorem Sim.inPlace {e : Ty} {xs ys : List e.den} {d : Bool} {new : List Value} {g1 : Gh} {T : List Nat} {Sf : Nat → Nat → Prop} {j : Nat} {A : Option Addr} {cap : Nat} (Tl : Tail P w g D env R1 V e d ys new g1 T Sf)
    (hid : ¬ D id) (hR : R1 j = some (.arr e xs d)) (hν : g1.ν j = .slice A (List.length xs) cap) (hn : List.length xs + List.length ys ≤ cap) :
    ∃ w' g', (match A with | some b => storeCells (b.add (List.length xs * e.cells)) new | none => (pure () : Sem Unit)).run P w = .ok () w' ∧
      Sim P w' g' (fun i => D i ∨ i = id) env (upd (upd R1 j none) id (some (.arr e (List.append xs ys) d))) V ∧ Tr w g w' g' ∧ g'.ν id = .slice A (List.length xs + List.length ys) cap := by
  have hjT : j ∉ T := fun h => by rw [Tl.gone j h] at hR; cases hR
  have hDj := (Tl.sim.regD _ _ hR).1
  obtain ⟨A', cap', e1, hl, h⟩ := Tl.sim.reg _ _ hR
  rw [hν] at e1
  simp only [Value.slice.injEq, true_and] at e1
  obtain ⟨rfl, rfl⟩ := e1
  have hlen := Tl.row.len
  have hnone : ∀ i r, upd R1 j none i = some r → R1 i = some r ∧ i ∉ j :: T := by
    intro i r hr
    by_cases hij : i = j
    · subst hij; rw [upd_same] at hr; cases hr
    · rw [upd_ne _ _ hij] at hr
      refine ⟨hr, fun hm => ?_⟩
      rcases List.mem_cons.1 hm with h | h
      · exact hij h
      · rw [Tl.gone i h] at hr; cases hr
  have hal : List.length (List.append xs ys) = List.length xs + List.length ys := by simp
  rcases h with h | ⟨b, off, c, el, fz, Sx, rfl, k2, k3, k4, k5, k6, k7, k8⟩
  · have hx0 : List.length xs = 0 := by omega
    have hy0 : List.length ys = 0 := by omega
    have hnew : new = [] := List.length_eq_zero_iff.1 (by rw [hlen, hy0]; simp)
    subst hnew
    have hok : okV (.slice A (List.length xs + List.length ys) cap) = true := by
      rw [hx0, hy0]; cases A <;> simp [okV]
    obtain ⟨S2, T2⟩ := Tl.sim.renew (T := j :: T) (id := id) hid hok hnone
    refine ⟨w, _, by cases A <;> simp [storeCells], S2.insert ⟨A, cap, ?_, by rw [hal]; exact hn, .inl h⟩ (.inr rfl) trivial, Tl.tr.trans T2, upd_same _ _ _⟩
    rw [hal]; exact upd_same _ _ _
  · have hmc : (List.length xs + List.length ys) * e.cells ≤ cap * e.cells := Nat.mul_le_mul_right _ hn
    rw [Nat.add_mul] at hmc
    obtain ⟨w', c', r1, hW, r3⟩ := store_cells (P := P) new (off + List.length xs * e.cells) 0 w c k3 (by omega) (k5.imp _root_.id (by omega)) Tl.row.one
    obtain ⟨S1, T1⟩ := Tl.sim.wrote k2 hW
    obtain ⟨S2, T2⟩ := S1.renew (T := j :: T) (id := id) (u := .slice (some ⟨b, off, none⟩) (List.length xs + List.length ys) cap) hid rfl (fun i r hr => ⟨hr, (hnone i r hr).2⟩)
    have Tall := (Tl.tr.trans T1).trans T2
    have hcs : c'.size = c.size := by
      have := congrArg List.length r3
      rw [putL_len (by simp; omega)] at this
      simpa using this
    have hseg : seg c' off (List.length (List.append xs ys) * e.cells) = seg c off (List.length xs * e.cells) ++ new := by
      rw [hal, Nat.add_mul, ← hlen]
      unfold seg
      rw [r3]
      unfold putL
      apply List.ext_getElem?
      intro i
      simp only [List.getElem?_take, List.getElem?_drop, List.getElem?_append, List.length_take, List.length_drop, Array.length_toList, Nat.add_zero]
      have e1 : min (off + List.length xs * e.cells) c.size = off + List.length xs * e.cells := by omega
      have e2 : min (List.length xs * e.cells) (c.size - off) = List.length xs * e.cells := by omega
      rw [e1, e2]
      by_cases h1 : i < List.length xs * e.cells
      · have h2 : i < List.length xs * e.cells + new.length := by omega
        have h3 : off + i < off + List.length xs * e.cells := by omega
        simp [h1, h2, h3]
      · have h3 : ¬ off + i < off + List.length xs * e.cells := by omega
        have h4 : off + i - (off + List.length xs * e.cells) = i - List.length xs * e.cells := by omega
        by_cases h2 : i < List.length xs * e.cells + new.length
        · have h5 : i - List.length xs * e.cells < new.length := by omega
          simp [h1, h2, h3, h4, h5]
        · have h5 : new.length ≤ i - List.length xs * e.cells := by omega
          simp [h1, h2, h3, List.getElem?_eq_none h5]
    have hrow : Row P w' (g1.renew (j :: T) id (.slice (some ⟨b, off, none⟩) (List.length xs + List.length ys) cap)) e d (List.append xs ys) (seg c' off (List.length (List.append xs ys) * e.cells)) (fun i => if i < List.length xs then Sx i else Sf (i - List.length xs)) := by
      rw [hseg]
      have hxr := row_of (P := P) (w := w) (g := g1) (by omega) k7 k8
      have T12 := T1.trans T2
      refine Row.app (hxr.mono T12.ext (fun i k hk => ⟨hW.other k (k6 i k hk).2, hk⟩) k7) (Tl.row.mono T12.ext (fun i k hk => ⟨hW.other k ?_, hk⟩) Tl.row.dis) (fun i i' k h1 h2 => ?_)
      · rintro rfl
        obtain ⟨q, hq, ho⟩ := Tl.own i _ hk
        rw [k2] at ho; cases ho; exact hjT hq
      · obtain ⟨q, hq, ho⟩ := Tl.own i' k h2
        rw [(k6 i k h1).1] at ho; cases ho; exact hjT hq
    refine ⟨w', _, by simpa [add_none] using r1, S2.insert ⟨_, cap, by rw [hal]; exact upd_same _ _ _, by rw [hal]; exact hn, .inr ⟨b, off, c', el, fz, _, rfl, renew_mine k2 (by simp), hW.here, by omega, k5, ?_, hrow.dis, fun i hi => hrow.reg i hi⟩⟩ (.inr rfl) trivial, Tall, upd_same _ _ _⟩
    intro i k hk
    split at hk
    · exact ⟨renew_mine (k6 i k hk).1 (by simp), (k6 i k hk).2⟩
    · obtain ⟨q, hq, ho⟩ := Tl.own _ k hk
      refine ⟨renew_mine ho (by simp [hq]), ?_⟩
      rintro rfl
      rw [k2] at ho; cases ho; exact hjT hq
end Go.VE
/- Append: the operation. -/
namespace Go.VE
variable {P : Program} {w w' : World} {g g' : Gh} {D : Nat → Prop} {env : Env} {R R1 R' : Regs} {gv : Nat → Value} {a : Act} {C : Cfg} {dm : Bool} {o : Oper} {id : Nat} {v : AV} {V : Nat → Value}

theorem tail_any {α : Type} {e : Ty} {x : Operand} {zeros : Bool} {K : List e.den → Option α} {r : α} {nf : TypeInfo} {z : Value} (p : Pre P C o a w g D id env R gv) (hs : nf.size = e.cells) (hz : z.cells.size = e.cells) (hd : ∀ (w : World) (S : Nat → Prop), Own' P e w S e.dflt z.cells.toList)
    (h : tailK R e (ev env x) zeros K = some r) : ∃ ys, K ys = some r ∧ ∀ {R1 : Regs}, takeOver e dm (ev env x) R = some R1 → ∀ d, (e.flat = true ∨ d = dm) →
      ∃ new g1 T Sf, Tail P w g D env R1 (slots a gv) e d ys new g1 T Sf ∧ TailRun P w nf z zeros (a.eval x) (List.length ys) new := by
  have hr := p.rel x
  unfold tailK at h
  cases zeros with
  | true =>
    simp only at h
    obtain ⟨k, n, e1, e2, h⟩ := asI_rel h hr
    obtain ⟨hb, h⟩ := cond_some h
    simp only [Bool.and_eq_true, decide_eq_true_eq] at hb
    refine ⟨_, h, fun {R1} ht d hdd => ?_⟩
    have hR : R1 = R := by
      rw [e1] at ht
      unfold takeOver at ht
      cases hf : e.flat with
      | true => rw [hf] at ht; simpa using ht.symm
      | false =>
        rw [hf] at ht
        simp only [cond_false] at ht
        obtain ⟨_, ht⟩ := cond_some' ht
        simpa using ht.symm
    subst hR
    refine ⟨_, _, _, _, tail_zero p.sim hz hd, ⟨fun h => (by cases h), fun _ => ⟨⟨k, ?_⟩, by simp [hs]⟩⟩⟩
    rw [e2]; simp [Int.toNat_of_nonneg hb.1]
  | false =>
    simp only at h
    split at h
    · rename_i s hx
      obtain ⟨ys, hc, h⟩ := Option.bind_eq_some_iff.1 h
      obtain ⟨ee, hcast⟩ := cast_some hc
      cases ee
      cases hcast
      refine ⟨_, h, fun {R1} ht d hdd => ?_⟩
      have hR : R1 = R := by
        unfold takeOver at ht
        simpa [Ty.flat] using ht.symm
      subst hR
      rw [hx] at hr
      simp only [AVRel, CellRel, Rep] at hr
      have hr : a.eval x = .string s := (List.cons.inj hr).1
      refine ⟨_, _, _, _, tail_str p.sim, ⟨fun _ => ?_, fun h => (by cases h)⟩⟩
      have hl : List.length (bytesOf s) = s.size := by simp [bytesOf]
      rw [hr]
      refine ⟨by simp [Builtin.lenOf, bytesOf], fun w2 _ => ?_⟩
      have hx : (s.extract 0 s.size) = s := by simp
      rw [hl]
      simp only [Builtin.firstCells, hx, Sem.run_pure]
      congr 1
      apply Array.ext'
      simp
    · rename_i c hne hx
      obtain ⟨ys, hc, h⟩ := Option.bind_eq_some_iff.1 h
      refine ⟨ys, h, fun {R1} ht d hdd => ?_⟩
      rw [hx] at hr ht
      simp only [AVRel] at hr
      obtain ⟨A, cap, new, g1, T, Sf, k1, k2, k3⟩ := tail_slice (d := d) p.sim hc hr ht hdd
      refine ⟨new, g1, T, Sf, k3, ⟨fun _ => ⟨by rw [k1]; rfl, fun w2 h2 => by rw [hs]; exact k2 w2 h2⟩, fun h => (by cases h)⟩⟩
    · cases h
end Go.VE
/- Append: the operation. -/
namespace Go.VE
variable {P : Program} {w w' : World} {g g' : Gh} {D : Nat → Prop} {env : Env} {R R1 R' : Regs} {gv : Nat → Value} {a : Act} {C : Cfg} {dm : Bool} {o : Oper} {id : Nat} {v : AV} {V : Nat → Value}

theorem seg_rest {z : Array Value} {e : Ty} {us : List Value} {n m : Nat} (hu : us.length = n * e.cells) : seg (us.toArray ++ Builtin.zeroCells z m) 0 (n * e.cells) = us := by
  simp [seg, ← hu]

theorem step_append {c : Call} (p : Pre P C o a w g D id env R gv) (H : o.op = .call c) (hc : c.callee = .builtin .append) : Step P C dm o a w g D id env R gv := by
  intro β K r h
  simp only [op, H, hc] at h
  split at h
  rotate_left
  · cases h
  rename_i s x st xt hargs hat
  have ha : c.args = #[s, x] := arr_of_toList hargs
  have hat : c.argTypes = #[st, xt] := arr_of_toList hat
  have hid : ¬ D id := p.fresh id (Nat.le_refl _) (by simp [width, H, hc])
  have hw : width C o = 1 := by simp [width, H, hc]
  unfold appK at h
  obtain ⟨i, e, hi, he, h⟩ := withElem_some h
  obtain ⟨xi, hxi, h⟩ := withTy_some h
  obtain ⟨et, hu, hce⟩ := chk_slice (p.tys st i hi) he
  obtain ⟨nf, z, q1, q2, q3, q4, q5, q6, q7⟩ := elem_zero hce
  obtain ⟨dx, hux, hdx'⟩ := chk_under (p.tys xt xi hxi)
  simp only at h
  generalize hzz : (match xi.ty with | .int _ => true | _ => false) = zeros at h
  have hdx : isIntD dx = zeros := by
    revert hzz hdx'
    generalize xi.ty = ty
    cases ty <;> cases dx <;> simp [isIntD]
  obtain ⟨ys, h, htail⟩ := tail_any (dm := dm) (nf := nf) p q3 q4 q7 h
  obtain ⟨R1, ht, h⟩ := Option.bind_eq_some_iff.1 h
  have hrun : ∀ {u : Value} {w1 : World}, (Builtin.append_ #[st, xt] o.type #[a.eval s, a.eval x]).run P w = .ok u w1 → (execOp a.eval o).run P w = .ok (.value u) w1 := by
    intro u w1 hq
    simp [execOp, H, hc, resolve, invoke, builtin, ha, hat, hq]
  have hr := p.rel s
  have hzs : z.cells.size = nf.size := by rw [q4, q3]
  split at h
  · rename_i hs
    obtain ⟨hb, h⟩ := cond_some h
    simp only [small, lim, Nat.blt_eq] at hb
    rw [hs] at hr
    simp only [AVRel, CellRel] at hr
    obtain ⟨new, g1, T, Sf, Tl, TR⟩ := htail ht (dm || e.flat) (by cases hf : e.flat <;> simp)
    have TR : TailRun P w nf z zeros (a.eval x) (List.length ys) new := by rw [← hzz]; exact TR
    obtain ⟨r1, r2⟩ := append_run (ty := o.type) (sLen := 0) (sCap := 0) (base := none) (n := List.length ys) hu hux hdx q1 q2 hzs q5 (by omega) TR
    rw [Nat.zero_add] at r1 r2
    by_cases hn : List.length ys ≤ 0
    · have hy : ys = [] := List.length_eq_zero_iff.1 (by omega)
      have r3 := r1 hn w rfl
      obtain ⟨S2, T2⟩ := Tl.sim.renew (T := []) (R1 := R1) (u := .slice none 0 0) hid rfl (fun i r hr => ⟨hr, by simp⟩)
      have S3 := S2.insert (id := id) (r := .arr e ys (dm || e.flat)) ⟨none, 0, by rw [hy]; exact upd_same _ _ _, by rw [hy]; simp, .inl rfl⟩ (.inr rfl) trivial
      refine ⟨_, _, h, Good.value (vv := .slice none (List.length ys) 0) (hrun (by rw [hr]; exact r3)) (by rw [hw]; exact Grow.one D id 1 (by omega)) S3 ?_ (by simp [AV.In, Cell.In]) (Tl.tr.trans T2)⟩
      simp only [AVRel, CellRel]
      rw [hy]
      exact (upd_same _ _ _).symm
    · have r3 := r2 hn [] (fun w2 _ => by simp [Builtin.firstCells])
      rw [← hr] at r3
      have hge := grownCap_ge w (List.length ys) 0 et
      have S1 : Sim P w.drew g1 D env R1 (slots a gv) := Tl.sim.same rfl
      have hrow : Row P w.drew g1 e (dm || e.flat) ys new Sf := Tl.row.mono (Ext.refl _ _) (fun i k hk => ⟨rfl, hk⟩) Tl.row.dis
      refine ⟨_, _, h, new_arr (w1 := w.drew) (g1 := g1) (Sf := Sf) (T := T) (c := new.toArray ++ Builtin.zeroCells z.cells (grownCap w (List.length ys) 0 et - List.length ys)) (e := et) (fz := (0, 0)) (cap := grownCap w (List.length ys) 0 et) S1 (Tl.tr.trans (Tr.same rfl rfl rfl rfl)) hw hid Tl.gone
        Tl.own Tl.row.dis hge ?_ (.inl rfl) (fun q hq => ?_) (hrun (by rw [r3]; simp; rfl))⟩
      · have e1 : (new.toArray ++ Builtin.zeroCells z.cells (grownCap w (List.length ys) 0 et - List.length ys)).size = grownCap w (List.length ys) 0 et * e.cells := by
          simp only [Array.size_append, List.size_toArray, Builtin.zeroCells, Array.size_map, Array.size_range, hrow.len, q4]
          rw [← Nat.add_mul]; congr 1; omega
        rw [e1]; exact Nat.le_refl _
      · have hm : (q + 1) * e.cells ≤ List.length ys * e.cells := Nat.mul_le_mul_right _ hq
        rw [Nat.add_mul] at hm
        have hl := hrow.len
        have := hrow.rel q hq
        have e2 : seg (new.toArray ++ Builtin.zeroCells z.cells (grownCap w (List.length ys) 0 et - List.length ys)) (q * e.cells) e.cells = (new.drop (q * e.cells)).take e.cells := by
          simp only [seg, Array.toList_append]
          rw [List.drop_append_of_le_length (by omega), List.take_append_of_le_length (by simp; omega)]
        rw [e2]; exact this
  · rename_i j hs
    split at h
    · rename_i t xs d hR1
      obtain ⟨hfl, h⟩ := cond_some h
      obtain ⟨xs', hcc, h⟩ := Option.bind_eq_some_iff.1 h
      obtain ⟨ee, hcast⟩ := cast_some hcc
      cases ee
      cases hcast
      obtain ⟨hb, h⟩ := cond_some h
      simp only [small, lim, Nat.blt_eq] at hb
      rw [hs] at hr
      simp only [AVRel, CellRel] at hr
      obtain ⟨new, g1, T, Sf, Tl, TR⟩ := htail ht d (by
        rw [Bool.or_eq_true] at hfl
        rcases hfl with hf | hf
        · exact .inl hf
        · right; revert hf; cases dm <;> cases d <;> simp [sameB])
      have TR : TailRun P w nf z zeros (a.eval x) (List.length ys) new := by rw [← hzz]; exact TR
      have hr1 := ev_rel a gv Tl.sim s
      rw [hs] at hr1
      simp only [AVRel, CellRel] at hr1
      obtain ⟨A, cap, old, So, k1, k2, k3, k4, k5⟩ := own_cells (Tl.sim.reg _ _ hR1)
      obtain ⟨r1, r2⟩ := append_run (ty := o.type) (sLen := List.length xs) (sCap := cap) (base := A) (n := List.length ys) hu hux hdx q1 q2 hzs q5 (by omega) TR
      by_cases hn : List.length xs + List.length ys ≤ cap
      · obtain ⟨w', g', m1, m2, m3, m4⟩ := Sim.inPlace Tl hid hR1 k1 hn
        rw [q3] at r1
        have r3 := r1 hn w' m1
        refine ⟨_, _, h, Good.value (hrun (by rw [hr1, k1]; exact r3)) (by rw [hw]; exact Grow.one D id 1 (by omega)) m2 ?_ (by simp [AV.In, Cell.In]) m3⟩
        simp only [AVRel, CellRel]
        exact m4.symm
      · have r3 := r2 hn old (fun w2 h2 => by rw [q3, ← k1]; exact k3 w2 h2)
        rw [← k1, ← hr1] at r3
        have hjT : j ∉ T := fun h => by rw [Tl.gone j h] at hR1; cases hR1
        have hx : ∀ i i' k, So i k → Sf i' k → False := by
          intro i i' k h1 h2
          obtain ⟨q, hq, ho⟩ := Tl.own i' k h2
          rw [k5 i k h1] at ho; cases ho; exact hjT hq
        have hrow := Row.app (k4.mono (w' := w.drew) (g' := g1) (Ext.refl _ _) (fun i k hk => ⟨rfl, hk⟩) k4.dis) (Tl.row.mono (w' := w.drew) (g' := g1) (Ext.refl _ _) (fun i k hk => ⟨rfl, hk⟩) Tl.row.dis) hx
        have hge := grownCap_ge w (List.length xs + List.length ys) cap et
        have S1 : Sim P w.drew g1 D env (upd R1 j none) (slots a gv) := (Tl.sim.remove j).same rfl
        have hal : List.length (List.append xs ys) = List.length xs + List.length ys := by simp
        have hlo := k4.len
        have hln := Tl.row.len
        have hT : ∀ q ∈ j :: T, upd R1 j none q = none := by
          intro q hq
          by_cases hqj : q = j
          · subst hqj; exact upd_same _ _ _
          · rw [upd_ne _ _ hqj]; exact Tl.gone q (by simpa [hqj] using hq)
        refine ⟨_, _, h, new_arr (w1 := w.drew) (g1 := g1) (T := j :: T) (c := old.toArray ++ new.toArray ++ Builtin.zeroCells z.cells (grownCap w (List.length xs + List.length ys) cap et - (List.length xs + List.length ys))) (e := et) (fz := (0, 0)) (cap := grownCap w (List.length xs + List.length ys) cap et) S1 (Tl.tr.trans (Tr.same rfl rfl rfl rfl)) hw hid hT (fun i k hk => ?_) hrow.dis (by rw [hal]; exact hge) ?_ (.inl rfl) (fun q hq => ?_) (hrun (by rw [r3, hal]; rfl))⟩
        · split at hk
          · exact ⟨j, by simp, k5 i k hk⟩
          · obtain ⟨q, hq, ho⟩ := Tl.own _ k hk
            exact ⟨q, by simp [hq], ho⟩
        · have e1 : (old.toArray ++ new.toArray ++ Builtin.zeroCells z.cells (grownCap w (List.length xs + List.length ys) cap et - (List.length xs + List.length ys))).size = grownCap w (List.length xs + List.length ys) cap et * e.cells := by
            simp only [Array.size_append, List.size_toArray, Builtin.zeroCells, Array.size_map, Array.size_range, hlo, hln, q4]
            rw [← Nat.add_mul, ← Nat.add_mul]; congr 1; omega
          rw [e1]; exact Nat.le_refl _
        · have hm : (q + 1) * e.cells ≤ List.length (List.append xs ys) * e.cells := Nat.mul_le_mul_right _ hq
          rw [Nat.add_mul] at hm
          have hl := hrow.len
          have := hrow.rel q hq
          have e2 : seg (old.toArray ++ new.toArray ++ Builtin.zeroCells z.cells (grownCap w (List.length xs + List.length ys) cap et - (List.length xs + List.length ys))) (q * e.cells) e.cells = ((old ++ new).drop (q * e.cells)).take e.cells := by
            simp only [seg, Array.toList_append]
            rw [List.drop_append_of_le_length (by simp at *; omega), List.take_append_of_le_length (by simp at *; omega)]
          rw [e2]; exact this
    · cases h
  · cases h
end Go.VE
/- What follows an operation is told apart from it. -/
namespace Go.VE
variable {α β γ : Type} {C : Cfg} {dm : Bool} {R : Regs} {f : α → Option β}

theorem bind_ext {x : Option α} {f g : α → Option β} (h : ∀ a, f a = g a) : x.bind f = x.bind g := by rw [funext h]
theorem cond_bind {b : Bool} {x y : Option α} : (cond b x y).bind f = cond b (x.bind f) (y.bind f) := by cases b <;> rfl
theorem asB_bind {v : AV} {K : Bool → Option α} : (asB v K).bind f = asB v fun b => (K b).bind f := by unfold asB; split <;> rfl
theorem asI_bind {v : AV} {K : IntKind → Int → Option α} : (asI v K).bind f = asI v fun k n => (K k n).bind f := by unfold asI; split <;> rfl
theorem asS_bind {v : AV} {K : ByteArray → Option α} : (asS v K).bind f = asS v fun s => (K s).bind f := by unfold asS; split <;> rfl
theorem withTy_bind {t : Nat} {K : TyI → Option α} : (withTy C t K).bind f = withTy C t fun i => (K i).bind f := by unfold withTy; split <;> rfl
theorem withElem_bind {t : Nat} {K : Ty → Option α} : (withElem C t K).bind f = withElem C t fun i => (K i).bind f := by
  unfold withElem; rw [withTy_bind]; congr 1; funext i; split <;> rfl
theorem optI_bind {v : Option AV} {d : Int} {K : Int → Option α} : (optI v d K).bind f = optI v d fun n => (K n).bind f := by
  unfold optI; split
  · rw [asI_bind]
  · rfl
theorem maxI_bind {mx : Option AV} {n : Nat} {h : Int} {k : Option α} : (maxI mx n h k).bind f = maxI mx n h (k.bind f) := by
  unfold maxI; split
  · rfl
  · rw [asI_bind]; simp only [cond_bind, Option.bind_none]
theorem sliceK_bind {x : AV} {lo hi mx : Option AV} {K : AV → Option α} : (sliceK x lo hi mx R K).bind f = sliceK x lo hi mx R fun v => (K v).bind f := by
  unfold sliceK
  split
  · split
    · rfl
    · simp only [optI_bind, cond_bind, Option.bind_none]
  · simp only [optI_bind, cond_bind, maxI_bind, Option.bind_none]
  · split
    · simp only [optI_bind, cond_bind, maxI_bind, Option.bind_none]
    · split
      · rfl
      · simp only [optI_bind, cond_bind, Option.bind_none]
    · rfl
  · rfl
theorem loadK_bind {t : Nat} {x : AV} {K : AV → Option α} : (loadK C t x R K).bind f = loadK C t x R fun v => (K v).bind f := by
  unfold loadK
  rw [withTy_bind]; congr 1; funext i
  split
  · rw [Option.bind_assoc]
  · split
    · simp only [cond_bind, Option.bind_none]
    · simp only [cond_bind, Option.bind_none, Option.bind_assoc]
    · rfl
  · rfl
theorem storeK_bind {t : Nat} {x v : AV} {K : Regs → Option α} : (storeK C t x v R K).bind f = storeK C t x v R fun v => (K v).bind f := by
  unfold storeK
  rw [withTy_bind]; congr 1; funext i
  rw [cond_bind]; congr 1
  split
  · split
    · simp only [cond_bind, Option.bind_none]
    · rw [cond_bind]; congr 1
      rw [Option.bind_assoc]; refine bind_ext fun y => ?_
      rw [Option.bind_assoc]; refine bind_ext fun R1 => ?_
      split <;> rfl
    · rfl
  · rfl
theorem fieldK_bind {s : Nat} {x : AV} {n : Nat} {K : AV → Option α} : (fieldK C s x n K).bind f = fieldK C s x n fun v => (K v).bind f := by
  unfold fieldK
  rw [withTy_bind]; congr 1; funext i
  rw [cond_bind]; congr 1
  split
  rw [withTy_bind]; congr 1; funext j
  split
  · rfl
  · rw [Option.bind_assoc]
  · rfl
theorem partK_bind {s : Nat} {x : AV} {n : Nat} {K : AV → Option α} : (partK C s x n K).bind f = partK C s x n fun v => (K v).bind f := by
  unfold partK
  rw [withTy_bind]; congr 1; funext i
  rw [cond_bind]; congr 1
  split
  rw [withTy_bind]; congr 1; funext j
  split
  · simp only [cond_bind, Option.bind_none]
  · rfl
theorem indexK_bind {x i : AV} {K : AV → Option α} : (indexK x i R K).bind f = indexK x i R fun v => (K v).bind f := by
  unfold indexK
  rw [asI_bind]; congr 1; funext k n
  split
  · simp only [cond_bind, Option.bind_none]
  · split <;> simp only [cond_bind, Option.bind_none]
  · split <;> simp only [cond_bind, Option.bind_none]
  · rfl
theorem binI_bind {o : BinOp} {k : IntKind} {x y : Int} {K : AV → Option α} : (binI o k x y K).bind f = binI o k x y fun v => (K v).bind f := by
  cases o <;> simp only [binI, cond_bind, Option.bind_none]
theorem binSh_bind {o : BinOp} {k : IntKind} {x y : Int} {K : AV → Option α} : (binSh o k x y K).bind f = binSh o k x y fun v => (K v).bind f := by
  cases o <;> simp only [binSh, cond_bind, Option.bind_none]
theorem binS_bind {o : BinOp} {x y : ByteArray} {K : AV → Option α} : (binS o x y K).bind f = binS o x y fun v => (K v).bind f := by
  cases o <;> simp only [binS, cond_bind, Option.bind_none]
theorem eqCells_bind : ∀ {cs ds : List Cell} {K : Bool → Option α}, (eqCells cs ds K).bind f = eqCells cs ds fun b => (K b).bind f := by
  intro cs
  induction cs with
  | nil => intro ds K; cases ds <;> simp [eqCells]
  | cons c cs ih =>
    intro ds K
    cases ds with
    | nil => cases c <;> simp [eqCells]
    | cons d ds =>
      cases c with
      | val t x => cases d with
        | val s y => cases t <;> cases s <;> first | rfl | (simp only [eqCells]; rw [ih])
        | _ => cases t <;> rfl
      | _ => rfl
theorem isNil_bind {c : Cell} {K : Bool → Option α} : (isNil R c K).bind f = isNil R c fun b => (K b).bind f := by
  unfold isNil
  split
  · rfl
  · split <;> simp only [cond_bind, Option.bind_none]
  · simp only [cond_bind, Option.bind_none]
  · rfl
theorem bin_bind {t : Nat} {o : BinOp} {x y : AV} {K : AV → Option α} : (bin C t o x y R K).bind f = bin C t o x y R fun v => (K v).bind f := by
  unfold bin
  split
  all_goals simp only [binSh_bind, binI_bind, binS_bind, cond_bind, withTy_bind, withElem_bind, eqCells_bind, isNil_bind, Option.bind_none]
theorem lenK_bind {v : AV} {K : Int → Option α} : (lenK R v K).bind f = lenK R v fun b => (K b).bind f := by
  unfold lenK
  split
  · rfl
  · rfl
  · rfl
  · split <;> rfl
  · split <;> rfl
  · rfl
theorem minmax_bind {b : Bool} {vs : List AV} {K : IntKind → Int → Option α} : (minmax b vs K).bind f = minmax b vs fun k n => (K k n).bind f := by
  unfold minmax
  split
  · rw [asI_bind]
  · simp only [asI_bind, cond_bind, Option.bind_none]
  · rfl
theorem tailK_bind {e : Ty} {x : AV} {z : Bool} {K : List e.den → Option α} : (tailK R e x z K).bind f = tailK R e x z fun ys => (K ys).bind f := by
  unfold tailK
  split
  · simp only [asI_bind, cond_bind, Option.bind_none]
  · split
    · rw [Option.bind_assoc]
    · rw [Option.bind_assoc]
    · rfl
theorem appK_bind {st xt : Nat} {s x : AV} {id : Nat} {K : AV → Regs → Option α} : (appK C dm st xt s x id R K).bind f = appK C dm st xt s x id R fun v R => (K v R).bind f := by
  unfold appK
  rw [withElem_bind]; congr 1; funext e
  rw [withTy_bind]; congr 1; funext xi
  simp only [tailK_bind, Option.bind_assoc]
  congr 1; funext ys; congr 1; funext R1
  split
  · simp only [cond_bind, Option.bind_none]
  · split
    · simp only [cond_bind, Option.bind_none, Option.bind_assoc]
    · rfl
  · rfl
theorem callK_bind {g : Nat} {args : List AV} {id : Nat} {K : AV → Regs → Option α} : (callK C dm g args id R K).bind f = callK C dm g args id R fun v R => (K v R).bind f := by
  unfold callK
  split
  · rfl
  · simp only [Option.bind_assoc, cond_bind, Option.bind_none]
    congr 1; funext ds; congr 1; funext p; congr 1; congr 1; funext q
    split
    · rfl
    · split
      · rw [cond_bind]
      · rfl

theorem op_bind {o : Oper} {id : Nat} {E : Operand → AV} {K : AV → Regs → Option α} : (op C dm o id E R K).bind f = op C dm o id E R fun v R => (K v R).bind f := by
  unfold op
  split
  all_goals try simp only [asB_bind, asI_bind, asS_bind, withTy_bind, withElem_bind, cond_bind, loadK_bind, storeK_bind, fieldK_bind, partK_bind, indexK_bind, bin_bind, sliceK_bind, Option.bind_assoc, Option.bind_none]
  all_goals try rfl
  · split <;> rfl
  · congr 1; funext i; congr 1; funext j
    split
    · rw [asI_bind]
    · split
      · rw [Option.bind_assoc]
      · rfl
    · rw [asS_bind]
    · rw [asS_bind]
    · split
      · split
        · rw [cond_bind]; rfl
        · rfl
      · rfl
    · rfl
  · split
    · rw [cond_bind]; rfl
    · rfl
  · split
    · split
      · rw [withTy_bind]; simp only [cond_bind, lenK_bind, Option.bind_none]
      · rfl
    · rw [minmax_bind]
    · rw [minmax_bind]
    · split
      · rw [appK_bind]
      · rfl
    · split
      · rw [cond_bind, callK_bind]; rfl
      · split
        · simp only [Option.bind_assoc, cond_bind, Option.bind_none]
        · rfl
      · split
        · simp only [Option.bind_assoc, cond_bind, Option.bind_none]
        · rfl
      · rfl
    · rfl

/-- the answer of an operation -/
def op1 (C : Cfg) (dm : Bool) (o : Oper) (id : Nat) (E : Operand → AV) (R : Regs) : Option (AV × Regs) := op C dm o id E R fun v R => some (v, R)
theorem op_eq {o : Oper} {id : Nat} {E : Operand → AV} {K : AV → Regs → Option α} : op C dm o id E R K = (op1 C dm o id E R).bind fun x => K x.1 x.2 := by
  unfold op1
  rw [op_bind]
  rfl
end Go.VE
/- Contracts of functions. -/
namespace Go.VE
variable {P : Program} {w w' : World} {g g' : Gh} {D D' : Nat → Prop} {env : Env} {R R1 R' : Regs} {gv : Nat → Value} {a : Act} {C : Cfg} {dm : Bool} {o : Oper} {id : Nat} {v : AV} {V : Nat → Value}

/-- an element of a row of one's own -/
def ElR (P : Program) (d : Bool) (w : World) (S I : Nat → Prop) (t : Ty) (x : t.den) (vs : List Value) : Prop := match d with
  | true => Own' P t w S x vs
  | false => Rep P t w I x vs

/-- a value whose slices are one's own; d: what is in them, too -/
def Own1 (P : Program) (d : Bool) : (t : Ty) → World → (S I : Nat → Prop) → t.den → List Value → Prop
  | .int k, _, _, _, x, vs => vs = [.int k x]
  | .bool, _, _, _, x, vs => vs = [.bool x]
  | .str, _, _, _, x, vs => vs = [.string x]
  | .one t, w, S, I, x, vs => Own1 P d t w S I x vs
  | .pair a b, w, S, I, x, vs => ∃ us ws S1 S2, vs = us ++ ws ∧ (∀ b, S1 b → S b) ∧ (∀ b, S2 b → S b) ∧ (∀ b, S1 b → S2 b → False) ∧ Own1 P d a w S1 I x.1 us ∧ Own1 P d b w S2 I x.2 ws
  | .slice t, w, S, I, xs, vs => ∃ A cap, vs = [.slice A (List.length xs) cap] ∧ List.length xs ≤ cap ∧ (cap = 0 ∨
      ∃ b off c e fz, ∃ Sf : Nat → Nat → Prop, A = some ⟨b, off, none⟩ ∧ S b ∧ w.heap[b]? = some (.cells c e fz) ∧ off + cap * t.cells ≤ c.size ∧ (fz = (0, 0) ∨ off + cap * t.cells ≤ fz.1) ∧
        (∀ i k, Sf i k → S k ∧ k ≠ b) ∧ (∀ i j k, i ≠ j → Sf i k → Sf j k → False) ∧
        ∀ i (h : i < List.length xs), ElR P d w (Sf i) I t (xs[i]'h) (seg c (off + i * t.cells) t.cells))
  | _, _, _, _, _, _ => False

theorem own1_own : ∀ {t : Ty} {w : World} {S I : Nat → Prop} {x : t.den} {vs : List Value}, Own1 P true t w S I x vs ↔ Own' P t w S x vs
  | .int _, _, _, _, _, _ => Iff.rfl
  | .bool, _, _, _, _, _ => Iff.rfl
  | .str, _, _, _, _, _ => Iff.rfl
  | .one t, _, _, _, _, _ => own1_own (t := t)
  | .pair a b, _, _, _, _, _ => by simp only [Own1, Own', own1_own (t := a), own1_own (t := b)]
  | .slice t, _, _, _, _, _ => Iff.rfl
  | .ref _, _, _, _, _, _ => Iff.rfl
  | .fn1 _ _, _, _, _, _, _ => Iff.rfl
  | .fn2 _ _ _, _, _, _, _, _ => Iff.rfl

theorem ElR.mono {d : Bool} {S S' I I' : Nat → Prop} {t : Ty} {x : t.den} {vs : List Value} (hS : ∀ b, S b → w'.heap[b]? = w.heap[b]? ∧ S' b) (hI : ∀ b, I b → w'.heap[b]? = w.heap[b]? ∧ I' b) (h : ElR P d w S I t x vs) : ElR P d w' S' I' t x vs := by
  cases d with
  | true => exact Own'.mono t hS h
  | false => exact Rep.mono t hI h

theorem Own1.mono {d : Bool} : ∀ (t : Ty) {w w' : World} {S S' I I' : Nat → Prop} {x : t.den} {vs : List Value}, (∀ b, S b → w'.heap[b]? = w.heap[b]? ∧ S' b) → (∀ b, I b → w'.heap[b]? = w.heap[b]? ∧ I' b) → Own1 P d t w S I x vs → Own1 P d t w' S' I' x vs
  | .int _, _, _, _, _, _, _, _, _, _, _, h => h
  | .bool, _, _, _, _, _, _, _, _, _, _, h => h
  | .str, _, _, _, _, _, _, _, _, _, _, h => h
  | .one t, _, _, _, _, _, _, _, _, hS, hI, h => Own1.mono t hS hI h
  | .pair a b, _, _, _, _, _, _, _, _, hS, hI, ⟨us, ws, S1, S2, e, h1, h2, hd, k1, k2⟩ =>
      ⟨us, ws, S1, S2, e, fun b hb => (hS b (h1 b hb)).2, fun b hb => (hS b (h2 b hb)).2, hd,
        Own1.mono a (fun b hb => ⟨(hS b (h1 b hb)).1, hb⟩) hI k1, Own1.mono b (fun b hb => ⟨(hS b (h2 b hb)).1, hb⟩) hI k2⟩
  | .slice t, _, _, _, _, _, _, _, _, hS, hI, ⟨A, cap, e, hl, h⟩ => ⟨A, cap, e, hl, h.imp id fun ⟨b, off, c, el, fz, Sf, hA, hb, hh, hs, hfz, hsub, hd, hx⟩ =>
      ⟨b, off, c, el, fz, Sf, hA, (hS b hb).2, (hS b hb).1.trans hh, hs, hfz, fun i k hk => ⟨(hS k (hsub i k hk).1).2, (hsub i k hk).2⟩, hd,
        fun i hi => ElR.mono (fun k hk => ⟨(hS k (hsub i k hk).1).1, hk⟩) hI (hx i hi)⟩⟩
  | .ref _, _, _, _, _, _, _, _, _, _, _, h => h.elim
  | .fn1 _ _, _, _, _, _, _, _, _, _, _, _, h => h.elim
  | .fn2 _ _ _, _, _, _, _, _, _, _, _, _, _, h => h.elim

/-- what is in the slices becomes immutable -/
theorem Own1.weaken : ∀ (t : Ty) {w : World} {S I : Nat → Prop} {x : t.den} {vs : List Value}, Own1 P true t w S I x vs → ∃ S1 J : Nat → Prop, (∀ b, S1 b → S b) ∧ (∀ b, J b → S b) ∧ (∀ b, S1 b → J b → False) ∧ ∀ I2 : Nat → Prop, (∀ b, J b → I2 b) → Own1 P false t w S1 I2 x vs
  | .int _, _, S, _, _, _, h => ⟨S, fun _ => False, fun _ h => h, fun _ h => h.elim, fun _ _ h => h, fun _ _ => h⟩
  | .bool, _, S, _, _, _, h => ⟨S, fun _ => False, fun _ h => h, fun _ h => h.elim, fun _ _ h => h, fun _ _ => h⟩
  | .str, _, S, _, _, _, h => ⟨S, fun _ => False, fun _ h => h, fun _ h => h.elim, fun _ _ h => h, fun _ _ => h⟩
  | .one t, _, _, _, _, _, h => Own1.weaken t h
  | .pair a b, _, _, _, _, _, ⟨us, ws, S1, S2, e, h1, h2, hd, k1, k2⟩ => by
    obtain ⟨T1, J1, p1, p2, p3, p4⟩ := Own1.weaken a k1
    obtain ⟨T2, J2, q1, q2, q3, q4⟩ := Own1.weaken b k2
    refine ⟨fun b => T1 b ∨ T2 b, fun b => J1 b ∨ J2 b, ?_, ?_, ?_, fun I2 hI => ⟨us, ws, T1, T2, e, fun _ h => .inl h, fun _ h => .inr h, fun b h k => hd b (p1 b h) (q1 b k), p4 I2 (fun b h => hI b (.inl h)), q4 I2 (fun b h => hI b (.inr h))⟩⟩
    · rintro b (h | h)
      · exact h1 b (p1 b h)
      · exact h2 b (q1 b h)
    · rintro b (h | h)
      · exact h1 b (p2 b h)
      · exact h2 b (q2 b h)
    · rintro b (h | h) (k | k)
      · exact p3 b h k
      · exact hd b (p1 b h) (q2 b k)
      · exact hd b (p2 b k) (q1 b h)
      · exact q3 b h k
  | .slice t, w, S, I, xs, vs, ⟨A, cap, e, hl, h⟩ => by
    rcases h with h | ⟨b, off, c, el, fz, Sf, hA, hb, hh, hs, hfz, hsub, hd, hx⟩
    · exact ⟨S, fun _ => False, fun _ h => h, fun _ h => h.elim, fun _ _ h => h, fun _ _ => ⟨A, cap, e, hl, .inl h⟩⟩
    · refine ⟨fun k => k = b, fun k => ∃ i, Sf i k, fun k hk => hk ▸ hb, fun k ⟨i, hk⟩ => (hsub i k hk).1, fun k hk ⟨i, hi⟩ => (hsub i k hi).2 hk, fun I2 hI => ⟨A, cap, e, hl, .inr ⟨b, off, c, el, fz, fun _ _ => False, hA, rfl, hh, hs, hfz, fun _ _ h => h.elim, fun _ _ _ _ h => h.elim, fun i hi => ?_⟩⟩⟩
      exact Own'.rep t (fun k hk => hI k ⟨i, hk⟩) (hx i hi)
  | .ref _, _, _, _, _, _, h => h.elim
  | .fn1 _ _, _, _, _, _, _, h => h.elim
  | .fn2 _ _ _, _, _, _, _, _, h => h.elim

theorem hasSlice_flat : ∀ {t : Ty}, hasSlice t = false → t.flat = true
  | .int _, _ => rfl
  | .bool, _ => rfl
  | .str, _ => rfl
  | .one t, h => hasSlice_flat (t := t) h
  | .pair a b, h => by
    simp only [hasSlice, Bool.or_eq_false_iff] at h
    simp only [Ty.flat, Bool.and_eq_true]
    exact ⟨hasSlice_flat h.1, hasSlice_flat h.2⟩
  | .slice _, h => by simp [hasSlice] at h
  | .ref _, h => by simp [hasSlice] at h
  | .fn1 _ _, h => by simp [hasSlice] at h
  | .fn2 _ _ _, h => by simp [hasSlice] at h

/-- no slice within a slice: nothing immutable is needed -/
theorem Own1.closed : ∀ (t : Ty) {w : World} {S I I2 : Nat → Prop} {x : t.den} {vs : List Value}, nested t = false → Own1 P false t w S I x vs → Own1 P false t w S I2 x vs
  | .int _, _, _, _, _, _, _, _, h => h
  | .bool, _, _, _, _, _, _, _, h => h
  | .str, _, _, _, _, _, _, _, h => h
  | .one t, _, _, _, _, _, _, hn, h => Own1.closed t hn h
  | .pair a b, _, _, _, _, _, _, hn, ⟨us, ws, S1, S2, e, h1, h2, hd, k1, k2⟩ => by
    simp only [nested, Bool.or_eq_false_iff] at hn
    exact ⟨us, ws, S1, S2, e, h1, h2, hd, Own1.closed a hn.1 k1, Own1.closed b hn.2 k2⟩
  | .slice t, _, _, _, _, _, _, hn, ⟨A, cap, e, hl, h⟩ => ⟨A, cap, e, hl, h.imp id fun ⟨b, off, c, el, fz, Sf, hA, hb, hh, hs, hfz, hsub, hd, hx⟩ =>
      ⟨b, off, c, el, fz, Sf, hA, hb, hh, hs, hfz, hsub, hd, fun i hi => Rep.flat t (hasSlice_flat (by simpa [nested] using hn)) (hx i hi)⟩⟩
  | .ref _, _, _, _, _, _, _, _, h => h.elim
  | .fn1 _ _, _, _, _, _, _, _, _, h => h.elim
  | .fn2 _ _ _, _, _, _, _, _, _, _, h => h.elim

/-! ### the contract -/
def tupV : List Value → Value
  | [v] => v
  | vs => .tuple vs.toArray

structure Split (S S1 S2 : Nat → Prop) : Prop where
  left : ∀ b, S1 b → S b
  right : ∀ b, S2 b → S b
  apart : ∀ b, S1 b → S2 b → False

def BoxRel (P : Program) (w : World) (S I : Nat → Prop) (t : Ty) (d : Dyn) (v : Value) : Prop :=
  ∃ x b c e, d = ⟨t, x⟩ ∧ v = .pointer (some ⟨b, 0, none⟩) ∧ S b ∧ w.heap[b]? = some (.cells c e (0, 0)) ∧ Rep P t w I x c.toList

def ArgRel (P : Program) (w : World) (S I : Nat → Prop) : PM → Dyn → Value → Prop
  | .imm t, d, v => ∃ x, d = ⟨t, x⟩ ∧ vrep t.isAgg (Rep P t w I x) v
  | .io t, d, v => ∃ x, d = ⟨t, x⟩ ∧ vrep t.isAgg (Own1 P true t w S I x) v
  | .mv t, d, v => ∃ x, d = ⟨t, x⟩ ∧ vrep t.isAgg (Own1 P true t w S I x) v
  | .iop t, d, v => BoxRel P w S I t d v

def ArgsRel (P : Program) (w : World) (I : Nat → Prop) : (S : Nat → Prop) → List PM → List Dyn → List Value → Prop
  | _, [], [], [] => True
  | S, p :: ps, d :: ds, v :: vs => ∃ S1 S2, Split S S1 S2 ∧ ArgRel P w S1 I p d v ∧ ArgsRel P w I S2 ps ds vs
  | _, _, _, _ => False

/-- dm: what is deep is deep for the caller, too -/
def OutRel (P : Program) (dm : Bool) (w : World) (S I : Nat → Prop) : Ty × Own → Dyn → Value → Prop
  | (t, .imm), d, v => ∃ x, d = ⟨t, x⟩ ∧ vrep t.isAgg (Rep P t w I x) v
  | (t, .flat), d, v => ∃ x, d = ⟨t, x⟩ ∧ vrep t.isAgg (Own1 P false t w S I x) v
  | (t, .deep), d, v => ∃ x, d = ⟨t, x⟩ ∧ vrep t.isAgg (Own1 P dm t w S I x) v
  | (t, .box), d, v => BoxRel P w S I t d v

def OutsRel (P : Program) (dm : Bool) (w : World) (I : Nat → Prop) : (S : Nat → Prop) → List (Ty × Own) → List Dyn → List Value → Prop
  | _, [], [], [] => True
  | S, o :: os, d :: ds, v :: vs => ∃ S1 S2, Split S S1 S2 ∧ OutRel P dm w S1 I o d v ∧ OutsRel P dm w I S2 os ds vs
  | _, _, _, _ => False

def SlRel (P : Program) (w : World) : (S : Nat → Prop) → List Ty → List Value → List Dyn → Prop
  | _, [], [], [] => True
  | S, .slice t :: ts, v :: vs, d :: ds => ∃ S1 S2 xs, Split S S1 S2 ∧ d = ⟨.slice t, xs⟩ ∧ Own1 P true (.slice t) w S1 (fun _ => False) xs [v] ∧ SlRel P w S2 ts vs ds
  | _, _, _, _ => False

def BacksRel (P : Program) (w : World) (I : Nat → Prop) : (S : Nat → Prop) → List PM → List Value → List Dyn → Prop
  | _, [], [], [] => True
  | S, .imm _ :: ps, _ :: vs, ds => BacksRel P w I S ps vs ds
  | S, .mv _ :: ps, _ :: vs, ds => BacksRel P w I S ps vs ds
  | S, .io t :: ps, v :: vs, ds => ∃ S1 S2 ds1 ds2, Split S S1 S2 ∧ ds = ds1 ++ ds2 ∧ SlRel P w S1 (sliceTys t) (v.cells.toList.filter isSl) ds1 ∧ BacksRel P w I S2 ps vs ds2
  | S, .iop t :: ps, v :: vs, d :: ds => ∃ S1 S2, Split S S1 S2 ∧ BoxRel P w S1 I t d v ∧ BacksRel P w I S2 ps vs ds
  | _, _, _, _ => False

def Sig.imms (s : Sig) : List (Ty × Own) := s.outs.map fun x => (x.1, Own.imm)
def Sig.outsOf (s : Sig) (rs : List Dyn) : List (Ty × Own) := match s.flag with
  | none => s.outs
  | some k => match nth ⟨.int .i64, (0 : Int)⟩ rs k with
    | ⟨.bool, true⟩ => s.outs
    | _ => s.imms

structure Post (P : Program) (s : Sig) (w : World) (I S : Nat → Prop) (args : List Value) (rs : List Dyn) (w' : World) (vs : List Value) (S1 S2 I' : Nat → Prop) : Prop where
  outs : OutsRel P true w' I' S1 (s.outsOf rs) (rs.take s.outs.length) vs
  backs : BacksRel P w' I' S2 s.ins args (rs.drop s.outs.length)
  apart : ∀ b, S1 b → S2 b → False
  imm1 : ∀ b, S1 b → I' b → False
  imm2 : ∀ b, S2 b → I' b → False
  keep : ∀ b, I b → I' b
  immOld : ∀ b, b < w.heap.size → I' b → I b ∨ S b
  old1 : ∀ b, b < w.heap.size → S1 b → S b
  old2 : ∀ b, b < w.heap.size → S2 b → S b
  new1 : ∀ b, S1 b → b < w'.heap.size
  new2 : ∀ b, S2 b → b < w'.heap.size
  newI : ∀ b, I' b → b < w'.heap.size
  keeps : Keeps w w'
  same : ∀ b, b < w.heap.size → ¬ S b → w'.heap[b]? = w.heap[b]?

def FnOk (P : Program) (f : Nat) (s : FnSum) : Prop := Callable P f ∧ ∀ (w : World) (I S : Nat → Prop) (args : List Value) (p : DenP s.sig.inTys) (q : DenP s.sig.outTys),
  ArgsRel P w I S s.sig.ins (unpack _ p) args → (∀ b, I b → b < w.heap.size) → (∀ b, S b → b < w.heap.size) → (∀ b, I b → S b → False) → s.f p = some q →
  Calls P f args.toArray w fun e w' => ∃ vs S1 S2 I', e = .returned (tupV vs) ∧ Post P s.sig w I S args (unpack _ q) w' vs S1 S2 I'

def CfgOk (P : Program) (C : Cfg) : Prop := ∀ f s, C.fn f = some s → FnOk P f s

theorem RegRel.own1 {t : Ty} {xs : List t.den} {d : Bool} : RegRel P w g id (.arr t xs d) ↔ Own1 P d (.slice t) w (g.mine id) g.imm xs [g.ν id] := by
  unfold RegRel Own1
  constructor
  · rintro ⟨A, cap, e, hl, h⟩
    refine ⟨A, cap, by rw [e], hl, h.imp _root_.id ?_⟩
    rintro ⟨b, off, c, el, fz, Sf, k1, k2, k3, k4, k5, k6, k7, k8⟩
    exact ⟨b, off, c, el, fz, Sf, k1, k2, k3, k4, k5, k6, k7, fun i hi => by cases d <;> exact k8 i hi⟩
  · rintro ⟨A, cap, e, hl, h⟩
    refine ⟨A, cap, (List.cons.inj e).1, hl, h.imp _root_.id ?_⟩
    rintro ⟨b, off, c, el, fz, Sf, k1, k2, k3, k4, k5, k6, k7, k8⟩
    exact ⟨b, off, c, el, fz, Sf, k1, k2, k3, k4, k5, k6, k7, fun i hi => by cases d <;> exact k8 i hi⟩

/-! ### what comes in -/
theorem Own1.okV {d : Bool} {t : Ty} {S I : Nat → Prop} {xs : List t.den} {v : Value} (h : Own1 P d (.slice t) w S I xs [v]) : VE.okV v = true := by
  obtain ⟨A, cap, e, hl, h⟩ := h
  obtain rfl := (List.cons.inj e).1
  rcases h with h | ⟨b, off, c, el, fz, Sf, rfl, _⟩
  · have h0 : List.length xs = 0 := by omega
    rw [h0]; cases A <;> simp [VE.okV]
  · simp [VE.okV]

theorem Own1.flatter {d : Bool} {t : Ty} {S I : Nat → Prop} {xs : List t.den} {vs : List Value} (h : Own1 P d (.slice t) w S I xs vs) : Own1 P (d || t.flat) (.slice t) w S I xs vs := by
  cases d with
  | true => exact h
  | false =>
    cases ht : t.flat with
    | false => exact h
    | true =>
      obtain ⟨A, cap, e, hl, h⟩ := h
      refine ⟨A, cap, e, hl, h.imp _root_.id ?_⟩
      rintro ⟨b, off, c, el, fz, Sf, k1, k2, k3, k4, k5, k6, k7, k8⟩
      exact ⟨b, off, c, el, fz, Sf, k1, k2, k3, k4, k5, k6, k7, fun i hi => Own'.of_flat t ht (k8 i hi)⟩

theorem imm_not {T : Nat → Prop} {b : Nat} (hT : ∀ b, T b → g.O b = .other) (hb : g.imm b) : ¬ T b := fun ht => by
  have h := hT b ht
  rw [show g.O b = .imm from hb] at h; cases h

open Classical in
/-- blocks that belonged to nobody -/
noncomputable def Gh.give (g : Gh) (T : Nat → Prop) (id : Nat) (u : Value) : Gh := ⟨fun b => if T b then .mine id else g.O b, upd g.ν id u⟩
theorem give_new {T : Nat → Prop} {u : Value} {b : Nat} (h : T b) : (g.give T id u).O b = .mine id := by simp [Gh.give, h]
theorem give_old {T : Nat → Prop} {u : Value} {b : Nat} (h : ¬ T b) : (g.give T id u).O b = g.O b := by simp [Gh.give, h]

/-- memory that belonged to nobody is a region's now -/
theorem Sim.give (S : Sim P w g D env R V) {T : Nat → Prop} {u : Value} (hT : ∀ b, T b → g.O b = .other) (hlt : ∀ b, T b → b < w.heap.size) (hu : VE.okV u = true) (hid : ¬ D id) :
    Sim P w (g.give T id u) (fun i => D i ∨ i = id) env R V := by
  refine S.move (fun b hb => ⟨rfl, ?_⟩) (fun i hi => upd_ne _ _ (fun e => hid (e ▸ hi))) (fun i hi => .inl hi) (fun i b _ hb => ⟨rfl, ?_⟩) ?_ ?_ ?_
  · exact (give_old (imm_not hT hb)).trans hb
  · exact (give_old (fun ht => by rw [hT b ht] at hb; cases hb)).trans hb
  · rintro i (hi | rfl)
    · show VE.okV (upd g.ν id u i) = true
      rw [upd_ne _ _ (fun e => hid (by rw [← e]; exact hi))]; exact S.nu i hi
    · show VE.okV (upd g.ν _ u _) = true
      rw [upd_same]; exact hu
  · intro b hb
    rw [give_old (fun ht => absurd (hlt b ht) (by omega))]; exact S.fresh b hb
  · intro b i hb
    by_cases ht : T b
    · rw [give_new ht] at hb; cases hb; exact .inr rfl
    · rw [give_old ht] at hb; exact .inl (S.mine b i hb)

theorem give_mono {T : Nat → Prop} {u : Value} (hT : ∀ b, T b → g.O b = .other) (hid : ¬ D id) : Ext w w g.imm (g.give T id u).imm ∧ ∀ i, D i → (g.give T id u).ν i = g.ν i :=
  ⟨fun b hb => ⟨rfl, (give_old (imm_not hT hb)).trans hb⟩, fun i hi => upd_ne _ _ (fun e => hid (e ▸ hi))⟩

theorem Sim.giveArr (S : Sim P w g D env R V) {T I : Nat → Prop} {t : Ty} {xs : List t.den} {d : Bool} {u : Value} (hT : ∀ b, T b → g.O b = .other) (hlt : ∀ b, T b → b < w.heap.size) (hI : ∀ b, I b → g.imm b) (hid : ¬ D id)
    (h : Own1 P d (.slice t) w T I xs [u]) : Sim P w (g.give T id u) (fun i => D i ∨ i = id) env (upd R id (some (.arr t xs d))) V := by
  refine (S.give hT hlt h.okV hid).insert ?_ (.inr rfl) trivial
  rw [RegRel.own1]
  have : (g.give T id u).ν id = u := upd_same _ _ _
  rw [this]
  exact h.mono (.slice t) (fun b hb => ⟨rfl, give_new hb⟩) (fun b hb => ⟨rfl, ((give_mono (w := w) hT hid).1 b (hI b hb)).2⟩)

theorem Sim.giveBox (S : Sim P w g D env R V) {T I : Nat → Prop} {t : Ty} {x : t.den} {b : Nat} {c : Array Value} {e : TypeId} (hT : ∀ b, T b → g.O b = .other) (hlt : ∀ b, T b → b < w.heap.size) (hI : ∀ b, I b → g.imm b) (hid : ¬ D id)
    (hb : T b) (hc : w.heap[b]? = some (.cells c e (0, 0))) (h : Rep P t w I x c.toList) :
    Sim P w (g.give T id (.pointer (some ⟨b, 0, none⟩))) (fun i => D i ∨ i = id) env (upd R id (some (.box (expl t x)))) V := by
  refine (S.give hT hlt rfl hid).insert ⟨b, c, e, upd_same _ _ _, give_new hb, hc, ?_⟩ (.inr rfl) (expl_in _ t x)
  refine expl_rel t (Rep.mono t (fun b hb => ⟨rfl, ?_⟩) h)
  exact ((give_mono (w := w) hT hid).1 b (hI b hb)).2
end Go.VE
/- What a call gives back. -/
namespace Go.VE
variable {P : Program} {w w' : World} {g g' : Gh} {D D' : Nat → Prop} {env : Env} {R R1 R' : Regs} {gv : Nat → Value} {a : Act} {C : Cfg} {dm : Bool} {o : Oper} {id : Nat} {v : AV} {V : Nat → Value}

theorem ownCells_app {d : Bool} : ∀ (xs ys : List Cell) (id : Nat) (R : Regs), ownCells d id R (app xs ys) =
    (app (ownCells d id R xs).1 (ownCells d (ownCells d id R xs).2.2 (ownCells d id R xs).2.1 ys).1, (ownCells d (ownCells d id R xs).2.2 (ownCells d id R xs).2.1 ys).2)
  | [], _, _, _ => rfl
  | c :: xs, ys, id, R => by
    have key : ∀ {id' : Nat} {R' : Regs} {c' : Cell}, (∀ zs, ownCells d id R (c :: zs) = (c' :: (ownCells d id' R' zs).1, (ownCells d id' R' zs).2)) → ownCells d id R (app (c :: xs) ys) =
        (app (ownCells d id R (c :: xs)).1 (ownCells d (ownCells d id R (c :: xs)).2.2 (ownCells d id R (c :: xs)).2.1 ys).1, (ownCells d (ownCells d id R (c :: xs)).2.2 (ownCells d id R (c :: xs)).2.1 ys).2) := by
      intro id' R' c' h
      show ownCells d id R (c :: app xs ys) = _
      rw [h, h, ownCells_app xs ys id' R']
      rfl
    cases c with
    | val t x => cases t <;> exact key (fun zs => rfl)
    | _ => exact key (fun zs => rfl)

theorem Grow.then {D1 D2 D3 : Nat → Prop} {id m n k : Nat} (h : Grow D1 D2 id m) (h' : Grow D2 D3 (id + m) n) (hk : m + n ≤ k) : Grow D1 D3 id k :=
  ⟨fun i hi => h'.old i (h.old i hi), fun i hi => by
    rcases h'.new i hi with hi | hi
    · exact (h.new i hi).imp _root_.id (fun e => by omega)
    · right; omega⟩
theorem Grow.zero (D : Nat → Prop) (id n : Nat) : Grow D D id n := Grow.refl D id n

theorem give_cells {I : Nat → Prop} {d : Bool} : ∀ (t : Ty) {x : t.den} {us : List Value} {T : Nat → Prop} {g : Gh} {D : Nat → Prop} {R : Regs} {id : Nat}, Own1 P d t w T I x us → Sim P w g D env R V →
    (∀ b, T b → g.O b = .other) → (∀ b, T b → b < w.heap.size) → (∀ b, I b → g.imm b) → (∀ i, id ≤ i → i < id + sliceCells t → ¬ D i) →
    ∃ g' D', Sim P w g' D' env (ownCells d id R (expl t x)).2.1 V ∧ PW (CellRel P w g') (ownCells d id R (expl t x)).1 us ∧ (∀ c ∈ (ownCells d id R (expl t x)).1, c.In D') ∧ Grow D D' id (sliceCells t) ∧
      (ownCells d id R (expl t x)).2.2 = id + sliceCells t ∧ (∀ b, ¬ T b → g'.O b = g.O b) ∧ (∀ b, T b → g.O b = .other) ∧ ∀ i, D i → g'.ν i = g.ν i
  | .int k, x, us, T, g, D, R, id, h, S, hT, _, _, _ => ⟨g, D, S, by simp only [Own1] at h; subst h; exact ⟨by simp [CellRel, Rep], trivial⟩, by simp [expl, ownCells, Cell.In], Grow.refl _ _ _, rfl, fun _ _ => rfl, hT, fun _ _ => rfl⟩
  | .bool, x, us, T, g, D, R, id, h, S, hT, _, _, _ => ⟨g, D, S, by simp only [Own1] at h; subst h; exact ⟨by simp [CellRel, Rep], trivial⟩, by simp [expl, ownCells, Cell.In], Grow.refl _ _ _, rfl, fun _ _ => rfl, hT, fun _ _ => rfl⟩
  | .str, x, us, T, g, D, R, id, h, S, hT, _, _, _ => ⟨g, D, S, by simp only [Own1] at h; subst h; exact ⟨by simp [CellRel, Rep], trivial⟩, by simp [expl, ownCells, Cell.In], Grow.refl _ _ _, rfl, fun _ _ => rfl, hT, fun _ _ => rfl⟩
  | .one t, x, us, T, g, D, R, id, h, S, hT, hl, hI, hf => give_cells t h S hT hl hI hf
  | .slice t, xs, us, T, g, D, R, id, h, S, hT, hl, hI, hf => by
    have h' := h
    obtain ⟨A, cap, e, _⟩ := h'
    subst e
    have hid : ¬ D id := hf id (Nat.le_refl _) (by simp [sliceCells])
    refine ⟨_, _, S.giveArr hT hl hI hid h.flatter, ⟨?_, trivial⟩, ?_, Grow.one D id _ (by simp [sliceCells]), rfl, fun b hb => give_old hb, hT, (give_mono (w := w) hT hid).2⟩
    · simp only [CellRel]; exact (upd_same _ _ _).symm
    · intro c hc
      have hc : c ∈ [Cell.own id] := hc
      rw [List.mem_singleton] at hc
      subst hc
      simp [Cell.In]
  | .pair a b, x, us, T, g, D, R, id, h, S, hT, hl, hI, hf => by
    obtain ⟨us, ws, S1, S2, rfl, h1, h2, hd, k1, k2⟩ := h
    have ha : sliceCells (.pair a b) = sliceCells a + sliceCells b := rfl
    obtain ⟨g1, D1, m1, m2, m3, m4, m5, m6, m7, m8⟩ := give_cells a (id := id) (R := R) k1 S (fun b hb => hT b (h1 b hb)) (fun b hb => hl b (h1 b hb)) hI (fun i hi hlt => hf i hi (by omega))
    have hO : ∀ b, S2 b → g1.O b = .other := fun b hb => (m6 b (fun hb1 => hd b hb1 hb)).trans (hT b (h2 b hb))
    have hI1 : ∀ b, g.imm b → g1.imm b := fun b hb => (m6 b (fun hb1 => by have := m7 b hb1; rw [show g.O b = .imm from hb] at this; cases this)).trans hb
    obtain ⟨g2, D2, n1, n2, n3, n4, n5, n6, n7, n8⟩ := give_cells b (id := id + sliceCells a) (R := (ownCells d id R (expl a x.1)).2.1) k2 m1 hO (fun b hb => hl b (h2 b hb)) (fun b hb => hI1 b (hI b hb)) (fun i hi hlt hD => by
      rcases m4.new i hD with h | h
      · exact hf i (by omega) (by omega) h
      · omega)
    have e : ownCells d id R (expl (.pair a b) x) = (app (ownCells d id R (expl a x.1)).1 (ownCells d (id + sliceCells a) (ownCells d id R (expl a x.1)).2.1 (expl b x.2)).1, (ownCells d (id + sliceCells a) (ownCells d id R (expl a x.1)).2.1 (expl b x.2)).2) := by
      rw [show expl (.pair a b) x = app (expl a x.1) (expl b x.2) from rfl, ownCells_app, m5]
    rw [e]
    have hE : Ext w w g1.imm g2.imm := fun b hb => ⟨rfl, (n6 b (fun hb1 => by have := hO b hb1; rw [show g1.O b = .imm from hb] at this; cases this)).trans hb⟩
    refine ⟨g2, D2, n1, PW.app (cells_mono hE n8 m3 m2) n2, ?_, m4.then n4 (by omega), by rw [n5]; omega, fun b hb => (n6 b (fun h => hb (h2 b h))).trans (m6 b (fun h => hb (h1 b h))), hT, fun i hi => (n8 i (m4.old i hi)).trans (m8 i hi)⟩
    intro c hc
    rw [app_eq, List.mem_append] at hc
    rcases hc with hc | hc
    · exact Cell.In.mono n4.old (m3 c hc)
    · exact n3 c hc
  | .ref _, _, _, _, _, _, _, _, h, _, _, _, _, _ => h.elim
  | .fn1 _ _, _, _, _, _, _, _, _, h, _, _, _, _, _ => h.elim
  | .fn2 _ _ _, _, _, _, _, _, _, _, h, _, _, _, _, _ => h.elim

theorem of_rel' {t : Ty} {cs : List Cell} {I : List Value → Prop} {v : Value} (h : vrep t.isAgg I v) (hr : ∀ us, I us → PW (CellRel P w g) cs us) : AVRel P w g (ofCells t cs) v := by
  unfold ofCells
  cases ht : t.isAgg with
  | true => rw [ht] at h; obtain ⟨us, rfl, h⟩ := h; simp only [cond_true, AVRel]; exact ⟨_, rfl, hr _ h⟩
  | false =>
    rw [ht] at h
    have := hr _ h
    simp only [cond_false, AVRel]
    match cs, this with
    | [], h => exact h.elim
    | [x], h => exact h.1
    | _ :: _ :: _, h => exact h.2.elim
theorem of_in' {t : Ty} {cs : List Cell} (h : ∀ c ∈ cs, c.In D) : (ofCells t cs).In D := by
  unfold ofCells
  cases t.isAgg with
  | true => simp only [cond_true, AV.In]; exact h
  | false =>
    simp only [cond_false, AV.In]
    match cs with
    | [] => simp [one?, Cell.In]
    | [x] => exact h x (by simp)
    | _ :: _ :: _ => simp [one?, Cell.In]

def widthOuts (os : List (Ty × Own)) : Nat := os.foldr (fun x n => (match x.2 with | .imm => 0 | .box => 1 | _ => sliceCells x.1) + n) 0

theorem give_own {I : Nat → Prop} {d : Bool} {t : Ty} {x : t.den} {v : Value} {T : Nat → Prop} {id n : Nat} (h : vrep t.isAgg (Own1 P d t w T I x) v) (S : Sim P w g D env R V)
    (hT : ∀ b, T b → g.O b = .other) (hl : ∀ b, T b → b < w.heap.size) (hI : ∀ b, I b → g.imm b) (hf : ∀ i, id ≤ i → i < id + sliceCells t → ¬ D i) :
    ∃ g' D', Sim P w g' D' env (ownCells d id R (expl t x)).2.1 V ∧ AVRel P w g' (ofCells t (ownCells d id R (expl t x)).1) v ∧ (ofCells t (ownCells d id R (expl t x)).1).In D' ∧ Grow D D' id (sliceCells t) ∧
      (ownCells d id R (expl t x)).2.2 = id + sliceCells t ∧ (∀ b, ¬ T b → g'.O b = g.O b) ∧ ∀ i, D i → g'.ν i = g.ν i := by
  have hex : ∃ us, Own1 P d t w T I x us ∧ (match t.isAgg with | true => v = .agg us.toArray | false => us = [v]) := by
    cases ht : t.isAgg with
    | true => rw [ht] at h; obtain ⟨us, rfl, h⟩ := h; exact ⟨us.toList, h, by simp⟩
    | false => rw [ht] at h; exact ⟨[v], h, rfl⟩
  obtain ⟨us, hus, hv⟩ := hex
  obtain ⟨g1, D1, m1, m2, m3, m4, m5, m6, m7, m8⟩ := give_cells t (id := id) (R := R) hus S hT hl hI hf
  refine ⟨g1, D1, m1, ?_, of_in' m3, m4, m5, m6, m8⟩
  have : vrep t.isAgg (fun l => l = us) v := by
    unfold vrep
    cases ht : t.isAgg with
    | true => rw [ht] at hv; exact ⟨us.toArray, hv, by simp⟩
    | false => rw [ht] at hv; exact hv.symm
  exact of_rel' this (fun l hl => by rw [hl]; exact m2)

theorem give_outs {I : Nat → Prop} : ∀ {os : List (Ty × Own)} {ds : List Dyn} {vs : List Value} {T : Nat → Prop} {g : Gh} {D : Nat → Prop} {R : Regs} {id : Nat}, OutsRel P dm w I T os ds vs → Sim P w g D env R V →
    (∀ b, T b → g.O b = .other) → (∀ b, T b → b < w.heap.size) → (∀ b, I b → g.imm b) → (∀ i, id ≤ i → i < id + widthOuts os → ¬ D i) →
    ∃ g' D', Sim P w g' D' env (resAV dm id R os ds).2 V ∧ AVsRel P w g' (resAV dm id R os ds).1 vs ∧ AVs.In D' (resAV dm id R os ds).1 ∧ Grow D D' id (widthOuts os) ∧ (∀ b, ¬ T b → g'.O b = g.O b) ∧ ∀ i, D i → g'.ν i = g.ν i
  | [], [], [], T, g, D, R, id, _, S, _, _, _, _ => ⟨g, D, S, by simp [resAV, AVsRel], by simp [resAV, AVs.In], Grow.refl _ _ _, fun _ _ => rfl, fun _ _ => rfl⟩
  | (t, m) :: os, d :: ds, v :: vs, T, g, D, R, id, h, S, hT, hl, hI, hf => by
    obtain ⟨S1, S2, hS, h1, h2⟩ := h
    have rest : ∀ {g1 : Gh} {D1 : Nat → Prop} {R1 : Regs} {k id1 : Nat} {x : AV}, Sim P w g1 D1 env R1 V → AVRel P w g1 x v → x.In D1 → Grow D D1 id k → id1 = id + k → widthOuts ((t, m) :: os) = k + widthOuts os →
        (∀ b, ¬ S1 b → g1.O b = g.O b) → (∀ i, D i → g1.ν i = g.ν i) → resAV dm id R ((t, m) :: os) (d :: ds) = (x :: (resAV dm id1 R1 os ds).1, (resAV dm id1 R1 os ds).2) →
        ∃ g' D', Sim P w g' D' env (resAV dm id R ((t, m) :: os) (d :: ds)).2 V ∧ AVsRel P w g' (resAV dm id R ((t, m) :: os) (d :: ds)).1 (v :: vs) ∧ AVs.In D' (resAV dm id R ((t, m) :: os) (d :: ds)).1 ∧
          Grow D D' id (widthOuts ((t, m) :: os)) ∧ (∀ b, ¬ T b → g'.O b = g.O b) ∧ ∀ i, D i → g'.ν i = g.ν i := by
      intro g1 D1 R1 k id1 x m1 m2 m3 m4 m5 m6 m7 m8 e
      subst m5
      have hO : ∀ b, S2 b → g1.O b = .other := fun b hb => (m7 b (fun hb1 => hS.apart b hb1 hb)).trans (hT b (hS.right b hb))
      have hI1 : ∀ b, g.imm b → g1.imm b := fun b hb => (m7 b (fun hb1 => by have := hT b (hS.left b hb1); rw [show g.O b = .imm from hb] at this; cases this)).trans hb
      obtain ⟨g2, D2, n1, n2, n3, n4, n5, n6⟩ := give_outs (os := os) (id := id + k) (R := R1) h2 m1 hO (fun b hb => hl b (hS.right b hb)) (fun b hb => hI1 b (hI b hb)) (fun i hi hlt hD => by
        rcases m4.new i hD with h | h
        · exact hf i (by omega) (by omega) h
        · omega)
      rw [e]
      have hE : Ext w w g1.imm g2.imm := fun b hb => ⟨rfl, (n5 b (fun hb1 => by have := hO b hb1; rw [show g1.O b = .imm from hb] at this; cases this)).trans hb⟩
      exact ⟨g2, D2, n1, ⟨AVRel.mono hE n6 m3 m2, n2⟩, ⟨AV.In.mono n4.old m3, n3⟩, by rw [m6]; exact m4.then n4 (Nat.le_refl _), fun b hb => (n5 b (fun h => hb (hS.right b h))).trans (m7 b (fun h => hb (hS.left b h))),
        fun i hi => (n6 i (m4.old i hi)).trans (m8 i hi)⟩
    cases m with
    | imm =>
      obtain ⟨x, rfl, hx⟩ := h1
      have hx : vrep t.isAgg (Rep P t w g.imm x) v := by
        unfold vrep at hx ⊢
        cases ht : t.isAgg <;> rw [ht] at hx
        · exact Rep.mono t (Ext.sub hI) hx
        · obtain ⟨cs, e, hx⟩ := hx; exact ⟨cs, e, Rep.mono t (Ext.sub hI) hx⟩
      exact rest (k := 0) (R1 := R) S (avOf_rel t hx) (avOf_in _ t x) (Grow.refl _ _ _) rfl (by simp [widthOuts]) (fun _ _ => rfl) (fun _ _ => rfl) (by simp [resAV])
    | flat =>
      obtain ⟨x, rfl, hx⟩ := h1
      obtain ⟨g1, D1, m1, m2, m3, m4, m5, m6, m7⟩ := give_own (id := id) (n := 0) hx S (fun b hb => hT b (hS.left b hb)) (fun b hb => hl b (hS.left b hb)) hI (fun i hi hlt => hf i hi (by simp [widthOuts]; omega))
      exact rest m1 m2 m3 m4 m5 (by simp [widthOuts]) m6 m7 (by simp [resAV])
    | deep =>
      obtain ⟨x, rfl, hx⟩ := h1
      obtain ⟨g1, D1, m1, m2, m3, m4, m5, m6, m7⟩ := give_own (id := id) (n := 0) hx S (fun b hb => hT b (hS.left b hb)) (fun b hb => hl b (hS.left b hb)) hI (fun i hi hlt => hf i hi (by simp [widthOuts]; omega))
      exact rest m1 m2 m3 m4 m5 (by simp [widthOuts]) m6 m7 (by simp [resAV])
    | box =>
      obtain ⟨x, b, c, e, rfl, rfl, hb, hc, hx⟩ := h1
      have hid : ¬ D id := hf id (Nat.le_refl _) (by simp [widthOuts]; omega)
      have hT1 : ∀ b, S1 b → g.O b = .other := fun b hb => hT b (hS.left b hb)
      refine rest (k := 1) (id1 := id + 1) (x := .c (.ptr id 0 t.cells 0)) (S.giveBox hT1 (fun b hb => hl b (hS.left b hb)) hI hid hb hc hx) ?_ ?_ (Grow.one D id 1 (by omega)) rfl (by simp [widthOuts]) (fun b hb => give_old hb) (give_mono (w := w) hT1 hid).2 (by simp [resAV])
      · simp only [AVRel, CellRel, Gh.give, upd_same, ptrTo, isSl, add_none]
        simp
      · simp [AV.In, Cell.In]
  | [], _ :: _, _, _, _, _, _, _, h, _, _, _, _, _ => by cases h
  | [], [], _ :: _, _, _, _, _, _, h, _, _, _, _, _ => by cases h
  | _ :: _, [], _, _, _, _, _, _, h, _, _, _, _, _ => by cases h
  | _ :: _, _ :: _, [], _, _, _, _, _, h, _, _, _, _, _ => by cases h

/-! ### what was handed over -/
theorem ioSet_at : ∀ (cs : List Cell) (ds : List Dyn) (R R' : Regs) (i : Nat), R i = R' i → (ioSet cs ds R).1 i = (ioSet cs ds R').1 i
  | [], _, _, _, _, h => h
  | c :: cs, ds, R, R', i, h => by
    cases c with
    | own id =>
      cases ds with
      | nil => exact ioSet_at cs _ R R' i h
      | cons d ds =>
        obtain ⟨t, x⟩ := d
        cases t with
        | slice t =>
          refine ioSet_at cs ds _ _ i ?_
          by_cases e : i = id
          · subst e; rw [upd_same, upd_same]
          · rw [upd_ne _ _ e, upd_ne _ _ e]; exact h
        | _ => exact ioSet_at cs _ R R' i h
    | _ => exact ioSet_at cs _ R R' i h
end Go.VE
/- What a call gives back of what was handed over; what is lent. -/
namespace Go.VE
variable {P : Program} {w w' : World} {g g' : Gh} {D D' : Nat → Prop} {env : Env} {R R1 R' : Regs} {gv : Nat → Value} {a : Act} {C : Cfg} {dm : Bool} {o : Oper} {id : Nat} {v : AV} {V : Nat → Value}

def ownIds (cs : List Cell) : List Nat := cs.flatMap fun c => match c with
  | .own j => [j]
  | _ => []

/-! ### pointwise -/
theorem kill_at : ∀ (cs : List Cell) (R R' : Regs) (i : Nat), R i = R' i → kill cs R i = kill cs R' i
  | [], _, _, _, h => h
  | c :: cs, R, R', i, h => by
    cases c with
    | own id =>
      refine kill_at cs _ _ i ?_
      by_cases e : i = id
      · subst e; rw [upd_same, upd_same]
      · rw [upd_ne _ _ e, upd_ne _ _ e]; exact h
    | _ => exact kill_at cs R R' i h
theorem kill_in : ∀ (cs : List Cell) (R : Regs) (i : Nat), i ∈ ownIds cs → kill cs R i = none
  | [], _, _, h => by simp [ownIds] at h
  | c :: cs, R, i, h => by
    have hrest : i ∈ ownIds cs → ∀ R, kill cs R i = none := fun h R => kill_in cs R i h
    have hlast : ∀ R : Regs, R i = none → kill cs R i = none := by
      intro R hR
      clear h hrest
      induction cs generalizing R with
      | nil => exact hR
      | cons c cs ih =>
        cases c with
        | own id =>
          refine ih _ ?_
          by_cases e : i = id
          · subst e; exact upd_same _ _ _
          · rw [upd_ne _ _ e]; exact hR
        | _ => exact ih R hR
    cases c with
    | own id =>
      simp only [ownIds, List.flatMap_cons, List.mem_append, List.mem_singleton] at h
      rcases h with h | h
      · subst h; exact hlast _ (upd_same _ _ _)
      · exact hrest h _
    | _ => exact hrest (by simpa [ownIds] using h) _
theorem kill_not : ∀ (cs : List Cell) (R : Regs) (i : Nat), i ∉ ownIds cs → kill cs R i = R i
  | [], _, _, _ => rfl
  | c :: cs, R, i, h => by
    cases c with
    | own id =>
      simp only [ownIds, List.flatMap_cons, List.mem_append, List.mem_singleton, not_or] at h
      exact (kill_not cs _ i h.2).trans (upd_ne _ _ h.1)
    | _ => exact kill_not cs R i (by simpa [ownIds] using h)
theorem ioSet_not : ∀ (cs : List Cell) (ds : List Dyn) (R : Regs) (i : Nat), i ∉ ownIds cs → (ioSet cs ds R).1 i = R i
  | [], _, _, _, _ => rfl
  | c :: cs, ds, R, i, h => by
    cases c with
    | own id =>
      simp only [ownIds, List.flatMap_cons, List.mem_append, List.mem_singleton, not_or] at h
      cases ds with
      | nil => exact ioSet_not cs _ R i h.2
      | cons d ds =>
        obtain ⟨t, x⟩ := d
        cases t with
        | slice t => exact (ioSet_not cs ds _ i h.2).trans (upd_ne _ _ h.1)
        | _ => exact ioSet_not cs _ R i h.2
    | _ => exact ioSet_not cs ds R i (by simpa [ownIds] using h)
theorem ioSet_snd : ∀ (cs : List Cell) (ds : List Dyn) (R R' : Regs), (ioSet cs ds R).2 = (ioSet cs ds R').2
  | [], _, _, _ => rfl
  | c :: cs, ds, R, R' => by
    cases c with
    | own id =>
      cases ds with
      | nil => exact ioSet_snd cs _ R R'
      | cons d ds =>
        obtain ⟨t, x⟩ := d
        cases t with
        | slice t => exact ioSet_snd cs ds _ _
        | _ => exact ioSet_snd cs _ R R'
    | _ => exact ioSet_snd cs ds R R'

def ptrIds (cs : List Cell) : List Nat := cs.flatMap fun c => match c with
  | .ptr j _ _ _ => [j]
  | _ => []
theorem ioIds_io {t : Ty} {ps : List PM} {v : AV} {vs : List AV} : ioIds (.io t :: ps) (v :: vs) = ownIds v.cells ++ ioIds ps vs := by rw [ioIds, app_eq]; rfl
theorem ioIds_mv {t : Ty} {ps : List PM} {v : AV} {vs : List AV} : ioIds (.mv t :: ps) (v :: vs) = ownIds v.cells ++ ioIds ps vs := by rw [ioIds, app_eq]; rfl
theorem ioIds_iop {t : Ty} {ps : List PM} {v : AV} {vs : List AV} : ioIds (.iop t :: ps) (v :: vs) = ptrIds v.cells ++ ioIds ps vs := by rw [ioIds, app_eq]; rfl
theorem ioIds_imm {t : Ty} {ps : List PM} {v : AV} {vs : List AV} : ioIds (.imm t :: ps) (v :: vs) = ioIds ps vs := by rw [ioIds] <;> simp

theorem ioBack_not : ∀ (ps : List PM) (vs : List AV) (ds : List Dyn) (R : Regs) (i : Nat), i ∉ ioIds ps vs → ioBack ps vs ds R i = R i
  | [], _, _, _, _, _ => by simp [ioBack]
  | p :: ps, [], _, _, _, _ => by cases p <;> simp [ioBack]
  | .imm t :: ps, v :: vs, ds, R, i, h => by
    rw [ioIds_imm] at h
    rw [ioBack]; exact ioBack_not ps vs ds R i h
  | .mv t :: ps, v :: vs, ds, R, i, h => by
    rw [ioIds_mv, List.mem_append, not_or] at h
    rw [ioBack, ioBack_not ps vs ds _ i h.2, kill_not _ _ _ h.1]
  | .io t :: ps, v :: vs, ds, R, i, h => by
    rw [ioIds_io, List.mem_append, not_or] at h
    rw [ioBack]
    show ioBack ps vs (ioSet v.cells ds R).2 (ioSet v.cells ds R).1 i = _
    rw [ioBack_not ps vs _ _ i h.2, ioSet_not _ _ _ _ h.1]
  | .iop t :: ps, v :: vs, ds, R, i, h => by
    rw [ioIds_iop, List.mem_append, not_or] at h
    match v, ds, h with
    | .c (.ptr id _ _ _), d :: ds, h =>
      rw [ioBack, ioBack_not ps vs ds _ i h.2]
      exact upd_ne _ _ (fun e => h.1 (by simp [ptrIds, AV.cells, e]))
    | .c (.ptr _ _ _ _), [], _ => simp [ioBack]
    | .c .top, _, _ => simp [ioBack]
    | .c .nil, _, _ => simp [ioBack]
    | .c (.val _ _), _, _ => simp [ioBack]
    | .c (.own _), _, _ => simp [ioBack]
    | .c (.view _ _ _ _), _, _ => simp [ioBack]
    | .c (.func _ _), _, _ => simp [ioBack]
    | .a _, _, _ => simp [ioBack]
    | .t _, _, _ => simp [ioBack]

theorem ioBack_at : ∀ (ps : List PM) (vs : List AV) (ds : List Dyn) (R R' : Regs) (i : Nat), R i = R' i → ioBack ps vs ds R i = ioBack ps vs ds R' i
  | [], _, _, _, _, _, h => by simpa [ioBack] using h
  | p :: ps, [], _, _, _, _, h => by cases p <;> simpa [ioBack] using h
  | .imm t :: ps, v :: vs, ds, R, R', i, h => by
    rw [ioBack, ioBack]; exact ioBack_at ps vs ds R R' i h
  | .mv t :: ps, v :: vs, ds, R, R', i, h => by
    rw [ioBack, ioBack]; exact ioBack_at ps vs ds _ _ i (kill_at _ _ _ _ h)
  | .io t :: ps, v :: vs, ds, R, R', i, h => by
    rw [ioBack, ioBack]
    show ioBack ps vs (ioSet v.cells ds R).2 (ioSet v.cells ds R).1 i = ioBack ps vs (ioSet v.cells ds R').2 (ioSet v.cells ds R').1 i
    rw [ioSet_snd v.cells ds R R']
    exact ioBack_at ps vs _ _ _ i (ioSet_at _ _ _ _ _ h)
  | .iop t :: ps, v :: vs, ds, R, R', i, h => by
    match v, ds with
    | .c (.ptr id _ _ _), d :: ds =>
      rw [ioBack, ioBack]
      refine ioBack_at ps vs ds _ _ i ?_
      by_cases e : i = id
      · subst e; rw [upd_same, upd_same]
      · rw [upd_ne _ _ e, upd_ne _ _ e]; exact h
    | .c (.ptr _ _ _ _), [] => simpa [ioBack] using h
    | .c .top, _ => simpa [ioBack] using h
    | .c .nil, _ => simpa [ioBack] using h
    | .c (.val _ _), _ => simpa [ioBack] using h
    | .c (.own _), _ => simpa [ioBack] using h
    | .c (.view _ _ _ _), _ => simpa [ioBack] using h
    | .c (.func _ _), _ => simpa [ioBack] using h
    | .a _, _ => simpa [ioBack] using h
    | .t _, _ => simpa [ioBack] using h

theorem frzReg_idem (x : Option Reg) : frzReg (frzReg x) = frzReg x := by
  cases x with
  | none => rfl
  | some r => cases r <;> rfl
theorem freeze_at : ∀ (L : List Nat) (R : Regs) (i : Nat), freeze R L i = if i ∈ L then frzReg (R i) else R i
  | [], R, i => by simp [freeze]
  | j :: L, R, i => by
    rw [freeze, freeze_at L]
    by_cases e : i = j
    · subst e
      rw [upd_same, frzReg_idem]; simp
    · rw [upd_ne _ _ e]; simp [e]

/-! ### handed over -/
def HC (g : Gh) (D : Nat → Prop) (c : Cell) (u : Value) : Prop := match c with
  | .own i => u = g.ν i ∧ D i ∧ isSl u = true
  | _ => isSl u = false
def Handed (g : Gh) (D : Nat → Prop) : List PM → List AV → List Value → Prop
  | [], [], [] => True
  | .imm _ :: ps, _ :: vs, _ :: us => Handed g D ps vs us
  | .mv _ :: ps, _ :: vs, _ :: us => Handed g D ps vs us
  | .io _ :: ps, v :: vs, u :: us => PW (HC g D) v.cells u.cells.toList ∧ Handed g D ps vs us
  | .iop _ :: ps, v :: vs, u :: us => (∃ i n sz b, v = .c (.ptr i n sz 0) ∧ u = .pointer (some ⟨b, 0, none⟩) ∧ g.ν i = u ∧ D i) ∧ Handed g D ps vs us
  | _, _, _ => False

open Classical in
noncomputable def Gh.back (g : Gh) (T : Nat → Prop) (id : Nat) : Gh := ⟨fun b => if T b then .mine id else g.O b, g.ν⟩
theorem back_new {T : Nat → Prop} {b : Nat} (h : T b) : (g.back T id).O b = .mine id := by simp [Gh.back, h]
theorem back_old {T : Nat → Prop} {b : Nat} (h : ¬ T b) : (g.back T id).O b = g.O b := by simp [Gh.back, h]
theorem back_ext {T : Nat → Prop} (hT : ∀ b, T b → g.O b = .other) : Ext w w g.imm (g.back T id).imm :=
  fun b hb => ⟨rfl, (back_old (imm_not hT hb)).trans hb⟩
theorem Sim.back (S : Sim P w g D env R V) {T : Nat → Prop} (hT : ∀ b, T b → g.O b = .other) (hlt : ∀ b, T b → b < w.heap.size) (hid : D id) : Sim P w (g.back T id) D env R V := by
  refine S.move (back_ext hT) (fun i hi => rfl) (fun i hi => hi) (fun i b _ hb => ⟨rfl, ?_⟩) S.nu ?_ ?_
  · exact (back_old (fun ht => by rw [hT b ht] at hb; cases hb)).trans hb
  · intro b hb
    rw [back_old (fun ht => absurd (hlt b ht) (by omega))]; exact S.fresh b hb
  · intro b i hb
    by_cases ht : T b
    · rw [back_new ht] at hb; cases hb; exact hid
    · rw [back_old ht] at hb; exact S.mine b i hb
theorem Sim.backArr (S : Sim P w g D env R V) {T I : Nat → Prop} {t : Ty} {xs : List t.den} (hT : ∀ b, T b → g.O b = .other) (hlt : ∀ b, T b → b < w.heap.size) (hid : D id)
    (h : Own1 P true (.slice t) w T I xs [g.ν id]) : Sim P w (g.back T id) D env (upd R id (some (.arr t xs true))) V := by
  refine (S.back hT hlt hid).insert ?_ hid trivial
  rw [RegRel.own1, own1_own]
  exact Own'.mono (.slice t) (fun b hb => ⟨rfl, back_new hb⟩) (own1_own.1 h)
theorem Sim.backBox (S : Sim P w g D env R V) {T I : Nat → Prop} {t : Ty} {x : t.den} {b : Nat} {c : Array Value} {e : TypeId} (hT : ∀ b, T b → g.O b = .other) (hlt : ∀ b, T b → b < w.heap.size) (hI : ∀ b, I b → g.imm b) (hid : D id)
    (hν : g.ν id = .pointer (some ⟨b, 0, none⟩)) (hb : T b) (hc : w.heap[b]? = some (.cells c e (0, 0))) (h : Rep P t w I x c.toList) : Sim P w (g.back T id) D env (upd R id (some (.box (expl t x)))) V := by
  refine (S.back hT hlt hid).insert ⟨b, c, e, hν, back_new hb, hc, ?_⟩ hid (expl_in _ t x)
  exact expl_rel t (Rep.mono t (fun b hb => ⟨rfl, (back_ext (w := w) hT b (hI b hb)).2⟩) h)

theorem back_sl : ∀ {cs : List Cell} {us : List Value} {ts : List Ty} {ds rest : List Dyn} {T : Nat → Prop} {g : Gh} {R : Regs}, PW (HC g D) cs us → SlRel P w T ts (us.filter isSl) ds → Sim P w g D env R V →
    (∀ b, T b → g.O b = .other) → (∀ b, T b → b < w.heap.size) → ∃ g', Sim P w g' D env (ioSet cs (ds ++ rest) R).1 V ∧ (ioSet cs (ds ++ rest) R).2 = rest ∧ (∀ b, ¬ T b → g'.O b = g.O b) ∧ g'.ν = g.ν ∧
      ∀ i ∈ ownIds cs, ∀ R1 R2 : Regs, (ioSet cs (ds ++ rest) R1).1 i = (ioSet cs (ds ++ rest) R2).1 i
  | [], [], ts, ds, rest, T, g, R, _, h, S, _, _ => by
    have : ds = [] := by
      cases ts with
      | nil => cases ds with
        | nil => rfl
        | cons _ _ => exact h.elim
      | cons t ts => cases t <;> exact h.elim
    subst this
    exact ⟨g, S, rfl, fun _ _ => rfl, rfl, by simp [ownIds]⟩
  | c :: cs, u :: us, ts, ds, rest, T, g, R, hc, h, S, hT, hl => by
    have skip : isSl u = false → (∀ ds R, ioSet (c :: cs) ds R = ioSet cs ds R) → ownIds (c :: cs) = ownIds cs → ∃ g', Sim P w g' D env (ioSet (c :: cs) (ds ++ rest) R).1 V ∧ (ioSet (c :: cs) (ds ++ rest) R).2 = rest ∧ (∀ b, ¬ T b → g'.O b = g.O b) ∧ g'.ν = g.ν ∧
        ∀ i ∈ ownIds (c :: cs), ∀ R1 R2 : Regs, (ioSet (c :: cs) (ds ++ rest) R1).1 i = (ioSet (c :: cs) (ds ++ rest) R2).1 i := by
      intro hu e e2
      simp only [e, e2]
      rw [List.filter_cons_of_neg (by simp [hu])] at h
      exact back_sl hc.2 h S hT hl
    cases c with
    | own i =>
      obtain ⟨h1, h2, h3⟩ := hc.1
      rw [List.filter_cons_of_pos h3] at h
      match ts, ds, h with
      | .slice t :: ts, d :: ds, h =>
        obtain ⟨S1, S2, xs, hS, rfl, k1, k2⟩ := h
        have hT1 : ∀ b, S1 b → g.O b = .other := fun b hb => hT b (hS.left b hb)
        have Sb := S.backArr (id := i) hT1 (fun b hb => hl b (hS.left b hb)) h2 (by rw [← h1]; exact k1)
        have hc2 : PW (HC (g.back S1 i) D) cs us := hc.2
        obtain ⟨g2, m1, m2, m3, m4, m5⟩ := back_sl (rest := rest) (T := S2) hc2 k2 Sb (fun b hb => (back_old (fun hb1 => hS.apart b hb1 hb)).trans (hT b (hS.right b hb))) (fun b hb => hl b (hS.right b hb))
        refine ⟨g2, m1, m2, fun b hb => (m3 b (fun h => hb (hS.right b h))).trans (back_old (fun h => hb (hS.left b h))), m4, ?_⟩
        intro j hj R1 R2
        show (ioSet cs (ds ++ rest) (upd R1 i _)).1 j = (ioSet cs (ds ++ rest) (upd R2 i _)).1 j
        by_cases hm : j ∈ ownIds cs
        · exact m5 j hm _ _
        · have hj' : j ∈ [i] ++ ownIds cs := hj
          have : j = i := by
            rcases List.mem_append.1 hj' with h | h
            · exact List.mem_singleton.1 h
            · exact absurd h hm
          subst this
          rw [ioSet_not _ _ _ _ hm, ioSet_not _ _ _ _ hm, upd_same, upd_same]
      | [], [], h => exact h.elim
      | [], _ :: _, h => exact h.elim
      | .slice t :: _, [], h => exact h.elim
      | .int _ :: _, _, h => exact h.elim
      | .bool :: _, _, h => exact h.elim
      | .str :: _, _, h => exact h.elim
      | .one _ :: _, _, h => exact h.elim
      | .pair _ _ :: _, _, h => exact h.elim
      | .ref _ :: _, _, h => exact h.elim
      | .fn1 _ _ :: _, _, h => exact h.elim
      | .fn2 _ _ _ :: _, _, h => exact h.elim
    | top => exact skip hc.1 (fun _ _ => rfl) rfl
    | nil => exact skip hc.1 (fun _ _ => rfl) rfl
    | val t x => exact skip hc.1 (fun _ _ => rfl) rfl
    | view => exact skip hc.1 (fun _ _ => rfl) rfl
    | ptr => exact skip hc.1 (fun _ _ => rfl) rfl
    | func => exact skip hc.1 (fun _ _ => rfl) rfl
  | [], _ :: _, _, _, _, _, _, _, h, _, _, _, _ => h.elim
  | _ :: _, [], _, _, _, _, _, _, h, _, _, _, _ => h.elim

theorem Sim.killed (S : Sim P w g D env R V) : ∀ cs : List Cell, Sim P w g D env (kill cs R) V := by
  intro cs
  induction cs generalizing R with
  | nil => exact S
  | cons c cs ih =>
    cases c with
    | own i => exact ih (S.remove i)
    | _ => exact ih S

theorem Handed.mono {g g' : Gh} (hν : g'.ν = g.ν) : ∀ {ps : List PM} {vs : List AV} {us : List Value}, Handed g D ps vs us → Handed g' D ps vs us
  | [], [], [], _ => trivial
  | .imm _ :: ps, _ :: vs, _ :: us, h => Handed.mono hν (ps := ps) h
  | .mv _ :: ps, _ :: vs, _ :: us, h => Handed.mono hν (ps := ps) h
  | .io _ :: ps, v :: vs, u :: us, h => ⟨h.1.mono (fun c u hc => by cases c <;> simp only [HC, hν] at hc ⊢ <;> exact hc), Handed.mono hν (ps := ps) h.2⟩
  | .iop _ :: ps, v :: vs, u :: us, h => ⟨by rw [hν]; exact h.1, Handed.mono hν (ps := ps) h.2⟩
  | [], _ :: _, _, h => by cases h
  | [], [], _ :: _, h => by cases h
  | .imm _ :: _, [], _, h => by cases h
  | .imm _ :: _, _ :: _, [], h => by cases h
  | .mv _ :: _, [], _, h => by cases h
  | .mv _ :: _, _ :: _, [], h => by cases h
  | .io _ :: _, [], _, h => by cases h
  | .io _ :: _, _ :: _, [], h => by cases h
  | .iop _ :: _, [], _, h => by cases h
  | .iop _ :: _, _ :: _, [], h => by cases h

theorem back_all {I : Nat → Prop} : ∀ {ps : List PM} {vs : List AV} {us : List Value} {ds : List Dyn} {T : Nat → Prop} {g : Gh} {R : Regs}, Handed g D ps vs us → BacksRel P w I T ps us ds → Sim P w g D env R V →
    (∀ b, T b → g.O b = .other) → (∀ b, T b → b < w.heap.size) → (∀ b, I b → g.imm b) → ∃ g', Sim P w g' D env (ioBack ps vs ds R) V ∧ (∀ b, ¬ T b → g'.O b = g.O b) ∧ g'.ν = g.ν ∧
      ∀ i ∈ ioIds ps vs, ∀ R1 R2 : Regs, ioBack ps vs ds R1 i = ioBack ps vs ds R2 i
  | [], [], [], ds, T, g, R, _, h, S, _, _, _ => ⟨g, by simpa [ioBack] using S, fun _ _ => rfl, rfl, by simp [ioIds]⟩
  | .imm t :: ps, v :: vs, u :: us, ds, T, g, R, hh, h, S, hT, hl, hI => by
    obtain ⟨g1, m1, m2, m3, m4⟩ := back_all (ps := ps) hh h S hT hl hI
    refine ⟨g1, by rw [ioBack]; exact m1, m2, m3, ?_⟩
    rw [ioIds_imm]
    intro i hi R1 R2
    rw [ioBack, ioBack]; exact m4 i hi R1 R2
  | .mv t :: ps, v :: vs, u :: us, ds, T, g, R, hh, h, S, hT, hl, hI => by
    obtain ⟨g1, m1, m2, m3, m4⟩ := back_all (ps := ps) hh h (S.killed v.cells) hT hl hI
    refine ⟨g1, by rw [ioBack]; exact m1, m2, m3, ?_⟩
    rw [ioIds_mv]
    intro i hi R1 R2
    rw [ioBack, ioBack]
    by_cases hm : i ∈ ioIds ps vs
    · exact m4 i hm _ _
    · have hi : i ∈ ownIds v.cells := by simpa [hm] using hi
      rw [ioBack_not _ _ _ _ _ hm, ioBack_not _ _ _ _ _ hm, kill_in _ _ _ hi, kill_in _ _ _ hi]
  | .io t :: ps, v :: vs, u :: us, ds, T, g, R, hh, h, S, hT, hl, hI => by
    obtain ⟨S1, S2, ds1, ds2, hS, rfl, k1, k2⟩ := h
    obtain ⟨g1, m1, m2, m3, m4, m5⟩ := back_sl (rest := ds2) hh.1 k1 S (fun b hb => hT b (hS.left b hb)) (fun b hb => hl b (hS.left b hb))
    have hI1 : ∀ b, g.imm b → g1.imm b := fun b hb => (m3 b (fun hb1 => by have := hT b (hS.left b hb1); rw [show g.O b = .imm from hb] at this; cases this)).trans hb
    obtain ⟨g2, n1, n2, n3, n4⟩ := back_all (ps := ps) (Handed.mono m4 hh.2) k2 m1 (fun b hb => (m3 b (fun hb1 => hS.apart b hb1 hb)).trans (hT b (hS.right b hb))) (fun b hb => hl b (hS.right b hb)) (fun b hb => hI1 b (hI b hb))
    have e : ∀ R : Regs, ioBack (.io t :: ps) (v :: vs) (ds1 ++ ds2) R = ioBack ps vs ds2 (ioSet v.cells (ds1 ++ ds2) R).1 := by
      intro R
      rw [ioBack]
      show ioBack ps vs (ioSet v.cells (ds1 ++ ds2) R).2 _ = _
      rw [ioSet_snd v.cells (ds1 ++ ds2) R _, m2]
    refine ⟨g2, by rw [e]; exact n1, fun b hb => (n2 b (fun h => hb (hS.right b h))).trans (m3 b (fun h => hb (hS.left b h))), n3.trans m4, ?_⟩
    rw [ioIds_io]
    intro i hi R1 R2
    rw [e, e]
    by_cases hm : i ∈ ioIds ps vs
    · exact n4 i hm _ _
    · have hi : i ∈ ownIds v.cells := by simpa [hm] using hi
      rw [ioBack_not _ _ _ _ _ hm, ioBack_not _ _ _ _ _ hm]; exact m5 i hi _ _
  | .iop t :: ps, v :: vs, u :: us, ds, T, g, R, hh, h, S, hT, hl, hI => by
    cases ds with
    | nil => exact h.elim
    | cons d ds =>
      obtain ⟨S1, S2, hS, ⟨x, b, c, e, rfl, rfl, hb, hc, hx⟩, k2⟩ := h
      obtain ⟨⟨i, n, sz, b', rfl, e1, e2, hD⟩, hh⟩ := hh
      have hT1 : ∀ b, S1 b → g.O b = .other := fun b hb => hT b (hS.left b hb)
      have Sb := S.backBox (id := i) hT1 (fun b hb => hl b (hS.left b hb)) hI hD e2 hb hc hx
      obtain ⟨g2, n1, n2, n3, n4⟩ := back_all (ps := ps) (g := g.back S1 i) (Handed.mono (g := g) (g' := g.back S1 i) rfl hh) k2 Sb (fun b hb => (back_old (fun hb1 => hS.apart b hb1 hb)).trans (hT b (hS.right b hb))) (fun b hb => hl b (hS.right b hb)) (fun b hb => (back_ext (w := w) hT1 b (hI b hb)).2)
      refine ⟨g2, by rw [ioBack]; exact n1, fun b hb => (n2 b (fun h => hb (hS.right b h))).trans (back_old (fun h => hb (hS.left b h))), n3, ?_⟩
      rw [ioIds_iop]
      intro j hj R1 R2
      rw [ioBack, ioBack]
      by_cases hm : j ∈ ioIds ps vs
      · exact n4 j hm _ _
      · have : j = i := by simpa [hm, ptrIds, AV.cells] using hj
        subst this
        rw [ioBack_not _ _ _ _ _ hm, ioBack_not _ _ _ _ _ hm, upd_same, upd_same]
  | [], _ :: _, _, _, _, _, _, h, _, _, _, _, _ => by cases h
  | [], [], _ :: _, _, _, _, _, h, _, _, _, _, _ => by cases h
  | .imm _ :: _, [], _, _, _, _, _, h, _, _, _, _, _ => by cases h
  | .imm _ :: _, _ :: _, [], _, _, _, _, h, _, _, _, _, _ => by cases h
  | .mv _ :: _, [], _, _, _, _, _, h, _, _, _, _, _ => by cases h
  | .mv _ :: _, _ :: _, [], _, _, _, _, h, _, _, _, _, _ => by cases h
  | .io _ :: _, [], _, _, _, _, _, h, _, _, _, _, _ => by cases h
  | .io _ :: _, _ :: _, [], _, _, _, _, h, _, _, _, _, _ => by cases h
  | .iop _ :: _, [], _, _, _, _, _, h, _, _, _, _, _ => by cases h
  | .iop _ :: _, _ :: _, [], _, _, _, _, h, _, _, _, _, _ => by cases h
end Go.VE
/- Calls: what is handed over. -/
namespace Go.VE
variable {P : Program} {w w' : World} {g g' : Gh} {D D' : Nat → Prop} {env : Env} {R R1 R' : Regs} {gv : Nat → Value} {a : Act} {C : Cfg} {dm : Bool} {o : Oper} {id : Nat} {v : AV} {V : Nat → Value}

theorem rdAV_rep {B : List Nat} {t : Ty} {x : t.den} {u : Value} (hR : RegsOk P w g R) (h : rdAV R t v = some x) (hv : AVRel P w g v u) (hB : ∀ i ∈ borCells R v.cells, i ∈ B) : vrep t.isAgg (Rep P t w (lent g B) x) u := by
  unfold rdAV at h
  obtain ⟨hs, h⟩ := cond_some h
  cases v with
  | c c =>
    simp only [shaped, Bool.not_eq_true'] at hs
    rw [hs]
    exact implAll_rep hR h (vs := [u]) ⟨hv, trivial⟩ hB
  | a cs =>
    simp only [shaped] at hs
    rw [hs]
    simp only [AVRel] at hv
    obtain ⟨us, e, hv⟩ := hv
    exact ⟨us, e, implAll_rep hR h hv hB⟩
  | t xs => cases hs

theorem rdAV_cells {I : Nat → Prop} {t : Ty} {x : t.den} {u : Value} (h : rdAV R t v = some x) (hv : AVRel P w g v u) (hr : vrep t.isAgg (Rep P t w I x) u) : PW (CellRel P w g) v.cells u.cells.toList := by
  unfold rdAV at h
  obtain ⟨hs, h⟩ := cond_some h
  cases v with
  | c c =>
    simp only [shaped, Bool.not_eq_true'] at hs
    rw [hs] at hr
    have := Rep.oneV t hr u (by simp)
    have e : u.cells = #[u] := by cases u <;> simp_all [oneV, Value.cells]
    rw [e]
    exact ⟨hv, trivial⟩
  | a cs =>
    simp only [AVRel] at hv
    obtain ⟨us, rfl, hv⟩ := hv
    exact hv
  | t xs => cases hs

theorem implAll0_rep {B : List Nat} (hR : RegsOk P w g R) {t : Ty} {cs : List Cell} {x : t.den} {vs : List Value} (h : implAll0 R t cs = some x) (hc : PW (CellRel P w g) cs vs)
    (hB : ∀ c ∈ cs, (∀ f caps, c ≠ .func f caps) → (∀ j i sz off, c ≠ .ptr j i sz off) → ∀ i ∈ borCell R c, i ∈ B) : Rep P t w (lent g B) x vs := by
  unfold implAll0 at h
  obtain ⟨y, hy, h⟩ := Option.bind_eq_some_iff.1 h
  obtain ⟨us, ws, rfl, h1, h2, h3⟩ := impl0_bor.key hR t hy hc hB
  split at h
  · rename_i h0
    rw [h0] at h2
    cases h
    cases ws with
    | nil => simpa using h1
    | cons _ _ => exact h2.elim
  · cases h

theorem nodupB_iff : ∀ {l : List Nat}, nodupB l = true → l.Nodup
  | [], _ => by simp
  | x :: xs, h => by
    simp only [nodupB, Bool.and_eq_true, Bool.not_eq_true', List.any_eq_false] at h
    refine List.nodup_cons.2 ⟨fun hm => ?_, nodupB_iff h.2⟩
    have := h.1 x hm
    simp at this
theorem apartB_iff {xs ys : List Nat} (h : apartB xs ys = true) : ∀ i ∈ xs, i ∉ ys := by
  intro i hi hy
  simp only [apartB, List.all_eq_true, Bool.not_eq_true', List.any_eq_false] at h
  have := h i hi i hy
  simp at this

theorem io_take {cs : List Cell} (h : ∀ c ∈ cs, (match c with | .nil => true | _ => false) = true ∨ ioCell R c = true) : (∀ c ∈ cs, takable R c) ∧ cids cs = ownIds cs := by
  have one : ∀ c, ((match c with | .nil => true | _ => false) = true ∨ ioCell R c = true) → takable R c ∧ cid c = (match c with | .own j => [j] | _ => []) := by
    intro c hc
    cases c with
    | nil => exact ⟨trivial, rfl⟩
    | own i =>
      refine ⟨?_, rfl⟩
      rcases hc with hc | hc
      · cases hc
      · simp only [ioCell] at hc
        split at hc
        · rename_i t xs d hR; subst hc; exact ⟨t, xs, hR⟩
        · cases hc
    | val t x =>
      refine ⟨?_, rfl⟩
      rcases hc with hc | hc
      · cases hc
      · exact hc
    | top => rcases hc with hc | hc <;> cases hc
    | view => rcases hc with hc | hc <;> cases hc
    | ptr => rcases hc with hc | hc <;> cases hc
    | func => rcases hc with hc | hc <;> cases hc
  refine ⟨fun c hc => (one c (h c hc)).1, ?_⟩
  unfold cids ownIds
  clear one
  induction cs with
  | nil => rfl
  | cons c cs ih =>
    rw [List.flatMap_cons, List.flatMap_cons, ih (fun x hx => h x (by simp [hx]))]
    congr 1
    have hc := h c (by simp)
    cases c <;> first | rfl | (rcases hc with hc | hc <;> cases hc)

theorem io_handed {cs : List Cell} {us : List Value} (S : Sim P w g D env R V) (hc : PW (CellRel P w g) cs us) (hin : ∀ c ∈ cs, c.In D) (h : ∀ c ∈ cs, ioCell R c = true) : PW (HC g D) cs us := by
  refine hc.mono_mem fun c u hm hr => ?_
  have h1 := h c hm
  have h2 := hin c hm
  cases c with
  | own i =>
    simp only [CellRel] at hr
    refine ⟨hr, by simpa [Cell.In] using h2, ?_⟩
    simp only [ioCell] at h1
    split at h1
    · rename_i t xs d hR
      obtain ⟨A, cap, e, _⟩ := S.reg _ _ hR
      rw [hr, e]; rfl
    · cases h1
  | val t x =>
    simp only [CellRel] at hr
    simp only [ioCell] at h1
    show isSl u = false
    cases t <;> simp only [Ty.flat] at h1
    case int k => simp only [Rep] at hr; rw [(List.cons.inj hr).1]; rfl
    case bool => simp only [Rep] at hr; rw [(List.cons.inj hr).1]; rfl
    case str => simp only [Rep] at hr; rw [(List.cons.inj hr).1]; rfl
    case one t =>
      have := Rep.oneV (.one t) hr
      cases u <;> simp [isSl]
      rename_i A n cap
      exfalso
      clear this
      revert hr h1
      exact flat_no_slice (.one t)
    case pair t s =>
      cases u <;> simp [isSl]
      exfalso
      revert hr
      exact fun hr => flat_no_slice (.pair t s) (by simpa [Ty.flat] using h1) hr
    all_goals cases h1
  | top => cases h1
  | nil => cases h1
  | view => cases h1
  | ptr => cases h1
  | func => cases h1
 where
  flat_no_slice {A : Option Addr} {n cap : Nat} {I : Nat → Prop} : ∀ (t : Ty) {x : t.den}, t.flat = true → Rep P t w I x [.slice A n cap] → False
    | .int _, _, _, h => by simp [Rep] at h
    | .bool, _, _, h => by simp [Rep] at h
    | .str, _, _, h => by simp [Rep] at h
    | .one t, _, hf, h => flat_no_slice t hf h
    | .pair a b, _, hf, ⟨us, ws, e, h1, h2⟩ => by
      have l1 := Rep.len a h1
      have l2 := Rep.len b h2
      have := cells_pos a
      have := cells_pos b
      have l3 := congrArg List.length e
      simp at l3
      omega
    | .slice _, _, hf, _ => by simp [Ty.flat] at hf
    | .ref _, _, hf, _ => by simp [Ty.flat] at hf
    | .fn1 _ _, _, hf, _ => by simp [Ty.flat] at hf
    | .fn2 _ _ _, _, hf, _ => by simp [Ty.flat] at hf

theorem own_vrep {S I : Nat → Prop} {t : Ty} {x : t.den} {u : Value} (h : rdAV R t v = some x) (hv : AVRel P w g v u) (hk : ∀ us : List Value, PW (CellRel P w g) v.cells us → Own' P t w S x us) : vrep t.isAgg (Own1 P true t w S I x) u := by
  unfold rdAV at h
  obtain ⟨hs, h⟩ := cond_some h
  cases v with
  | c c =>
    simp only [shaped, Bool.not_eq_true'] at hs
    rw [hs]
    exact own1_own.2 (hk [u] ⟨hv, trivial⟩)
  | a cs =>
    simp only [shaped] at hs
    rw [hs]
    simp only [AVRel] at hv
    obtain ⟨us, e, hv⟩ := hv
    exact ⟨us, e, own1_own.2 (hk _ hv)⟩
  | t xs => cases hs

/-! ### closures -/
theorem rdAV_func {t : Ty} {f : Nat} {xs : List Cell} : rdAV R t (.c (.func f xs)) = none := by
  cases t <;> simp [rdAV, shaped, Ty.isAgg, implAll, impl, AV.cells, rdSlice]
theorem caps_rel {B : List Nat} (S : Sim P w g D env R V) : ∀ {ps : List PM} {cs : List Cell} {ds : List Dyn} {us : List Value}, capsOf R ps cs = some ds → CellsRel P w g cs us → (∀ c ∈ cs, (∀ f xs, c ≠ .func f xs) → ∀ i ∈ borCell R c, i ∈ B) →
    ∀ {w' : World} {I' : Nat → Prop}, Ext w w' (lent g B) I' → ArgsRel P w' I' (fun _ => False) ps ds us
  | [], [], ds, us, h, hc, hB, w', I', hE => by
    simp only [capsOf, Option.some.injEq] at h
    subst h
    cases us with
    | nil => trivial
    | cons _ _ => exact hc.elim
  | .imm t :: ps, c :: cs, ds, us, h, hc, hB, w', I', hE => by
    simp only [capsOf] at h
    obtain ⟨x, hx, h⟩ := Option.bind_eq_some_iff.1 h
    obtain ⟨ds', hds, h⟩ := Option.bind_eq_some_iff.1 h
    cases h
    cases us with
    | nil => exact hc.elim
    | cons u us =>
      have h1 := rdAV_rep (B := B) S.regs hx (u := u) (by simpa only [AVRel] using hc.1) (by
        intro i hi
        obtain ⟨c', hc', hi2⟩ := mem_borCells.1 hi
        simp only [AV.cells, List.mem_singleton] at hc'
        rw [hc'] at hi2
        exact hB c (by simp) (fun f xs e => by rw [e, rdAV_func] at hx; cases hx) i hi2)
      refine ⟨fun _ => False, fun _ => False, ⟨fun _ h => h, fun _ h => h, fun _ h => h.elim⟩, ⟨x, rfl, ?_⟩, caps_rel S hds hc.2 (fun c hc => hB c (by simp [hc])) hE⟩
      unfold vrep at h1 ⊢
      cases ht : t.isAgg <;> rw [ht] at h1
      · exact Rep.mono t hE h1
      · obtain ⟨cs, e, h1⟩ := h1; exact ⟨cs, e, Rep.mono t hE h1⟩
  | [], _ :: _, _, _, h, _, _, _, _, _ => by simp [capsOf] at h
  | .imm _ :: _, [], _, _, h, _, _, _, _, _ => by simp [capsOf] at h
  | .io _ :: _, _, _, _, h, _, _, _, _, _ => by simp [capsOf] at h
  | .mv _ :: _, _, _, _, h, _, _, _, _, _ => by simp [capsOf] at h
  | .iop _ :: _, _, _, _, h, _, _, _, _, _ => by simp [capsOf] at h

theorem cast_res {r : Ty} : ∀ {ts : List Ty} (h : ts = [r]) {F : Option (DenP ts)} {y : r.den}, (h ▸ F : Option (DenP [r])) = some y → ∃ q : DenP ts, F = some q ∧ unpack ts q = [⟨r, y⟩]
  | _, rfl, F, y, h => ⟨y, h, rfl⟩

theorem pack_nc {d : Dyn} {ds : List Dyn} : pack [] (d :: ds) = none := rfl
theorem pack_1n {t : Ty} : pack [t] [] = none := rfl
theorem pack_1 {t : Ty} {d : Dyn} : pack [t] [d] = castTo d.t t d.x := rfl
theorem pack_1c {t : Ty} {d e : Dyn} {ds : List Dyn} : pack [t] (d :: e :: ds) = none := rfl
theorem pack_cn {t u : Ty} {ts : List Ty} : pack (t :: u :: ts) [] = none := rfl
theorem pack_cc {t u : Ty} {ts : List Ty} {d : Dyn} {ds : List Dyn} : pack (t :: u :: ts) (d :: ds) = (castTo d.t t d.x).bind fun x => (pack (u :: ts) ds).bind fun y => some (x, y) := rfl
theorem unpack_cc {t u : Ty} {ts : List Ty} {x : t.den} {y : DenP (u :: ts)} : unpack (t :: u :: ts) (x, y) = ⟨t, x⟩ :: unpack (u :: ts) y := rfl

theorem pack_unpack' : ∀ (ts : List Ty) (ds : List Dyn) (p : DenP ts), pack ts ds = some p → unpack ts p = ds := by
  intro ts
  induction ts with
  | nil =>
    intro ds p h
    cases ds with
    | nil => rfl
    | cons _ _ => rw [pack_nc] at h; cases h
  | cons t ts ih =>
    cases ts with
    | nil =>
      intro ds p h
      cases ds with
      | nil => rw [pack_1n] at h; cases h
      | cons d ds =>
        cases ds with
        | cons _ _ => rw [pack_1c] at h; cases h
        | nil =>
          obtain ⟨s, x⟩ := d
          rw [pack_1] at h
          obtain ⟨e, h⟩ := cast_some h
          change s = t at e
          subst e
          change x = p at h
          subst h
          rfl
    | cons u ts =>
      intro ds p h
      cases ds with
      | nil => rw [pack_cn] at h; cases h
      | cons d ds =>
        obtain ⟨s, x⟩ := d
        rw [pack_cc] at h
        obtain ⟨y, hy, h⟩ := Option.bind_eq_some_iff.1 h
        obtain ⟨z, hz, h⟩ := Option.bind_eq_some_iff.1 h
        obtain ⟨e, hy⟩ := cast_some hy
        change s = t at e
        subst e
        change x = y at hy
        subst hy
        have h := Option.some.inj h
        subst h
        rw [unpack_cc, ih ds z hz]
theorem pack_unpack {ts : List Ty} {ds : List Dyn} {p : DenP ts} (h : pack ts ds = some p) : unpack ts p = ds := pack_unpack' ts ds p h

theorem plain_sig {s : Sig} (h : plainSig s = true) : s.flag = none ∧ ∃ t, s.outs = [(t, .imm)] := by
  unfold plainSig at h
  split at h
  · rename_i t h1 h2; exact ⟨h2, t, h1⟩
  · cases h

theorem fn_plain {s : FnSum} {f : Nat} {r : Ty} {I : Nat → Prop} {args : List Value} {ds : List Dyn} {pp : DenP s.sig.inTys} {y : r.den} (hf : FnOk P f s) (hfl : r.flat = true) (hp : plainSig s.sig = true) (ho : s.sig.outTys = [r])
    (ha : ArgsRel P w I (fun _ => False) s.sig.ins ds args) (hI : ∀ b, I b → b < w.heap.size) (hpk : pack s.sig.inTys ds = some pp) (hy : (ho ▸ s.f pp : Option (DenP [r])) = some y) :
    Calls P f args.toArray w fun e w'' => ∃ v, e = .returned v ∧ vrep r.isAgg (Rep P r w'' (fun _ => False) y) v ∧ Keeps w w'' ∧ ∀ b, b < w.heap.size → w''.heap[b]? = w.heap[b]? := by
  obtain ⟨q, hq, hu⟩ := cast_res ho hy
  obtain ⟨hfl0, t, houts⟩ := plain_sig hp
  rw [← pack_unpack hpk] at ha
  refine (hf.2 w I (fun _ => False) args pp q ha hI (fun _ h => h.elim) (fun _ _ h => h) hq).mono fun e w' => ?_
  rintro ⟨vs, S1, S2, I', rfl, post⟩
  have h1 := post.outs
  rw [hu] at h1
  simp only [Sig.outsOf, hfl0, houts, List.length_singleton, List.take_succ_cons, List.take_zero] at h1
  match vs, h1 with
  | [v], ⟨T1, T2, _, ⟨x, e, hx⟩, _⟩ =>
    simp only [Dyn.mk.injEq] at e
    obtain ⟨rfl, e⟩ := e
    cases e
    refine ⟨v, rfl, ?_, post.keeps, fun b hb => post.same b hb (fun h => h)⟩
    unfold vrep at hx ⊢
    cases ht : r.isAgg <;> rw [ht] at hx
    · exact Rep.flat r hfl hx
    · obtain ⟨cs, e, hx⟩ := hx; exact ⟨cs, e, Rep.flat r hfl hx⟩

theorem clos1_rep {B : List Nat} (hC : CfgOk P C) (S : Sim P w g D env R V) {f : Nat} {caps : List Cell} {us : Array Value} {a r : Ty} {p : a.den → Option r.den} (h : clos1 C R f caps a r = some p) (hc : CellsRel P w g caps us.toList)
    (hB : ∀ c ∈ caps, (∀ f xs, c ≠ .func f xs) → ∀ i ∈ borCell R c, i ∈ B) : Rep P (.fn1 a r) w (lent g B) p [.func (.func f) #[] us] := by
  unfold clos1 at h
  split at h
  · cases h
  · rename_i s hs
    split at h
    · rename_i t ps hps
      obtain ⟨hb, h⟩ := cond_some h
      rw [Bool.and_eq_true] at hb
      obtain ⟨ds, hds, h⟩ := Option.bind_eq_some_iff.1 h
      split at h
      · rename_i ho
        cases h
        refine ⟨f, us, rfl, (hC f s hs).1, fun w' I' hE hI' x va y hx hy => ?_⟩
        obtain ⟨pp, hpp, hy⟩ := Option.bind_eq_some_iff.1 hy
        have hargs : ArgsRel P w' I' (fun _ => False) s.sig.ins (⟨a, x⟩ :: ds) (va :: us.toList) := by
          rw [hps]
          refine ⟨fun _ => False, fun _ => False, ⟨fun _ h => h, fun _ h => h, fun _ h => h.elim⟩, ?_, caps_rel S hds hc hB hE⟩
          have : a = t := by
            have h1 : s.sig.inTys = t :: ps.map PM.ty := by simp [Sig.inTys, hps, PM.ty]
            have h2 := congrArg (List.map Dyn.t) (pack_unpack hpp)
            have h3 : ∀ (ts : List Ty) (p : DenP ts), (unpack ts p).map Dyn.t = ts := by
              intro ts
              induction ts with
              | nil => intro p; rfl
              | cons t ts ih =>
                intro p
                cases ts with
                | nil => rfl
                | cons u us => simp only [unpack, List.map_cons]; rw [ih]
            rw [h3, h1] at h2
            exact (List.cons.inj h2).1.symm
          subst this
          exact ⟨x, rfl, hx⟩
        have := fn_plain (hC f s hs) hb.1 hb.2 ho hargs hI' hpp hy
        have e : (va :: us.toList).toArray = #[va] ++ us := by apply Array.ext'; simp
        rw [e] at this
        exact this
      · cases h
    · cases h

theorem clos2_rep {B : List Nat} (hC : CfgOk P C) (S : Sim P w g D env R V) {f : Nat} {caps : List Cell} {us : Array Value} {a b r : Ty} {p : a.den → b.den → Option r.den} (h : clos2 C R f caps a b r = some p) (hc : CellsRel P w g caps us.toList)
    (hB : ∀ c ∈ caps, (∀ f xs, c ≠ .func f xs) → ∀ i ∈ borCell R c, i ∈ B) : Rep P (.fn2 a b r) w (lent g B) p [.func (.func f) #[] us] := by
  unfold clos2 at h
  split at h
  · cases h
  · rename_i s hs
    split at h
    · rename_i t t' ps hps
      obtain ⟨hb, h⟩ := cond_some h
      rw [Bool.and_eq_true] at hb
      obtain ⟨ds, hds, h⟩ := Option.bind_eq_some_iff.1 h
      split at h
      · rename_i ho
        cases h
        refine ⟨f, us, rfl, (hC f s hs).1, fun w' I' hE hI' x z va vb y hx hz hy => ?_⟩
        obtain ⟨pp, hpp, hy⟩ := Option.bind_eq_some_iff.1 hy
        have hargs : ArgsRel P w' I' (fun _ => False) s.sig.ins (⟨a, x⟩ :: ⟨b, z⟩ :: ds) (va :: vb :: us.toList) := by
          rw [hps]
          have h1 : s.sig.inTys = t :: t' :: ps.map PM.ty := by simp [Sig.inTys, hps, PM.ty]
          have h2 := congrArg (List.map Dyn.t) (pack_unpack hpp)
          have h3 : ∀ (ts : List Ty) (p : DenP ts), (unpack ts p).map Dyn.t = ts := by
            intro ts
            induction ts with
            | nil => intro p; rfl
            | cons t ts ih =>
              intro p
              cases ts with
              | nil => rfl
              | cons u us => simp only [unpack, List.map_cons]; rw [ih]
          rw [h3, h1] at h2
          obtain ⟨e1, h2⟩ := List.cons.inj h2
          obtain ⟨e2, h2⟩ := List.cons.inj h2
          subst e1
          subst e2
          exact ⟨fun _ => False, fun _ => False, ⟨fun _ h => h, fun _ h => h, fun _ h => h.elim⟩, ⟨x, rfl, hx⟩, fun _ => False, fun _ => False, ⟨fun _ h => h, fun _ h => h, fun _ h => h.elim⟩, ⟨z, rfl, hz⟩, caps_rel S hds hc hB hE⟩
        have := fn_plain (hC f s hs) hb.1 hb.2 ho hargs hI' hpp hy
        have e : (va :: vb :: us.toList).toArray = #[va, vb] ++ us := by apply Array.ext'; simp
        rw [e] at this
        exact this
      · cases h
    · cases h
end Go.VE
/- Calls. -/
namespace Go.VE
variable {P : Program} {w w' : World} {g g' : Gh} {D D' : Nat → Prop} {env : Env} {R R1 R' : Regs} {gv : Nat → Value} {a : Act} {C : Cfg} {dm : Bool} {o : Oper} {id : Nat} {v : AV} {V : Nat → Value}

theorem bor_imm {t : Ty} {ps : List PM} {v : AV} {vs : List AV} : bor R (.imm t :: ps) (v :: vs) = borCells R v.cells ++ bor R ps vs := by rw [bor, app_eq]
theorem bor_iop {t : Ty} {ps : List PM} {v : AV} {vs : List AV} : bor R (.iop t :: ps) (v :: vs) = (borCells R v.cells).drop 1 ++ bor R ps vs := by rw [bor, app_eq]
theorem bor_io {t : Ty} {ps : List PM} {v : AV} {vs : List AV} : bor R (.io t :: ps) (v :: vs) = bor R ps vs := by rw [bor] <;> simp
theorem bor_mv {t : Ty} {ps : List PM} {v : AV} {vs : List AV} : bor R (.mv t :: ps) (v :: vs) = bor R ps vs := by rw [bor] <;> simp

theorem ownS_app (g : Gh) (xs ys : List Nat) (h : ∀ i ∈ xs, i ∉ ys) : Split (ownS g (xs ++ ys)) (ownS g xs) (ownS g ys) where
  left b := fun ⟨i, hi, h⟩ => ⟨i, List.mem_append_left _ hi, h⟩
  right b := fun ⟨i, hi, h⟩ => ⟨i, List.mem_append_right _ hi, h⟩
  apart b := fun ⟨i, hi, h1⟩ ⟨j, hj, h2⟩ => by rw [h1] at h2; cases h2; exact h i hi hj

theorem func_bor {f : Nat} {caps : List Cell} {B : List Nat} (hB : ∀ i ∈ borCells R [.func f caps], i ∈ B) : ∀ c ∈ caps, (∀ f xs, c ≠ .func f xs) → ∀ i ∈ borCell R c, i ∈ B := by
  intro c hc hf i hi
  refine hB i (mem_borCells.2 ⟨.func f caps, by simp, ?_⟩)
  simp only [borCell, List.mem_flatMap]
  refine ⟨c, hc, ?_⟩
  cases c with
  | func f' xs => exact absurd rfl (hf f' xs)
  | _ => first | exact hi | (simp [borCell] at hi)

theorem arg_imm {B : List Nat} (hC : CfgOk P C) (S : Sim P w g D env R V) {t : Ty} {v : AV} {u : Value} {d : Dyn} (h : rdArg C R (.imm t) v = some d) (hv : AVRel P w g v u) (hB : ∀ i ∈ borCells R v.cells, i ∈ B) (T : Nat → Prop) :
    ArgRel P w T (lent g B) (.imm t) d u := by
  have std : (rdAV R t v).bind (fun x => some (⟨t, x⟩ : Dyn)) = some d → ArgRel P w T (lent g B) (.imm t) d u := by
    intro h
    obtain ⟨x, hx, h⟩ := Option.bind_eq_some_iff.1 h
    cases h
    exact ⟨x, rfl, rdAV_rep S.regs hx hv hB⟩
  cases t with
  | fn1 a r =>
    cases v with
    | c c =>
      cases c with
      | func f caps =>
        simp only [rdArg] at h
        obtain ⟨p, hp, h⟩ := Option.bind_eq_some_iff.1 h
        cases h
        simp only [AVRel, CellRel] at hv
        obtain ⟨us, rfl, hv⟩ := hv
        exact ⟨p, rfl, clos1_rep hC S hp hv (func_bor hB)⟩
      | _ => exact std (by simpa only [rdArg] using h)
    | _ => exact std (by simpa only [rdArg] using h)
  | fn2 a b r =>
    cases v with
    | c c =>
      cases c with
      | func f caps =>
        simp only [rdArg] at h
        obtain ⟨p, hp, h⟩ := Option.bind_eq_some_iff.1 h
        cases h
        simp only [AVRel, CellRel] at hv
        obtain ⟨us, rfl, hv⟩ := hv
        exact ⟨p, rfl, clos2_rep hC S hp hv (func_bor hB)⟩
      | _ => exact std (by simpa only [rdArg] using h)
    | _ => exact std (by simpa only [rdArg] using h)
  | _ => exact std (by simpa only [rdArg] using h)

theorem args_rel {B : List Nat} (hC : CfgOk P C) (S : Sim P w g D env R V) : ∀ {ps : List PM} {vs : List AV} {us : List Value} {ds : List Dyn}, rdArgs C R ps vs = some ds → PW (AVRel P w g) vs us → (∀ v ∈ vs, v.In D) →
    ioOk R ps vs = true → (ioIds ps vs).Nodup → (∀ i ∈ bor R ps vs, i ∈ B) → ArgsRel P w (lent g B) (ownS g (ioIds ps vs)) ps ds us ∧ Handed g D ps vs us
  | [], [], us, ds, h, hv, _, _, _, _ => by
    simp only [rdArgs, Option.some.injEq] at h
    subst h
    cases us with
    | nil => exact ⟨trivial, trivial⟩
    | cons _ _ => exact hv.elim
  | p :: ps, v :: vs, us, ds, h, hv, hin, hok, hnd, hB => by
    simp only [rdArgs] at h
    obtain ⟨d, hd, h⟩ := Option.bind_eq_some_iff.1 h
    obtain ⟨ds', hds, h⟩ := Option.bind_eq_some_iff.1 h
    cases h
    cases us with
    | nil => exact hv.elim
    | cons u us =>
      have hin1 := hin v (by simp)
      have hin2 : ∀ v ∈ vs, v.In D := fun x hx => hin x (by simp [hx])
      cases p with
      | imm t =>
        rw [ioIds_imm] at hnd ⊢
        rw [bor_imm] at hB
        simp only [ioOk] at hok
        obtain ⟨k1, k2⟩ := args_rel hC S hds hv.2 hin2 hok hnd (fun i hi => hB i (by simp [hi]))
        exact ⟨⟨fun _ => False, _, ⟨fun _ h => h.elim, fun _ h => h, fun _ h => h.elim⟩, arg_imm hC S hd hv.1 (fun i hi => hB i (by simp [hi])) _, k1⟩, k2⟩
      | io t =>
        rw [ioIds_io] at hnd ⊢
        rw [bor_io] at hB
        simp only [ioOk, Bool.and_eq_true, List.all_eq_true] at hok
        have hnd' := List.nodup_append.1 hnd
        obtain ⟨k1, k2⟩ := args_rel hC S hds hv.2 hin2 hok.2 hnd'.2.1 hB
        simp only [rdArg] at hd
        obtain ⟨x, hx, hd⟩ := Option.bind_eq_some_iff.1 hd
        cases hd
        obtain ⟨t1, t2⟩ := io_take (R := R) (cs := v.cells) (fun c hc => .inr (hok.1 c hc))
        have hrep := rdAV_rep (B := borCells R v.cells) S.regs hx hv.1 (fun _ h => h)
        refine ⟨⟨_, _, ownS_app g _ _ (fun i hi hj => hnd'.2.2 i hi i hj rfl), ⟨x, rfl, own_vrep hx hv.1 fun us' hus => ?_⟩, k1⟩, io_handed S (rdAV_cells hx hv.1 hrep) (AV.cells_in hin1) hok.1, k2⟩
        rw [← t2]
        have hx' := hx
        unfold rdAV at hx'
        exact implAll_own S.regs (cond_some hx').2 hus t1 (by rw [t2]; exact hnd'.1)
      | mv t =>
        rw [ioIds_mv] at hnd ⊢
        rw [bor_mv] at hB
        simp only [ioOk, Bool.and_eq_true, List.all_eq_true, Bool.or_eq_true] at hok
        have hnd' := List.nodup_append.1 hnd
        obtain ⟨k1, k2⟩ := args_rel hC S hds hv.2 hin2 hok.2 hnd'.2.1 hB
        simp only [rdArg] at hd
        obtain ⟨x, hx, hd⟩ := Option.bind_eq_some_iff.1 hd
        cases hd
        obtain ⟨t1, t2⟩ := io_take (R := R) (cs := v.cells) hok.1
        refine ⟨⟨_, _, ownS_app g _ _ (fun i hi hj => hnd'.2.2 i hi i hj rfl), ⟨x, rfl, own_vrep hx hv.1 fun us' hus => ?_⟩, k1⟩, k2⟩
        rw [← t2]
        have hx' := hx
        unfold rdAV at hx'
        exact implAll_own S.regs (cond_some hx').2 hus t1 (by rw [t2]; exact hnd'.1)
      | iop t =>
        rw [ioIds_iop] at hnd ⊢
        rw [bor_iop] at hB
        simp only [ioOk] at hok
        have hnd' := List.nodup_append.1 hnd
        obtain ⟨k1, k2⟩ := args_rel hC S hds hv.2 hin2 hok hnd'.2.1 (fun i hi => hB i (by simp [hi]))
        have key : ∃ i sz cs x, v = .c (.ptr i 0 sz 0) ∧ R i = some (.box cs) ∧ implAll0 R t cs = some x ∧ d = ⟨t, x⟩ := by
          cases v with
          | a xs => simp [rdArg] at hd
          | t xs => simp [rdArg] at hd
          | c c =>
            cases c with
            | ptr i n sz off =>
              cases n with
              | succ n => simp [rdArg] at hd
              | zero =>
                cases off with
                | succ n => simp [rdArg] at hd
                | zero =>
                  simp only [rdArg] at hd
                  split at hd
                  · rename_i cs hR
                    obtain ⟨x, hx, hd⟩ := Option.bind_eq_some_iff.1 hd
                    cases hd
                    exact ⟨i, sz, cs, x, rfl, hR, hx, rfl⟩
                  · cases hd
            | _ => simp [rdArg] at hd
        obtain ⟨i, sz, cs, x, rfl, hR, hx, rfl⟩ := key
        have hv1 := hv.1
        simp only [AVRel] at hv1
        obtain ⟨b, c, e, e1, e2, e3, e4, e5⟩ := ptr_box S hR hv1 rfl
        have hb2 : ∀ j, j ∈ cs.flatMap (fun c => match c with | .own j => [j] | .view j _ _ _ => [j] | _ => []) → j ∈ B := by
          intro j hj
          refine hB j (List.mem_append_left _ ?_)
          simp only [borCells, AV.cells, List.flatMap_cons, List.flatMap_nil, List.append_nil, borCell, hR, List.drop_succ_cons, List.drop_zero]
          exact hj
        have hrep := implAll0_rep (B := B) S.regs hx e5 (fun c hc hf hp j hj => hb2 j (by
          rw [List.mem_flatMap]
          refine ⟨c, hc, ?_⟩
          cases c with
          | func f caps => exact absurd rfl (hf f caps)
          | ptr j i sz off => exact absurd rfl (hp j i sz off)
          | _ => first | exact hj | (simp [borCell] at hj)))
        refine ⟨⟨_, _, ownS_app g _ _ (fun i hi hj => hnd'.2.2 i hi i hj rfl), ⟨x, b, c, e, rfl, e1, ⟨i, by simp [ptrIds, AV.cells], e3⟩, e4, hrep⟩, k1⟩, ⟨i, 0, sz, b, rfl, e1, e2.trans e1.symm, ?_⟩, k2⟩
        simpa [AV.In, Cell.In] using hin1
  | [], _ :: _, _, _, h, _, _, _, _, _ => by simp [rdArgs] at h
  | _ :: _, [], _, _, h, _, _, _, _, _ => by simp [rdArgs] at h

/-! ### behind the call -/
theorem vrep_map {t : Ty} {p q : List Value → Prop} {v : Value} (h : ∀ us, p us → q us) (k : vrep t.isAgg p v) : vrep t.isAgg q v := by
  unfold vrep at k ⊢
  cases ht : t.isAgg <;> rw [ht] at k
  · exact h _ k
  · obtain ⟨cs, e, k⟩ := k; exact ⟨cs, e, h _ k⟩

theorem vrep_ex {t : Ty} {α : Type} {p : List Value → Prop} {q : α → List Value → Prop} {v : Value} (h : ∀ us, p us → ∃ x, q x us) (k : vrep t.isAgg p v) : ∃ x, vrep t.isAgg (q x) v := by
  unfold vrep at k ⊢
  cases ht : t.isAgg <;> rw [ht] at k
  · exact h _ k
  · obtain ⟨cs, e, k⟩ := k
    obtain ⟨x, hx⟩ := h _ k
    exact ⟨x, cs, e, hx⟩

theorem outs_dm {I : Nat → Prop} : ∀ {os : List (Ty × Own)} {ds : List Dyn} {vs : List Value} {S : Nat → Prop}, OutsRel P true w I S os ds vs → ∃ S1 J : Nat → Prop, (∀ b, S1 b → S b) ∧ (∀ b, J b → S b) ∧ (∀ b, S1 b → J b → False) ∧
    ∀ I2 : Nat → Prop, ((∀ o ∈ os, leaks o.1 o.2 = false) ∨ (∀ b, I b → I2 b)) → (∀ b, J b → I2 b) → OutsRel P dm w I2 S1 os ds vs
  | [], [], [], S, _ => ⟨S, fun _ => False, fun _ h => h, fun _ h => h.elim, fun _ _ h => h, fun _ _ _ => trivial⟩
  | (t, m) :: os, d :: ds, v :: vs, S, ⟨T1, T2, hS, h1, h2⟩ => by
    obtain ⟨S2, J2, p1, p2, p3, p4⟩ := outs_dm h2
    have comb : ∀ {S1 J1 : Nat → Prop}, (∀ b, S1 b → T1 b) → (∀ b, J1 b → T1 b) → (∀ b, S1 b → J1 b → False) → (∀ I2 : Nat → Prop, (leaks t m = false ∨ (∀ b, I b → I2 b)) → (∀ b, J1 b → I2 b) → OutRel P dm w S1 I2 (t, m) d v) →
        ∃ S1 J : Nat → Prop, (∀ b, S1 b → S b) ∧ (∀ b, J b → S b) ∧ (∀ b, S1 b → J b → False) ∧
          ∀ I2 : Nat → Prop, ((∀ o ∈ (t, m) :: os, leaks o.1 o.2 = false) ∨ (∀ b, I b → I2 b)) → (∀ b, J b → I2 b) → OutsRel P dm w I2 S1 ((t, m) :: os) (d :: ds) (v :: vs) := by
      intro S1 J1 q1 q2 q3 q4
      refine ⟨fun b => S1 b ∨ S2 b, fun b => J1 b ∨ J2 b, ?_, ?_, ?_, fun I2 hI hJ => ⟨S1, S2, ⟨fun _ h => .inl h, fun _ h => .inr h, fun b h k => hS.apart b (q1 b h) (p1 b k)⟩, q4 I2 (hI.imp (fun h => h (t, m) (by simp)) _root_.id) (fun b h => hJ b (.inl h)), p4 I2 (hI.imp (fun h o ho => h o (by simp [ho])) _root_.id) (fun b h => hJ b (.inr h))⟩⟩
      · rintro b (h | h)
        · exact hS.left b (q1 b h)
        · exact hS.right b (p1 b h)
      · rintro b (h | h)
        · exact hS.left b (q2 b h)
        · exact hS.right b (p2 b h)
      · rintro b (h | h) (k | k)
        · exact q3 b h k
        · exact hS.apart b (q1 b h) (p2 b k)
        · exact hS.apart b (q2 b k) (p1 b h)
        · exact p3 b h k
    have repf : ∀ {x : t.den} {us : List Value} {I2 : Nat → Prop}, (hasSlice t = false ∨ (∀ b, I b → I2 b)) → Rep P t w I x us → Rep P t w I2 x us := by
      intro x us I2 h k
      rcases h with h | h
      · exact Rep.flat t (hasSlice_flat h) k
      · exact Rep.mono t (Ext.sub h) k
    cases m with
    | imm =>
      obtain ⟨x, rfl, hx⟩ := h1
      exact comb (J1 := fun _ => False) (fun _ h => h) (fun _ h => h.elim) (fun _ _ h => h) (fun I2 hI _ => ⟨x, rfl, vrep_map (fun us h => repf hI h) hx⟩)
    | box =>
      obtain ⟨x, b, c, e, rfl, rfl, hb, hc, hx⟩ := h1
      exact comb (J1 := fun _ => False) (fun _ h => h) (fun _ h => h.elim) (fun _ _ h => h) (fun I2 hI _ => ⟨x, b, c, e, rfl, rfl, hb, hc, repf hI hx⟩)
    | flat =>
      obtain ⟨x, rfl, hx⟩ := h1
      refine comb (J1 := fun _ => False) (fun _ h => h) (fun _ h => h.elim) (fun _ _ h => h) (fun I2 hI _ => ⟨x, rfl, vrep_map (fun us h => ?_) hx⟩)
      rcases hI with hI | hI
      · exact Own1.closed t (by simpa [leaks] using hI) h
      · exact Own1.mono t (fun b hb => ⟨rfl, hb⟩) (fun b hb => ⟨rfl, hI b hb⟩) h
    | deep =>
      obtain ⟨x, rfl, hx⟩ := h1
      cases dm with
      | true => exact comb (J1 := fun _ => False) (fun _ h => h) (fun _ h => h.elim) (fun _ _ h => h) (fun I2 _ _ => ⟨x, rfl, vrep_map (fun us h => own1_own.2 (own1_own.1 h)) hx⟩)
      | false =>
        obtain ⟨SJ, hx⟩ := vrep_ex (α := (Nat → Prop) × (Nat → Prop)) (q := fun SJ us => (∀ b, SJ.1 b → T1 b) ∧ (∀ b, SJ.2 b → T1 b) ∧ (∀ b, SJ.1 b → SJ.2 b → False) ∧ ∀ I2 : Nat → Prop, (∀ b, SJ.2 b → I2 b) → Own1 P false t w SJ.1 I2 x us)
          (fun us h => by obtain ⟨S1, J1, q⟩ := Own1.weaken t h; exact ⟨(S1, J1), q⟩) hx
        obtain ⟨S1, J1⟩ := SJ
        simp only at hx
        have hq : (∀ b, S1 b → T1 b) ∧ (∀ b, J1 b → T1 b) ∧ (∀ b, S1 b → J1 b → False) := by
          unfold vrep at hx
          cases ht : t.isAgg <;> rw [ht] at hx
          · exact ⟨hx.1, hx.2.1, hx.2.2.1⟩
          · obtain ⟨cs, e, hx⟩ := hx; exact ⟨hx.1, hx.2.1, hx.2.2.1⟩
        exact comb hq.1 hq.2.1 hq.2.2 (fun I2 _ hJ => ⟨x, rfl, vrep_map (fun us h => h.2.2.2 I2 hJ) hx⟩)
  | [], _ :: _, _, _, h => by cases h
  | [], [], _ :: _, _, h => by cases h
  | _ :: _, [], _, _, h => by cases h
  | _ :: _, _ :: _, [], _, h => by cases h

def iopLeaks (ps : List PM) : Bool := ps.any fun p => match p with
  | .iop t => hasSlice t
  | _ => false
theorem backs_mono {I I2 : Nat → Prop} : ∀ {ps : List PM} {us : List Value} {ds : List Dyn} {S : Nat → Prop}, (iopLeaks ps = false ∨ (∀ b, I b → I2 b)) → BacksRel P w I S ps us ds → BacksRel P w I2 S ps us ds
  | [], [], [], _, _, _ => trivial
  | .imm t :: ps, _ :: us, ds, S, hI, h => backs_mono (ps := ps) (hI.imp (fun h => by simpa [iopLeaks] using h) _root_.id) h
  | .mv t :: ps, _ :: us, ds, S, hI, h => backs_mono (ps := ps) (hI.imp (fun h => by simpa [iopLeaks] using h) _root_.id) h
  | .io t :: ps, _ :: us, ds, S, hI, ⟨S1, S2, ds1, ds2, hS, e, h1, h2⟩ => ⟨S1, S2, ds1, ds2, hS, e, h1, backs_mono (ps := ps) (hI.imp (fun h => by simpa [iopLeaks] using h) _root_.id) h2⟩
  | .iop t :: ps, _ :: us, d :: ds, S, hI, ⟨S1, S2, hS, ⟨x, b, c, e, e1, e2, hb, hc, hx⟩, h2⟩ => by
    simp only [iopLeaks, List.any_cons, Bool.or_eq_false_iff] at hI
    refine ⟨S1, S2, hS, ⟨x, b, c, e, e1, e2, hb, hc, ?_⟩, backs_mono (ps := ps) (hI.imp (fun h => h.2) _root_.id) h2⟩
    rcases hI with hI | hI
    · exact Rep.flat t (hasSlice_flat hI.1) hx
    · exact Rep.mono t (Ext.sub hI) hx
  | [], [], _ :: _, _, _, h => by cases h
  | [], _ :: _, _, _, _, h => by cases h
  | .imm _ :: _, [], _, _, _, h => by cases h
  | .mv _ :: _, [], _, _, _, h => by cases h
  | .io _ :: _, [], _, _, _, h => by cases h
  | .iop _ :: _, [], _, _, _, h => by cases h
  | .iop _ :: _, _ :: _, [], _, _, h => by cases h

theorem Sim.less (S : Sim P w g D env R V) (h : ∀ i r, R1 i = some r → R i = some r) : Sim P w g D env R1 V :=
  { S with reg := fun i r hr => S.reg i r (h i r hr), regD := fun i r hr => S.regD i r (h i r hr) }

open Classical in
/-- behind a call: what was handed over and what is new belongs to nobody, or is immutable -/
noncomputable def Gh.after (g : Gh) (T J : Nat → Prop) : Gh := ⟨fun b => if T b then (if J b then .imm else .other) else g.O b, g.ν⟩
theorem after_old {T J : Nat → Prop} {b : Nat} (h : ¬ T b) : (g.after T J).O b = g.O b := by simp [Gh.after, h]
theorem after_imm {T J : Nat → Prop} {b : Nat} (h : T b) (hj : J b) : (g.after T J).O b = .imm := by simp [Gh.after, h, hj]
theorem after_other {T J : Nat → Prop} {b : Nat} (h : T b) (hj : ¬ J b) : (g.after T J).O b = .other := by simp [Gh.after, h, hj]

theorem resAV_take : ∀ (os : List (Ty × Own)) (ds : List Dyn) (id : Nat) (R : Regs), resAV dm id R os (ds.take os.length) = resAV dm id R os ds
  | [], _, _, _ => by simp [resAV]
  | _ :: _, [], _, _ => by simp [resAV]
  | (t, m) :: os, d :: ds, id, R => by
    simp only [List.length_cons, List.take_succ_cons]
    cases m <;> simp only [resAV] <;> simp only [resAV_take os ds]

theorem after_call {s : Sig} {ps : List PM} {avs : List AV} {us : List Value} {rs : List Dyn} {vs : List Value} {S1 S2 I' : Nat → Prop} {lk : Bool} (S : Sim P w g D env R V) (hps : s.ins = ps)
    (post : Post P s w (lent g (bor R ps avs)) (ownS g (ioIds ps avs)) us rs w' vs S1 S2 I') (hH : Handed g D ps avs us)
    (hap : ∀ i ∈ ioIds ps avs, i ∉ bor R ps avs) (hlk : lk = false → (∀ o ∈ s.outsOf rs, leaks o.1 o.2 = false) ∧ iopLeaks ps = false) (hlen : (s.outsOf rs).length = s.outs.length)
    (hf : ∀ i, id ≤ i → i < id + widthOuts (s.outsOf rs) → ¬ D i) :
    let R0 := ioBack ps avs (rs.drop s.outs.length) R
    let R2 := cond lk (freeze R0 (bor R ps avs)) R0
    ∃ g' D', Sim P w' g' D' env (resAV dm id R2 (s.outsOf rs) rs).2 V ∧ AVsRel P w' g' (resAV dm id R2 (s.outsOf rs) rs).1 vs ∧ AVs.In D' (resAV dm id R2 (s.outsOf rs) rs).1 ∧ Grow D D' id (widthOuts (s.outsOf rs)) ∧ Tr w g w' g' := by
  intro R0 R2
  subst hps
  obtain ⟨T1, J, j1, j2, j3, j4⟩ := outs_dm (dm := dm) post.outs
  -- the ghost behind the call
  let T : Nat → Prop := fun b => ownS g (ioIds s.ins avs) b ∨ w.heap.size ≤ b
  let J2 : Nat → Prop := fun b => J b ∨ (lk = true ∧ I' b)
  have hsame : ∀ b, ¬ T b → w'.heap[b]? = w.heap[b]? := fun b hb => post.same b (by
    rcases Nat.lt_or_ge b w.heap.size with h | h
    · exact h
    · exact absurd (.inr h) hb) (fun h => hb (.inl h))
  have himm : ∀ b, g.O b = .imm → ¬ T b := by
    rintro b hb (⟨i, _, h⟩ | h)
    · rw [hb] at h; cases h
    · rw [S.fresh b h] at hb; cases hb
  let R1 : Regs := fun i => if i ∈ ioIds s.ins avs then none else R i
  have Sk : Sim P w g D env R1 V := S.less (fun i r hr => by
    show R i = some r
    simp only [R1] at hr
    split at hr
    · cases hr
    · exact hr)
  have Sa : Sim P w' (g.after T J2) D env R1 V := by
    refine Sk.move (fun b hb => ⟨hsame b (himm b hb), (after_old (himm b hb)).trans hb⟩) (fun _ _ => rfl) (fun _ h => h) ?_ S.nu ?_ ?_
    · intro i b hi hb
      have hni : i ∉ ioIds s.ins avs := by
        intro hm
        simp only [R1, hm, if_true, Option.isSome_none] at hi
        cases hi
      have hT : ¬ T b := by
        rintro (⟨j, hj, h⟩ | h)
        · rw [hb] at h; cases h; exact hni hj
        · rw [S.fresh b h] at hb; cases hb
      exact ⟨hsame b hT, (after_old hT).trans hb⟩
    · intro b hb
      have hTb : T b := .inr (Nat.le_trans post.keeps.size hb)
      refine after_other hTb ?_
      rintro (h | ⟨_, h⟩)
      · exact absurd (post.new1 b (j2 b h)) (by omega)
      · exact absurd (post.newI b h) (by omega)
    · intro b i hb
      by_cases hT : T b
      · by_cases hj : J2 b
        · rw [after_imm hT hj] at hb; cases hb
        · rw [after_other hT hj] at hb; cases hb
      · rw [after_old hT] at hb; exact S.mine b i hb
  -- what was lent
  let B := bor R s.ins avs
  let Rk : Regs := fun i => cond lk (if i ∈ B then frzReg (R1 i) else R1 i) (R1 i)
  have hfz : ∃ g2, Sim P w' g2 D env Rk V ∧ g2.ν = g.ν ∧ (∀ b, (g.after T J2).O b = .other → g2.O b = .other) ∧ (∀ b, (g.after T J2).O b = .imm → g2.O b = .imm) ∧ (lk = true → ∀ b, I' b → g2.O b = .imm) := by
    cases hl : lk with
    | false =>
      have : Rk = R1 := by funext i; simp [Rk, hl]
      rw [this]
      exact ⟨_, Sa, rfl, fun _ h => h, fun _ h => h, fun h => by cases h⟩
    | true =>
      have hRk : ∀ i, Rk i = if i ∈ B then frzReg (R1 i) else R1 i := by intro i; simp [Rk, hl]
      obtain ⟨Sf, _, k1⟩ := Sa.froze (B := B) (R1 := Rk) (by
        intro i hi r hr
        rw [hRk, if_pos hi] at hr
        cases h1 : R1 i with
        | none => rw [h1] at hr; cases hr
        | some q =>
          rw [h1] at hr
          cases q with
          | box cs => cases hr
          | arr t xs d => cases hr; exact ⟨t, xs, rfl, .inl ⟨d, rfl⟩⟩
          | frz t xs => cases hr; exact ⟨t, xs, rfl, .inr rfl⟩) (by
        intro i hi r hr
        rwa [hRk, if_neg hi] at hr)
      refine ⟨_, Sf, rfl, fun b hb => pass_other hb, fun b hb => pass_imm hb, fun _ b hb => ?_⟩
      by_cases hT : T b
      · exact pass_imm (after_imm hT (.inr ⟨hl, hb⟩))
      · have hlt : b < w.heap.size := by
          rcases Nat.lt_or_ge b w.heap.size with h | h
          · exact h
          · exact absurd (.inr h) hT
        rcases post.immOld b hlt hb with h | h
        · refine k1 b ?_
          rcases h with h | ⟨i, hi, h⟩
          · exact .inl ((after_old hT).trans h)
          · exact .inr ⟨i, hi, (after_old hT).trans h⟩
        · exact absurd (.inl h) hT
  obtain ⟨g2, Sg, hν, hoth, him, hI'⟩ := hfz
  have hT1 : ∀ b, S1 b → T b := fun b hb => by
    rcases Nat.lt_or_ge b w.heap.size with h | h
    · exact .inl (post.old1 b h hb)
    · exact .inr h
  have hT2 : ∀ b, S2 b → T b := fun b hb => by
    rcases Nat.lt_or_ge b w.heap.size with h | h
    · exact .inl (post.old2 b h hb)
    · exact .inr h
  have hJ : ∀ b, J b → g2.O b = .imm := fun b hb => him b (after_imm (hT1 b (j2 b hb)) (.inl hb))
  have hlkI : lk = false ∨ ∀ b, I' b → g2.imm b := by
    cases hl : lk with
    | false => exact .inl rfl
    | true => exact .inr (hI' hl)
  -- what comes back
  obtain ⟨g3, Sb, hb1, hb2, hb3⟩ := back_all (ds := rs.drop s.outs.length) (T := S2) (R := Rk) (I := g2.imm) (Handed.mono hν hH)
    (backs_mono (hlkI.imp (fun h => (hlk h).2) _root_.id) post.backs) Sg
    (fun b hb => hoth b (after_other (hT2 b hb) (by
      rintro (h | ⟨_, h⟩)
      · exact post.apart b (j2 b h) hb
      · exact post.imm2 b hb h))) post.new2 (fun _ h => h)
  have hI3 : ∀ b, g2.O b = .imm → g3.O b = .imm := fun b hb => (hb1 b (fun h => by
    have := hoth b (after_other (hT2 b h) (by
      rintro (h' | ⟨_, h'⟩)
      · exact post.apart b (j2 b h') h
      · exact post.imm2 b h h'))
    rw [hb] at this; cases this)).trans hb
  have hO1 : ∀ b, T1 b → g3.O b = .other := fun b hb => (hb1 b (fun h => post.apart b (j1 b hb) h)).trans (hoth b (after_other (hT1 b (j1 b hb)) (by
      rintro (h | ⟨_, h⟩)
      · exact j3 b hb h
      · exact post.imm1 b (j1 b hb) h)))
  have hR : ioBack s.ins avs (rs.drop s.outs.length) Rk = R2 := by
    funext i
    show _ = cond lk (freeze R0 B) R0 i
    have e : cond lk (freeze R0 B) R0 i = cond lk (if i ∈ B then frzReg (R0 i) else R0 i) (R0 i) := by
      cases lk
      · rfl
      · exact freeze_at B R0 i
    rw [e]
    by_cases hi : i ∈ ioIds s.ins avs
    · have hnb : i ∉ B := hap i hi
      rw [hb3 i hi Rk R]
      simp only [if_neg hnb]
      cases lk <;> rfl
    · rw [ioBack_not _ _ _ _ _ hi]
      have : R0 i = R i := ioBack_not _ _ _ _ _ hi
      rw [this]
      simp only [Rk, R1, if_neg hi]
  rw [hR] at Sb
  -- the results
  obtain ⟨g4, D4, n1, n2, n3, n4, n5, n6⟩ := give_outs (dm := dm) (id := id) (I := g2.imm) (j4 g2.imm (hlkI.imp (fun h => (hlk h).1) _root_.id) hJ) Sb hO1 (fun b hb => post.new1 b (j1 b hb)) hI3 hf
  rw [← hlen, resAV_take] at n1 n2 n3
  refine ⟨g4, D4, n1, n2, n3, n4, post.keeps, ?_, ?_⟩
  · intro b hb
    have hT := himm b hb
    have h1 : g2.O b = .imm := him b ((after_old hT).trans hb)
    refine ⟨hsame b hT, (n5 b (fun h => by have h2 := hI3 b h1; rw [hO1 b h] at h2; cases h2)).trans (hI3 b h1)⟩
  · intro b hlt hb
    have hT : ¬ T b := by
      rintro (⟨i, _, h⟩ | h)
      · rw [hb] at h; cases h
      · omega
    refine ⟨hsame b hT, ?_⟩
    have h2 : g2.O b = .other := hoth b ((after_old hT).trans hb)
    exact (n5 b (fun h => hT (hT1 b (j1 b h)))).trans ((hb1 b (fun h => hT (hT2 b h))).trans h2)
end Go.VE
/- Calls as operations; all operations. -/
namespace Go.VE
variable {P : Program} {w w' : World} {g g' : Gh} {D D' : Nat → Prop} {env : Env} {R R1 R' : Regs} {gv : Nat → Value} {a : Act} {C : Cfg} {dm : Bool} {o : Oper} {id : Nat} {v : AV} {V : Nat → Value}

theorem setEl_nth {β : Type} (d : β) : ∀ (xs : List β) (k : Nat), setEl xs k (nth d xs k) = xs
  | [], _ => rfl
  | x :: xs, 0 => rfl
  | x :: xs, k + 1 => by simp only [setEl, nth]; rw [setEl_nth d xs k]

theorem width_outs (s : Sig) : s.width = widthOuts s.outs := rfl
theorem width_imms (s : Sig) : widthOuts s.imms = 0 := by
  unfold Sig.imms
  induction s.outs with
  | nil => rfl
  | cons x xs ih => simp only [List.map_cons, widthOuts, List.foldr_cons, Nat.zero_add] at ih ⊢; exact ih

theorem leaks_false {s : Sig} (h : s.leaks = false) : (∀ o ∈ s.outs, leaks o.1 o.2 = false) ∧ iopLeaks s.ins = false := by
  unfold Sig.leaks at h
  rw [Bool.or_eq_false_iff, List.any_eq_false] at h
  exact ⟨fun o ho => by simpa using h.1 o ho, h.2⟩

theorem tup_rel : ∀ {xs : List AV} {vs : List Value}, AVsRel P w g xs vs → AVRel P w g (tupAV xs) (tupV vs)
  | [], [], h => by simp only [tupAV, tupV, AVRel]; exact ⟨_, rfl, h⟩
  | [x], [v], h => h.1
  | x :: y :: xs, v :: u :: vs, h => by simp only [tupAV, tupV, AVRel]; exact ⟨_, rfl, h⟩
  | [], _ :: _, h => h.elim
  | _ :: _, [], h => h.elim
  | [_], _ :: _ :: _, h => h.2.elim
  | _ :: _ :: _, [_], h => h.2.elim
theorem tup_in : ∀ {xs : List AV}, AVs.In D xs → (tupAV xs).In D
  | [], h => by simpa only [tupAV, AV.In] using h
  | [x], h => h.1
  | x :: y :: xs, h => by simpa only [tupAV, AV.In] using h

theorem call_good (hC : CfgOk P C) (S : Sim P w g D env R (slots a gv)) {β : Type} {K : AV → Regs → Option β} {r : β} {f : Nat} {args : List AV} {us : List Value} (h : callK C dm f args id R K = some r) (hv : PW (AVRel P w g) args us)
    (hin : ∀ v ∈ args, v.In D) (hfr : ∀ s, C.fn f = some s → (∀ i, id ≤ i → i < id + s.sig.width → ¬ D i) ∧ s.sig.width ≤ width C o) (hrun : (execOp a.eval o).run P w = .ok (.enter f us.toArray) w) :
    ∃ v R', K v R' = some r ∧ Good P C o a w g D id env gv v R' := by
  unfold callK at h
  split at h
  · cases h
  · rename_i s hs
    obtain ⟨ds, hds, h⟩ := Option.bind_eq_some_iff.1 h
    obtain ⟨pp, hpp, h⟩ := Option.bind_eq_some_iff.1 h
    obtain ⟨hb, h⟩ := cond_some h
    obtain ⟨q, hq, h⟩ := Option.bind_eq_some_iff.1 h
    simp only [Bool.and_eq_true] at hb
    obtain ⟨hok, hnd, hap⟩ := hb
    obtain ⟨hargs, hH⟩ := args_rel (B := bor R s.sig.ins args) hC S hds hv hin hok (nodupB_iff hnd) (fun _ h => h)
    rw [← pack_unpack hpp] at hargs
    have hapart := apartB_iff hap
    generalize hrs : unpack s.sig.outTys q = rs at h
    have key : ∃ lk, K (tupAV (resAV dm id (cond lk (freeze (ioBack s.sig.ins args (rs.drop s.sig.outs.length) R) (bor R s.sig.ins args)) (ioBack s.sig.ins args (rs.drop s.sig.outs.length) R)) (s.sig.outsOf rs) rs).1)
        (resAV dm id (cond lk (freeze (ioBack s.sig.ins args (rs.drop s.sig.outs.length) R) (bor R s.sig.ins args)) (ioBack s.sig.ins args (rs.drop s.sig.outs.length) R)) (s.sig.outsOf rs) rs).2 = some r ∧
        (lk = false → (∀ o ∈ s.sig.outsOf rs, leaks o.1 o.2 = false) ∧ iopLeaks s.sig.ins = false) ∧ (s.sig.outsOf rs).length = s.sig.outs.length ∧ widthOuts (s.sig.outsOf rs) ≤ s.sig.width := by
      simp only [dropN_eq] at h
      cases hfl : s.sig.flag with
      | none =>
        have e : s.sig.outsOf rs = s.sig.outs := by simp [Sig.outsOf, hfl]
        rw [e]
        rw [hfl] at h
        simp only at h
        exact ⟨s.sig.leaks, h, leaks_false, rfl, by rw [width_outs]; exact Nat.le_refl _⟩
      | some k =>
        rw [hfl] at h
        simp only at h
        have hse := setEl_nth ⟨.int .i64, (0 : Int)⟩ rs k
        generalize hn : nth ⟨.int .i64, (0 : Int)⟩ rs k = d at h hse
        obtain ⟨t, x⟩ := d
        cases t with
        | bool =>
          simp only at h
          cases x with
          | true =>
            have e : s.sig.outsOf rs = s.sig.outs := by simp [Sig.outsOf, hfl, hn]
            rw [e]
            simp only [cond_true] at h
            rw [hse] at h
            exact ⟨s.sig.leaks, h, leaks_false, rfl, by rw [width_outs]; exact Nat.le_refl _⟩
          | false =>
            have e : s.sig.outsOf rs = s.sig.imms := by simp [Sig.outsOf, hfl, hn]
            rw [e]
            simp only [cond_false] at h
            rw [hse] at h
            refine ⟨s.sig.leaksImm, h, fun hl => ?_, by simp [Sig.imms], by rw [width_imms]; exact Nat.zero_le _⟩
            unfold Sig.leaksImm at hl
            rw [Bool.or_eq_false_iff, List.any_eq_false] at hl
            refine ⟨fun o ho => ?_, (leaks_false hl.2).2⟩
            unfold Sig.imms at ho
            obtain ⟨o', ho', rfl⟩ := List.mem_map.1 ho
            simpa [VE.leaks] using hl.1 o' ho'
        | _ => cases h
    obtain ⟨lk, hK, hlk, hlen, hwd⟩ := key
    obtain ⟨hf1, hf2⟩ := hfr s hs
    refine ⟨_, _, hK, fun next Q hk => ?_⟩
    rw [hrun, Oper.upon_enter]
    refine ((hC f s hs).2 w _ _ us pp q hargs (fun b hb => S.lt ?_) (fun b hb => S.lt ?_) ?_ hq).mono fun e w' => ?_
    · rcases hb with hb | ⟨i, _, hb⟩ <;> rw [hb] <;> simp
    · obtain ⟨i, _, hb⟩ := hb; rw [hb]; simp
    · rintro b hb ⟨i, hi, h2⟩
      rcases hb with hb | ⟨j, hj, hb⟩
      · rw [hb] at h2; cases h2
      · rw [hb] at h2; cases h2; exact hapart i hi hj
    · rintro ⟨vs, S1, S2, I', rfl, post⟩
      show next (a.put o.dst (tupV vs)) w'
      rw [hrs] at post
      obtain ⟨g', D', n1, n2, n3, n4, n5⟩ := after_call (dm := dm) (id := id) S rfl post hH hapart hlk hlen (fun i hi hlt => hf1 i hi (by omega))
      exact hk w' g' D' (tupV vs) ⟨n4.old, fun i hi => (n4.new i hi).imp _root_.id (fun e => by omega)⟩ n1 (tup_rel n2) (tup_in n3) n5

theorem callable_run {f : Nat} (h : Callable P f) (args : Array Value) (w : World) : (callFunc f args).run P w = .ok (.enter f args) w := by
  obtain ⟨fn, h1, h2, h3⟩ := h
  have h2' : ¬ fn.name = "runtime.NumGoroutine" := by simpa using h2
  have h3' : ¬ fn.body = none := by intro e; rw [e] at h3; cases h3
  simp [callFunc, program, Sem.run, h1, h2', h3']

theorem caps_avs : ∀ {caps : List Cell} {l : List Value}, PW (CellRel P w g) caps l → PW (AVRel P w g) (caps.map AV.c) l
  | [], [], _ => trivial
  | x :: caps, u :: l, h => ⟨by simpa only [AVRel] using h.1, caps_avs h.2⟩
  | [], _ :: _, h => h.elim
  | _ :: _, [], h => h.elim

theorem step_value {c : Call} {f : Operand} (hC : CfgOk P C) (p : Pre P C o a w g D id env R gv) (H : o.op = .call c) (hc : c.callee = .value f) : Step P C dm o a w g D id env R gv := by
  intro β K r h
  simp only [op, H, hc] at h
  have hr := p.rel f
  have hin := p.inn f
  have hargs : PW (AVRel P w g) (c.args.toList.map (ev env)) (c.args.toList.map a.eval) := by
    generalize c.args.toList = l
    induction l with
    | nil => trivial
    | cons x l ih => exact ⟨p.rel x, ih⟩
  have hexec : ∀ {g0 : Nat} {caps : Array Value}, a.eval f = .func (.func g0) #[] caps → Callable P g0 → (execOp a.eval o).run P w = .ok (.enter g0 (c.args.toList.map a.eval ++ caps.toList).toArray) w := by
    intro g0 caps e hcall
    have e2 : (c.args.toList.map a.eval ++ caps.toList).toArray = c.args.map a.eval ++ caps := by apply Array.ext'; simp
    rw [e2]
    simp [execOp, H, hc, resolve, Deferred.ofValue, e, invoke, callable_run hcall]
  split at h
  · rename_i g0 caps hx
    obtain ⟨hth, h⟩ := cond_some h
    rw [hx] at hr hin
    simp only [AVRel, CellRel] at hr
    simp only [AV.In, Cell.In] at hin
    obtain ⟨vs, e, hcs⟩ := hr
    have hcaps : PW (AVRel P w g) (caps.map AV.c) vs.toList := caps_avs (cellsRel_iff.1 hcs)
    have hcallable : Callable P g0 := by
      unfold callK at h
      split at h
      · cases h
      · rename_i s hs; exact (hC g0 s hs).1
    refine call_good hC p.sim h (PW.app hargs hcaps) ?_ ?_ (hexec e hcallable)
    · intro v hv
      rw [app_eq, List.mem_append] at hv
      rcases hv with hv | hv
      · obtain ⟨x, _, rfl⟩ := List.mem_map.1 hv; exact p.inn x
      · obtain ⟨x, hx, rfl⟩ := List.mem_map.1 hv; simp only [AV.In]; exact cellsIn_iff.1 hin x hx
    · intro s hs
      by_cases hst : ∃ g1, f = .func g1
      · obtain ⟨g1, rfl⟩ := hst
        simp only [ev, AV.c.injEq, Cell.func.injEq] at hx
        obtain ⟨rfl, _⟩ := hx
        have hw : width C o = s.sig.width := by simp [width, H, hc, hs]
        exact ⟨fun i h1 h2 => p.fresh i h1 (by omega), by omega⟩
      · have hw : s.sig.width = 0 := by
          unfold thin at hth
          split at hth
          · rename_i g1; exact absurd ⟨g1, rfl⟩ hst
          · rw [hs] at hth; exact Nat.eq_of_beq_eq_true hth
        exact ⟨fun i h1 h2 => by omega, by omega⟩
  · rename_i at' r' pv hx
    rw [hx] at hr
    simp only [AVRel, CellRel] at hr
    obtain ⟨f', caps, e, hcall, hfn⟩ := hr
    have e := (List.cons.inj e).1
    split at h
    · rename_i x hl
      obtain ⟨y, hy, h⟩ := Option.bind_eq_some_iff.1 h
      obtain ⟨z, hz, h⟩ := Option.bind_eq_some_iff.1 h
      obtain ⟨hfl, h⟩ := cond_some h
      have hrep := rdAV_rep (B := borCells R (ev env x).cells) p.sim.regs hy (p.rel x) (fun _ h => h)
      have hca := hfn w (lent g (borCells R (ev env x).cells)) (lent_ext w g _) (fun b hb => p.sim.lt (by rcases hb with hb | ⟨i, _, hb⟩ <;> rw [hb] <;> simp)) y (a.eval x) z hrep hz
      refine ⟨_, _, h, fun next Q hk => ?_⟩
      rw [hexec e hcall, Oper.upon_enter, hl]
      have e2 : (List.map a.eval [x] ++ caps.toList).toArray = #[a.eval x] ++ caps := by apply Array.ext'; simp
      rw [e2]
      refine hca.mono fun e w' => ?_
      rintro ⟨v, rfl, hv, hkeep, hsame⟩
      have hE : Ext w w' g.imm g.imm := fun b hb => ⟨hsame b (p.sim.lt (by rw [show g.O b = .imm from hb]; simp)), hb⟩
      have S1 : Sim P w' g D env R (slots a gv) := p.sim.move hE (fun _ _ => rfl) (fun _ h => h) (fun i b _ hb => ⟨hsame b (p.sim.lt (by rw [hb]; simp)), hb⟩) p.sim.nu (fun b hb => p.sim.fresh b (Nat.le_trans hkeep.size hb)) p.sim.mine
      refine hk w' g D v (Grow.refl _ _ _) S1 (avOf_rel r' (vrep_map (fun us h => Rep.mono r' (Ext.sub fun _ h => h.elim) h) hv)) (avOf_in _ _ _) ⟨hkeep, hE, fun b hlt hb => ⟨hsame b hlt, hb⟩⟩
    · cases h
  · rename_i at' bt' r' pv hx
    rw [hx] at hr
    simp only [AVRel, CellRel] at hr
    obtain ⟨f', caps, e, hcall, hfn⟩ := hr
    have e := (List.cons.inj e).1
    split at h
    · rename_i x x2 hl
      obtain ⟨y, hy, h⟩ := Option.bind_eq_some_iff.1 h
      obtain ⟨y2, hy2, h⟩ := Option.bind_eq_some_iff.1 h
      obtain ⟨z, hz, h⟩ := Option.bind_eq_some_iff.1 h
      obtain ⟨hfl, h⟩ := cond_some h
      have hrep := rdAV_rep (B := borCells R (ev env x).cells ++ borCells R (ev env x2).cells) p.sim.regs hy (p.rel x) (fun _ h => by simp [h])
      have hrep2 := rdAV_rep (B := borCells R (ev env x).cells ++ borCells R (ev env x2).cells) p.sim.regs hy2 (p.rel x2) (fun _ h => by simp [h])
      have hca := hfn w (lent g (borCells R (ev env x).cells ++ borCells R (ev env x2).cells)) (lent_ext w g _) (fun b hb => p.sim.lt (by rcases hb with hb | ⟨i, _, hb⟩ <;> rw [hb] <;> simp)) y y2 (a.eval x) (a.eval x2) z hrep hrep2 hz
      refine ⟨_, _, h, fun next Q hk => ?_⟩
      rw [hexec e hcall, Oper.upon_enter, hl]
      have e2 : (List.map a.eval [x, x2] ++ caps.toList).toArray = #[a.eval x, a.eval x2] ++ caps := by apply Array.ext'; simp
      rw [e2]
      refine hca.mono fun e w' => ?_
      rintro ⟨v, rfl, hv, hkeep, hsame⟩
      have hE : Ext w w' g.imm g.imm := fun b hb => ⟨hsame b (p.sim.lt (by rw [show g.O b = .imm from hb]; simp)), hb⟩
      have S1 : Sim P w' g D env R (slots a gv) := p.sim.move hE (fun _ _ => rfl) (fun _ h => h) (fun i b _ hb => ⟨hsame b (p.sim.lt (by rw [hb]; simp)), hb⟩) p.sim.nu (fun b hb => p.sim.fresh b (Nat.le_trans hkeep.size hb)) p.sim.mine
      refine hk w' g D v (Grow.refl _ _ _) S1 (avOf_rel r' (vrep_map (fun us h => Rep.mono r' (Ext.sub fun _ h => h.elim) h) hv)) (avOf_in _ _ _) ⟨hkeep, hE, fun b hlt hb => ⟨hsame b hlt, hb⟩⟩
    · cases h
  · cases h

theorem step_op (hC : CfgOk P C) (p : Pre P C o a w g D id env R gv) : Step P C dm o a w g D id env R gv := by
  cases H : o.op with
  | move x => exact step_move p (.inl H)
  | assign x => exact step_move p (.inr H)
  | pick c x y => exact step_pick p H
  | alloc t => exact step_alloc p H
  | box t x => exact step_box p H
  | build t ps => exact step_build p H
  | buildSlice t n ps => exact step_buildSlice p H
  | load t x => exact step_load p H
  | store t x y => exact step_store p H
  | nilCheck x => exact step_nil p H
  | binOp b t x y pp => exact step_bin p H
  | unOp u t x => exact step_un p H
  | convert s d x => exact step_convert p H
  | makeFunc f first caps =>
    cases f with
    | func f => exact step_makeFunc p H
    | _ => intro β K r h; simp [op, H] at h
  | makeSlice t l c => exact step_makeSlice p H
  | slice t x lo hi mx => exact step_slice p H
  | fieldAddr s x f => exact step_fieldAddr p H
  | field s x f => exact step_field p H
  | indexAddr t x i => exact step_indexAddr p H
  | index t x i => exact step_index p H
  | extract x n => exact step_extract p H
  | call c =>
    cases hc : c.callee with
    | value f => exact step_value hC p H hc
    | invoke _ _ => intro β K r h; simp [op, H, hc] at h
    | builtin b =>
      cases b with
      | len => exact step_len p H hc
      | min => exact step_min (b := true) p H hc
      | max => exact step_min (b := false) p H hc
      | append => exact step_append p H hc
      | _ => intro β K r h; simp [op, H, hc] at h
  | _ => intro β K r h; simp [op, H] at h
end Go.VE
/- Regions. -/
namespace Go.VE
variable {P : Program} {w w' : World} {g g' : Gh} {D D' : Nat → Prop} {env env' : Env} {R R1 R' : Regs} {gv : Nat → Value} {a : Act} {C : Cfg} {dm : Bool} {o : Oper} {id : Nat} {v : AV} {V : Nat → Value}

abbrev St := Env × Regs

/-- one operation of a region, as a step -/
def step1 (C : Cfg) (dm : Bool) (all : List Oper) (o : Oper) (id : Nat) (s : St) : Option St :=
  match o.guard with
  | none => (op1 C dm o id (ev s.1) s.2).map fun x => (put s.1 o.dst x.1, x.2)
  | some (j, want) => match nth none (all.map (·.dst)) j with
    | none => none
    | some t => match s.1 t with
      | .t [] => some (put s.1 o.dst (.t []), s.2)
      | .c (.val .bool b) => cond (sameB b want) ((op1 C dm o id (ev s.1) s.2).map fun x => (put s.1 o.dst x.1, x.2)) (some (put s.1 o.dst (.t []), s.2))
      | _ => none

theorem upd_self {α : Type} (f : Nat → α) (s : Nat) : upd f s (f s) = f := by
  funext x
  by_cases h : x = s
  · subst h; exact upd_same _ _ _
  · exact upd_ne _ _ h

def runS (C : Cfg) (dm : Bool) (all : List Oper) : List Oper → Nat → St → Option St
  | [], _, s => some s
  | o :: os, id, s => (step1 C dm all o id s).bind (runS C dm all os (id + width C o))

theorem steps_eq {α : Type} (all : List Oper) : ∀ (os : List Oper) (id : Nat) (env : Env) (R : Regs) (K : Env → Regs → Option α), steps C dm all os id env R K = (runS C dm all os id (env, R)).bind fun s => K s.1 s.2
  | [], _, _, _, _ => rfl
  | o :: os, id, env, R, K => by
    have run : ∀ env, op C dm o id (ev env) R (fun v R' => steps C dm all os (id + width C o) (put env o.dst v) R' K) =
        (((op1 C dm o id (ev env) R).map fun x => (put env o.dst x.1, x.2)).bind (runS C dm all os (id + width C o))).bind fun s => K s.1 s.2 := by
      intro env
      rw [op_eq]
      cases op1 C dm o id (ev env) R with
      | none => rfl
      | some x => exact steps_eq all os _ _ _ K
    have skip : ∀ env, steps C dm all os (id + width C o) (put env o.dst (.t [])) R K = ((some (put env o.dst (.t []), R) : Option St).bind (runS C dm all os (id + width C o))).bind fun s => K s.1 s.2 :=
      fun env => steps_eq all os _ _ _ K
    simp only [steps, runS, step1]
    cases hg : o.guard with
    | none => exact run env
    | some jw =>
      obtain ⟨j, want⟩ := jw
      simp only
      cases hs : nth none (List.map (fun x => x.dst) all) j with
      | none => rfl
      | some t =>
        simp only
        cases ht : env t with
        | t xs =>
          cases xs with
          | nil => exact skip env
          | cons y ys => rfl
        | a xs => rfl
        | c x =>
          cases x with
          | val ty y =>
            cases ty with
            | bool =>
              simp only [asB]
              cases y with
              | true =>
                have e : upd env t (.c (.val .bool true)) = env := by rw [← ht]; exact upd_self env t
                simp only [cond_true, e]
                cases want with
                | true => exact run env
                | false => exact skip env
              | false =>
                have e : upd env t (.c (.val .bool false)) = env := by rw [← ht]; exact upd_self env t
                simp only [cond_false, e]
                cases want with
                | true => exact skip env
                | false => exact run env
            | _ => rfl
          | _ => rfl

/-! ### one operation in the model -/
/-- what holds for all of a function's operations -/
structure Env0 (P : Program) (C : Cfg) (N : Nat) : Prop where
  cfg : CfgOk P C
  tys : TysOk P C
  eqs : ∀ t i, C.ty t = some i → eqTys i.ty i.fields 0 C.ty = true → eqChk P t = true
  small : N ≤ gslot

structure At (P : Program) (N : Nat) (df : List Deferred) (gv : Nat → Value) (a : Act) (w : World) (g : Gh) (D : Nat → Prop) (s : St) : Prop where
  sim : Sim P w g D s.1 s.2 (slots a gv)
  size : a.tmps.size = N
  defers : a.defers = df

theorem nth_getD {α : Type} (d : α) : ∀ (l : List α) (j : Nat), nth d l j = l.getD j d
  | [], _ => rfl
  | x :: xs, 0 => rfl
  | x :: xs, j + 1 => by simpa [nth] using nth_getD d xs j

theorem dst_of {ops : Array Oper} {j : Nat} {t : Nat} (h : nth none (ops.toList.map (·.dst)) j = some t) : (ops[j]?).bind (·.dst) = some t ∧ ∃ o ∈ ops.toList, o.dst = some t := by
  rw [nth_getD, List.getD_eq_getElem?_getD, List.getElem?_map, Array.getElem?_toList] at h
  cases ho : ops[j]? with
  | none => rw [ho] at h; cases h
  | some o =>
    rw [ho] at h
    refine ⟨h, o, ?_, h⟩
    exact Array.mem_toList_iff.2 (Array.mem_of_getElem? ho)

def dstsOk (N : Nat) (ops : List Oper) : Prop := ∀ o ∈ ops, ∀ d, o.dst = some d → d < N

theorem step1_wp {ops : Array Oper} {N : Nat} {df : List Deferred} {i : Nat} {s s1 : St} {Q : Exit → Act → World → Prop} {K : Act → World → Prop} (E : Env0 P C N) (hd : dstsOk N ops.toList) (ho : ops[i]? = some o) (hs : step1 C dm ops.toList o id s = some s1)
    (A : At P N df gv a w g D s) (hf : ∀ x, id ≤ x → x < id + width C o → ¬ D x)
    (hK : ∀ a' w' g' D', At P N df gv a' w' g' D' s1 → Grow D D' id (width C o) → Tr w g w' g' → K a' w') : wpOp P ops Q i K a w := by
  have hmem : o ∈ ops.toList := Array.mem_toList_iff.2 (Array.mem_of_getElem? ho)
  have hput : ∀ {d : Nat}, o.dst = some d → d < N := fun h => hd o hmem _ h
  have run : ((op1 C dm o id (ev s.1) s.2).map fun x => (put s.1 o.dst x.1, x.2)) = some s1 → o.wp P a w K Q := by
    intro h
    obtain ⟨⟨v, R'⟩, h1, rfl⟩ := Option.map_eq_some_iff.1 h
    obtain ⟨v2, R2, h2, hg⟩ := step_op E.cfg ⟨A.sim, E.tys, hf, E.eqs⟩ h1
    cases h2
    refine hg K Q fun w' g' D' vv hG hS hr hin hT => hK _ w' g' D' ⟨?_, ?_, ?_⟩ hG hT
    · exact hS.put hr hin (fun d hd' => ⟨by rw [A.size]; exact hput hd', Nat.lt_of_lt_of_le (hput hd') E.small⟩)
    · rw [← A.size]; cases o.dst <;> simp [Act.put]
    · rw [← A.defers]; cases o.dst <;> rfl
  have skip : s1 = (put s.1 o.dst (.t []), s.2) → K (a.put o.dst undef) w := by
    rintro rfl
    refine hK _ w g D ⟨?_, ?_, ?_⟩ (Grow.refl _ _ _) (Tr.refl _ _)
    · exact A.sim.put (v := .t []) (by simp only [AVRel, undef]; exact ⟨_, rfl, trivial⟩) (by simp [AV.In, AVs.In]) (fun d hd' => ⟨by rw [A.size]; exact hput hd', Nat.lt_of_lt_of_le (hput hd') E.small⟩)
    · rw [← A.size]; cases o.dst <;> simp [Act.put]
    · rw [← A.defers]; cases o.dst <;> rfl
  unfold wpOp
  rw [ho]
  simp only
  unfold step1 at hs
  cases hg : o.guard with
  | none =>
    rw [hg] at hs
    have : Region.wanted o (yielded ops a.tmps) = true := by simp [Region.wanted, hg]
    rw [if_pos this]
    exact .inl (run hs)
  | some jw =>
    obtain ⟨j, want⟩ := jw
    rw [hg] at hs
    simp only at hs
    cases hn : nth none (List.map (fun x => x.dst) ops.toList) j with
    | none => rw [hn] at hs; cases hs
    | some t =>
      rw [hn] at hs
      simp only at hs
      obtain ⟨h1, o', ho', h2⟩ := dst_of hn
      have htN : t < N := hd o' ho' t h2
      have hv := A.sim.vals t
      have hsl : slots a gv t = a.tmps.getD t undef := by simp only [slots]; rw [if_pos (Nat.lt_of_lt_of_le htN E.small)]
      rw [hsl] at hv
      have hget : a.tmps[t]? = some (a.tmps.getD t undef) := by
        have : t < a.tmps.size := by rw [A.size]; exact htN
        rw [Array.getD_eq_getD_getElem?, Array.getElem?_eq_getElem this]; rfl
      have hy : yielded ops a.tmps j = match a.tmps.getD t undef with | .bool b => some b | _ => none := by
        unfold yielded
        rw [h1]
        simp only [Option.bind_some, hget]
        cases a.tmps.getD t undef <;> rfl
      cases ht : s.1 t with
      | t xs =>
        rw [ht] at hs hv
        cases xs with
        | cons _ _ => cases hs
        | nil =>
          simp only [AVRel] at hv
          obtain ⟨vs, e, hv⟩ := hv
          have hw : ¬ Region.wanted o (yielded ops a.tmps) = true := by
            simp only [Region.wanted, hg, hy, e]
            simp
          rw [if_neg hw]
          exact skip (Option.some.inj hs).symm
      | a xs => rw [ht] at hs; cases hs
      | c x =>
        rw [ht] at hs hv
        cases x with
        | val ty y =>
          cases ty with
          | bool =>
            simp only [AVRel, CellRel, Rep] at hv
            have e := (List.cons.inj hv).1
            simp only at hs
            have hw : Region.wanted o (yielded ops a.tmps) = sameB y want := by
              simp only [Region.wanted, hg, hy, e]
              cases y <;> cases want <;> rfl
            rw [hw]
            cases hb : sameB y want with
            | true => rw [hb] at hs; rw [if_pos rfl]; exact .inl (run hs)
            | false => rw [hb] at hs; rw [if_neg (by simp)]; exact skip (Option.some.inj hs).symm
          | _ => cases hs
        | _ => cases hs

/-! ### orders -/
def idOf (C : Cfg) (ops : List Oper) (n i : Nat) : Nat := n + widths C (ops.take i)
def stepI (C : Cfg) (dm : Bool) (ops : Array Oper) (n i : Nat) (s : St) : Option St := match ops[i]? with
  | some o => step1 C dm ops.toList o (idOf C ops.toList n i) s
  | none => some s
def runI (C : Cfg) (dm : Bool) (ops : Array Oper) (n : Nat) : List Nat → St → Option St
  | [], s => some s
  | i :: l, s => (stepI C dm ops n i s).bind (runI C dm ops n l)

theorem widths_app (xs ys : List Oper) : widths C (xs ++ ys) = widths C xs + widths C ys := by
  induction xs with
  | nil => simp [widths]
  | cons x xs ih => simp only [List.cons_append, widths, ih]; omega
theorem idOf_succ {ops : List Oper} {n i : Nat} {o : Oper} (h : ops[i]? = some o) : idOf C ops n (i + 1) = idOf C ops n i + width C o := by
  have hi : i < ops.length := by
    rcases Nat.lt_or_ge i ops.length with h1 | h1
    · exact h1
    · rw [List.getElem?_eq_none h1] at h; cases h
  rw [List.getElem?_eq_getElem hi] at h
  cases h
  simp only [idOf, List.take_succ_eq_append_getElem hi, widths_app, widths]
  omega
theorem idOf_mono {ops : List Oper} {n i j : Nat} (h : i ≤ j) : idOf C ops n i ≤ idOf C ops n j := by
  induction j with
  | zero => have : i = 0 := by omega
            subst this; exact Nat.le_refl _
  | succ j ih =>
    by_cases e : i = j + 1
    · subst e; exact Nat.le_refl _
    · refine Nat.le_trans (ih (by omega)) ?_
      cases ho : ops[j]? with
      | some o => rw [idOf_succ ho]; omega
      | none =>
        have : ops.length ≤ j := by
          rcases Nat.lt_or_ge j ops.length with h1 | h1
          · rw [List.getElem?_eq_getElem h1] at ho; cases ho
          · exact h1
        simp only [idOf, List.take_of_length_le this, List.take_of_length_le (show ops.length ≤ j + 1 by omega)]
        exact Nat.le_refl _
theorem idOf_le {ops : List Oper} {n i : Nat} : idOf C ops n i ≤ n + widths C ops := by
  have := idOf_mono (C := C) (ops := ops) (n := n) (i := i) (j := max i ops.length) (by omega)
  refine Nat.le_trans this ?_
  simp only [idOf, List.take_of_length_le (show ops.length ≤ max i ops.length by omega)]
  exact Nat.le_refl _

theorem runS_runI (ops : Array Oper) (n : Nat) : ∀ (k m : Nat) (s : St), k + m = ops.size → runS C dm ops.toList (ops.toList.drop k) (idOf C ops.toList n k) s = runI C dm ops n (List.range' k m) s
  | k, 0, s, h => by
    have : ops.toList.drop k = [] := by rw [List.drop_eq_nil_iff]; simp; omega
    rw [this]; rfl
  | k, m + 1, s, h => by
    have hk : k < ops.toList.length := by simp; omega
    rw [List.drop_eq_getElem_cons hk, List.range'_succ]
    have ho : ops[k]? = some (ops.toList[k]) := by simp [hk]
    simp only [runS, runI, stepI, ho]
    congr 1
    funext s1
    rw [← idOf_succ (n := n) (by rw [List.getElem?_eq_getElem hk])]
    exact runS_runI ops n (k + 1) m s1 (by omega)

/-- regions of the operations that are still to come are new -/
def Free (C : Cfg) (ops : Array Oper) (n : Nat) (D : Nat → Prop) (i : Nat) : Prop := ∀ o, ops[i]? = some o → ∀ x, idOf C ops.toList n i ≤ x → x < idOf C ops.toList n i + width C o → ¬ D x

theorem Free.step {ops : Array Oper} {n i j : Nat} (hij : i ≠ j) (h : Free C ops n D j) (ho : ops[i]? = some o) (hG : Grow D D' (idOf C ops.toList n i) (width C o)) : Free C ops n D' j := by
  intro o' ho' x h1 h2 hx
  have ho1 : ops.toList[i]? = some o := by rw [Array.getElem?_toList]; exact ho
  have ho2 : ops.toList[j]? = some o' := by rw [Array.getElem?_toList]; exact ho'
  have e1 := idOf_succ (C := C) (n := n) ho1
  have e2 := idOf_succ (C := C) (n := n) ho2
  rcases hG.new x hx with hx | hx
  · exact h o' ho' x h1 h2 hx
  · rcases Nat.lt_or_ge i j with hlt | hge
    · have := idOf_mono (C := C) (ops := ops.toList) (n := n) (show i + 1 ≤ j by omega); omega
    · have := idOf_mono (C := C) (ops := ops.toList) (n := n) (show j + 1 ≤ i by omega); omega

theorem grow_bound {ops : Array Oper} {n i m : Nat} (hm : n + widths C ops.toList ≤ m) (hb : ∀ x, D x → x < m) (ho : ops[i]? = some o) (hG : Grow D D' (idOf C ops.toList n i) (width C o)) : ∀ x, D' x → x < m := by
  intro x hx
  have ho1 : ops.toList[i]? = some o := by rw [Array.getElem?_toList]; exact ho
  rcases hG.new x hx with hx | hx
  · exact hb x hx
  · have e1 := idOf_succ (C := C) (n := n) ho1
    have := idOf_le (C := C) (ops := ops.toList) (n := n) (i := i + 1)
    omega

theorem ops_run {ops : Array Oper} {N n : Nat} {df : List Deferred} {Q : Exit → Act → World → Prop} (E : Env0 P C N) (hd : dstsOk N ops.toList) {w0 : World} {g0 : Gh} {s1 : St} {m : Nat} (hm : n + widths C ops.toList ≤ m)
    (hQ : ∀ a w g D, At P N df gv a w g D s1 → (∀ x, D x → x < m) → Tr w0 g0 w g → Q .normal a w) : ∀ (l : List Nat) (s : St) (a : Act) (w : World) (g : Gh) (D : Nat → Prop), l.Nodup → runI C dm ops n l s = some s1 → At P N df gv a w g D s →
    (∀ i ∈ l, Free C ops n D i) → (∀ x, D x → x < m) → Tr w0 g0 w g → wpOps P ops Q l a w
  | [], s, a, w, g, D, _, h, A, _, hb, hT => by
    simp only [runI, Option.some.injEq] at h
    subst h
    exact hQ a w g D A hb hT
  | i :: l, s, a, w, g, D, hnd, h, A, hf, hb, hT => by
    rw [wpOps_cons]
    obtain ⟨hni, hnd⟩ := List.nodup_cons.1 hnd
    simp only [runI] at h
    obtain ⟨s2, h1, h2⟩ := Option.bind_eq_some_iff.1 h
    cases ho : ops[i]? with
    | none =>
      simp only [stepI, ho, Option.some.injEq] at h1
      subst h1
      simp only [wpOp, ho]
      exact ops_run E hd hm hQ l s a w g D hnd h2 A (fun j hj => hf j (by simp [hj])) hb hT
    | some o =>
      simp only [stepI, ho] at h1
      exact step1_wp E hd ho h1 A (hf i (by simp) o ho) fun a' w' g' D' A' hG hT' => ops_run E hd hm hQ l s2 a' w' g' D' hnd h2 A'
        (fun j hj => (hf j (by simp [hj])).step (fun e => hni (by rw [e]; exact hj)) ho hG) (grow_bound hm hb ho hG) (hT.trans hT')
end Go.VE
/- Templates: a state is read, and made anew. -/
namespace Go.VE
variable {P : Program} {w w' : World} {g g' : Gh} {D D' : Nat → Prop} {env env' : Env} {R R1 R' : Regs} {gv : Nat → Value} {a : Act} {C : Cfg} {dm : Bool} {o : Oper} {id : Nat} {v : AV} {V : Nat → Value}

abbrev IM := List (Nat × Option Nat)
structure MOk (m : IM) : Prop where
  fn : ∀ i x y, (i, x) ∈ m → (i, y) ∈ m → x = y
  inj : ∀ i k j, (i, some j) ∈ m → (k, some j) ∈ m → i = k

theorem bindId_spec : ∀ {r r' : IM} {i j : Nat}, bindId r i j = some r' → (r' = r ∧ (i, some j) ∈ r) ∨ (r' = r ++ [(i, some j)] ∧ (∀ x ∈ r, x.1 ≠ i) ∧ ∀ x ∈ r, x.2 ≠ some j)
  | [], r', i, j, h => by
    simp only [bindId, Option.some.injEq] at h
    subst h
    exact .inr ⟨rfl, by simp, by simp⟩
  | (a, b) :: r, r', i, j, h => by
    simp only [bindId] at h
    cases ha : Nat.beq a i with
    | true =>
      rw [ha] at h
      have ha := Nat.eq_of_beq_eq_true ha
      subst ha
      simp only [cond_true] at h
      cases b with
      | none => cases h
      | some b =>
        simp only at h
        obtain ⟨hb, h2⟩ := cond_some h
        clear h
        have hb := Nat.eq_of_beq_eq_true hb
        subst hb
        cases h2
        exact .inl ⟨rfl, by simp⟩
    | false =>
      rw [ha] at h
      have ha := Nat.ne_of_beq_eq_false ha
      simp only [cond_false] at h
      obtain ⟨hb, h⟩ := cond_some' h
      obtain ⟨r1, h1, h⟩ := Option.bind_eq_some_iff.1 h
      cases h
      have hbj : b ≠ some j := by
        rintro rfl
        simp at hb
      rcases bindId_spec h1 with ⟨rfl, k⟩ | ⟨rfl, k1, k2⟩
      · exact .inl ⟨rfl, by simp [k]⟩
      · refine .inr ⟨rfl, ?_, ?_⟩
        · intro x hx
          rcases List.mem_cons.1 hx with rfl | hx
          · exact ha
          · exact k1 x hx
        · intro x hx
          rcases List.mem_cons.1 hx with rfl | hx
          · exact hbj
          · exact k2 x hx

theorem bindNil_spec : ∀ {r r' : IM} {i : Nat}, bindNil r i = some r' → r' = r ++ [(i, none)] ∧ ∀ x ∈ r, x.1 ≠ i
  | [], r', i, h => by
    simp only [bindNil, Option.some.injEq] at h
    subst h
    exact ⟨rfl, by simp⟩
  | (a, b) :: r, r', i, h => by
    simp only [bindNil] at h
    obtain ⟨ha, h⟩ := cond_some' h
    have ha := Nat.ne_of_beq_eq_false ha
    obtain ⟨r1, h1, h⟩ := Option.bind_eq_some_iff.1 h
    cases h
    obtain ⟨rfl, k⟩ := bindNil_spec h1
    refine ⟨rfl, fun x hx => ?_⟩
    rcases List.mem_cons.1 hx with rfl | hx
    · exact ha
    · exact k x hx

/-- what was read so far -/
structure Sbm (a b : IdMap) : Prop where
  m : ∀ x ∈ a.m, x ∈ b.m
  lent : ∀ x ∈ a.lent, x ∈ b.lent
theorem Sbm.refl (m : IdMap) : Sbm m m := ⟨fun _ h => h, fun _ h => h⟩
theorem Sbm.trans {a b c : IdMap} (h : Sbm a b) (k : Sbm b c) : Sbm a c := ⟨fun x hx => k.m x (h.m x hx), fun x hx => k.lent x (h.lent x hx)⟩

structure MG (D : Nat → Prop) (m : IdMap) : Prop where
  ok : MOk m.m
  inn : ∀ i j, (i, some j) ∈ m.m → D j

theorem MG.bind {m m' : IdMap} {i j : Nat} (h : MG D m) (hj : D j) (hb : m.bind i j = some m') : MG D m' ∧ Sbm m m' ∧ (i, some j) ∈ m'.m := by
  unfold IdMap.bind at hb
  obtain ⟨r, hr, hb⟩ := Option.bind_eq_some_iff.1 hb
  cases hb
  rcases bindId_spec hr with ⟨rfl, k⟩ | ⟨rfl, k1, k2⟩
  · exact ⟨h, Sbm.refl _, k⟩
  · refine ⟨⟨⟨?_, ?_⟩, ?_⟩, ⟨fun x hx => List.mem_append_left _ hx, fun _ h => h⟩, by simp⟩
    · intro a x y hx hy
      rw [List.mem_append, List.mem_singleton] at hx hy
      rcases hx with hx | hx <;> rcases hy with hy | hy
      · exact h.ok.fn a x y hx hy
      · cases hy; exact absurd rfl (k1 _ hx)
      · cases hx; exact absurd rfl (k1 _ hy)
      · cases hx; cases hy; rfl
    · intro a b x hx hy
      rw [List.mem_append, List.mem_singleton] at hx hy
      rcases hx with hx | hx <;> rcases hy with hy | hy
      · exact h.ok.inj a b x hx hy
      · cases hy; exact absurd rfl (k2 _ hx)
      · cases hx; exact absurd rfl (k2 _ hy)
      · cases hx; cases hy; rfl
    · intro a b hx
      rw [List.mem_append, List.mem_singleton] at hx
      rcases hx with hx | hx
      · exact h.inn a b hx
      · cases hx; exact hj

theorem MG.nil {m : IdMap} {r : IM} {i : Nat} (h : MG D m) (hb : bindNil m.m i = some r) : MG D ⟨r, m.lent⟩ ∧ Sbm m ⟨r, m.lent⟩ ∧ (i, none) ∈ r := by
  obtain ⟨rfl, k1⟩ := bindNil_spec hb
  refine ⟨⟨⟨?_, ?_⟩, ?_⟩, ⟨fun x hx => List.mem_append_left _ hx, fun _ h => h⟩, by simp⟩
  · intro a x y hx hy
    rw [List.mem_append, List.mem_singleton] at hx hy
    rcases hx with hx | hx <;> rcases hy with hy | hy
    · exact h.ok.fn a x y hx hy
    · cases hy; exact absurd rfl (k1 _ hx)
    · cases hx; exact absurd rfl (k1 _ hy)
    · cases hx; cases hy; rfl
  · intro a b x hx hy
    rw [List.mem_append, List.mem_singleton] at hx hy
    rcases hx with hx | hx <;> rcases hy with hy | hy
    · exact h.ok.inj a b x hx hy
    · cases hy
    · cases hx
    · cases hx
  · intro a b hx
    rw [List.mem_append, List.mem_singleton] at hx
    rcases hx with hx | hx
    · exact h.inn a b hx
    · cases hx

def inv : IM → Nat → Option Nat
  | [], _ => none
  | (i, some k) :: r, j => if k = j then some i else inv r j
  | (_, none) :: r, j => inv r j
theorem inv_mem : ∀ {m : IM} {i j : Nat}, inv m j = some i → (i, some j) ∈ m
  | [], _, _, h => by cases h
  | (a, some k) :: r, i, j, h => by
    simp only [inv] at h
    split at h
    · rename_i e; subst e; cases h; simp
    · exact List.mem_cons_of_mem _ (inv_mem h)
  | (a, none) :: r, i, j, h => List.mem_cons_of_mem _ (inv_mem (m := r) h)
theorem inv_some : ∀ {m : IM} {i j : Nat}, (i, some j) ∈ m → ∃ k, inv m j = some k
  | [], _, _, h => by cases h
  | (a, some k) :: r, i, j, h => by
    simp only [inv]
    split
    · exact ⟨_, rfl⟩
    · rename_i hne
      rcases List.mem_cons.1 h with h | h
      · cases h; exact absurd rfl hne
      · exact inv_some h
  | (a, none) :: r, i, j, h => by
    rcases List.mem_cons.1 h with h | h
    · cases h
    · exact inv_some (m := r) h
theorem inv_of {m : IM} {i j : Nat} (hm : MOk m) (h : (i, some j) ∈ m) : inv m j = some i := by
  obtain ⟨k, hk⟩ := inv_some h
  rw [hk, hm.inj i k j h (inv_mem hk)]
theorem assoc_mem {α : Type} : ∀ {m : List (Nat × α)} {i : Nat} {x : α}, assoc m i = some x → (i, x) ∈ m
  | [], _, _, h => by cases h
  | (a, y) :: r, i, x, h => by
    simp only [assoc] at h
    cases ha : Nat.beq a i with
    | true =>
      rw [ha] at h
      have := Nat.eq_of_beq_eq_true ha
      subst this
      cases h; simp
    | false => rw [ha] at h; exact List.mem_cons_of_mem _ (assoc_mem h)
theorem assoc_some {α : Type} : ∀ {m : List (Nat × α)} {i : Nat} {x : α}, (i, x) ∈ m → ∃ y, assoc m i = some y
  | [], _, _, h => by cases h
  | (a, y) :: r, i, x, h => by
    simp only [assoc]
    cases ha : Nat.beq a i with
    | true => exact ⟨_, rfl⟩
    | false =>
      rcases List.mem_cons.1 h with h | h
      · cases h; exact absurd rfl (Nat.ne_of_beq_eq_false ha)
      · exact assoc_some h
theorem assoc_of {m : IM} {i : Nat} {x : Option Nat} (hm : MOk m) (h : (i, x) ∈ m) : assoc m i = some x := by
  obtain ⟨y, hy⟩ := assoc_some h
  rw [hy, hm.fn i x y h (assoc_mem hy)]

def Gh.re (g : Gh) (M : IdMap) : Gh :=
  ⟨fun b => match g.O b with
    | .mine j => (match inv M.m j with
      | some i => .mine i
      | none => if j ∈ M.lent then .imm else .other)
    | x => x,
   fun i => match assoc M.m i with
    | some (some j) => g.ν j
    | _ => .slice none 0 0⟩

/-- all is read -/
structure Done (D : Nat → Prop) (M : IdMap) : Prop where
  mg : MG D M
  apart : ∀ j ∈ M.lent, ∀ i, (i, some j) ∉ M.m

section
variable {M : IdMap} (F : Done D M)
include F
theorem re_nu {i j : Nat} (h : (i, some j) ∈ M.m) : (g.re M).ν i = g.ν j := by
  simp only [Gh.re, assoc_of F.mg.ok h]
theorem re_nil {i : Nat} (h : (i, none) ∈ M.m) : (g.re M).ν i = .slice none 0 0 := by
  simp only [Gh.re, assoc_of F.mg.ok h]
theorem re_imm {b : Nat} (h : g.O b = .imm) : (g.re M).O b = .imm := by simp only [Gh.re, h]
theorem re_other {b : Nat} (h : g.O b = .other) : (g.re M).O b = .other := by simp only [Gh.re, h]
theorem re_mine {b i j : Nat} (h : g.O b = .mine j) (hm : (i, some j) ∈ M.m) : (g.re M).O b = .mine i := by
  simp only [Gh.re, h, inv_of F.mg.ok hm]
theorem re_lent {b j : Nat} (h : g.O b = .mine j) (hm : j ∈ M.lent) : (g.re M).O b = .imm := by
  have : inv M.m j = none := by
    cases hi : inv M.m j with
    | none => rfl
    | some i => exact absurd (inv_mem hi) (F.apart j hm i)
  simp only [Gh.re, h, this, if_pos hm]
theorem re_ext : Ext w w g.imm (g.re M).imm := fun b hb => ⟨rfl, re_imm F hb⟩
theorem re_lent' {B : List Nat} (hB : ∀ j ∈ B, j ∈ M.lent) : ∀ b, lent g B b → (g.re M).imm b := by
  rintro b (hb | ⟨j, hj, hb⟩)
  · exact re_imm F hb
  · exact re_lent F hb (hB j hj)

def Bound (M : IdMap) (i : Nat) : Prop := ∃ x, (i, x) ∈ M.m

omit F in
theorem caps_read : ∀ {xs : List (Nat × Nat × Nat)} {ys : List Cell} {us : List Value} {m m' : IdMap}, bindCaps m xs ys = some m' → MG D m → CellsRel P w g ys us → Cells.In D ys → MG D m' ∧ Sbm m m' ∧ ∀ {M : IdMap}, Done D M → Sbm m' M →
    CellsRel P w (g.re M) (xs.map fun x => .ptr x.1 0 x.2.1 x.2.2) us ∧ Cells.In (Bound M) (xs.map fun x => .ptr x.1 0 x.2.1 x.2.2)
  | [], [], us, m, m', h, hm, hr, hi => by
    simp only [bindCaps, Option.some.injEq] at h
    subst h
    cases us with
    | nil => exact ⟨hm, Sbm.refl _, fun _ _ => ⟨by simp [CellsRel], by simp [Cells.In]⟩⟩
    | cons _ _ => exact hr.elim
  | (i, sz, off) :: xs, .ptr j n sz' off' :: ys, us, m, m', h, hm, hr, hi => by
    cases n with
    | succ n => simp [bindCaps] at h
    | zero =>
      simp only [bindCaps] at h
      obtain ⟨hb, h2⟩ := cond_some h
      clear h
      rw [Bool.and_eq_true] at hb
      have e1 := Nat.eq_of_beq_eq_true hb.1
      have e2 := Nat.eq_of_beq_eq_true hb.2
      subst e1 e2
      obtain ⟨m1, h1, h⟩ := Option.bind_eq_some_iff.1 h2
      cases us with
      | nil => exact hr.elim
      | cons u us =>
        obtain ⟨k1, k2, k3⟩ := hm.bind (by simpa [Cell.In] using hi.1) h1
        obtain ⟨n1, n2, n3⟩ := caps_read h k1 hr.2 hi.2
        refine ⟨n1, k2.trans n2, fun {M} F hs => ?_⟩
        obtain ⟨q1, q2⟩ := n3 F hs
        have hmem := hs.m _ (n2.m _ k3)
        refine ⟨⟨?_, q1⟩, ⟨by simp only [Cell.In]; exact ⟨_, hmem⟩, q2⟩⟩
        have hr1 := hr.1
        simp only [CellRel, re_nu F hmem] at hr1 ⊢
        exact hr1
  | [], _ :: _, _, _, _, h, _, _, _ => by simp [bindCaps] at h
  | _ :: _, [], _, _, _, h, _, _, _ => by simp [bindCaps] at h
  | _ :: _, .top :: _, _, _, _, h, _, _, _ => by simp [bindCaps] at h
  | _ :: _, .nil :: _, _, _, _, h, _, _, _ => by simp [bindCaps] at h
  | _ :: _, .val _ _ :: _, _, _, _, h, _, _, _ => by simp [bindCaps] at h
  | _ :: _, .own _ :: _, _, _, _, h, _, _, _ => by simp [bindCaps] at h
  | _ :: _, .view _ _ _ _ :: _, _, _, _, h, _, _, _ => by simp [bindCaps] at h
  | _ :: _, .func _ _ :: _, _, _, _, h, _, _, _ => by simp [bindCaps] at h

omit F in
/-- one cell is read -/
theorem tc_read (S : RegsOk P w g R) {t : TC} {c : Cell} {u : Value} {m m' : IdMap} {ds : List Dyn} (h : t.read R m c = some (ds, m')) (hm : MG D m) (hr : CellRel P w g c u) (hi : c.In D) : MG D m' ∧ Sbm m m' ∧ ∀ {M : IdMap}, Done D M → Sbm m' M →
    ∀ rest, (t.fill (ds ++ rest)).2 = rest ∧ CellRel P w (g.re M) (t.fill (ds ++ rest)).1 u ∧ (t.fill (ds ++ rest)).1.In (Bound M) := by
  cases t with
  | top =>
    simp only [TC.read, Option.some.injEq, Prod.mk.injEq] at h
    obtain ⟨rfl, rfl⟩ := h
    exact ⟨hm, Sbm.refl _, fun _ _ rest => ⟨rfl, by simp [TC.fill, CellRel], by simp [TC.fill, Cell.In]⟩⟩
  | nil =>
    cases c <;> simp only [TC.read] at h
    case nil =>
      simp only [Option.some.injEq, Prod.mk.injEq] at h
      obtain ⟨rfl, rfl⟩ := h
      exact ⟨hm, Sbm.refl _, fun _ _ rest => ⟨rfl, by simpa [TC.fill, CellRel] using hr, by simp [TC.fill, Cell.In]⟩⟩
    all_goals cases h
  | val t =>
    simp only [TC.read] at h
    obtain ⟨x, hx, h⟩ := Option.bind_eq_some_iff.1 h
    simp only [Option.some.injEq, Prod.mk.injEq] at h
    obtain ⟨rfl, rfl⟩ := h
    refine ⟨⟨hm.ok, hm.inn⟩, ⟨fun _ h => h, fun x hx => by rw [app_eq]; exact List.mem_append_right _ hx⟩, fun {M} F hs rest => ⟨rfl, ?_, by simp [TC.fill, Cell.In]⟩⟩
    have hrep := implAll_rep (B := borCells R [c]) S hx (vs := [u]) ⟨hr, trivial⟩ (fun _ h => h)
    simp only [TC.fill, List.cons_append, List.nil_append, CellRel]
    refine Rep.mono t (Ext.sub (re_lent' F fun j hj => hs.lent j ?_)) hrep
    rw [app_eq]
    refine List.mem_append_left _ ?_
    simpa [borCells] using hj
  | own i =>
    cases c <;> simp only [TC.read] at h
    case own j =>
      obtain ⟨m1, h1, h⟩ := Option.bind_eq_some_iff.1 h
      simp only [Option.some.injEq, Prod.mk.injEq] at h
      obtain ⟨rfl, rfl⟩ := h
      obtain ⟨k1, k2, k3⟩ := hm.bind (by simpa [Cell.In] using hi) h1
      refine ⟨k1, k2, fun {M} F hs rest => ⟨rfl, ?_, ?_⟩⟩
      · simp only [TC.fill, CellRel] at hr ⊢
        rw [re_nu F (hs.m _ k3)]; exact hr
      · simp only [TC.fill, Cell.In]; exact ⟨_, hs.m _ k3⟩
    case nil =>
      obtain ⟨r, h1, h⟩ := Option.bind_eq_some_iff.1 h
      simp only [Option.some.injEq, Prod.mk.injEq] at h
      obtain ⟨rfl, rfl⟩ := h
      obtain ⟨k1, k2, k3⟩ := hm.nil h1
      refine ⟨k1, k2, fun {M} F hs rest => ⟨rfl, ?_, ?_⟩⟩
      · simp only [TC.fill, CellRel] at hr ⊢
        rw [re_nil F (hs.m _ k3)]; exact hr
      · simp only [TC.fill, Cell.In]; exact ⟨_, hs.m _ k3⟩
    all_goals cases h
  | ptr i sz off =>
    cases c <;> simp only [TC.read] at h
    case ptr j n sz' off' =>
      cases n with
      | succ n => cases h
      | zero =>
        simp only at h
        obtain ⟨hb, h2⟩ := cond_some h
        clear h
        rw [Bool.and_eq_true] at hb
        have e1 := Nat.eq_of_beq_eq_true hb.1
        have e2 := Nat.eq_of_beq_eq_true hb.2
        subst e1 e2
        obtain ⟨m1, h1, h⟩ := Option.bind_eq_some_iff.1 h2
        simp only [Option.some.injEq, Prod.mk.injEq] at h
        obtain ⟨rfl, rfl⟩ := h
        obtain ⟨k1, k2, k3⟩ := hm.bind (by simpa [Cell.In] using hi) h1
        refine ⟨k1, k2, fun {M} F hs rest => ⟨rfl, ?_, ?_⟩⟩
        · simp only [TC.fill, CellRel] at hr ⊢
          rw [re_nu F (hs.m _ k3)]; exact hr
        · simp only [TC.fill, Cell.In]; exact ⟨_, hs.m _ k3⟩
    all_goals cases h
  | func f xs =>
    cases c <;> simp only [TC.read] at h
    case func f' ys =>
      obtain ⟨hb, h2⟩ := cond_some h
      clear h
      have e1 := Nat.eq_of_beq_eq_true hb
      subst e1
      obtain ⟨m1, h1, h⟩ := Option.bind_eq_some_iff.1 h2
      simp only [Option.some.injEq, Prod.mk.injEq] at h
      obtain ⟨rfl, rfl⟩ := h
      simp only [CellRel] at hr
      simp only [Cell.In] at hi
      obtain ⟨vs, e, hr⟩ := hr
      obtain ⟨k1, k2, k3⟩ := caps_read h1 hm hr hi
      refine ⟨k1, k2, fun {M} F hs rest => ⟨rfl, ?_, ?_⟩⟩
      · simp only [TC.fill, CellRel]; exact ⟨vs, e, (k3 F hs).1⟩
      · simp only [TC.fill, Cell.In]; exact (k3 F hs).2
    all_goals cases h

omit F in
theorem cs_read (S : RegsOk P w g R) : ∀ {ts : List TC} {cs : List Cell} {us : List Value} {m m' : IdMap} {ds : List Dyn}, readCs R m ts cs = some (ds, m') → MG D m → PW (CellRel P w g) cs us → (∀ c ∈ cs, c.In D) → MG D m' ∧ Sbm m m' ∧
    ∀ {M : IdMap}, Done D M → Sbm m' M → ∀ rest, (fillCs ts (ds ++ rest)).2 = rest ∧ PW (CellRel P w (g.re M)) (fillCs ts (ds ++ rest)).1 us ∧ ∀ c ∈ (fillCs ts (ds ++ rest)).1, c.In (Bound M)
  | [], [], us, m, m', ds, h, hm, hr, hi => by
    simp only [readCs, Option.some.injEq, Prod.mk.injEq] at h
    obtain ⟨rfl, rfl⟩ := h
    cases us with
    | nil => exact ⟨hm, Sbm.refl _, fun _ _ rest => ⟨rfl, trivial, by simp [fillCs]⟩⟩
    | cons _ _ => exact hr.elim
  | t :: ts, c :: cs, us, m, m', ds, h, hm, hr, hi => by
    simp only [readCs] at h
    obtain ⟨⟨d1, m1⟩, h1, h⟩ := Option.bind_eq_some_iff.1 h
    obtain ⟨⟨d2, m2⟩, h2, h⟩ := Option.bind_eq_some_iff.1 h
    simp only [Option.some.injEq, Prod.mk.injEq] at h
    obtain ⟨rfl, rfl⟩ := h
    cases us with
    | nil => exact hr.elim
    | cons u us =>
      obtain ⟨k1, k2, k3⟩ := tc_read S h1 hm hr.1 (hi c (by simp))
      obtain ⟨n1, n2, n3⟩ := cs_read S h2 k1 hr.2 (fun c hc => hi c (by simp [hc]))
      refine ⟨n1, k2.trans n2, fun {M} F hs rest => ?_⟩
      obtain ⟨p1, p2, p3⟩ := k3 F (n2.trans hs) (d2 ++ rest)
      obtain ⟨q1, q2, q3⟩ := n3 F hs rest
      have e : fillCs (t :: ts) (app d1 d2 ++ rest) = ((t.fill (d1 ++ (d2 ++ rest))).1 :: (fillCs ts (d2 ++ rest)).1, (fillCs ts (d2 ++ rest)).2) := by
        rw [app_eq, List.append_assoc]
        simp only [fillCs]
        rw [show t.fill (d1 ++ (d2 ++ rest)) = ((t.fill (d1 ++ (d2 ++ rest))).1, d2 ++ rest) from Prod.ext rfl p1]
      rw [e]
      refine ⟨q1, ⟨p2, q2⟩, ?_⟩
      intro c hc
      rcases List.mem_cons.1 hc with rfl | hc
      · exact p3
      · exact q3 c hc
  | [], _ :: _, _, _, _, _, h, _, _, _ => by simp [readCs] at h
  | _ :: _, [], _, _, _, _, h, _, _, _ => by simp [readCs] at h

omit F in
theorem env_read (S : Sim P w g D env R V) : ∀ {l : List (Nat × TAV)} {m m' : IdMap} {ds : List Dyn}, readEnv R env m l = some (ds, m') → MG D m → MG D m' ∧ Sbm m m' ∧
    ∀ {M : IdMap}, Done D M → Sbm m' M → ∀ rest, (fillEnv l (ds ++ rest)).2 = rest ∧ (∀ s, AVRel P w (g.re M) ((fillEnv l (ds ++ rest)).1 s) (V s)) ∧ ∀ s, ((fillEnv l (ds ++ rest)).1 s).In (Bound M)
  | [], m, m', ds, h, hm => by
    simp only [readEnv, Option.some.injEq, Prod.mk.injEq] at h
    obtain ⟨rfl, rfl⟩ := h
    exact ⟨hm, Sbm.refl _, fun _ _ rest => ⟨rfl, fun s => by simp [fillEnv, AVRel, CellRel], fun s => by simp [fillEnv, AV.In, Cell.In]⟩⟩
  | (s, .c x) :: l, m, m', ds, h, hm => by
    simp only [readEnv] at h
    obtain ⟨⟨d1, m1⟩, h1, h⟩ := Option.bind_eq_some_iff.1 h
    obtain ⟨⟨d2, m2⟩, h2, h⟩ := Option.bind_eq_some_iff.1 h
    simp only [Option.some.injEq, Prod.mk.injEq] at h
    obtain ⟨rfl, rfl⟩ := h
    split at h1
    · rename_i y hy
      have hv := S.vals s
      have hi := S.valsD s
      rw [hy] at hv hi
      obtain ⟨k1, k2, k3⟩ := tc_read S.regs h1 hm (by simpa only [AVRel] using hv) (by simpa only [AV.In] using hi)
      obtain ⟨n1, n2, n3⟩ := env_read S h2 k1
      refine ⟨n1, k2.trans n2, fun {M} F hs rest => ?_⟩
      obtain ⟨p1, p2, p3⟩ := k3 F (n2.trans hs) (d2 ++ rest)
      obtain ⟨q1, q2, q3⟩ := n3 F hs rest
      have e : fillEnv ((s, .c x) :: l) (app d1 d2 ++ rest) = (upd (fillEnv l (d2 ++ rest)).1 s (.c (x.fill (d1 ++ (d2 ++ rest))).1), (fillEnv l (d2 ++ rest)).2) := by
        rw [app_eq, List.append_assoc]
        simp only [fillEnv, TAV.fill]
        rw [show x.fill (d1 ++ (d2 ++ rest)) = ((x.fill (d1 ++ (d2 ++ rest))).1, d2 ++ rest) from Prod.ext rfl p1]
      rw [e]
      refine ⟨q1, fun s' => ?_, fun s' => ?_⟩
      · by_cases hs' : s' = s
        · subst hs'; simp only [upd_same, AVRel]; exact p2
        · simp only [upd_ne _ _ hs']; exact q2 s'
      · by_cases hs' : s' = s
        · subst hs'; simp only [upd_same, AV.In]; exact p3
        · simp only [upd_ne _ _ hs']; exact q3 s'
    · cases h1
  | (s, .a x) :: l, m, m', ds, h, hm => by
    simp only [readEnv] at h
    obtain ⟨⟨d1, m1⟩, h1, h⟩ := Option.bind_eq_some_iff.1 h
    obtain ⟨⟨d2, m2⟩, h2, h⟩ := Option.bind_eq_some_iff.1 h
    simp only [Option.some.injEq, Prod.mk.injEq] at h
    obtain ⟨rfl, rfl⟩ := h
    split at h1
    · rename_i y hy
      have hv := S.vals s
      have hi := S.valsD s
      rw [hy] at hv hi
      simp only [AVRel] at hv
      simp only [AV.In] at hi
      obtain ⟨us, e0, hv⟩ := hv
      obtain ⟨k1, k2, k3⟩ := cs_read S.regs h1 hm hv hi
      obtain ⟨n1, n2, n3⟩ := env_read S h2 k1
      refine ⟨n1, k2.trans n2, fun {M} F hs rest => ?_⟩
      obtain ⟨p1, p2, p3⟩ := k3 F (n2.trans hs) (d2 ++ rest)
      obtain ⟨q1, q2, q3⟩ := n3 F hs rest
      have e : fillEnv ((s, .a x) :: l) (app d1 d2 ++ rest) = (upd (fillEnv l (d2 ++ rest)).1 s (.a (fillCs x (d1 ++ (d2 ++ rest))).1), (fillEnv l (d2 ++ rest)).2) := by
        rw [app_eq, List.append_assoc]
        simp only [fillEnv, TAV.fill]
        rw [show fillCs x (d1 ++ (d2 ++ rest)) = ((fillCs x (d1 ++ (d2 ++ rest))).1, d2 ++ rest) from Prod.ext rfl p1]
      rw [e]
      refine ⟨q1, fun s' => ?_, fun s' => ?_⟩
      · by_cases hs' : s' = s
        · subst hs'; simp only [upd_same, AVRel]; exact ⟨us, e0, p2⟩
        · simp only [upd_ne _ _ hs']; exact q2 s'
      · by_cases hs' : s' = s
        · subst hs'; simp only [upd_same, AV.In]; exact p3
        · simp only [upd_ne _ _ hs']; exact q3 s'
    · cases h1

theorem re_reg {i j : Nat} {t : Ty} {xs : List t.den} {d : Bool} (hm : (i, some j) ∈ M.m) (h : RegRel P w g j (.arr t xs d)) : RegRel P w (g.re M) i (.arr t xs d) := by
  rw [RegRel.own1] at h ⊢
  rw [re_nu F hm]
  exact Own1.mono (.slice t) (fun b hb => ⟨rfl, re_mine F hb hm⟩) (fun b hb => ⟨rfl, re_imm F hb⟩) h
end

theorem regs_read (S : Sim P w g D env R V) : ∀ {l : List TReg} {i : Nat} {m m' : IdMap} {ds : List Dyn}, readRegs R m l i = some (ds, m') → MG D m → MG D m' ∧ Sbm m m' ∧
    ∀ {M : IdMap}, Done D M → Sbm m' M → ∀ k r, (fillRegs l i ds).1 k = some r → RegRel P w (g.re M) k r ∧ Bound M k ∧ r.In (Bound M)
  | [], i, m, m', ds, h, hm => by
    simp only [readRegs, Option.some.injEq, Prod.mk.injEq] at h
    obtain ⟨rfl, rfl⟩ := h
    exact ⟨hm, Sbm.refl _, fun _ _ k r hk => by simp [fillRegs] at hk⟩
  | t :: l, i, m, m', ds, h, hm => by
    simp only [readRegs] at h
    obtain ⟨j, hj, h⟩ := Option.bind_eq_some_iff.1 h
    have hj := assoc_mem hj
    have simple : ∀ {q : Reg} {d : Dyn} {d2 : List Dyn} {m2 : IdMap}, readRegs R m l (i + 1) = some (d2, m2) → ds = d :: d2 → m' = m2 → (∀ ds', (fillRegs (t :: l) i (d :: ds')).1 = upd (fillRegs l (i + 1) ds').1 i (some q)) →
        (∀ {M : IdMap}, Done D M → Sbm m M → RegRel P w (g.re M) i q) → (∀ D', q.In D') → MG D m' ∧ Sbm m m' ∧
        ∀ {M : IdMap}, Done D M → Sbm m' M → ∀ k r, (fillRegs (t :: l) i ds).1 k = some r → RegRel P w (g.re M) k r ∧ Bound M k ∧ r.In (Bound M) := by
      intro q d d2 m2 h1 e1 e2 e3 h2 h3
      subst e1 e2
      obtain ⟨n1, n2, n3⟩ := regs_read S h1 hm
      refine ⟨n1, n2, fun {M} F hs k r hk => ?_⟩
      rw [e3] at hk
      by_cases hki : k = i
      · subst hki
        rw [upd_same] at hk
        cases hk
        exact ⟨h2 F (n2.trans hs), ⟨_, hs.m _ (n2.m _ hj)⟩, h3 _⟩
      · rw [upd_ne _ _ hki] at hk
        exact n3 F hs k r hk
    cases j with
    | none =>
      simp only at h
      cases t with
      | box cs => cases h
      | arr t d =>
        simp only at h
        obtain ⟨⟨d2, m2⟩, h1, h⟩ := Option.bind_eq_some_iff.1 h
        simp only [Option.some.injEq, Prod.mk.injEq] at h
        obtain ⟨rfl, rfl⟩ := h
        refine simple (q := .arr t [] d) h1 rfl rfl (fun ds' => rfl) (fun F hs => ⟨none, 0, by rw [re_nil F (hs.m _ hj)]; rfl, Nat.le_refl _, .inl rfl⟩) (fun _ => trivial)
      | frz t =>
        simp only at h
        obtain ⟨⟨d2, m2⟩, h1, h⟩ := Option.bind_eq_some_iff.1 h
        simp only [Option.some.injEq, Prod.mk.injEq] at h
        obtain ⟨rfl, rfl⟩ := h
        refine simple (q := .frz t []) h1 rfl rfl (fun ds' => rfl) (fun F hs => ⟨none, 0, by rw [re_nil F (hs.m _ hj)]; rfl, Nat.le_refl _, .inl rfl⟩) (fun _ => trivial)
    | some j =>
      simp only at h
      cases hR : R j with
      | none => rw [hR] at h; cases t <;> cases h
      | some q =>
        rw [hR] at h
        cases t with
        | box cs =>
          cases q with
          | box xs =>
            simp only at h
            obtain ⟨⟨d1, m1⟩, h1, h⟩ := Option.bind_eq_some_iff.1 h
            obtain ⟨⟨d2, m2⟩, h2, h⟩ := Option.bind_eq_some_iff.1 h
            simp only [Option.some.injEq, Prod.mk.injEq] at h
            obtain ⟨rfl, rfl⟩ := h
            obtain ⟨b, c, e, e1, e2, e3, e4⟩ := S.reg _ _ hR
            obtain ⟨k1, k2, k3⟩ := cs_read S.regs h1 hm e4 (S.regD _ _ hR).2
            obtain ⟨n1, n2, n3⟩ := regs_read S h2 k1
            refine ⟨n1, k2.trans n2, fun {M} F hs k r hk => ?_⟩
            obtain ⟨p1, p2, p3⟩ := k3 F (n2.trans hs) d2
            have e0 : (fillRegs (.box cs :: l) i (app d1 d2)).1 = upd (fillRegs l (i + 1) d2).1 i (some (.box (fillCs cs (d1 ++ d2)).1)) := by
              rw [app_eq]
              simp only [fillRegs]
              rw [show fillCs cs (d1 ++ d2) = ((fillCs cs (d1 ++ d2)).1, d2) from Prod.ext rfl p1]
            rw [e0] at hk
            have hmem := hs.m _ (n2.m _ (k2.m _ hj))
            by_cases hki : k = i
            · subst hki
              rw [upd_same] at hk
              cases hk
              exact ⟨⟨b, c, e, by rw [re_nu F hmem]; exact e1, re_mine F e2 hmem, e3, p2⟩, ⟨_, hmem⟩, p3⟩
            · rw [upd_ne _ _ hki] at hk
              exact n3 F hs k r hk
          | _ => cases h
        | arr t d =>
          cases q with
          | arr s xs d' =>
            simp only at h
            obtain ⟨hb, h⟩ := cond_some h
            obtain ⟨ys, hc, h⟩ := Option.bind_eq_some_iff.1 h
            obtain ⟨⟨d2, m2⟩, h2, h⟩ := Option.bind_eq_some_iff.1 h
            simp only [Option.some.injEq, Prod.mk.injEq] at h
            obtain ⟨rfl, rfl⟩ := h
            obtain ⟨ee, hcast⟩ := cast_some hc
            cases ee
            cases hcast
            have hdd : d = d' := by revert hb; cases d <;> cases d' <;> simp [sameB]
            subst hdd
            exact simple (q := .arr t xs d) h2 rfl rfl (fun ds' => rfl) (fun F hs => re_reg F (hs.m _ hj) (S.reg _ _ hR)) (fun _ => trivial)
          | _ => cases h
        | frz t =>
          cases q with
          | frz s xs =>
            simp only at h
            obtain ⟨ys, hc, h⟩ := Option.bind_eq_some_iff.1 h
            obtain ⟨⟨d2, m2⟩, h2, h⟩ := Option.bind_eq_some_iff.1 h
            simp only [Option.some.injEq, Prod.mk.injEq] at h
            obtain ⟨rfl, rfl⟩ := h
            obtain ⟨ee, hcast⟩ := cast_some hc
            cases ee
            cases hcast
            refine simple (q := .frz t xs) h2 rfl rfl (fun ds' => rfl) (fun F hs => ?_) (fun _ => trivial)
            show Rep P (.slice t) w _ xs [_]
            rw [re_nu F (hs.m _ hj)]
            exact Rep.mono (.slice t) (re_ext F) (S.reg _ _ hR)
          | _ => cases h

theorem read_fill {τ : Templ} {ds : List Dyn} (S : Sim P w g D env R V) (h : τ.read env R = some ds) : ∃ g' D', Sim P w g' D' (τ.fill ds).1 (τ.fill ds).2 V ∧ (∀ x, D' x → x < τ.regs.length) ∧ Tr w g w g' := by
  unfold Templ.read at h
  obtain ⟨⟨d1, m1⟩, h1, h⟩ := Option.bind_eq_some_iff.1 h
  obtain ⟨⟨d2, m2⟩, h2, h⟩ := Option.bind_eq_some_iff.1 h
  obtain ⟨hb, h⟩ := cond_some h
  simp only [Option.some.injEq] at h
  subst h
  rw [Bool.and_eq_true, List.all_eq_true, List.all_eq_true] at hb
  have hm0 : MG D ⟨[], []⟩ := ⟨⟨fun _ _ _ h => by simp at h, fun _ _ _ h => by simp at h⟩, fun _ _ h => by simp at h⟩
  obtain ⟨k1, k2, k3⟩ := env_read S h1 hm0
  obtain ⟨n1, n2, n3⟩ := regs_read S h2 k1
  have F : Done D m2 := ⟨n1, fun j hj i hi => by
    have := hb.1 j hj
    rw [List.all_eq_true] at this
    have := this _ hi
    simp at this⟩
  obtain ⟨p1, p2, p3⟩ := k3 F n2 d2
  have e : τ.fill (app d1 d2) = ((fillEnv τ.env (d1 ++ d2)).1, (fillRegs τ.regs 0 d2).1) := by
    rw [app_eq]
    simp only [Templ.fill]
    rw [show fillEnv τ.env (d1 ++ d2) = ((fillEnv τ.env (d1 ++ d2)).1, d2) from Prod.ext rfl p1]
  rw [e]
  refine ⟨g.re m2, Bound m2, ⟨p2, p3, fun k r hk => (n3 F (Sbm.refl _) k r hk).1, fun k r hk => (n3 F (Sbm.refl _) k r hk).2, ?_, ?_, ?_⟩, ?_, ⟨Keeps.refl w, fun b hb => ⟨rfl, re_imm F hb⟩, fun b _ hb => ⟨rfl, re_other F hb⟩⟩⟩
  · rintro i ⟨x, hx⟩
    cases x with
    | none => rw [re_nil F hx]; rfl
    | some j => rw [re_nu F hx]; exact S.nu j (n1.inn _ _ hx)
  · intro b hb
    exact re_other F (S.fresh b hb)
  · intro b i hb
    simp only [Gh.re] at hb
    split at hb
    · rename_i j hj
      split at hb
      · rename_i k hk
        cases hb
        exact ⟨_, inv_mem hk⟩
      · split at hb <;> cases hb
    · rename_i hne
      exact absurd hb (hne i)
  · rintro x ⟨y, hy⟩
    have := hb.2 _ hy
    simpa [Nat.blt_eq] using this
end Go.VE
/- Code: what the evaluator answers, the model does. -/
namespace Go.VE
variable {P : Program} {w w' : World} {g g' : Gh} {D D' : Nat → Prop} {env env' : Env} {R R1 R' : Regs} {gv : Nat → Value} {a : Act} {C : Cfg} {dm : Bool} {o : Oper} {id : Nat} {v : AV} {V : Nat → Value}

/-- a loop, round by round -/
theorem wp_loop_fuel {c : Code} {Q : Exit → Act → World → Prop} (J : Nat → Act → World → Prop) (round : ∀ n a w, J n a w → c.wp P (Exit.then (fun a' w' => ∃ m, m < n ∧ J m a' w') Q) a w) {n : Nat} {a : Act} {w : World} (h0 : J n a w) : (Code.loop c).wp P Q a w := by
  intro b k cs
  have key : ∀ n a w, J n a w → ∃ e a' w', Q e a' w' ∧ Arrives P (lone (b.at a (.code c :: .inLoop c :: k)) cs w) b k cs e a' w' := by
    intro n
    induction n using Nat.strongRecOn with
    | _ n ih =>
      intro a w hJ
      obtain ⟨e, a₁, w₁, hq, harr⟩ := round n a w hJ b (.inLoop c :: k) cs
      cases e with
      | normal =>
        obtain ⟨m, hlt, hJ₁⟩ := hq
        obtain ⟨e₂, a₂, w₂, hq₂, harr₂⟩ := ih m hlt a₁ w₁ hJ₁
        exact ⟨e₂, a₂, w₂, hq₂, .of_steps (Steps.trans harr (.one step_inLoop)) harr₂⟩
      | exit id => exact ⟨_, a₁, w₁, hq, .pass (x := .inLoop c) rfl (fun _ _ => .inl (by simp)) harr⟩
      | goto l => exact ⟨_, a₁, w₁, hq, .pass (x := .inLoop c) rfl (fun _ _ => .inl (by simp)) harr⟩
      | ret => exact ⟨_, a₁, w₁, hq, .pass (x := .inLoop c) rfl (fun _ _ => .inl (by simp)) harr⟩
      | panic ch => exact ⟨_, a₁, w₁, hq, .pass (x := .inLoop c) rfl (fun _ _ => .inl (by simp)) harr⟩
      | outgrown => exact ⟨_, a₁, w₁, hq, .pass (x := .inLoop c) rfl (fun _ _ => .inl (by simp)) harr⟩
  obtain ⟨e, a', w', hq, harr⟩ := key n a w h0
  exact ⟨e, a', w', hq, .of_steps (.one step_loop) harr⟩

mutual
/-- what is known of a loop -/
inductive LoopOk (C : Cfg) (dm : Bool) : Code → LoopSum → Prop
  | mk {c : Code} {l : LoopSum} (inner : List LoopSum) (hin : LoopsOk C dm (loopList c) inner) (F : (α : Type) → Nat → DenP l.head.holes → (DenO l.outs → Option α) → Option α) (n : Nat)
      (h1 : ∀ (α : Type) p K, l.f (α := α) p K = F α n p K) (h2 : ∀ (α : Type) p K, F α 0 p K = none)
      (h3 : ∀ (α : Type) n p K, round C dm c inner l.head l.outs (fun p => F α n p K) K p = F α (n + 1) p K) : LoopOk C dm c l
inductive LoopsOk (C : Cfg) (dm : Bool) : List Code → List LoopSum → Prop
  | nil : LoopsOk C dm [] []
  | cons {c : Code} {l : LoopSum} {cs : List Code} {ls : List LoopSum} : LoopOk C dm c l → LoopsOk C dm cs ls → LoopsOk C dm (c :: cs) (l :: ls)
end

theorem LoopsOk.split {C : Cfg} {dm : Bool} : ∀ {xs ys : List Code} {ls : List LoopSum}, LoopsOk C dm (xs ++ ys) ls → LoopsOk C dm xs (takeN xs.length ls) ∧ LoopsOk C dm ys (dropN xs.length ls)
  | [], ys, ls, h => ⟨by simp only [List.length_nil, takeN]; exact .nil, by simpa only [List.length_nil, dropN, List.nil_append] using h⟩
  | x :: xs, ys, ls, h => by
    cases h with
    | cons h1 h2 =>
      obtain ⟨k1, k2⟩ := h2.split
      exact ⟨.cons h1 k1, k2⟩

theorem loopList_len : ∀ c : Code, (loopList c).length = nloops c
  | .seq a b => by simp only [loopList, nloops, app_eq, List.length_append, loopList_len a, loopList_len b]
  | .cond _ a b => by simp only [loopList, nloops, app_eq, List.length_append, loopList_len a, loopList_len b]
  | .block _ c => by simp only [loopList, nloops, loopList_len c]
  | .loop _ => rfl
  | .skip => rfl
  | .region _ _ _ => rfl
  | .exit _ => rfl
  | .ret => rfl
  | .goto _ => rfl
  | .label _ => rfl
  | .scope _ => rfl
  | .refuse _ => rfl
  | .rangeFunc .. => rfl

/-- the regions of a piece of code are right -/
def RegsOk' (Dr : Array Oper → Prop) (N : Nat) : Code → Prop
  | .region _ ops dr => dstsOk N ops.toList ∧ (dr = true → Dr ops)
  | .seq a b => RegsOk' Dr N a ∧ RegsOk' Dr N b
  | .cond _ a b => RegsOk' Dr N a ∧ RegsOk' Dr N b
  | .block _ c => RegsOk' Dr N c
  | .loop c => RegsOk' Dr N c
  | _ => True

/-- the footprint of an operation of a region -/
def fpAt (C : Cfg) (all : List Oper) (o : Oper) (id : Nat) (s : St) : FP :=
  match o.guard with
  | none => fp C o id (ev s.1) s.2
  | some (j, want) => match nth none (all.map (·.dst)) j with
    | none => ([], [])
    | some t => match s.1 t with
      | .c (.val .bool b) => cond (sameB b want) (fp C o id (ev s.1) s.2) ([], [])
      | _ => ([], [])
def runSF (C : Cfg) (dm : Bool) (all : List Oper) : List Oper → Nat → St → List FP → Option (St × List FP)
  | [], _, s, fs => some (s, fs)
  | o :: os, id, s, fs => (step1 C dm all o id s).bind fun s1 => runSF C dm all os (id + width C o) s1 (fpAt C all o id s :: fs)

theorem stepsF_eq {α : Type} (all : List Oper) : ∀ (os : List Oper) (id : Nat) (env : Env) (R : Regs) (fs : List FP) (K : Env → Regs → List FP → Option α),
    stepsF C dm all os id env R fs K = (runSF C dm all os id (env, R) fs).bind fun x => K x.1.1 x.1.2 x.2
  | [], _, _, _, _, _ => rfl
  | o :: os, id, env, R, fs, K => by
    have run : ∀ env, op C dm o id (ev env) R (fun v R' => stepsF C dm all os (id + width C o) (put env o.dst v) R' (fp C o id (ev env) R :: fs) K) =
        (((op1 C dm o id (ev env) R).map fun x => (put env o.dst x.1, x.2)).bind fun s1 => runSF C dm all os (id + width C o) s1 (fp C o id (ev env) R :: fs)).bind fun x => K x.1.1 x.1.2 x.2 := by
      intro env
      rw [op_eq]
      cases op1 C dm o id (ev env) R with
      | none => rfl
      | some x => exact stepsF_eq all os _ _ _ _ K
    have skip : ∀ env, stepsF C dm all os (id + width C o) (put env o.dst (.t [])) R (([], []) :: fs) K = ((some (put env o.dst (.t []), R) : Option St).bind fun s1 => runSF C dm all os (id + width C o) s1 (([], []) :: fs)).bind fun x => K x.1.1 x.1.2 x.2 :=
      fun env => stepsF_eq all os _ _ _ _ K
    simp only [stepsF, runSF, step1, fpAt]
    cases hg : o.guard with
    | none => exact run env
    | some jw =>
      obtain ⟨j, want⟩ := jw
      simp only
      cases hs : nth none (List.map (fun x => x.dst) all) j with
      | none => rfl
      | some t =>
        simp only
        cases ht : env t with
        | t xs =>
          cases xs with
          | nil => exact skip env
          | cons y ys => rfl
        | a xs => rfl
        | c x =>
          cases x with
          | val ty y =>
            cases ty with
            | bool =>
              simp only [asB]
              cases y with
              | true =>
                have e : upd env t (.c (.val .bool true)) = env := by rw [← ht]; exact upd_self env t
                simp only [cond_true, e]
                cases want with
                | true => exact run env
                | false => exact skip env
              | false =>
                have e : upd env t (.c (.val .bool false)) = env := by rw [← ht]; exact upd_self env t
                simp only [cond_false, e]
                cases want with
                | true => exact skip env
                | false => exact run env
            | _ => rfl
          | _ => rfl

/-- a region whose order is drawn -/
def DrawOk (P : Program) (C : Cfg) (dm : Bool) (N : Nat) (ops : Array Oper) : Prop :=
  ∀ (df : List Deferred) (gv : Nat → Value) (id : Nat) (n : Nat) (Q : Exit → Act → World → Prop) (a : Act) (w : World) (g : Gh) (D : Nat → Prop) (s s1 : St) (fs : List FP), runSF C dm ops.toList ops.toList n s [] = some (s1, fs) →
    chkAll fs (masks ops.toList []).reverse ops.toList.length = true → At P N df gv a w g D s → (∀ x, D x → x < n) →
    (∀ a' w' g' D', At P N df gv a' w' g' D' s1 → (∀ x, D' x → x < n + widths C ops.toList) → Tr w g w' g' → Q .normal a' w') → (Code.region id ops true).wp P Q a w

def toExit : Ex → Exit
  | .normal => .normal
  | .exit i => .exit i
  | .ret => .ret

theorem emit_dest {β : Type} {K : Ex → Nat → Env → Regs → Option β} {r : β} : ∀ {os : List (Ex × Templ)} {e : Ex} {γ : Type} {k : DenO os → Option γ} {r' : γ}, emit os e env R k = some r' →
    ∃ (τ : Templ) (ds : List Dyn) (q : DenO os), τ.read env R = some ds ∧ k q = some r' ∧ dest os q K = K e τ.regs.length (τ.fill ds).1 (τ.fill ds).2
  | [], e, γ, k, r', h => by simp [emit] at h
  | [o], e, γ, k, r', h => by
    simp only [emit] at h
    obtain ⟨hb, h⟩ := cond_some h
    obtain ⟨ds, h1, h⟩ := Option.bind_eq_some_iff.1 h
    obtain ⟨p, h2, h⟩ := Option.bind_eq_some_iff.1 h
    refine ⟨o.2, ds, p, h1, h, ?_⟩
    have he : o.1 = e := by
      revert hb
      cases o.1 <;> cases e <;> simp [exB]
    simp only [dest]
    have hp : unpack o.2.holes p = ds := pack_unpack h2
    rw [show (unpack o.2.holes p) = ds from hp, he]
  | o :: o' :: os, e, γ, k, r', h => by
    simp only [emit] at h
    cases hb : exB o.1 e with
    | true =>
      rw [hb] at h
      simp only [cond_true] at h
      obtain ⟨ds, h1, h⟩ := Option.bind_eq_some_iff.1 h
      obtain ⟨p, h2, h⟩ := Option.bind_eq_some_iff.1 h
      refine ⟨o.2, ds, .inl p, h1, h, ?_⟩
      have he : o.1 = e := by
        revert hb
        cases o.1 <;> cases e <;> simp [exB]
      simp only [dest]
      have hp : unpack o.2.holes p = ds := pack_unpack h2
      rw [show (unpack o.2.holes p) = ds from hp, he]
    | false =>
      rw [hb] at h
      simp only [cond_false] at h
      obtain ⟨τ, ds, q, h1, h2, h3⟩ := emit_dest (r := r) (K := K) (os := o' :: os) h
      exact ⟨τ, ds, .inr q, h1, h2, h3⟩

theorem code_sound {N : Nat} {df : List Deferred} (E : Env0 P C N) (hm : P.follows .mixedOrders = true) : ∀ (c : Code) {β : Type} {ls : List LoopSum} {n : Nat} {env : Env} {R : Regs} {K : Ex → Nat → Env → Regs → Option β} {r : β} {Q : Exit → Act → World → Prop} {a : Act} {w : World} {g : Gh} {D : Nat → Prop},
    code C dm c ls n env R K = some r → LoopsOk C dm (loopList c) ls → RegsOk' (DrawOk P C dm N) N c → At P N df gv a w g D (env, R) → (∀ x, D x → x < n) →
    (∀ e n' env' R' a' w' g' D', K e n' env' R' = some r → At P N df gv a' w' g' D' (env', R') → (∀ x, D' x → x < n') → Tr w g w' g' → Q (toExit e) a' w') → c.wp P Q a w
  | .skip, β, ls, n, env, R, K, r, Q, a, w, g, D, h, _, _, A, hn, hK => wp_skip (hK .normal n env R a w g D (by simpa only [code] using h) A hn (Tr.refl _ _))
  | .ret, β, ls, n, env, R, K, r, Q, a, w, g, D, h, _, _, A, hn, hK => wp_ret (hK .ret n env R a w g D (by simpa only [code] using h) A hn (Tr.refl _ _))
  | .exit i, β, ls, n, env, R, K, r, Q, a, w, g, D, h, _, _, A, hn, hK => wp_exit (hK (.exit i) n env R a w g D (by simpa only [code] using h) A hn (Tr.refl _ _))
  | .region id ops dr, β, ls, n, env, R, K, r, Q, a, w, g, D, h, _, hr, A, hn, hK => by
    cases dr with
    | true =>
      simp only [code] at h
      rw [stepsF_eq] at h
      obtain ⟨⟨s1, fs⟩, h1, h2⟩ := Option.bind_eq_some_iff.1 h
      obtain ⟨hck, h2⟩ := cond_some h2
      exact hr.2 rfl df gv id n Q a w g D (env, R) s1 fs h1 hck A hn fun a' w' g' D' A' hb hT => hK .normal _ s1.1 s1.2 a' w' g' D' h2 A' hb hT
    | false =>
      simp only [code] at h
      rw [steps_eq] at h
      obtain ⟨s1, h1, h2⟩ := Option.bind_eq_some_iff.1 h
      have h1' := runS_runI (C := C) (dm := dm) ops n 0 ops.size (env, R) (by omega)
      rw [List.drop_zero] at h1'
      have hid : idOf C ops.toList n 0 = n := by simp [idOf, widths]
      rw [hid, h1] at h1'
      rw [← List.range_eq_range'] at h1'
      have hfin : ∀ a' w' g' D', At P N df gv a' w' g' D' s1 → (∀ x, D' x → x < n + widths C ops.toList) → Tr w g w' g' → Q .normal a' w' := fun a' w' g' D' A' hb hT => hK .normal _ s1.1 s1.2 a' w' g' D' h2 A' hb hT
      refine wp_region (ops_run (n := n) E hr.1 (Nat.le_refl _) (fun a' w' g' D' A' hb hT => hfin a' w' g' D' A' hb hT) (List.range ops.size) (env, R) a w g D List.nodup_range h1'.symm A ?_ ?_ (Tr.refl _ _))
      · intro i _ o ho x h3 _ hx
        have := hn x hx
        have := idOf_mono (C := C) (ops := ops.toList) (n := n) (show 0 ≤ i by omega)
        omega
      · intro x hx; have := hn x hx; omega
  | .seq x y, β, ls, n, env, R, K, r, Q, a, w, g, D, h, hl, hr, A, hn, hK => by
    simp only [code] at h
    simp only [loopList, app_eq] at hl
    obtain ⟨l1, l2⟩ := hl.split
    rw [loopList_len] at l1 l2
    refine wp_seq (code_sound E hm x h l1 hr.1 A hn fun e n' env' R' a' w' g' D' hk A' hn' hT => ?_)
    cases e with
    | normal => exact code_sound E hm y hk l2 hr.2 A' hn' fun e n' env' R' a'' w'' g'' D'' hk A'' hn'' hT' => hK e n' env' R' a'' w'' g'' D'' hk A'' hn'' (hT.trans hT')
    | exit i => exact hK (.exit i) n' env' R' a' w' g' D' hk A' hn' hT
    | ret => exact hK .ret n' env' R' a' w' g' D' hk A' hn' hT
  | .cond c x y, β, ls, n, env, R, K, r, Q, a, w, g, D, h, hl, hr, A, hn, hK => by
    simp only [code] at h
    simp only [loopList, app_eq] at hl
    obtain ⟨l1, l2⟩ := hl.split
    rw [loopList_len] at l1 l2
    obtain ⟨b, e1, e2, h⟩ := asB_rel h (ev_rel a gv A.sim c)
    have henv : setB c b env = env := by
      cases c with
      | tmp s =>
        simp only [ev] at e1
        cases hs : Nat.blt s gslot with
        | true => rw [hs] at e1; simp only [cond_true] at e1; simp only [setB]; rw [← e1]; exact upd_self env s
        | false => rw [hs] at e1; simp at e1
      | _ => rfl
    cases b with
    | true =>
      simp only [cond_true] at h
      rw [henv] at h
      exact wp_cond_true e2 (code_sound E hm x h l1 hr.1 A hn hK)
    | false =>
      simp only [cond_false] at h
      rw [henv] at h
      exact wp_cond_false e2 (code_sound E hm y h l2 hr.2 A hn hK)
  | .block i c, β, ls, n, env, R, K, r, Q, a, w, g, D, h, hl, hr, A, hn, hK => by
    simp only [code] at h
    refine wp_block (code_sound E hm c h hl hr A hn fun e n' env' R' a' w' g' D' hk A' hn' hT => ?_)
    cases e with
    | normal => exact hK .normal n' env' R' a' w' g' D' hk A' hn' hT
    | ret => exact hK .ret n' env' R' a' w' g' D' hk A' hn' hT
    | exit j =>
      simp only at hk
      show Exit.inBlock i Q (.exit j) a' w'
      simp only [Exit.inBlock]
      cases hb : Nat.beq j i with
      | true =>
        rw [hb] at hk
        rw [if_pos (Nat.eq_of_beq_eq_true hb)]
        exact hK .normal n' env' R' a' w' g' D' hk A' hn' hT
      | false =>
        rw [hb] at hk
        rw [if_neg (Nat.ne_of_beq_eq_false hb)]
        exact hK (.exit j) n' env' R' a' w' g' D' hk A' hn' hT
  | .loop c, β, ls, n, env, R, K, r, Q, a, w, g, D, h, hl, hr, A, hn, hK => by
    simp only [loopList] at hl
    cases hl with
    | @cons _ l _ ls' h1 h2 =>
      cases h2
      obtain ⟨inner, hin, F, fu, f1, f2, f3⟩ := h1
      simp only [code] at h
      obtain ⟨ds, hds, h⟩ := Option.bind_eq_some_iff.1 h
      obtain ⟨p, hp, h⟩ := Option.bind_eq_some_iff.1 h
      rw [f1] at h
      obtain ⟨g1, D1, S1, hD1, T1⟩ := read_fill A.sim hds
      refine wp_loop_fuel (n := fu) (fun n a' w' => ∃ p g' D', F β n p (fun q => dest l.outs q K) = some r ∧ At P N df gv a' w' g' D' (l.head.fill (unpack _ p)) ∧ (∀ x, D' x → x < l.head.regs.length) ∧ Tr w g w' g') ?_
        ⟨p, g1, D1, h, ⟨by rw [pack_unpack hp]; exact S1, A.size, A.defers⟩, hD1, T1⟩
      rintro n a' w' ⟨p, g', D', hF, A', hn', hT⟩
      cases n with
      | zero => rw [f2] at hF; cases hF
      | succ n =>
        rw [← f3] at hF
        unfold round at hF
        refine code_sound (g := g') (D := D') E hm c hF hin hr A' hn' fun e n' env' R' a'' w'' g'' D'' hk A'' hn'' hT' => ?_
        have out : ∀ e, emit l.outs e env' R' (fun q => dest l.outs q K) = some r → Q (toExit e) a'' w'' := by
          intro e hk
          obtain ⟨τ, ds, q, q1, q2, q3⟩ := emit_dest (K := K) (r := r) hk
          rw [q3] at q2
          obtain ⟨g3, D3, S3, hD3, T3⟩ := read_fill A''.sim q1
          exact hK e _ _ _ a'' w'' g3 D3 q2 ⟨S3, A''.size, A''.defers⟩ hD3 ((hT.trans hT').trans T3)
        cases e with
        | normal =>
          obtain ⟨ds, hds, hk⟩ := Option.bind_eq_some_iff.1 hk
          obtain ⟨p', hp', hk⟩ := Option.bind_eq_some_iff.1 hk
          obtain ⟨g3, D3, S3, hD3, T3⟩ := read_fill A''.sim hds
          exact ⟨n, Nat.lt_succ_self n, p', g3, D3, hk, ⟨by rw [pack_unpack hp']; exact S3, A''.size, A''.defers⟩, hD3, (hT.trans hT').trans T3⟩
        | exit i => exact out (.exit i) hk
        | ret => exact out .ret hk
  | .goto _, β, ls, n, env, R, K, r, Q, a, w, g, D, h, _, _, _, _, _ => by simp [code] at h
  | .label _, β, ls, n, env, R, K, r, Q, a, w, g, D, h, _, _, _, _, _ => by simp [code] at h
  | .scope _, β, ls, n, env, R, K, r, Q, a, w, g, D, h, _, _, _, _, _ => by simp [code] at h
  | .rangeFunc .., β, ls, n, env, R, K, r, Q, a, w, g, D, h, _, _, _, _, _ => by simp [code] at h
  | .refuse _, β, ls, n, env, R, K, r, Q, a, w, g, D, h, _, _, _, _, _ => by simp [code] at h
end Go.VE
/- Functions: what the evaluator answers is a contract. -/
namespace Go.VE
variable {P : Program} {w w' : World} {g g' : Gh} {D D' : Nat → Prop} {env env' : Env} {R R1 R' : Regs} {gv : Nat → Value} {a : Act} {C : Cfg} {dm : Bool} {o : Oper} {id : Nat} {v : AV} {V : Nat → Value}

theorem Sim.setEnv (S : Sim P w g D env R V) {s : Nat} {av : AV} (h : AVRel P w g av (V s)) (hin : av.In D) : Sim P w g D (upd env s av) R V :=
  { S with
    vals := fun t => by
      by_cases e : t = s
      · subst e; rw [upd_same]; exact h
      · rw [upd_ne _ _ e]; exact S.vals t
    valsD := fun t => by
      by_cases e : t = s
      · subst e; rw [upd_same]; exact hin
      · rw [upd_ne _ _ e]; exact S.valsD t }

theorem entCells_own : ∀ (cs : List Cell) (id : Nat) (R : Regs), entCells id R cs = ownCells true id R cs
  | [], _, _ => rfl
  | c :: cs, id, R => by
    cases c with
    | val t x => cases t <;> simp only [entCells, ownCells, Bool.true_or, entCells_own cs]
    | _ => simp only [entCells, ownCells, entCells_own cs]

theorem entry_sound {I : Nat → Prop} : ∀ {ps : List PM} {ds : List Dyn} {vs : List Value} {S : Nat → Prop} {g : Gh} {D : Nat → Prop} {env : Env} {R : Regs} {s id : Nat}, ArgsRel P w I S ps ds vs → Sim P w g D env R V → (∀ b, S b → g.O b = .other) → (∀ b, S b → b < w.heap.size) →
    (∀ b, I b → g.imm b) → (∀ x, D x → x < id) → (∀ k, k < ps.length → V (s + k) = vs.getD k undef ∧ V (gslot + s + k) = vs.getD k undef) →
    ∃ g' D', Sim P w g' D' (entry ps ds s id env R).1 (entry ps ds s id env R).2.1 V ∧ (∀ x, D' x → x < (entry ps ds s id env R).2.2) ∧ ∀ b, ¬ S b → g'.O b = g.O b
  | [], [], [], S, g, D, env, R, s, id, _, Sm, _, _, _, hD, _ => ⟨g, D, Sm, hD, fun _ _ => rfl⟩
  | p :: ps, d :: ds, v :: vs, S, g, D, env, R, s, id, ⟨S1, S2, hS, h1, h2⟩, Sm, hT, hl, hI, hD, hV => by
    have hV0 := hV 0 (by simp)
    simp only [Nat.add_zero, List.getD_cons_zero] at hV0
    have hVn : ∀ k, k < ps.length → V (s + 1 + k) = vs.getD k undef ∧ V (gslot + (s + 1) + k) = vs.getD k undef := by
      intro k hk
      have := hV (k + 1) (by simpa using hk)
      simp only [List.getD_cons_succ] at this
      rw [show s + 1 + k = s + (k + 1) by omega, show gslot + (s + 1) + k = gslot + s + (k + 1) by omega]
      exact this
    have rest : ∀ {g1 : Gh} {D1 : Nat → Prop} {env1 : Env} {R1 : Regs} {id1 : Nat}, Sim P w g1 D1 env1 R1 V → (∀ b, ¬ S1 b → g1.O b = g.O b) → (∀ x, D1 x → x < id1) → entry (p :: ps) (d :: ds) s id env R = entry ps ds (s + 1) id1 env1 R1 →
        ∃ g' D', Sim P w g' D' (entry (p :: ps) (d :: ds) s id env R).1 (entry (p :: ps) (d :: ds) s id env R).2.1 V ∧ (∀ x, D' x → x < (entry (p :: ps) (d :: ds) s id env R).2.2) ∧ ∀ b, ¬ S b → g'.O b = g.O b := by
      intro g1 D1 env1 R1 id1 m1 m2 m3 e
      rw [e]
      have hI1 : ∀ b, g.imm b → g1.imm b := fun b hb => (m2 b (fun hb1 => by have := hT b (hS.left b hb1); rw [show g.O b = .imm from hb] at this; cases this)).trans hb
      obtain ⟨g2, D2, n1, n2, n3⟩ := entry_sound h2 m1 (fun b hb => (m2 b (fun hb1 => hS.apart b hb1 hb)).trans (hT b (hS.right b hb))) (fun b hb => hl b (hS.right b hb)) (fun b hb => hI1 b (hI b hb)) m3 hVn
      exact ⟨g2, D2, n1, n2, fun b hb => (n3 b (fun h => hb (hS.right b h))).trans (m2 b (fun h => hb (hS.left b h)))⟩
    have hT1 : ∀ b, S1 b → g.O b = .other := fun b hb => hT b (hS.left b hb)
    have hl1 : ∀ b, S1 b → b < w.heap.size := fun b hb => hl b (hS.left b hb)
    cases p with
    | imm t =>
      obtain ⟨x, rfl, hx⟩ := h1
      have hx' := vrep_map (fun us h => Rep.mono t (Ext.sub (w := w) hI) h) hx
      exact rest (Sm.setEnv (s := s) (by rw [hV0.1]; exact avOf_rel t hx') (avOf_in _ t x)) (fun _ _ => rfl) hD rfl
    | io t =>
      obtain ⟨x, rfl, hx⟩ := h1
      obtain ⟨g1, D1, m1, m2, m3, m4, m5, m6, m7⟩ := give_own (id := id) (n := 0) hx Sm hT1 hl1 hI (fun i hi _ h => by have := hD i h; omega)
      refine rest ((m1.setEnv (s := gslot + s) (by rw [hV0.2]; exact m2) m3).setEnv (s := s) (by rw [hV0.1]; exact m2) m3) m6 (id1 := (ownCells true id R (expl t x)).2.2) ?_ ?_
      · intro y hy
        rw [m5]
        rcases m4.new y hy with h | h
        · have := hD y h; omega
        · omega
      · simp only [entry, entCells_own]
    | mv t =>
      obtain ⟨x, rfl, hx⟩ := h1
      obtain ⟨g1, D1, m1, m2, m3, m4, m5, m6, m7⟩ := give_own (id := id) (n := 0) hx Sm hT1 hl1 hI (fun i hi _ h => by have := hD i h; omega)
      refine rest (m1.setEnv (s := s) (by rw [hV0.1]; exact m2) m3) m6 (id1 := (ownCells true id R (expl t x)).2.2) ?_ ?_
      · intro y hy
        rw [m5]
        rcases m4.new y hy with h | h
        · have := hD y h; omega
        · omega
      · simp only [entry, entCells_own]
    | iop t =>
      obtain ⟨x, b, c, e, rfl, rfl, hb, hc, hx⟩ := h1
      have hid : ¬ D id := fun h => by have := hD id h; omega
      have Sb := Sm.giveBox hT1 hl1 hI hid hb hc hx
      have hr : AVRel P w (g.give S1 id (.pointer (some ⟨b, 0, none⟩))) (.c (.ptr id 0 t.cells 0)) (.pointer (some ⟨b, 0, none⟩)) := by
        simp only [AVRel, CellRel, Gh.give, upd_same, ptrTo, isSl, add_none]
        simp
      have hin : (AV.c (.ptr id 0 t.cells 0)).In (fun i => D i ∨ i = id) := by simp [AV.In, Cell.In]
      refine rest ((Sb.setEnv (s := gslot + s) (by rw [hV0.2]; exact hr) hin).setEnv (s := s) (by rw [hV0.1]; exact hr) hin) (fun b hb => give_old hb) (id1 := id + 1) ?_ rfl
      rintro y (hy | rfl)
      · have := hD y hy; omega
      · omega
  | [], _ :: _, _, _, _, _, _, _, _, _, h, _, _, _, _, _, _ => by cases h
  | [], [], _ :: _, _, _, _, _, _, _, _, h, _, _, _, _, _, _ => by cases h
  | _ :: _, [], _, _, _, _, _, _, _, _, h, _, _, _, _, _, _ => by cases h
  | _ :: _, _ :: _, [], _, _, _, _, _, _, _, h, _, _, _, _, _, _ => by cases h

/-! ### the end -/
def resOk (N : Nat) : ResultVar → Prop
  | .tmp t => t < N
  | .cell t _ => t < N

def resOne (tmps : Array Value) : ResultVar → Sem Value
  | .tmp t => pure (tmps.getD t undef)
  | .cell a t => do loadVar t (← asAddr (tmps.getD a undef))

theorem resAVs_run {N : Nat} {df : List Deferred} (E : Env0 P C N) (A : At P N df gv a w g D (env, R)) : ∀ {rs : List ResultVar} {avs : List AV}, resAVs env C R rs = some avs → (∀ r ∈ rs, resOk N r) →
    ∃ vs : List Value, PW (fun r v => (resOne a.tmps r).run P w = .ok v w) rs vs ∧ PW (AVRel P w g) avs vs ∧ ∀ v ∈ avs, v.In D
  | [], avs, h, _ => by
    simp only [resAVs, Option.some.injEq] at h
    subst h
    exact ⟨[], trivial, trivial, by simp⟩
  | .tmp t :: rs, avs, h, hr => by
    simp only [resAVs] at h
    obtain ⟨avs', h1, h⟩ := Option.bind_eq_some_iff.1 h
    cases h
    obtain ⟨vs, k1, k2, k3⟩ := resAVs_run E A h1 (fun r hr' => hr r (by simp [hr']))
    have ht : t < N := hr (.tmp t) (by simp)
    have hv := A.sim.vals t
    have hsl : slots a gv t = a.tmps.getD t undef := by simp only [slots]; rw [if_pos (Nat.lt_of_lt_of_le ht E.small)]
    rw [hsl] at hv
    refine ⟨a.tmps.getD t undef :: vs, ⟨by simp [resOne], k1⟩, ⟨hv, k2⟩, ?_⟩
    intro v hv
    rcases List.mem_cons.1 hv with rfl | hv
    · exact A.sim.valsD t
    · exact k3 v hv
  | .cell t ty :: rs, avs, h, hr => by
    simp only [resAVs] at h
    split at h
    · rename_i id sz off i hx hi
      split at h
      · rename_i cs hR
        obtain ⟨hb, h⟩ := cond_some h
        rw [Nat.ble_eq] at hb
        obtain ⟨avs', h1, h⟩ := Option.bind_eq_some_iff.1 h
        cases h
        obtain ⟨vs, k1, k2, k3⟩ := resAVs_run E A h1 (fun r hr' => hr r (by simp [hr']))
        have ht : t < N := hr (.cell t ty) (by simp)
        have hv := A.sim.vals t
        have hsl : slots a gv t = a.tmps.getD t undef := by simp only [slots]; rw [if_pos (Nat.lt_of_lt_of_le ht E.small)]
        rw [hsl] at hv
        simp only at hv
        rw [hx] at hv
        simp only [AVRel] at hv
        obtain ⟨b, c, e, e1, e2, e3, e4, e5⟩ := ptr_box A.sim hR hv rfl
        have hlen := e5.len
        obtain ⟨u, r1, r2⟩ := run_loadVar (E.tys ty i hi) e4 (off := off) (by simpa [hlen] using hb)
        refine ⟨u :: vs, ⟨?_, k1⟩, ⟨?_, k2⟩, ?_⟩
        · simp only [resOne, e1, asAddr, Sem.run_bind, Sem.run_pure, Result.andThen_ok, r1]
        · have hw : vrep i.ty.isAgg (fun l => l = seg c off i.ty.cells) u := by
            unfold vrep
            cases ht : i.ty.isAgg with
            | true => rw [ht] at r2; exact ⟨_, r2, by simp⟩
            | false => rw [ht] at r2; exact r2.symm
          exact of_rel' hw (fun l hl => by rw [hl]; exact PW.take _ (PW.drop _ e5))
        · intro v hv
          rcases List.mem_cons.1 hv with rfl | hv
          · refine of_in' fun c hcm => ?_
            rw [takeN_eq, dropN_eq] at hcm
            exact (A.sim.regD _ _ hR).2 c (List.mem_of_mem_drop (List.mem_of_mem_take hcm))
          · exact k3 v hv
      · cases h
    · cases h

theorem outCell_imm {t : Ty} {c : Cell} : outCell .imm R t c = rdSlice R t c := by
  cases c <;> simp only [outCell, rdSlice]

theorem outCells_imm {B : List Nat} (hR : RegsOk P w g R) : ∀ (t : Ty) {cs : List Cell} {x : t.den × List Cell} {vs : List Value}, outCells .imm R t cs = some x → PW (CellRel P w g) cs vs → (∀ c ∈ cs, ∀ i ∈ cid c, i ∈ B) →
    ∃ us ws, vs = us ++ ws ∧ Rep P t w (lent g B) x.1 us ∧ PW (CellRel P w g) x.2 ws ∧ ∀ c ∈ x.2, c ∈ cs
  | .one t, cs, x, vs, h, hc, hB => outCells_imm hR t h hc hB
  | .pair a b, cs, x, vs, h, hc, hB => by
    simp only [outCells] at h
    obtain ⟨y, hy, h⟩ := Option.bind_eq_some_iff.1 h
    obtain ⟨z, hz, h⟩ := Option.bind_eq_some_iff.1 h
    cases h
    obtain ⟨us, ws, rfl, h1, h2, h3⟩ := outCells_imm hR a hy hc hB
    obtain ⟨us', ws', rfl, k1, k2, k3⟩ := outCells_imm hR b hz h2 (fun c hc => hB c (h3 c hc))
    exact ⟨us ++ us', ws', by simp, ⟨us, us', rfl, h1, k1⟩, k2, fun c hc => h3 c (k3 c hc)⟩
  | .slice t, cs, x, vs, h, hc, hB => by
    cases cs with
    | nil => simp [outCells] at h
    | cons c cs =>
      simp only [outCells] at h
      obtain ⟨y, hy, h⟩ := Option.bind_eq_some_iff.1 h
      cases h
      cases vs with
      | nil => exact hc.elim
      | cons v vs =>
        rw [outCell_imm] at hy
        refine ⟨[v], vs, rfl, rdSlice_rep hR hy hc.1 ?_, hc.2, fun c hc => by simp [hc]⟩
        intro i hi
        refine hB c (by simp) i ?_
        cases c <;> first | exact hi | (simp [rdSlice] at hy; done) | (simp [borCell] at hi; done)
  | .int k, cs, x, vs, h, hc, hB => base_rep (t := .int k) (by rw [← h]; cases cs with | nil => rfl | cons c cs => cases c <;> rfl) hc
  | .bool, cs, x, vs, h, hc, hB => base_rep (t := .bool) (by rw [← h]; cases cs with | nil => rfl | cons c cs => cases c <;> rfl) hc
  | .str, cs, x, vs, h, hc, hB => base_rep (t := .str) (by rw [← h]; cases cs with | nil => rfl | cons c cs => cases c <;> rfl) hc
  | .ref t, cs, x, vs, h, hc, hB => by simp [outCells] at h
  | .fn1 a r, cs, x, vs, h, hc, hB => by simp [outCells] at h
  | .fn2 a b r, cs, x, vs, h, hc, hB => by simp [outCells] at h

theorem Own1.lower {d : Bool} {t : Ty} {S I : Nat → Prop} {xs : List t.den} {vs : List Value} (hd : d = false ∨ t.flat = true) (h : Own1 P d (.slice t) w S I xs vs) : Own1 P false (.slice t) w S I xs vs := by
  cases d with
  | false => exact h
  | true =>
    rcases hd with hd | hd
    · cases hd
    · obtain ⟨A, cap, e, hl, h⟩ := h
      refine ⟨A, cap, e, hl, h.imp _root_.id ?_⟩
      rintro ⟨b, off, c, el, fz, Sf, k1, k2, k3, k4, k5, k6, k7, k8⟩
      exact ⟨b, off, c, el, fz, Sf, k1, k2, k3, k4, k5, k6, k7, fun i hi => flat_rep hd (Own'.rep t (I := fun _ => True) (fun _ _ => trivial) (k8 i hi))⟩

theorem view_own1 {t : Ty} {xs : List t.den} {d : Bool} {S I : Nat → Prop} {u : Value} {lo hi : Nat} (h : Own1 P d (.slice t) w S I xs [u]) (hl : lo ≤ hi) (hh : hi ≤ lenV u) : Own1 P d (.slice t) w S I (cut xs lo hi) [subSlice t.cells lo hi u] := by
  obtain ⟨A, cap, e1, hle, h⟩ := h
  have e1 := (List.cons.inj e1).1
  subst e1
  simp only [lenV] at hh
  have hcl : List.length (cut xs lo hi) = hi - lo := cut_length (α := t.den) xs lo hi hh
  refine ⟨if cap = lo then A else A.map (·.add (lo * t.cells)), cap - lo, by simp [subSlice, hcl], by show List.length (cut xs lo hi) ≤ _; omega, ?_⟩
  rcases h with h | ⟨b, off, c, e, fz, Sf, rfl, k2, k3, k4, k5, k6, k7, k8⟩
  · exact .inl (by omega)
  · by_cases hcap : cap = lo
    · exact .inl (by omega)
    · right
      rw [if_neg hcap]
      have hmul : lo * t.cells ≤ cap * t.cells := Nat.mul_le_mul_right _ (by omega)
      refine ⟨b, off + lo * t.cells, c, e, fz, fun j => Sf (lo + j), by simp [add_none], k2, k3, by rw [Nat.sub_mul]; omega, by rw [Nat.sub_mul]; exact k5.imp _root_.id (by omega),
        fun i k hk => k6 _ k hk, fun i j k hij h1 h2 => k7 _ _ k (by omega) h1 h2, fun j hj => ?_⟩
      have h1 : lo + j < List.length xs := by have : j < List.length (cut xs lo hi) := hj; omega
      have := k8 (lo + j) h1
      rw [Nat.add_mul] at this
      show ElR P d w _ I t ((cut xs lo hi)[j]'hj) _
      rw [cut_get (α := t.den) xs lo hi j hj h1, Nat.add_assoc]
      exact this

def isDeep : Own → Bool
  | .deep => true
  | _ => false
theorem outCell_own {o : Own} {t : Ty} {c : Cell} {xs : List t.den} {u : Value} (ho : o = .flat ∨ o = .deep) (hR : RegsOk P w g R) (h : outCell o R t c = some xs) (hc : CellRel P w g c u) : Own1 P (isDeep o) (.slice t) w (ownS g (pid c)) g.imm xs [u] := by
  have own : ∀ {i : Nat} {ys : List t.den} {d : Bool} {v : Value}, Own1 P d (.slice t) w (g.mine i) g.imm ys [v] → pid c = [i] → (o = .deep → d = true) → (o = .flat → d = false ∨ t.flat = true) → Own1 P (isDeep o) (.slice t) w (ownS g (pid c)) g.imm ys [v] := by
    intro i ys d v h1 h2 h3 h4
    rw [h2]
    have h5 := Own1.mono (.slice t) (S' := ownS g [i]) (fun b hb => ⟨rfl, i, by simp, hb⟩) (fun b hb => ⟨rfl, hb⟩) h1
    rcases ho with rfl | rfl
    · exact Own1.lower (h4 rfl) h5
    · rw [h3 rfl] at h5; exact h5
  cases c with
  | nil =>
    simp only [outCell, Option.some.injEq] at h
    simp only [CellRel] at hc
    subst h hc
    exact ⟨none, 0, rfl, Nat.le_refl _, .inl rfl⟩
  | own i =>
    simp only [CellRel] at hc
    subst hc
    simp only [outCell] at h
    cases hr : R i with
    | none => rw [hr] at h; cases h
    | some r =>
      rw [hr] at h
      cases r with
      | box cs => cases h
      | frz s ys => rcases ho with rfl | rfl <;> cases h
      | arr s ys d =>
        have h1 := RegRel.own1.1 (hR _ _ hr)
        rcases ho with rfl | rfl
        · obtain ⟨hd, h⟩ := cond_some' h
          obtain ⟨e, rfl⟩ := cast_some h
          cases e
          exact own h1 rfl (fun h => by cases h) (fun _ => by revert hd; cases d <;> cases t.flat <;> simp)
        · obtain ⟨hd, h⟩ := cond_some h
          obtain ⟨e, rfl⟩ := cast_some h
          cases e
          exact own h1 rfl (fun _ => hd) (fun h => by cases h)
  | view i sz lo hi =>
    simp only [CellRel] at hc
    obtain ⟨rfl, hlo, hhi⟩ := hc
    simp only [outCell] at h
    obtain ⟨hsz0, h2⟩ := cond_some h
    clear h
    have hsz := Nat.eq_of_beq_eq_true hsz0
    clear hsz0
    subst hsz
    have h := h2
    clear h2
    cases hr : R i with
    | none => rw [hr] at h; cases h
    | some r =>
      rw [hr] at h
      cases r with
      | box cs => cases h
      | frz s ys => rcases ho with rfl | rfl <;> cases h
      | arr s ys d =>
        have h1 := RegRel.own1.1 (hR _ _ hr)
        rcases ho with rfl | rfl
        · obtain ⟨hd, h⟩ := cond_some' h
          obtain ⟨e, rfl⟩ := cast_some h
          cases e
          exact own (view_own1 h1 hlo hhi) rfl (fun h => by cases h) (fun _ => by revert hd; cases d <;> cases t.flat <;> simp)
        · obtain ⟨hd, h⟩ := cond_some h
          rw [Bool.and_eq_true] at hd
          obtain ⟨e, rfl⟩ := cast_some h
          cases e
          exact own (view_own1 h1 hlo hhi) rfl (fun _ => hd.1) (fun h => by cases h)
  | val s x => rcases ho with rfl | rfl <;> simp [outCell] at h
  | top => simp [outCell] at h
  | ptr => simp [outCell] at h
  | func => simp [outCell] at h

theorem pids_app (xs ys : List Cell) : pids (xs ++ ys) = pids xs ++ pids ys := by simp [pids, List.flatMap_append]

theorem outCells_own {o : Own} (ho : o = .flat ∨ o = .deep) (hR : RegsOk P w g R) : ∀ (t : Ty) {cs : List Cell} {x : t.den × List Cell} {vs : List Value}, outCells o R t cs = some x → PW (CellRel P w g) cs vs → (pids cs).Nodup →
    ∃ pre us ws, cs = pre ++ x.2 ∧ vs = us ++ ws ∧ Own1 P (isDeep o) t w (ownS g (pids pre)) g.imm x.1 us ∧ PW (CellRel P w g) x.2 ws
  | .one t, cs, x, vs, h, hc, hN => outCells_own ho hR t h hc hN
  | .pair a b, cs, x, vs, h, hc, hN => by
    simp only [outCells] at h
    obtain ⟨y, hy, h⟩ := Option.bind_eq_some_iff.1 h
    obtain ⟨z, hz, h⟩ := Option.bind_eq_some_iff.1 h
    cases h
    obtain ⟨pre, us, ws, e1, e2, h1, h2⟩ := outCells_own ho hR a hy hc hN
    have hN' := hN
    rw [e1, pids_app, List.nodup_append] at hN'
    obtain ⟨pre', us', ws', e3, e4, k1, k2⟩ := outCells_own ho hR b hz h2 hN'.2.1
    refine ⟨pre ++ pre', us ++ us', ws', by rw [e1, e3]; simp, by rw [e2, e4]; simp, ⟨us, us', _, _, rfl, ?_, ?_, ?_, h1, k1⟩, k2⟩
    · rintro q ⟨i, hi, hq⟩; exact ⟨i, by rw [pids_app]; exact List.mem_append_left _ hi, hq⟩
    · rintro q ⟨i, hi, hq⟩; exact ⟨i, by rw [pids_app]; exact List.mem_append_right _ hi, hq⟩
    · rintro q ⟨i, hi, hq⟩ ⟨j, hj, hq'⟩
      rw [hq] at hq'; cases hq'
      refine hN'.2.2 i hi i ?_ rfl
      rw [e3, pids_app]; exact List.mem_append_left _ hj
  | .slice t, cs, x, vs, h, hc, hN => by
    cases cs with
    | nil => simp [outCells] at h
    | cons c cs =>
      simp only [outCells] at h
      obtain ⟨y, hy, h⟩ := Option.bind_eq_some_iff.1 h
      cases h
      cases vs with
      | nil => exact hc.elim
      | cons v vs => exact ⟨[c], [v], vs, rfl, rfl, by simpa [pids] using outCell_own ho hR hy hc.1, hc.2⟩
  | .int k, cs, x, vs, h, hc, hN => base (t := .int k) rfl (by rw [← h]; cases cs with | nil => rfl | cons c cs => cases c <;> rfl) hc (fun h => h)
  | .bool, cs, x, vs, h, hc, hN => base (t := .bool) rfl (by rw [← h]; cases cs with | nil => rfl | cons c cs => cases c <;> rfl) hc (fun h => h)
  | .str, cs, x, vs, h, hc, hN => base (t := .str) rfl (by rw [← h]; cases cs with | nil => rfl | cons c cs => cases c <;> rfl) hc (fun h => h)
  | .ref t, cs, x, vs, h, hc, hN => by simp [outCells] at h
  | .fn1 a r, cs, x, vs, h, hc, hN => by simp [outCells] at h
  | .fn2 a b r, cs, x, vs, h, hc, hN => by simp [outCells] at h
 where
  base {o : Own} {t : Ty} {cs : List Cell} {x : t.den × List Cell} {vs : List Value} (hf : t.flat = true) (h : baseOf t cs = some x) (hc : PW (CellRel P w g) cs vs) (hk : ∀ {S I : Nat → Prop} {us : List Value}, Own' P t w S x.1 us → Own1 P (isDeep o) t w S I x.1 us) :
      ∃ pre us ws, cs = pre ++ x.2 ∧ vs = us ++ ws ∧ Own1 P (isDeep o) t w (ownS g (pids pre)) g.imm x.1 us ∧ PW (CellRel P w g) x.2 ws := by
    unfold baseOf at h
    split at h
    · rename_i s y cs
      obtain ⟨z, hz, h⟩ := Option.bind_eq_some_iff.1 h
      cases h
      obtain ⟨e, rfl⟩ := cast_some hz
      subst e
      cases vs with
      | nil => exact hc.elim
      | cons v vs =>
        refine ⟨[.val s y], [v], vs, rfl, rfl, hk ?_, hc.2⟩
        have hc1 := hc.1
        simp only [CellRel] at hc1
        exact Own'.of_flat s hf hc1
    · cases h
end Go.VE
/- Functions: what leaves. -/
namespace Go.VE
variable {P : Program} {w w' : World} {g g' : Gh} {D D' : Nat → Prop} {env env' : Env} {R R1 R' : Regs} {gv : Nat → Value} {a : Act} {C : Cfg} {dm : Bool} {o : Oper} {id : Nat} {v : AV} {V : Nat → Value}

theorem shaped_vrep {t : Ty} {u : Value} {p : List Value → Prop} (hs : shaped t v = true) (hv : AVRel P w g v u) (h : ∀ us, PW (CellRel P w g) v.cells us → p us) : vrep t.isAgg p u := by
  cases v with
  | c c =>
    simp only [shaped, Bool.not_eq_true'] at hs
    rw [hs]
    exact h [u] ⟨hv, trivial⟩
  | a cs =>
    simp only [shaped] at hs
    rw [hs]
    simp only [AVRel] at hv
    obtain ⟨us, e, hv⟩ := hv
    exact ⟨us, e, h _ hv⟩
  | t xs => cases hs

theorem outIds_imm {t : Ty} {os : List (Ty × Own)} {v : AV} {vs : List AV} : outIds ((t, .imm) :: os) (v :: vs) = outIds os vs := by rw [outIds]
theorem outIds_own {t : Ty} {m : Own} {os : List (Ty × Own)} {v : AV} {vs : List AV} (hm : m ≠ .imm) : outIds ((t, m) :: os) (v :: vs) = pids v.cells ++ outIds os vs := by
  cases m <;> first | exact absurd rfl hm | (rw [outIds, app_eq] <;> first | rfl | (intro _ h; cases h))
theorem outImm_imm {t : Ty} {os : List (Ty × Own)} {v : AV} {vs : List AV} : outImm R ((t, .imm) :: os) (v :: vs) = cids v.cells ++ outImm R os vs := by rw [outImm, app_eq]; rfl
theorem outImm_box {t : Ty} {os : List (Ty × Own)} {v : AV} {vs : List AV} : outImm R ((t, .box) :: os) (v :: vs) = (borCells R v.cells).drop 1 ++ outImm R os vs := by rw [outImm, app_eq]
theorem outImm_own {t : Ty} {m : Own} {os : List (Ty × Own)} {v : AV} {vs : List AV} (hm : m = .flat ∨ m = .deep) : outImm R ((t, m) :: os) (v :: vs) = outImm R os vs := by
  rcases hm with rfl | rfl <;> rw [outImm] <;> (intro _ h; cases h)

theorem box_out {B : List Nat} (S : Sim P w g D env R V) {t : Ty} {i sz : Nat} {cs : List Cell} {x : t.den} {u : Value} (hR : R i = some (.box cs)) (hv : CellRel P w g (.ptr i 0 sz 0) u) (hx : implAll0 R t cs = some x)
    (hB : ∀ j ∈ (borCells R [.ptr i 0 sz 0]).drop 1, j ∈ B) : BoxRel P w (ownS g [i]) (lent g B) t ⟨t, x⟩ u := by
  obtain ⟨b, c, e, e1, e2, e3, e4, e5⟩ := ptr_box S hR hv rfl
  have hb2 : ∀ j, j ∈ cs.flatMap (fun c => match c with | .own j => [j] | .view j _ _ _ => [j] | _ => []) → j ∈ B := by
    intro j hj
    refine hB j ?_
    simp only [borCells, List.flatMap_cons, List.flatMap_nil, List.append_nil, borCell, hR, List.drop_succ_cons, List.drop_zero]
    exact hj
  have hrep := implAll0_rep (B := B) S.regs hx e5 (fun c hc hf hp j hj => hb2 j (by
    rw [List.mem_flatMap]
    refine ⟨c, hc, ?_⟩
    cases c with
    | func f caps => exact absurd rfl (hf f caps)
    | ptr j i sz off => exact absurd rfl (hp j i sz off)
    | _ => first | exact hj | (simp [borCell] at hj)))
  exact ⟨x, b, c, e, rfl, e1, ⟨i, by simp, e3⟩, e4, hrep⟩

theorem outs_sound {B : List Nat} (S : Sim P w g D env R V) : ∀ {os : List (Ty × Own)} {avs : List AV} {vs : List Value} {ds : List Dyn}, outDyns os R avs = some ds → PW (AVRel P w g) avs vs → (outIds os avs).Nodup → (∀ i ∈ outImm R os avs, i ∈ B) →
    OutsRel P true w (lent g B) (ownS g (outIds os avs)) os ds vs
  | [], [], vs, ds, h, hv, _, _ => by
    simp only [outDyns, Option.some.injEq] at h
    subst h
    cases vs with
    | nil => trivial
    | cons _ _ => exact hv.elim
  | (t, m) :: os, v :: avs, vs, ds, h, hv, hnd, hB => by
    cases vs with
    | nil => exact hv.elim
    | cons u us =>
      have gen : ∀ (hm : m ≠ .box), ∃ (x : t.den × List Cell) (ds' : List Dyn), shaped t v = true ∧ outCells m R t v.cells = some x ∧ x.2 = [] ∧ outDyns os R avs = some ds' ∧ ds = ⟨t, x.1⟩ :: ds' := by
        intro hm
        cases m <;> first
          | exact absurd rfl hm
          | (simp only [outDyns] at h
             obtain ⟨hs, h2⟩ := cond_some h
             obtain ⟨x, hx, h3⟩ := Option.bind_eq_some_iff.1 h2
             split at h3
             · rename_i h0
               obtain ⟨ds', hds, h4⟩ := Option.bind_eq_some_iff.1 h3
               cases h4
               exact ⟨x, ds', hs, hx, h0, hds, rfl⟩
             · cases h3)
      cases m with
      | imm =>
        obtain ⟨x, ds', hs, hx, h0, hds, rfl⟩ := gen (by simp)
        rw [outIds_imm] at hnd ⊢
        rw [outImm_imm] at hB
        have ih := outs_sound (B := B) S hds hv.2 hnd (fun i hi => hB i (by simp [hi]))
        refine ⟨fun _ => False, _, ⟨fun _ h => h.elim, fun _ h => h, fun _ h => h.elim⟩, ⟨x.1, rfl, shaped_vrep hs hv.1 fun us' hus => ?_⟩, ih⟩
        obtain ⟨pre, ws, rfl, k1, k2, _⟩ := outCells_imm (B := B) S.regs t hx hus (fun c hc i hi => hB i (List.mem_append_left _ (List.mem_flatMap.2 ⟨c, hc, hi⟩)))
        rw [h0] at k2
        cases ws with
        | nil => simpa using k1
        | cons _ _ => exact k2.elim
      | flat =>
        obtain ⟨x, ds', hs, hx, h0, hds, rfl⟩ := gen (by simp)
        rw [outIds_own (by simp)] at hnd ⊢
        rw [outImm_own (.inl rfl)] at hB
        have hnd' := List.nodup_append.1 hnd
        have ih := outs_sound (B := B) S hds hv.2 hnd'.2.1 hB
        refine ⟨_, _, ownS_app g _ _ (fun i hi hj => hnd'.2.2 i hi i hj rfl), ⟨x.1, rfl, shaped_vrep hs hv.1 fun us' hus => ?_⟩, ih⟩
        obtain ⟨pre, us1, ws, e1, rfl, k1, k2⟩ := outCells_own (.inl rfl) S.regs t hx hus hnd'.1
        rw [h0] at k2 e1
        rw [List.append_nil] at e1
        cases ws with
        | nil => rw [e1, List.append_nil]; exact Own1.mono t (fun b hb => ⟨rfl, hb⟩) (fun b hb => ⟨rfl, .inl hb⟩) k1
        | cons _ _ => exact k2.elim
      | deep =>
        obtain ⟨x, ds', hs, hx, h0, hds, rfl⟩ := gen (by simp)
        rw [outIds_own (by simp)] at hnd ⊢
        rw [outImm_own (.inr rfl)] at hB
        have hnd' := List.nodup_append.1 hnd
        have ih := outs_sound (B := B) S hds hv.2 hnd'.2.1 hB
        refine ⟨_, _, ownS_app g _ _ (fun i hi hj => hnd'.2.2 i hi i hj rfl), ⟨x.1, rfl, shaped_vrep hs hv.1 fun us' hus => ?_⟩, ih⟩
        obtain ⟨pre, us1, ws, e1, rfl, k1, k2⟩ := outCells_own (.inr rfl) S.regs t hx hus hnd'.1
        rw [h0] at k2 e1
        rw [List.append_nil] at e1
        cases ws with
        | nil => rw [e1, List.append_nil]; exact Own1.mono t (fun b hb => ⟨rfl, hb⟩) (fun b hb => ⟨rfl, .inl hb⟩) k1
        | cons _ _ => exact k2.elim
      | box =>
        have key : ∃ i sz cs x ds', v = .c (.ptr i 0 sz 0) ∧ R i = some (.box cs) ∧ implAll0 R t cs = some x ∧ outDyns os R avs = some ds' ∧ ds = ⟨t, x⟩ :: ds' := by
          unfold outDyns at h
          split at h
          · rename_i h1 _; cases h1
          · rename_i t' os' i sz avs' h1 h2
            cases h1; cases h2
            split at h
            · rename_i cs hR
              obtain ⟨x, hx, h⟩ := Option.bind_eq_some_iff.1 h
              obtain ⟨ds', hds, h⟩ := Option.bind_eq_some_iff.1 h
              cases h
              exact ⟨i, sz, cs, x, ds', rfl, hR, hx, hds, rfl⟩
            · cases h
          · cases h
          · rename_i h1 h2 h3
            cases h2
            simp_all
          · cases h
        obtain ⟨i, sz, cs, x, ds', rfl, hR, hx, hds, rfl⟩ := key
        rw [outIds_own (by simp)] at hnd ⊢
        rw [outImm_box] at hB
        have hnd' := List.nodup_append.1 hnd
        have ih := outs_sound (B := B) S hds hv.2 hnd'.2.1 (fun i hi => hB i (by simp [hi]))
        refine ⟨_, _, ownS_app g _ _ (fun i hi hj => hnd'.2.2 i hi i hj rfl), box_out S hR (by simpa only [AVRel] using hv.1) hx (fun j hj => hB j (List.mem_append_left _ hj)), ih⟩
  | [], _ :: _, _, _, h, _, _, _ => by simp [outDyns] at h
  | _ :: _, [], _, _, h, _, _, _ => by simp [outDyns] at h

theorem outDyns_len : ∀ {os : List (Ty × Own)} {avs : List AV} {ds : List Dyn} {vs : List Value} {S I : Nat → Prop}, OutsRel P dm w I S os ds vs → ds.length = os.length
  | [], _, [], [], _, _, _ => rfl
  | _ :: _, avs, _ :: _, _ :: _, _, _, ⟨_, _, _, _, h⟩ => by simp [outDyns_len (avs := avs) h]
  | [], _, _ :: _, _, _, _, h => by cases h
  | [], _, [], _ :: _, _, _, h => by cases h
  | _ :: _, _, [], _, _, _, h => by cases h
  | _ :: _, _, _ :: _, [], _, _, h => by cases h

theorem outDyns_bool {b : Bool} : ∀ {os : List (Ty × Own)} {avs : List AV} {ds : List Dyn} {k : Nat}, outDyns os R avs = some ds → nth (.c .top) avs k = .c (.val .bool b) → nth ⟨.int .i64, (0 : Int)⟩ ds k = ⟨.bool, b⟩ ∧ k < ds.length
  | [], [], ds, k, h, hk => by simp [nth] at hk
  | (t, m) :: os, v :: avs, ds, k, h, hk => by
    unfold outDyns at h
    split at h
    · rename_i h1 _; cases h1
    · rename_i t' os' i sz avs' h1 h2
      cases h1; cases h2
      split at h
      · rename_i cs hR
        obtain ⟨x, hx, h⟩ := Option.bind_eq_some_iff.1 h
        obtain ⟨ds', hds, h⟩ := Option.bind_eq_some_iff.1 h
        cases h
        cases k with
        | zero => simp [nth] at hk
        | succ k =>
          obtain ⟨k1, k2⟩ := outDyns_bool (k := k) hds (by simpa [nth] using hk)
          exact ⟨by simpa [nth] using k1, by simp [k2]⟩
      · cases h
    · cases h
    · rename_i t' m' os' v' avs' hn1 hn2 h1 h2
      cases h1; cases h2
      obtain ⟨hs, h⟩ := cond_some h
      obtain ⟨x, hx, h⟩ := Option.bind_eq_some_iff.1 h
      split at h
      · rename_i h0
        obtain ⟨ds', hds, h⟩ := Option.bind_eq_some_iff.1 h
        cases h
        cases k with
        | zero =>
          simp only [nth] at hk
          subst hk
          refine ⟨?_, by simp⟩
          simp only [nth]
          cases t with
          | bool =>
            simp only [outCells, AV.cells] at hx
            obtain ⟨y, hy, hx⟩ := Option.bind_eq_some_iff.1 hx
            obtain ⟨e, rfl⟩ := cast_some hy
            cases hx
            rfl
          | int k =>
            simp only [outCells, AV.cells] at hx
            obtain ⟨y, hy, hx⟩ := Option.bind_eq_some_iff.1 hx
            obtain ⟨e, _⟩ := cast_some hy
            cases e
          | str =>
            simp only [outCells, AV.cells] at hx
            obtain ⟨y, hy, hx⟩ := Option.bind_eq_some_iff.1 hx
            obtain ⟨e, _⟩ := cast_some hy
            cases e
          | slice t =>
            simp only [outCells, AV.cells] at hx
            obtain ⟨y, hy, hx⟩ := Option.bind_eq_some_iff.1 hx
            cases m <;> simp only [outCell] at hy
            case imm =>
              obtain ⟨e, _⟩ := cast_some hy
              cases e
            all_goals cases hy
          | one t => cases hs
          | pair a b => cases hs
          | ref t => simp [outCells] at hx
          | fn1 a b => simp [outCells] at hx
          | fn2 a b c => simp [outCells] at hx
        | succ k =>
          obtain ⟨k1, k2⟩ := outDyns_bool (k := k) hds (by simpa [nth] using hk)
          exact ⟨by simpa [nth] using k1, by simp [k2]⟩
      · cases h
    · cases h
  | [], _ :: _, _, _, h, _ => by simp [outDyns] at h
  | _ :: _, [], _, _, h, _ => by simp [outDyns] at h

/-! ### what was handed over -/
theorem sl_sound (S : Sim P w g D env R V) : ∀ {ts : List Ty} {cs : List Cell} {us : List Value} {ds : List Dyn}, outSl R ts cs = some ds → PW (CellRel P w g) cs us → (ownIds cs).Nodup → SlRel P w (ownS g (ownIds cs)) ts (us.filter isSl) ds
  | ts, [], us, ds, h, hc, _ => by
    cases us with
    | cons _ _ => exact hc.elim
    | nil =>
      cases ts with
      | nil =>
        simp only [outSl, Option.some.injEq] at h
        subst h
        trivial
      | cons t ts => cases t <;> simp [outSl] at h
  | ts, c :: cs, [], ds, h, hc, _ => hc.elim
  | ts, c :: cs, u :: us, ds, h, hc, hnd => by
    cases c with
    | own i =>
      cases ts with
      | nil => simp [outSl] at h
      | cons t ts =>
        cases t <;> simp only [outSl] at h
        case slice t =>
          obtain ⟨x, hx, h⟩ := Option.bind_eq_some_iff.1 h
          obtain ⟨ds', hds, h⟩ := Option.bind_eq_some_iff.1 h
          cases h
          have h1 := outCell_own (.inr rfl) S.regs hx hc.1
          have hsl : isSl u = true := by
            obtain ⟨A, cap, e, _⟩ := h1
            rw [(List.cons.inj e).1]; rfl
          rw [List.filter_cons_of_pos hsl]
          have e1 : ownIds (.own i :: cs) = [i] ++ ownIds cs := rfl
          rw [e1] at hnd ⊢
          have hnd' := List.nodup_append.1 hnd
          refine ⟨_, _, x, ownS_app g _ _ (fun i hi hj => hnd'.2.2 i hi i hj rfl), rfl, ?_, sl_sound S hds hc.2 hnd'.2.1⟩
          exact own1_own.2 (own1_own.1 h1)
        all_goals cases h
    | val s x =>
      have h' : s.flat = true ∧ outSl R ts cs = some ds := by
        cases ts with
        | nil => simp only [outSl] at h; exact cond_some h
        | cons t ts => cases t <;> (simp only [outSl] at h; exact cond_some h)
      have hsl : isSl u = false := by
        have hc1 := hc.1
        simp only [CellRel] at hc1
        cases u <;> simp [isSl]
        exact io_handed.flat_no_slice s h'.1 hc1
      rw [List.filter_cons_of_neg (by simp [hsl])]
      exact (show SlRel P w (ownS g (ownIds cs)) ts (us.filter isSl) ds from sl_sound S h'.2 hc.2 hnd)
    | top => cases ts with
      | nil => simp [outSl] at h
      | cons t ts => cases t <;> simp [outSl] at h
    | nil => cases ts with
      | nil => simp [outSl] at h
      | cons t ts => cases t <;> simp [outSl] at h
    | view => cases ts with
      | nil => simp [outSl] at h
      | cons t ts => cases t <;> simp [outSl] at h
    | ptr => cases ts with
      | nil => simp [outSl] at h
      | cons t ts => cases t <;> simp [outSl] at h
    | func => cases ts with
      | nil => simp [outSl] at h
      | cons t ts => cases t <;> simp [outSl] at h

theorem clear_cells' {v : AV} {vv : Value} (S : Sim P w g D env R V) (hc : clear v = true) (hi : v.In D) (h : AVRel P w g v vv) : PW (CellRel P w g) v.cells vv.cells.toList := by
  cases v with
  | t xs => simp [clear] at hc
  | a xs =>
    simp only [AVRel] at h
    obtain ⟨cs, rfl, h⟩ := h
    exact h
  | c x =>
    simp only [AVRel] at h
    have : vv.cells = #[vv] := by
      cases x with
      | top => simp [clear] at hc
      | nil => simp only [CellRel] at h; subst h; rfl
      | val t y =>
        simp only [CellRel] at h
        have := Rep.oneV t h vv (by simp)
        cases vv <;> simp_all [oneV, Value.cells]
      | own i =>
        simp only [CellRel] at h; subst h
        have := S.nu i (by simpa [AV.In, Cell.In] using hi)
        cases hv : g.ν i <;> simp_all [okV, Value.cells]
      | view i _ lo hi' =>
        simp only [CellRel] at h
        have := S.nu i (by simpa [AV.In, Cell.In] using hi)
        rw [h.1]
        cases hv : g.ν i <;> simp_all [okV, Value.cells, subSlice]
      | ptr i n sz off =>
        simp only [CellRel] at h
        have := S.nu i (by simpa [AV.In, Cell.In] using hi)
        rw [h.1]
        revert this
        generalize g.ν i = u
        intro hu
        cases u with
        | pointer q => cases q <;> first | rfl | cases hu
        | slice q n c => cases q <;> rfl
        | _ => cases hu
      | func f caps =>
        simp only [CellRel] at h
        obtain ⟨vs, rfl, _⟩ := h
        rfl
    simp only [AV.cells, this, PW, and_true]
    exact h

theorem backIds_io {t : Ty} {ps : List PM} {s : Nat} : backIds (.io t :: ps) s env = (env (gslot + s)).cells.flatMap (fun c => match c with | .own j => [j] | .ptr j _ _ _ => [j] | _ => []) ++ backIds ps (s + 1) env := by rw [backIds, app_eq] <;> first | rfl | simp
theorem backIds_iop {t : Ty} {ps : List PM} {s : Nat} : backIds (.iop t :: ps) s env = (env (gslot + s)).cells.flatMap (fun c => match c with | .own j => [j] | .ptr j _ _ _ => [j] | _ => []) ++ backIds ps (s + 1) env := by rw [backIds, app_eq] <;> first | rfl | simp
theorem backIds_imm {t : Ty} {ps : List PM} {s : Nat} : backIds (.imm t :: ps) s env = backIds ps (s + 1) env := by rw [backIds]
theorem backIds_mv {t : Ty} {ps : List PM} {s : Nat} : backIds (.mv t :: ps) s env = backIds ps (s + 1) env := by rw [backIds]
theorem backImm_iop {t : Ty} {ps : List PM} {s : Nat} : backImm (.iop t :: ps) s env R = (borCells R (env (gslot + s)).cells).drop 1 ++ backImm ps (s + 1) env R := by rw [backImm, app_eq]

theorem sl_ids (S : Sim P w g D env R V) : ∀ {ts : List Ty} {cs : List Cell} {ds : List Dyn}, outSl R ts cs = some ds → cs.flatMap (fun c => match c with | .own j => [j] | .ptr j _ _ _ => [j] | _ => []) = ownIds cs
  | ts, [], ds, h => rfl
  | ts, c :: cs, ds, h => by
    cases c with
    | own i =>
      cases ts with
      | nil => simp [outSl] at h
      | cons t ts =>
        cases t <;> simp only [outSl] at h
        case slice t =>
          obtain ⟨x, hx, h⟩ := Option.bind_eq_some_iff.1 h
          obtain ⟨ds', hds, h⟩ := Option.bind_eq_some_iff.1 h
          rw [List.flatMap_cons, sl_ids S hds]; rfl
        all_goals cases h
    | val s x =>
      have h' : outSl R ts cs = some ds := by
        cases ts with
        | nil => simp only [outSl] at h; exact (cond_some h).2
        | cons t ts => cases t <;> (simp only [outSl] at h; exact (cond_some h).2)
      rw [List.flatMap_cons, sl_ids S h']; rfl
    | top => cases ts with
      | nil => simp [outSl] at h
      | cons t ts => cases t <;> simp [outSl] at h
    | nil => cases ts with
      | nil => simp [outSl] at h
      | cons t ts => cases t <;> simp [outSl] at h
    | view => cases ts with
      | nil => simp [outSl] at h
      | cons t ts => cases t <;> simp [outSl] at h
    | ptr => cases ts with
      | nil => simp [outSl] at h
      | cons t ts => cases t <;> simp [outSl] at h
    | func => cases ts with
      | nil => simp [outSl] at h
      | cons t ts => cases t <;> simp [outSl] at h

theorem backs_sound {B : List Nat} (S : Sim P w g D env R V) : ∀ {ps : List PM} {us : List Value} {ds : List Dyn} {s : Nat}, backs ps s env R = some ds → ps.length = us.length → (∀ k, k < ps.length → V (gslot + s + k) = us.getD k undef) → (backIds ps s env).Nodup → (∀ i ∈ backImm ps s env R, i ∈ B) →
    BacksRel P w (lent g B) (ownS g (backIds ps s env)) ps us ds
  | [], [], ds, s, h, _, _, _, _ => by
    simp only [backs, Option.some.injEq] at h
    subst h
    trivial
  | p :: ps, u :: us, ds, s, h, hl, hV, hnd, hB => by
    have hl' : ps.length = us.length := by simpa using hl
    have hV0 : V (gslot + s) = u := by simpa using hV 0 (by simp)
    have hVn : ∀ k, k < ps.length → V (gslot + (s + 1) + k) = us.getD k undef := by
      intro k hk
      have := hV (k + 1) (by simpa using hk)
      simp only [List.getD_cons_succ] at this
      rw [show gslot + (s + 1) + k = gslot + s + (k + 1) by omega]; exact this
    have hv := S.vals (gslot + s)
    rw [hV0] at hv
    cases p with
    | imm t =>
      rw [backIds_imm] at hnd ⊢
      simp only [backs] at h
      simp only [backImm] at hB
      exact backs_sound S h hl' hVn hnd hB
    | mv t =>
      rw [backIds_mv] at hnd ⊢
      simp only [backs] at h
      simp only [backImm] at hB
      exact backs_sound S h hl' hVn hnd hB
    | io t =>
      rw [backIds_io] at hnd ⊢
      simp only [backs] at h
      simp only [backImm] at hB
      obtain ⟨hcl, h⟩ := cond_some h
      obtain ⟨d1, h1, h⟩ := Option.bind_eq_some_iff.1 h
      obtain ⟨d2, h2, h⟩ := Option.bind_eq_some_iff.1 h
      cases h
      rw [sl_ids S h1] at hnd ⊢
      have hnd' := List.nodup_append.1 hnd
      exact ⟨_, _, d1, d2, ownS_app g _ _ (fun i hi hj => hnd'.2.2 i hi i hj rfl), app_eq d1 d2, sl_sound S h1 (clear_cells' S hcl (S.valsD _) hv) hnd'.1, backs_sound S h2 hl' hVn hnd'.2.1 hB⟩
    | iop t =>
      rw [backIds_iop] at hnd ⊢
      rw [backImm_iop] at hB
      simp only [backs] at h
      split at h
      · rename_i i sz hx
        split at h
        · rename_i cs hR
          obtain ⟨x, hx0, h⟩ := Option.bind_eq_some_iff.1 h
          obtain ⟨ds', hds, h⟩ := Option.bind_eq_some_iff.1 h
          cases h
          rw [hx] at hv hnd hB ⊢
          simp only [AV.cells, List.flatMap_cons, List.flatMap_nil, List.append_nil] at hnd hB ⊢
          have hnd' := List.nodup_append.1 hnd
          exact ⟨_, _, ownS_app g _ _ (fun i hi hj => hnd'.2.2 i hi i hj rfl), box_out S hR (by simpa only [AVRel] using hv) hx0 (fun j hj => hB j (List.mem_append_left _ hj)),
            backs_sound S hds hl' hVn hnd'.2.1 (fun i hi => hB i (List.mem_append_right _ hi))⟩
        · cases h
      · cases h
  | [], _ :: _, _, _, _, hl, _, _, _ => by simp at hl
  | _ :: _, [], _, _, _, hl, _, _, _ => by simp at hl
end Go.VE
/- Functions: the contract. -/
namespace Go.VE
variable {P : Program} {w w' : World} {g g' : Gh} {D D' : Nat → Prop} {env env' : Env} {R R1 R' : Regs} {gv : Nat → Value} {a : Act} {C : Cfg} {dm : Bool} {o : Oper} {id : Nat} {v : AV} {V : Nat → Value}

theorem mapM_run {α β : Type} (f : α → Sem β) : ∀ {xs : List α} {ys : List β}, PW (fun r v => (f r).run P w = .ok v w) xs ys → (xs.mapM f).run P w = .ok ys w
  | [], [], _ => by simp
  | x :: xs, y :: ys, h => by
    have h1 := h.1
    rw [List.mapM_cons]
    simp only [Sem.run_bind, h1, Result.andThen_ok, mapM_run f h.2, Sem.run_pure]
  | [], _ :: _, h => h.elim
  | _ :: _, [], h => h.elim

theorem results_eq (fn : Func) (tmps : Array Value) (w : World) (vs : List Value) (h : PW (fun r v => (resOne tmps r).run P w = .ok v w) fn.results.toList vs) : (results fn tmps).run P w = .ok (tupV vs) w := by
  have e : results fn tmps = (do
      let vs ← fn.results.mapM (resOne tmps)
      pure (if h : vs.size = 1 then vs[0] else .tuple vs)) := by
    unfold results
    congr 1
  rw [e, Array.mapM_eq_mapM_toList]
  simp only [Sem.run_bind, Sem.run_map, mapM_run _ h]
  match vs with
  | [] => simp [tupV]
  | [v] => simp [tupV]
  | v :: u :: vs => simp [tupV]

theorem args_len {I : Nat → Prop} : ∀ {ps : List PM} {ds : List Dyn} {vs : List Value} {S : Nat → Prop}, ArgsRel P w I S ps ds vs → ps.length = vs.length
  | [], [], [], _, _ => rfl
  | p :: ps, d :: ds, v :: vs, S, ⟨_, _, _, _, h⟩ => by simp [args_len h]
  | [], _ :: _, _, _, h => by cases h
  | [], [], _ :: _, _, h => by cases h
  | _ :: _, [], _, _, h => by cases h
  | _ :: _, _ :: _, [], _, h => by cases h

structure FnChk (P : Program) (C : Cfg) (dm : Bool) (sig : Sig) (fn : Func) : Prop where
  params : sig.ins.length ≤ fn.ntmps
  results : ∀ r ∈ fn.results.toList, resOk fn.ntmps r
  name : (fn.name == "runtime.NumGoroutine") = false
  regs : ∀ c, fn.body = some c → RegsOk' (DrawOk P C dm fn.ntmps) fn.ntmps c

open Classical in
theorem fn_sound {f : Nat} {fn : Func} {c : Code} {s : FnSum} {ls : List LoopSum} (E : Env0 P C fn.ntmps) (hm : P.follows .mixedOrders = true) (hf : P.funcs[f]? = some fn) (hb : fn.body = some c)
    (hc : FnChk P C dm s.sig fn) (hl : LoopsOk C dm (loopList c) ls) (hrun : ∀ p q, s.f p = some q → run C dm s.sig fn ls p = some q) : FnOk P f s := by
  refine ⟨⟨fn, hf, hc.name, by simp [hb]⟩, fun w I S args p q hargs hI hS hIS hq => ?_⟩
  have hbody := hrun p q hq
  unfold run at hbody
  rw [hb] at hbody
  simp only [body] at hbody
  have hlen := args_len hargs
  let a0 : Act := { tmps := args.toArray ++ Array.replicate (fn.ntmps - args.toArray.size) undef, defers := [] }
  let gv : Nat → Value := fun k => args.getD k undef
  let g0 : Gh := ⟨fun b => if I b then .imm else .other, fun _ => undef⟩
  have hsz : a0.tmps.size = fn.ntmps := by
    have := hc.params
    simp [a0]; omega
  have S0 : Sim P w g0 (fun _ => False) (fun _ => .c .top) (fun _ => none) (slots a0 gv) :=
    { vals := fun s => by simp [AVRel, CellRel], valsD := fun s => by simp [AV.In, Cell.In], reg := fun _ _ h => (by cases h), regD := fun _ _ h => (by cases h), nu := fun _ h => h.elim,
      fresh := fun b hb => by
        have : ¬ I b := fun h => absurd (hI b h) (by omega)
        simp [g0, this],
      mine := fun b i h => by
        simp only [g0] at h
        split at h <;> cases h }
  obtain ⟨g1, D1, m1, m2, m3⟩ := entry_sound (s := 0) (id := 0) hargs S0 (fun b hb => by
      have : ¬ I b := fun h => hIS b h hb
      simp [g0, this]) hS (fun b hb => by show g0.O b = .imm; simp [g0, hb]) (fun _ h => h.elim) (by
    intro k hk
    have hk' : k < args.length := by omega
    have hN : k < fn.ntmps := by have := hc.params; omega
    refine ⟨?_, ?_⟩
    · simp only [slots, Nat.zero_add]
      rw [if_pos (Nat.lt_of_lt_of_le hN E.small)]
      simp only [a0]
      rw [Array.getD_eq_getD_getElem?, Array.getElem?_append_left (by simpa using hk')]
      simp [List.getD_eq_getElem?_getD]
    · simp only [slots, Nat.add_zero]
      rw [if_neg (by omega), show gslot + k - gslot = k by omega])
  generalize hent : entry s.sig.ins (unpack s.sig.inTys p) 0 0 (fun _ => AV.c Cell.top) (fun _ => none) = en at hbody m1 m2
  obtain ⟨env, R, id0⟩ := en
  simp only at hbody m1 m2
  have hold : ∀ b, b < w.heap.size → g1.O b ≠ .other → I b ∨ S b := by
    intro b _ hb
    by_cases hs : S b
    · exact .inr hs
    · rw [m3 b hs] at hb
      left
      by_cases hi : I b
      · exact hi
      · simp [g0, hi] at hb
  refine calls_of_wp hf hb (code_sound (g := g1) (D := D1) (gv := gv) (df := []) E hm c hbody hl (hc.regs c hb) ⟨m1, hsz, rfl⟩ m2 ?_)
  intro e n' env' R' a' w' g' D' hk A' hn' hT
  have main : endK C s.sig fn.results.toList env' R' = some q → a'.defers = [] ∧ ∃ v, (results fn a'.tmps).run P w' = .ok v w' ∧ ∃ vs S1 S2 I', (Ending.returned v = .returned (tupV vs)) ∧ Post P s.sig w I S args (unpack _ q) w' vs S1 S2 I' := by
    intro hk
    unfold endK at hk
    obtain ⟨avs, havs, hk⟩ := Option.bind_eq_some_iff.1 hk
    obtain ⟨vs, k1, k2, k3⟩ := resAVs_run E A' havs hc.results
    refine ⟨A'.defers, tupV vs, results_eq fn a'.tmps w' vs k1, vs, ?_⟩
    have fin : ∀ os : List (Ty × Own), os.length = s.sig.outs.length → (cond (nodupB (app (outIds os avs) (backIds s.sig.ins 0 env')) && apartB (app (outImm R' os avs) (backImm s.sig.ins 0 env' R')) (app (outIds os avs) (backIds s.sig.ins 0 env')))
        ((outDyns os R' avs).bind fun ds => (backs s.sig.ins 0 env' R').bind fun bs => pack s.sig.outTys (app ds bs)) none) = some q → (∀ ds, outDyns os R' avs = some ds → ∀ bs, s.sig.outsOf (ds ++ bs) = os) →
        ∃ S1 S2 I', (Ending.returned (tupV vs) = .returned (tupV vs)) ∧ Post P s.sig w I S args (unpack _ q) w' vs S1 S2 I' := by
      intro os hol hk hos
      obtain ⟨hb2, hk⟩ := cond_some hk
      rw [Bool.and_eq_true, app_eq, app_eq] at hb2
      obtain ⟨ds, hds, hk⟩ := Option.bind_eq_some_iff.1 hk
      obtain ⟨bs, hbs, hk⟩ := Option.bind_eq_some_iff.1 hk
      have hnd := List.nodup_append.1 (nodupB_iff hb2.1)
      have hap := apartB_iff hb2.2
      have hu := pack_unpack hk
      rw [app_eq] at hu
      have ho := outs_sound (B := outImm R' os avs ++ backImm s.sig.ins 0 env' R') A'.sim hds k2 hnd.1 (fun i hi => List.mem_append_left _ hi)
      have hdl : ds.length = s.sig.outs.length := (outDyns_len (avs := avs) ho).trans hol
      have hbk := backs_sound (B := outImm R' os avs ++ backImm s.sig.ins 0 env' R') (us := args) (s := 0) A'.sim hbs hlen (by
        intro k hk
        simp only [slots, Nat.add_zero]
        rw [if_neg (by omega), show gslot + k - gslot = k by omega]) hnd.2.1 (fun i hi => List.mem_append_right _ hi)
      have hg : ∀ b, b < w.heap.size → g'.O b ≠ .other → I b ∨ S b := by
        intro b hlt hb
        refine hold b hlt fun h => hb (hT.other b hlt h).2
      have himmS : ∀ b, S b → ∀ i, g'.O b = .mine i → True := fun _ _ _ _ => trivial
      have notI : ∀ b, I b → ∀ i, g'.O b = .mine i → False := by
        intro b hb i h
        have h1 : g1.O b = .imm := (m3 b (fun hs => hIS b hb hs)).trans (by simp [g0, hb])
        rw [(hT.imm b h1).2] at h; cases h
      refine ⟨ownS g' (outIds os avs), ownS g' (backIds s.sig.ins 0 env'), lent g' (outImm R' os avs ++ backImm s.sig.ins 0 env' R'), rfl, ?_⟩
      rw [hu]
      refine { outs := ?_, backs := ?_, apart := ?_, imm1 := ?_, imm2 := ?_, keep := ?_, immOld := ?_, old1 := ?_, old2 := ?_, new1 := ?_, new2 := ?_, newI := ?_, keeps := hT.keeps, same := ?_ }
      · rw [hos ds hds bs, ← hdl, List.take_left']
        · exact ho
        · rfl
      · rw [← hdl, List.drop_left']
        · exact hbk
        · rfl
      · rintro b ⟨i, hi, h1⟩ ⟨j, hj, h2⟩
        rw [h1] at h2; cases h2
        exact hnd.2.2 i hi i hj rfl
      · rintro b ⟨i, hi, h1⟩ (h2 | ⟨j, hj, h2⟩)
        · rw [h1] at h2; cases h2
        · rw [h1] at h2; cases h2
          exact hap i hj (List.mem_append_left _ hi)
      · rintro b ⟨i, hi, h1⟩ (h2 | ⟨j, hj, h2⟩)
        · rw [h1] at h2; cases h2
        · rw [h1] at h2; cases h2
          exact hap i hj (List.mem_append_right _ hi)
      · intro b hb
        have h1 : g1.O b = .imm := (m3 b (fun hs => hIS b hb hs)).trans (by simp [g0, hb])
        exact .inl (hT.imm b h1).2
      · rintro b hlt (h | ⟨i, _, h⟩)
        · exact hg b hlt (by rw [h]; simp)
        · exact hg b hlt (by rw [h]; simp)
      · rintro b hlt ⟨i, _, h⟩
        rcases hg b hlt (by rw [h]; simp) with h1 | h1
        · exact (notI b h1 i h).elim
        · exact h1
      · rintro b hlt ⟨i, _, h⟩
        rcases hg b hlt (by rw [h]; simp) with h1 | h1
        · exact (notI b h1 i h).elim
        · exact h1
      · rintro b ⟨i, _, h⟩
        exact A'.sim.lt (by rw [h]; simp)
      · rintro b ⟨i, _, h⟩
        exact A'.sim.lt (by rw [h]; simp)
      · rintro b (h | ⟨i, _, h⟩)
        · exact A'.sim.lt (by rw [h]; simp)
        · exact A'.sim.lt (by rw [h]; simp)
      · intro b hlt hb
        by_cases hi : I b
        · have h1 : g1.O b = .imm := (m3 b hb).trans (by simp [g0, hi])
          exact (hT.imm b h1).1
        · have h1 : g1.O b = .other := (m3 b hb).trans (by simp [g0, hi])
          exact (hT.other b hlt h1).1
    cases hfl : s.sig.flag with
    | none =>
      rw [hfl] at hk
      exact fin s.sig.outs rfl hk (fun ds _ bs => by simp [Sig.outsOf, hfl])
    | some k =>
      rw [hfl] at hk
      simp only at hk
      unfold asB at hk
      split at hk
      · rename_i b hnth
        have hof : ∀ {os : List (Ty × Own)} (ds : List Dyn), outDyns os R' avs = some ds → ∀ bs, nth ⟨.int .i64, (0 : Int)⟩ (ds ++ bs) k = ⟨.bool, b⟩ := by
          intro os ds hds bs
          obtain ⟨q1, q2⟩ := outDyns_bool hds hnth
          rw [nth_getD] at q1 ⊢
          rw [List.getD_eq_getElem?_getD, List.getElem?_append_left q2, ← List.getD_eq_getElem?_getD]
          exact q1
        cases b with
        | true => exact fin s.sig.outs rfl hk (fun ds hds bs => by simp [Sig.outsOf, hfl, hof ds hds bs])
        | false => exact fin s.sig.imms (by simp [Sig.imms]) hk (fun ds hds bs => by simp [Sig.outsOf, hfl, hof ds hds bs])
      · cases hk
  cases e with
  | normal => exact main hk
  | ret => exact main hk
  | exit i => cases hk
end Go.VE
