/- An evaluator of the functions of the program, and the proof that the program does what the evaluator answers (part 3). -/
import Derived.Deep.Slices
import Derived.ChangeSame
import Derived.OpenShut
import Derived.RowKit
import Derived.Carry
import Derived.JoinedCond
import Derived.Below
import Derived.Lib.Repeat
import Derived.Test.YtocpbdnkmlpehaaV2
set_option linter.unusedVariables false
set_option linter.unusedSimpArgs false
set_option linter.unusedSectionVars false
/- What an operation looks at, and what it writes. -/
namespace Go.VE
variable {C : Cfg} {dm : Bool} {D : Nat → Prop} {R R' R1 R1' R2 R2' : Regs}

def AgL (R R' : Regs) (L : List Nat) : Prop := ∀ i ∈ L, R' i = R i
theorem AgL.sub {L M : List Nat} (h : AgL R R' M) (hs : ∀ i ∈ L, i ∈ M) : AgL R R' L := fun i hi => h i (hs i hi)

theorem rdSlice_loc {t : Ty} {c : Cell} (h : AgL R R' (cid c)) : rdSlice R' t c = rdSlice R t c := by
  cases c <;> simp only [rdSlice]
  case own i => rw [h i (by simp [cid])]
  case view i _ _ _ => rw [h i (by simp [cid])]

theorem bind_congr' {α β : Type} {x : Option α} {f g : α → Option β} (h : ∀ a, x = some a → f a = g a) : x.bind f = x.bind g := by
  cases x with
  | none => rfl
  | some a => exact h a rfl

theorem base_mem {t : Ty} {cs : List Cell} {x : t.den × List Cell} (h : baseOf t cs = some x) : ∀ c ∈ x.2, c ∈ cs := by
  unfold baseOf at h
  split at h
  · rename_i s y cs
    obtain ⟨z, hz, h⟩ := Option.bind_eq_some_iff.1 h
    cases h
    exact fun c hc => by simp [hc]
  · cases h
theorem impl0_mem : ∀ (t : Ty) {cs : List Cell} {x : t.den × List Cell}, impl0 R t cs = some x → ∀ c ∈ x.2, c ∈ cs
  | .one t, cs, x, h => impl0_mem t h
  | .pair a b, cs, x, h => by
    simp only [impl0] at h
    obtain ⟨y, hy, h⟩ := Option.bind_eq_some_iff.1 h
    obtain ⟨z, hz, h⟩ := Option.bind_eq_some_iff.1 h
    cases h
    exact fun c hc => impl0_mem a hy c (impl0_mem b hz c hc)
  | .slice t, cs, x, h => by
    cases cs with
    | nil => simp [impl0] at h
    | cons c cs =>
      simp only [impl0] at h
      obtain ⟨y, hy, h⟩ := Option.bind_eq_some_iff.1 h
      cases h
      exact fun c hc => by simp [hc]
  | .int k, cs, x, h => base_mem (t := .int k) (by rw [← h]; cases cs with | nil => rfl | cons c cs => cases c <;> rfl)
  | .bool, cs, x, h => base_mem (t := .bool) (by rw [← h]; cases cs with | nil => rfl | cons c cs => cases c <;> rfl)
  | .str, cs, x, h => base_mem (t := .str) (by rw [← h]; cases cs with | nil => rfl | cons c cs => cases c <;> rfl)
  | .ref t, cs, x, h => base_mem (t := .ref t) (by rw [← h]; cases cs with | nil => rfl | cons c cs => cases c <;> rfl)
  | .fn1 a r, cs, x, h => base_mem (t := .fn1 a r) (by rw [← h]; cases cs with | nil => rfl | cons c cs => cases c <;> rfl)
  | .fn2 a b r, cs, x, h => base_mem (t := .fn2 a b r) (by rw [← h]; cases cs with | nil => rfl | cons c cs => cases c <;> rfl)

theorem mem_cids {cs : List Cell} {c : Cell} (h : c ∈ cs) : ∀ i ∈ cid c, i ∈ cids cs := fun i hi => List.mem_flatMap.2 ⟨c, h, hi⟩
theorem cids_sub {cs ds : List Cell} (h : ∀ c ∈ ds, c ∈ cs) : ∀ i ∈ cids ds, i ∈ cids cs := by
  intro i hi
  obtain ⟨c, hc, hi⟩ := List.mem_flatMap.1 hi
  exact mem_cids (h c hc) i hi

theorem impl0_loc : ∀ (t : Ty) {cs : List Cell}, AgL R R' (cids cs) → impl0 R' t cs = impl0 R t cs
  | .one t, cs, h => impl0_loc t h
  | .pair a b, cs, h => by
    simp only [impl0]
    rw [impl0_loc a h]
    exact bind_congr' fun y hy => by rw [impl0_loc b (h.sub (cids_sub (impl0_mem a hy)))]
  | .slice t, cs, h => by
    cases cs with
    | nil => simp [impl0]
    | cons c cs => simp only [impl0]; rw [rdSlice_loc (h.sub (mem_cids (by simp)))]
  | .int k, cs, h => by cases cs with | nil => rfl | cons c cs => cases c <;> rfl
  | .bool, cs, h => by cases cs with | nil => rfl | cons c cs => cases c <;> rfl
  | .str, cs, h => by cases cs with | nil => rfl | cons c cs => cases c <;> rfl
  | .ref t, cs, h => by cases cs with | nil => rfl | cons c cs => cases c <;> rfl
  | .fn1 a r, cs, h => by cases cs with | nil => rfl | cons c cs => cases c <;> rfl
  | .fn2 a b r, cs, h => by cases cs with | nil => rfl | cons c cs => cases c <;> rfl

theorem impl_mem : ∀ (t : Ty) {cs : List Cell} {x : t.den × List Cell}, impl R t cs = some x → ∀ c ∈ x.2, c ∈ cs
  | .one t, cs, x, h => impl_mem t h
  | .pair a b, cs, x, h => by
    simp only [impl] at h
    obtain ⟨y, hy, h⟩ := Option.bind_eq_some_iff.1 h
    obtain ⟨z, hz, h⟩ := Option.bind_eq_some_iff.1 h
    cases h
    exact fun c hc => impl_mem a hy c (impl_mem b hz c hc)
  | .slice t, cs, x, h => by
    cases cs with
    | nil => simp [impl] at h
    | cons c cs =>
      simp only [impl] at h
      obtain ⟨y, hy, h⟩ := Option.bind_eq_some_iff.1 h
      cases h
      exact fun c hc => by simp [hc]
  | .int k, cs, x, h => base_mem (t := .int k) (by rw [← h]; cases cs with | nil => rfl | cons c cs => cases c <;> rfl)
  | .bool, cs, x, h => base_mem (t := .bool) (by rw [← h]; cases cs with | nil => rfl | cons c cs => cases c <;> rfl)
  | .str, cs, x, h => base_mem (t := .str) (by rw [← h]; cases cs with | nil => rfl | cons c cs => cases c <;> rfl)
  | .fn1 a r, cs, x, h => base_mem (t := .fn1 a r) (by rw [← h]; cases cs with | nil => rfl | cons c cs => cases c <;> rfl)
  | .fn2 a b r, cs, x, h => base_mem (t := .fn2 a b r) (by rw [← h]; cases cs with | nil => rfl | cons c cs => cases c <;> rfl)
  | .ref t, cs, x, h => by
    cases cs with
    | nil => simp [impl] at h
    | cons c cs =>
      have key : x.2 = cs := by
        cases c <;> simp only [impl] at h
        case val s y =>
          obtain ⟨z, hz, h⟩ := Option.bind_eq_some_iff.1 h
          cases h; rfl
        case ptr id i sz off =>
          split at h
          · obtain ⟨_, h⟩ := cond_some h
            obtain ⟨y, hy, h⟩ := Option.bind_eq_some_iff.1 h
            cases h; rfl
          · obtain ⟨_, h⟩ := cond_some h
            obtain ⟨y, hy, h⟩ := Option.bind_eq_some_iff.1 h
            cases h; rfl
          · cases h
        all_goals cases h
      rw [key]
      exact fun c hc => by simp [hc]

theorem cid_bor {c : Cell} : ∀ i ∈ cid c, i ∈ borCell R c := by
  cases c <;> simp [cid, borCell]
theorem mem_bor {cs : List Cell} {c : Cell} (h : c ∈ cs) : ∀ i ∈ borCell R c, i ∈ borCells R cs := fun i hi => mem_borCells.2 ⟨c, h, hi⟩
theorem bor_sub {cs ds : List Cell} (h : ∀ c ∈ ds, c ∈ cs) : ∀ i ∈ borCells R ds, i ∈ borCells R cs := by
  intro i hi
  obtain ⟨c, hc, hi⟩ := mem_borCells.1 hi
  exact mem_bor (h c hc) i hi
theorem cids_bor {cs : List Cell} : ∀ i ∈ cids cs, i ∈ borCells R cs := by
  intro i hi
  obtain ⟨c, hc, hi⟩ := List.mem_flatMap.1 hi
  exact mem_bor hc i (cid_bor i hi)
/-- own and lent parts of a variable -/
theorem box_cids (ds : List Cell) : ds.flatMap (fun c => match c with | .own j => [j] | .view j _ _ _ => [j] | _ => []) = cids ds := by
  unfold cids
  congr 1

theorem impl_loc : ∀ (t : Ty) {cs : List Cell}, AgL R R' (borCells R cs) → impl R' t cs = impl R t cs
  | .one t, cs, h => impl_loc t h
  | .pair a b, cs, h => by
    simp only [impl]
    rw [impl_loc a h]
    exact bind_congr' fun y hy => by rw [impl_loc b (h.sub (bor_sub (impl_mem a hy)))]
  | .slice t, cs, h => by
    cases cs with
    | nil => simp [impl]
    | cons c cs => simp only [impl]; rw [rdSlice_loc (h.sub fun i hi => mem_bor (by simp) i (cid_bor i hi))]
  | .int k, cs, h => by cases cs with | nil => rfl | cons c cs => cases c <;> rfl
  | .bool, cs, h => by cases cs with | nil => rfl | cons c cs => cases c <;> rfl
  | .str, cs, h => by cases cs with | nil => rfl | cons c cs => cases c <;> rfl
  | .fn1 a r, cs, h => by cases cs with | nil => rfl | cons c cs => cases c <;> rfl
  | .fn2 a b r, cs, h => by cases cs with | nil => rfl | cons c cs => cases c <;> rfl
  | .ref t, cs, h => by
    cases cs with
    | nil => simp [impl]
    | cons c cs =>
      cases c with
      | ptr id i sz off =>
        have hid : R' id = R id := h id (mem_bor (c := .ptr id i sz off) (by simp) _ (by simp only [borCell]; split <;> simp))
        simp only [impl]
        rw [hid]
        cases hr : R id with
        | none => rfl
        | some r =>
          cases r with
          | box ds =>
            simp only
            rw [impl0_loc t (h.sub fun j hj => mem_bor (c := .ptr id i sz off) (by simp) j (by
              simp only [borCell, hr, box_cids]
              exact List.mem_cons_of_mem _ (cids_sub (fun c hc => mem_dropN hc) j hj)))]
          | _ => rfl
      | _ => rfl

theorem implAll_loc {t : Ty} {cs : List Cell} (h : AgL R R' (borCells R cs)) : implAll R' t cs = implAll R t cs := by unfold implAll; rw [impl_loc t h]
theorem implAll0_loc {t : Ty} {cs : List Cell} (h : AgL R R' (cids cs)) : implAll0 R' t cs = implAll0 R t cs := by unfold implAll0; rw [impl0_loc t h]
theorem rdAV_loc {t : Ty} {v : AV} (h : AgL R R' (borCells R v.cells)) : rdAV R' t v = rdAV R t v := by unfold rdAV; rw [implAll_loc h]

theorem capsOf_loc : ∀ {ps : List PM} {cs : List Cell}, (∀ c ∈ cs, (∀ f xs, c ≠ .func f xs) → AgL R R' (borCell R c)) → capsOf R' ps cs = capsOf R ps cs
  | [], [], _ => rfl
  | [], _ :: _, _ => by simp [capsOf]
  | .imm t :: ps, [], _ => by simp [capsOf]
  | .imm t :: ps, c :: cs, h => by
    simp only [capsOf]
    have e : rdAV R' t (.c c) = rdAV R t (.c c) := by
      by_cases hf : ∃ f xs, c = .func f xs
      · obtain ⟨f, xs, rfl⟩ := hf
        rw [rdAV_func, rdAV_func]
      · refine rdAV_loc ?_
        intro i hi
        obtain ⟨c', hc', hi2⟩ := mem_borCells.1 hi
        simp only [AV.cells, List.mem_singleton] at hc'
        rw [hc'] at hi2
        exact h c (by simp) (fun f xs e => hf ⟨f, xs, e⟩) i hi2
    rw [e, capsOf_loc (fun c hc => h c (by simp [hc]))]
  | .io _ :: _, _, _ => by simp [capsOf]
  | .mv _ :: _, _, _ => by simp [capsOf]
  | .iop _ :: _, _, _ => by simp [capsOf]
theorem func_caps {f : Nat} {caps : List Cell} (h : AgL R R' (borCells R [.func f caps])) : ∀ c ∈ caps, (∀ f xs, c ≠ .func f xs) → AgL R R' (borCell R c) := by
  intro c hc hf i hi
  exact h i (func_bor (R := R) (B := borCells R [.func f caps]) (fun _ h => h) c hc hf i hi)
theorem rdArg_loc {t : Ty} {v : AV} (h : AgL R R' (borCells R v.cells)) : rdArg C R' (.imm t) v = rdArg C R (.imm t) v := by
  have std : (rdAV R' t v).bind (fun x => some (⟨t, x⟩ : Dyn)) = (rdAV R t v).bind (fun x => some (⟨t, x⟩ : Dyn)) := by rw [rdAV_loc h]
  cases t with
  | fn1 a r =>
    cases v with
    | c c =>
      cases c with
      | func f caps =>
        simp only [rdArg]
        have : clos1 C R' f caps a r = clos1 C R f caps a r := by
          unfold clos1
          split
          · rfl
          · split
            · rw [capsOf_loc (func_caps h)]
            · rfl
        rw [this]
      | _ => simpa only [rdArg] using std
    | _ => simpa only [rdArg] using std
  | fn2 a b r =>
    cases v with
    | c c =>
      cases c with
      | func f caps =>
        simp only [rdArg]
        have : clos2 C R' f caps a b r = clos2 C R f caps a b r := by
          unfold clos2
          split
          · rfl
          · split
            · rw [capsOf_loc (func_caps h)]
            · rfl
        rw [this]
      | _ => simpa only [rdArg] using std
    | _ => simpa only [rdArg] using std
  | _ => simpa only [rdArg] using std

theorem borCell_loc {c : Cell} (h : AgL R R' (borCell R c)) : borCell R' c = borCell R c := by
  cases c with
  | ptr id i sz off =>
    have hid : R' id = R id := h id (by simp only [borCell]; split <;> simp)
    simp only [borCell, hid]
  | func f caps =>
    simp only [borCell] at h ⊢
    induction caps with
    | nil => rfl
    | cons c caps ih =>
      rw [List.flatMap_cons, List.flatMap_cons, ih (h.sub fun i hi => by rw [List.flatMap_cons]; exact List.mem_append_right _ hi)]
      congr 1
      cases c with
      | ptr id i sz off =>
        have hid : R' id = R id := h id (by
          rw [List.flatMap_cons]
          refine List.mem_append_left _ ?_
          simp only
          split <;> simp)
        simp only [hid]
      | _ => rfl
  | _ => rfl
theorem borCells_loc {cs : List Cell} (h : AgL R R' (borCells R cs)) : borCells R' cs = borCells R cs := by
  unfold borCells at *
  induction cs with
  | nil => rfl
  | cons c cs ih =>
    rw [List.flatMap_cons] at h ⊢
    rw [List.flatMap_cons, borCell_loc (h.sub fun i hi => List.mem_append_left _ hi), ih (h.sub fun i hi => List.mem_append_right _ hi)]

theorem args_loc {C : Cfg} : ∀ {ps : List PM} {vs : List AV} {ds : List Dyn}, rdArgs C R ps vs = some ds → ioOk R ps vs = true → AgL R R' (bor R ps vs ++ ioIds ps vs) → rdArgs C R' ps vs = rdArgs C R ps vs ∧ ioOk R' ps vs = true ∧ bor R' ps vs = bor R ps vs
  | [], [], _, _, h, _ => ⟨rfl, rfl, rfl⟩
  | [], v :: vs, _, hd, h, _ => by simp [rdArgs] at hd
  | p :: ps, [], _, hd, h, _ => by simp [rdArgs] at hd
  | p :: ps, v :: vs, ds, hd, h, hA => by
    simp only [rdArgs] at hd
    obtain ⟨d, hd1, hd⟩ := Option.bind_eq_some_iff.1 hd
    obtain ⟨ds', hd2, hd⟩ := Option.bind_eq_some_iff.1 hd
    cases p with
    | imm t =>
      rw [bor_imm, ioIds_imm] at hA
      simp only [ioOk] at h
      obtain ⟨k1, k2, k3⟩ := args_loc (ps := ps) (vs := vs) hd2 h (hA.sub fun i hi => by
        rcases List.mem_append.1 hi with hi | hi
        · simp [hi]
        · simp [hi])
      have hv : AgL R R' (borCells R v.cells) := hA.sub fun i hi => by simp [hi]
      refine ⟨?_, by simpa only [ioOk] using k2, ?_⟩
      · simp only [rdArgs]; rw [rdArg_loc hv, k1]
      · rw [bor_imm, bor_imm, borCells_loc hv, k3]
    | io t =>
      rw [bor_io, ioIds_io] at hA
      simp only [ioOk, Bool.and_eq_true, List.all_eq_true] at h
      obtain ⟨k1, k2, k3⟩ := args_loc (ps := ps) (vs := vs) hd2 h.2 (hA.sub fun i hi => by
        rcases List.mem_append.1 hi with hi | hi
        · simp [hi]
        · simp [hi])
      obtain ⟨t1, t2⟩ := io_take (R := R) (cs := v.cells) (fun c hc => .inr (h.1 c hc))
      have hv : AgL R R' (borCells R v.cells) := hA.sub fun i hi => by
        obtain ⟨c, hc, hi⟩ := mem_borCells.1 hi
        have : i ∈ cids v.cells := by
          have := h.1 c hc
          cases c <;> first | exact mem_cids hc i hi | (simp [borCell] at hi; done) | (simp [ioCell] at this; done)
        rw [t2] at this
        simp [this]
      refine ⟨?_, ?_, by rw [bor_io, bor_io, k3]⟩
      · simp only [rdArgs, rdArg]; rw [rdAV_loc hv, k1]
      · simp only [ioOk, Bool.and_eq_true, List.all_eq_true]
        refine ⟨fun c hc => ?_, k2⟩
        have h1 := h.1 c hc
        cases c with
        | own i =>
          have hi : R' i = R i := hv i (mem_bor hc i (by simp [borCell]))
          simp only [ioCell, hi] at h1 ⊢
          exact h1
        | _ => exact h1
    | mv t =>
      rw [bor_mv, ioIds_mv] at hA
      simp only [ioOk, Bool.and_eq_true, List.all_eq_true, Bool.or_eq_true] at h
      obtain ⟨k1, k2, k3⟩ := args_loc (ps := ps) (vs := vs) hd2 h.2 (hA.sub fun i hi => by
        rcases List.mem_append.1 hi with hi | hi
        · simp [hi]
        · simp [hi])
      obtain ⟨t1, t2⟩ := io_take (R := R) (cs := v.cells) h.1
      have hv : AgL R R' (borCells R v.cells) := hA.sub fun i hi => by
        obtain ⟨c, hc, hi⟩ := mem_borCells.1 hi
        have : i ∈ cids v.cells := by
          have := h.1 c hc
          cases c <;> first | exact mem_cids hc i hi | (simp [borCell] at hi; done) | (simp [ioCell] at this; done)
        rw [t2] at this
        simp [this]
      refine ⟨?_, ?_, by rw [bor_mv, bor_mv, k3]⟩
      · simp only [rdArgs, rdArg]; rw [rdAV_loc hv, k1]
      · simp only [ioOk, Bool.and_eq_true, List.all_eq_true, Bool.or_eq_true]
        refine ⟨fun c hc => ?_, k2⟩
        have h1 := h.1 c hc
        cases c with
        | own i =>
          have hi : R' i = R i := hv i (mem_bor hc i (by simp [borCell]))
          simp only [ioCell, hi] at h1 ⊢
          exact h1
        | _ => exact h1
    | iop t =>
      rw [bor_iop, ioIds_iop] at hA
      simp only [ioOk] at h
      obtain ⟨k1, k2, k3⟩ := args_loc (ps := ps) (vs := vs) hd2 h (hA.sub fun i hi => by
        rcases List.mem_append.1 hi with hi | hi
        · simp [hi]
        · simp [hi])
      have key : rdArg C R' (.iop t) v = rdArg C R (.iop t) v ∧ (borCells R' v.cells).drop 1 = (borCells R v.cells).drop 1 := by
        cases v with
        | a xs => simp [rdArg] at hd1
        | t xs => simp [rdArg] at hd1
        | c c =>
          cases c with
          | ptr i n sz off =>
            have hi : R' i = R i := hA i (by simp [ptrIds, AV.cells])
            refine ⟨?_, by simp only [borCells, AV.cells, List.flatMap_cons, List.flatMap_nil, borCell, hi]⟩
            cases n with
            | succ n => simp [rdArg]
            | zero =>
              cases off with
              | succ n => simp [rdArg]
              | zero =>
                simp only [rdArg, hi]
                cases hr : R i with
                | none => rfl
                | some r =>
                  cases r with
                  | box cs =>
                    simp only
                    rw [implAll0_loc (hA.sub fun j hj => List.mem_append_left _ (List.mem_append_left _ (by
                      simp only [borCells, AV.cells, List.flatMap_cons, List.flatMap_nil, List.append_nil, borCell, hr, box_cids, List.drop_succ_cons, List.drop_zero]
                      exact hj)))]
                  | _ => rfl
          | _ => simp [rdArg] at hd1
      refine ⟨?_, by simpa only [ioOk] using k2, by rw [bor_iop, bor_iop, key.2, k3]⟩
      simp only [rdArgs]; rw [key.1, k1]
end Go.VE
/- What an operation looks at, and what it writes: all operations. -/
namespace Go.VE
variable {C : Cfg} {dm : Bool} {D : Nat → Prop} {R R' R1 R1' R2 R2' : Regs} {W W' : List Nat}

/-- two runs write the same into W, and nothing else -/
def Same (W : List Nat) (R R1 R' R1' : Regs) : Prop := ∀ i, (i ∈ W ∧ R1' i = R1 i) ∨ (R1 i = R i ∧ R1' i = R' i)
theorem Same.refl (W : List Nat) (R R' : Regs) : Same W R R R' R' := fun i => .inr ⟨rfl, rfl⟩
theorem Same.trans (h : Same W R R1 R' R1') (k : Same W R1 R2 R1' R2') : Same W R R2 R' R2' := fun i => by
  rcases k i with ⟨k1, k2⟩ | ⟨k1, k2⟩
  · exact .inl ⟨k1, k2⟩
  · rcases h i with ⟨h1, h2⟩ | ⟨h1, h2⟩
    · exact .inl ⟨h1, by rw [k2, h2, k1]⟩
    · exact .inr ⟨by rw [k1, h1], by rw [k2, h2]⟩
theorem Same.upd {i : Nat} (hi : i ∈ W) (x : Option Reg) : Same W R (upd R i x) R' (VE.upd R' i x) := fun j => by
  by_cases e : j = i
  · subst e; exact .inl ⟨hi, by rw [upd_same, upd_same]⟩
  · exact .inr ⟨upd_ne _ _ e, upd_ne _ _ e⟩
theorem Same.sub (h : Same W R R1 R' R1') (hs : ∀ i ∈ W, i ∈ W') : Same W' R R1 R' R1' := fun i => (h i).imp (fun k => ⟨hs i k.1, k.2⟩) id
theorem Same.ag (h : Same W R R1 R' R1') {L : List Nat} (hA : AgL R R' L) : AgL R1 R1' L := fun i hi => by
  rcases h i with ⟨_, h2⟩ | ⟨h1, h2⟩
  · exact h2
  · rw [h2, h1]; exact hA i hi
theorem Same.not (h : Same W R R1 R' R1') {i : Nat} (hi : i ∉ W) : R1 i = R i ∧ R1' i = R' i := (h i).resolve_left (fun k => hi k.1)

theorem absorb_loc {deep : Bool} : ∀ {cs : List Cell} {R R' R1 : Regs}, absorb deep cs R = some R1 → AgL R R' (cids cs) → ∃ R1', absorb deep cs R' = some R1' ∧ Same (cids cs) R R1 R' R1'
  | [], R, R', R1, h, _ => by
    simp only [absorb, Option.some.injEq] at h
    subst h
    exact ⟨R', rfl, Same.refl _ _ _⟩
  | c :: cs, R, R', R1, h, hA => by
    have e0 : cids (c :: cs) = cid c ++ cids cs := rfl
    have go : ∀ {i : Nat} {x : Option Reg}, cid c = [i] → absorb deep cs (upd R i x) = some R1 → ∃ R1', absorb deep cs (upd R' i x) = some R1' ∧ Same (cids (c :: cs)) R R1 R' R1' := by
      intro i x hc h
      have s1 : Same (cids (c :: cs)) R (upd R i x) R' (upd R' i x) := Same.upd (by rw [e0, hc]; simp) x
      obtain ⟨R1', h1, h2⟩ := absorb_loc (R' := upd R' i x) h (s1.ag (hA.sub fun j hj => by rw [e0]; simp [hj]))
      exact ⟨R1', h1, s1.trans (h2.sub fun j hj => by rw [e0]; simp [hj])⟩
    have keep : absorb deep cs R = some R1 → ∃ R1', absorb deep cs R' = some R1' ∧ Same (cids (c :: cs)) R R1 R' R1' := by
      intro h
      obtain ⟨R1', h1, h2⟩ := absorb_loc (R' := R') h (hA.sub fun j hj => by rw [e0]; simp [hj])
      exact ⟨R1', h1, h2.sub fun j hj => by rw [e0]; simp [hj]⟩
    cases c with
    | own i =>
      have hi : R' i = R i := hA i (by rw [e0]; simp [cid])
      simp only [absorb, hi] at h ⊢
      cases hr : R i with
      | none => rw [hr] at h; cases h
      | some r =>
        rw [hr] at h
        cases r with
        | box ds => cases h
        | arr t xs d =>
          simp only at h ⊢
          cases deep with
          | true =>
            simp only [cond_true] at h ⊢
            cases d with
            | true => simp only [cond_true] at h ⊢; exact go rfl h
            | false => cases h
          | false => simp only [cond_false] at h ⊢; exact go rfl h
        | frz t xs =>
          simp only at h ⊢
          cases deep with
          | true => cases h
          | false => simp only [cond_false] at h ⊢; exact keep h
    | view i sz lo hi' =>
      have hi : R' i = R i := hA i (by rw [e0]; simp [cid])
      simp only [absorb, hi] at h ⊢
      cases hr : R i with
      | none => rw [hr] at h; cases h
      | some r =>
        rw [hr] at h
        cases r with
        | box ds => cases h
        | arr t xs d =>
          simp only at h ⊢
          cases deep with
          | true =>
            simp only [cond_true] at h ⊢
            obtain ⟨hd, h⟩ := cond_some h
            rw [hd]
            exact go rfl h
          | false => simp only [cond_false] at h ⊢; exact go rfl h
        | frz t xs =>
          simp only at h ⊢
          cases deep with
          | true => cases h
          | false => simp only [cond_false] at h ⊢; exact keep h
    | val t x =>
      simp only [absorb] at h ⊢
      obtain ⟨hd, h⟩ := cond_some' h
      rw [hd]
      exact keep h
    | nil => simp only [absorb] at h ⊢; exact keep h
    | top => simp [absorb] at h
    | ptr => simp [absorb] at h
    | func => simp [absorb] at h

def Boxes (R R1 : Regs) : Prop := ∀ i ds, R1 i = some (.box ds) ↔ R i = some (.box ds)
theorem Boxes.refl (R : Regs) : Boxes R R := fun _ _ => Iff.rfl
theorem Boxes.upd {i : Nat} {x : Option Reg} (h1 : ∀ ds, R i ≠ some (.box ds)) (h2 : ∀ ds, x ≠ some (.box ds)) : Boxes R (upd R i x) := fun j ds => by
  by_cases e : j = i
  · subst e; rw [upd_same]; exact ⟨fun h => absurd h (h2 ds), fun h => absurd h (h1 ds)⟩
  · rw [upd_ne _ _ e]
theorem Boxes.trans (h : Boxes R R1) (k : Boxes R1 R2) : Boxes R R2 := fun i ds => (k i ds).trans (h i ds)
theorem absorb_boxes {deep : Bool} : ∀ {cs : List Cell} {R R1 : Regs}, absorb deep cs R = some R1 → Boxes R R1
  | [], R, R1, h => by
    simp only [absorb, Option.some.injEq] at h
    subst h
    exact Boxes.refl _
  | c :: cs, R, R1, h => by
    have go : ∀ {i : Nat} {x : Option Reg}, (∀ ds, R i ≠ some (.box ds)) → (∀ ds, x ≠ some (.box ds)) → absorb deep cs (upd R i x) = some R1 → Boxes R R1 :=
      fun h1 h2 h => (Boxes.upd h1 h2).trans (absorb_boxes h)
    cases c with
    | own i =>
      simp only [absorb] at h
      cases hr : R i with
      | none => rw [hr] at h; cases h
      | some r =>
        rw [hr] at h
        cases r with
        | box ds => cases h
        | arr t xs d =>
          simp only at h
          cases deep with
          | true => simp only [cond_true] at h; exact go (fun ds => by rw [hr]; simp) (by simp) (cond_some h).2
          | false => simp only [cond_false] at h; exact go (fun ds => by rw [hr]; simp) (by simp) h
        | frz t xs =>
          simp only at h
          exact absorb_boxes (cond_some' h).2
    | view i sz lo hi' =>
      simp only [absorb] at h
      cases hr : R i with
      | none => rw [hr] at h; cases h
      | some r =>
        rw [hr] at h
        cases r with
        | box ds => cases h
        | arr t xs d =>
          simp only at h
          cases deep with
          | true => simp only [cond_true] at h; exact go (fun ds => by rw [hr]; simp) (by simp) (cond_some h).2
          | false => simp only [cond_false] at h; exact go (fun ds => by rw [hr]; simp) (by simp) h
        | frz t xs =>
          simp only at h
          exact absorb_boxes (cond_some' h).2
    | val t x =>
      simp only [absorb] at h
      exact absorb_boxes (cond_some' h).2
    | nil => simp only [absorb] at h; exact absorb_boxes h
    | top => simp [absorb] at h
    | ptr => simp [absorb] at h
    | func => simp [absorb] at h

theorem ptr_boxes (h : Boxes R R1) (i : Nat) : (match R1 i with
      | some (.box ds) => i :: ds.flatMap fun (c : Cell) => match c with
        | .own j => [j]
        | .view j _ _ _ => [j]
        | _ => []
      | _ => [i]) = (match R i with
      | some (.box ds) => i :: ds.flatMap fun (c : Cell) => match c with
        | .own j => [j]
        | .view j _ _ _ => [j]
        | _ => []
      | _ => [i]) := by
  cases h1 : R i with
  | none =>
    cases h2 : R1 i with
    | none => rfl
    | some r =>
      cases r with
      | box ds => rw [(h i ds).1 h2] at h1; cases h1
      | _ => rfl
  | some r =>
    cases r with
    | box ds => rw [(h i ds).2 h1]
    | arr t xs d =>
      cases h2 : R1 i with
      | none => rfl
      | some r =>
        cases r with
        | box ds => rw [(h i ds).1 h2] at h1; cases h1
        | _ => rfl
    | frz t xs =>
      cases h2 : R1 i with
      | none => rfl
      | some r =>
        cases r with
        | box ds => rw [(h i ds).1 h2] at h1; cases h1
        | _ => rfl
theorem borCells_boxes (h : Boxes R R1) (cs : List Cell) : borCells R1 cs = borCells R cs := by
  unfold borCells
  congr 1
  funext c
  cases c with
  | ptr i n sz off => exact ptr_boxes h i
  | func f caps =>
    simp only [borCell]
    congr 1
    funext c
    cases c with
    | ptr i n sz off => exact ptr_boxes h i
    | _ => rfl
  | _ => rfl

def partsB (R : Regs) : List (Nat × AV) → List Nat
  | [] => []
  | p :: ps => borCells R p.2.cells ++ partsB R ps
theorem partsB_eq (E : Operand → AV) : ∀ ps : List (Nat × Operand), partsBor R E ps = partsB R (ps.map fun p => (p.1, E p.2))
  | [] => rfl
  | p :: ps => by simp only [partsBor, List.map_cons, partsB, app_eq, partsB_eq E ps]
theorem partsB_boxes (h : Boxes R R1) : ∀ ps : List (Nat × AV), partsB R1 ps = partsB R ps
  | [] => rfl
  | p :: ps => by simp only [partsB, borCells_boxes h, partsB_boxes h ps]
theorem partsB_loc : ∀ {ps : List (Nat × AV)}, AgL R R' (partsB R ps) → partsB R' ps = partsB R ps
  | [], _ => rfl
  | p :: ps, h => by
    simp only [partsB] at h ⊢
    rw [borCells_loc (h.sub fun i hi => by simp [hi]), partsB_loc (h.sub fun i hi => by simp [hi])]

theorem elems_loc {e : Ty} {deep : Bool} : ∀ {ps : List (Nat × AV)} {xs ys : List e.den} {R R' R1 : Regs}, elems e deep ps xs R = some (ys, R1) → AgL R R' (partsB R ps) → ∃ R1', elems e deep ps xs R' = some (ys, R1') ∧ Same (partsB R ps) R R1 R' R1'
  | [], xs, ys, R, R', R1, h, _ => by
    simp only [elems, Option.some.injEq, Prod.mk.injEq] at h
    obtain ⟨rfl, rfl⟩ := h
    exact ⟨R', rfl, Same.refl _ _ _⟩
  | (i, v) :: ps, xs, ys, R, R', R1, h, hA => by
    simp only [elems] at h ⊢
    obtain ⟨hb, h⟩ := cond_some h
    obtain ⟨x, hx, h⟩ := Option.bind_eq_some_iff.1 h
    obtain ⟨R2, h2, h⟩ := Option.bind_eq_some_iff.1 h
    simp only [partsB] at hA ⊢
    have hv : AgL R R' (borCells R v.cells) := hA.sub fun i hi => by simp [hi]
    obtain ⟨R2', k1, k2⟩ := absorb_loc (R' := R') h2 (hv.sub cids_bor)
    have hbx := absorb_boxes h2
    obtain ⟨R1', n1, n2⟩ := elems_loc (R' := R2') h (by rw [partsB_boxes hbx]; exact k2.ag (hA.sub fun i hi => by simp [hi]))
    rw [partsB_boxes hbx] at n2
    refine ⟨R1', ?_, (k2.sub fun i hi => by simp [cids_bor (R := R) i hi]).trans (n2.sub fun i hi => by simp [hi])⟩
    rw [hb, implAll_loc hv, hx]
    simp only [cond_true, Option.bind_some, k1, n1]

/-! ### calls -/
theorem kill_same : ∀ (cs : List Cell) (R R' : Regs), Same (ownIds cs) R (kill cs R) R' (kill cs R')
  | [], R, R' => Same.refl _ _ _
  | c :: cs, R, R' => by
    cases c with
    | own i =>
      have e : ownIds (.own i :: cs) = [i] ++ ownIds cs := rfl
      rw [e]
      exact (Same.upd (by simp) none).trans ((kill_same cs _ _).sub fun j hj => by simp [hj])
    | _ => exact kill_same cs R R'
theorem ioSet_same : ∀ (cs : List Cell) (ds : List Dyn) (R R' : Regs), Same (ownIds cs) R (ioSet cs ds R).1 R' (ioSet cs ds R').1
  | [], ds, R, R' => Same.refl _ _ _
  | c :: cs, ds, R, R' => by
    cases c with
    | own i =>
      have e : ownIds (.own i :: cs) = [i] ++ ownIds cs := rfl
      rw [e]
      cases ds with
      | nil => exact (ioSet_same cs [] R R').sub fun j hj => by simp [hj]
      | cons d ds =>
        obtain ⟨t, x⟩ := d
        cases t with
        | slice t => exact (Same.upd (by simp) (some (.arr t x true))).trans ((ioSet_same cs ds _ _).sub fun j hj => by simp [hj])
        | _ => exact (ioSet_same cs _ R R').sub fun j hj => by simp [hj]
    | _ => exact ioSet_same cs ds R R'
theorem ioBack_same : ∀ (ps : List PM) (vs : List AV) (ds : List Dyn) (R R' : Regs), Same (ioIds ps vs) R (ioBack ps vs ds R) R' (ioBack ps vs ds R')
  | [], vs, ds, R, R' => by simp only [ioBack]; exact Same.refl _ _ _
  | p :: ps, [], ds, R, R' => by cases p <;> (simp only [ioBack]; exact Same.refl _ _ _)
  | .imm t :: ps, v :: vs, ds, R, R' => by rw [ioIds_imm, ioBack, ioBack]; exact ioBack_same ps vs ds R R'
  | .mv t :: ps, v :: vs, ds, R, R' => by
    rw [ioIds_mv, ioBack, ioBack]
    exact ((kill_same v.cells R R').sub fun j hj => by simp [hj]).trans ((ioBack_same ps vs ds _ _).sub fun j hj => by simp [hj])
  | .io t :: ps, v :: vs, ds, R, R' => by
    rw [ioIds_io, ioBack, ioBack]
    show Same _ R (ioBack ps vs (ioSet v.cells ds R).2 (ioSet v.cells ds R).1) R' (ioBack ps vs (ioSet v.cells ds R').2 (ioSet v.cells ds R').1)
    rw [ioSet_snd v.cells ds R R']
    exact ((ioSet_same v.cells ds R R').sub fun j hj => by simp [hj]).trans ((ioBack_same ps vs _ _ _).sub fun j hj => by simp [hj])
  | .iop t :: ps, v :: vs, ds, R, R' => by
    rw [ioIds_iop]
    match v, ds with
    | .c (.ptr id _ _ _), d :: ds =>
      rw [ioBack, ioBack]
      exact (Same.upd (by simp [ptrIds, AV.cells]) _).trans ((ioBack_same ps vs ds _ _).sub fun j hj => by simp [hj])
    | .c (.ptr _ _ _ _), [] => simp only [ioBack]; exact Same.refl _ _ _
    | .c .top, _ => simp only [ioBack]; exact Same.refl _ _ _
    | .c .nil, _ => simp only [ioBack]; exact Same.refl _ _ _
    | .c (.val _ _), _ => simp only [ioBack]; exact Same.refl _ _ _
    | .c (.own _), _ => simp only [ioBack]; exact Same.refl _ _ _
    | .c (.view _ _ _ _), _ => simp only [ioBack]; exact Same.refl _ _ _
    | .c (.func _ _), _ => simp only [ioBack]; exact Same.refl _ _ _
    | .a _, _ => simp only [ioBack]; exact Same.refl _ _ _
    | .t _, _ => simp only [ioBack]; exact Same.refl _ _ _
theorem freeze_same {L : List Nat} (hA : AgL R R' L) : Same L R (freeze R L) R' (freeze R' L) := fun i => by
  rw [freeze_at, freeze_at]
  by_cases hi : i ∈ L
  · exact .inl ⟨hi, by rw [if_pos hi, if_pos hi, hA i hi]⟩
  · exact .inr ⟨by rw [if_neg hi], by rw [if_neg hi]⟩

theorem mem_fresh : ∀ {n id i : Nat}, i ∈ fresh id n ↔ id ≤ i ∧ i < id + n
  | 0, id, i => by simp [fresh]
  | n + 1, id, i => by simp only [fresh, List.mem_cons, mem_fresh]; omega

theorem ownCells_same {d : Bool} : ∀ (cs : List Cell) (id : Nat) (R R' : Regs), ∃ n, (ownCells d id R cs).1 = (ownCells d id R' cs).1 ∧ (ownCells d id R cs).2.2 = id + n ∧ (ownCells d id R' cs).2.2 = id + n ∧ Same (fresh id n) R (ownCells d id R cs).2.1 R' (ownCells d id R' cs).2.1
  | [], id, R, R' => ⟨0, rfl, rfl, rfl, Same.refl _ _ _⟩
  | c :: cs, id, R, R' => by
    have keep : (∀ R, ownCells d id R (c :: cs) = (c :: (ownCells d id R cs).1, (ownCells d id R cs).2)) → ∃ n, (ownCells d id R (c :: cs)).1 = (ownCells d id R' (c :: cs)).1 ∧ (ownCells d id R (c :: cs)).2.2 = id + n ∧ (ownCells d id R' (c :: cs)).2.2 = id + n ∧
        Same (fresh id n) R (ownCells d id R (c :: cs)).2.1 R' (ownCells d id R' (c :: cs)).2.1 := by
      intro e
      obtain ⟨n, h1, h2, h3, h4⟩ := ownCells_same (d := d) cs id R R'
      exact ⟨n, by rw [e, e, h1], by rw [e]; exact h2, by rw [e]; exact h3, by rw [e, e]; exact h4⟩
    cases c with
    | val t x =>
      cases t with
      | slice t =>
        obtain ⟨n, h1, h2, h3, h4⟩ := ownCells_same (d := d) cs (id + 1) (upd R id (some (.arr t x (d || t.flat)))) (upd R' id (some (.arr t x (d || t.flat))))
        refine ⟨n + 1, by simp only [ownCells, h1], by simp only [ownCells, h2]; omega, by simp only [ownCells, h3]; omega, ?_⟩
        simp only [ownCells]
        exact (Same.upd (mem_fresh.2 ⟨Nat.le_refl _, by omega⟩) _).trans (h4.sub fun j hj => by rw [mem_fresh] at hj ⊢; omega)
      | _ => exact keep (fun R => rfl)
    | _ => exact keep (fun R => rfl)

theorem ownCells_width {d : Bool} : ∀ (t : Ty) (x : t.den) (id : Nat) (R : Regs), (ownCells d id R (expl t x)).2.2 = id + sliceCells t
  | .one t, x, id, R => ownCells_width t x id R
  | .pair a b, x, id, R => by
    rw [show expl (.pair a b) x = app (expl a x.1) (expl b x.2) from rfl, ownCells_app]
    show (ownCells d _ _ (expl b x.2)).2.2 = _
    rw [ownCells_width b, ownCells_width a]
    simp only [sliceCells]; omega
  | .int _, _, _, _ => rfl
  | .bool, _, _, _ => rfl
  | .str, _, _, _ => rfl
  | .slice _, _, _, _ => rfl
  | .ref _, _, _, _ => rfl
  | .fn1 _ _, _, _, _ => rfl
  | .fn2 _ _ _, _, _, _ => rfl

def OTy : List (Ty × Own) → List Dyn → Prop
  | o :: os, d :: ds => d.t = o.1 ∧ OTy os ds
  | _, _ => True
theorem resAV_same : ∀ (os : List (Ty × Own)) (ds : List Dyn) (id : Nat) (R R' : Regs), OTy os ds → (resAV dm id R os ds).1 = (resAV dm id R' os ds).1 ∧ Same (fresh id (widthOuts os)) R (resAV dm id R os ds).2 R' (resAV dm id R' os ds).2
  | [], ds, id, R, R', _ => by simp only [resAV]; exact ⟨trivial, Same.refl _ _ _⟩
  | _ :: _, [], id, R, R', _ => by simp only [resAV]; exact ⟨trivial, Same.refl _ _ _⟩
  | (t, m) :: os, d :: ds, id, R, R', ⟨ht, hT⟩ => by
    simp only at ht
    have own : ∀ b : Bool, widthOuts ((t, m) :: os) = sliceCells t + widthOuts os → (∀ R, resAV dm id R ((t, m) :: os) (d :: ds) = (ofCells d.t (ownCells b id R (expl d.t d.x)).1 :: (resAV dm (ownCells b id R (expl d.t d.x)).2.2 (ownCells b id R (expl d.t d.x)).2.1 os ds).1,
          (resAV dm (ownCells b id R (expl d.t d.x)).2.2 (ownCells b id R (expl d.t d.x)).2.1 os ds).2)) →
        (resAV dm id R ((t, m) :: os) (d :: ds)).1 = (resAV dm id R' ((t, m) :: os) (d :: ds)).1 ∧ Same (fresh id (widthOuts ((t, m) :: os))) R (resAV dm id R ((t, m) :: os) (d :: ds)).2 R' (resAV dm id R' ((t, m) :: os) (d :: ds)).2 := by
      intro b hw e
      obtain ⟨n, h1, h2, h3, h4⟩ := ownCells_same (d := b) (expl d.t d.x) id R R'
      have h5 := ownCells_width (d := b) d.t d.x id R
      have hst : sliceCells d.t = sliceCells t := by rw [ht]
      have hn : n = sliceCells t := by omega
      rw [e, e, h1, h2, h3]
      obtain ⟨k1, k2⟩ := resAV_same os ds (id + n) (ownCells b id R (expl d.t d.x)).2.1 (ownCells b id R' (expl d.t d.x)).2.1 hT
      refine ⟨by rw [k1], ?_⟩
      exact (h4.sub fun j hj => by rw [mem_fresh] at hj ⊢; omega).trans (k2.sub fun j hj => by rw [mem_fresh] at hj ⊢; omega)
    cases m with
    | imm =>
      obtain ⟨k1, k2⟩ := resAV_same os ds id R R' hT
      simp only [resAV]
      exact ⟨by rw [k1], k2.sub fun j hj => by rw [mem_fresh] at hj ⊢; simp only [widthOuts, List.foldr_cons] at hj ⊢; omega⟩
    | flat => exact own false (by simp [widthOuts]) (fun R => by simp only [resAV])
    | deep => exact own dm (by simp [widthOuts]) (fun R => by simp only [resAV])
    | box =>
      obtain ⟨k1, k2⟩ := resAV_same os ds (id + 1) (upd R id (some (.box (expl d.t d.x)))) (upd R' id (some (.box (expl d.t d.x)))) hT
      simp only [resAV]
      have hw : widthOuts ((t, .box) :: os) = 1 + widthOuts os := by simp [widthOuts]
      refine ⟨by rw [k1], ?_⟩
      exact (Same.upd (mem_fresh.2 ⟨Nat.le_refl _, by omega⟩) _).trans (k2.sub fun j hj => by rw [mem_fresh] at hj ⊢; omega)

theorem unpack_tys : ∀ (ts : List Ty) (p : DenP ts), (unpack ts p).map Dyn.t = ts := by
  intro ts
  induction ts with
  | nil => intro p; rfl
  | cons t ts ih =>
    intro p
    cases ts with
    | nil => rfl
    | cons u us => simp only [unpack, List.map_cons]; rw [ih]
theorem oty_of : ∀ {os : List (Ty × Own)} {ds : List Dyn} {us : List Ty}, ds.map Dyn.t = os.map Prod.fst ++ us → OTy os ds
  | [], ds, us, h => by simp [OTy]
  | o :: os, [], us, h => by simp [OTy]
  | o :: os, d :: ds, us, h => by
    simp only [List.map_cons, List.cons_append, List.cons.injEq] at h
    exact ⟨h.1, oty_of h.2⟩

theorem call_loc {g0 : Nat} {args : List AV} {id : Nat} {v : AV} {s : FnSum} (hs : C.fn g0 = some s) (h : callK C dm g0 args id R (fun v R => some (v, R)) = some (v, R1)) (hA : AgL R R' (bor R s.sig.ins args ++ ioIds s.sig.ins args)) :
    ∃ R1', callK C dm g0 args id R' (fun v R => some (v, R)) = some (v, R1') ∧ Same (fresh id s.sig.width ++ (ioIds s.sig.ins args ++ cond (s.sig.leaks || s.sig.leaksImm) (bor R s.sig.ins args) [])) R R1 R' R1' ∧ bor R' s.sig.ins args = bor R s.sig.ins args := by
  unfold callK at h ⊢
  rw [hs] at h ⊢
  simp only at h ⊢
  obtain ⟨ds, hds, h⟩ := Option.bind_eq_some_iff.1 h
  obtain ⟨pp, hpp, h⟩ := Option.bind_eq_some_iff.1 h
  obtain ⟨hb, h⟩ := cond_some h
  obtain ⟨q, hq, h⟩ := Option.bind_eq_some_iff.1 h
  simp only [Bool.and_eq_true] at hb
  obtain ⟨hok, hnd, hap⟩ := hb
  obtain ⟨k1, k2, k3⟩ := args_loc (C := C) hds hok hA
  have hapart := apartB_iff hap
  rw [k1, hds, k2, k3, hnd, hap]
  simp only [Option.bind_some, hpp, Bool.and_self, cond_true, hq]
  generalize hrs : unpack s.sig.outTys q = rs at h ⊢
  have hty : rs.map Dyn.t = s.sig.outs.map Prod.fst ++ s.sig.ins.flatMap PM.outTy := by
    rw [← hrs, unpack_tys, Sig.outTys, app_eq]
  simp only [dropN_eq] at h ⊢
  have main : ∀ (os : List (Ty × Own)) (lk : Bool), OTy os rs → widthOuts os ≤ s.sig.width → (lk = true → (s.sig.leaks || s.sig.leaksImm) = true) →
      (let R0 := cond lk (freeze (ioBack s.sig.ins args (rs.drop s.sig.outs.length) R) (bor R s.sig.ins args)) (ioBack s.sig.ins args (rs.drop s.sig.outs.length) R)
       some (tupAV (resAV dm id R0 os rs).1, (resAV dm id R0 os rs).2) = some (v, R1)) →
      ∃ R1', (let R0 := cond lk (freeze (ioBack s.sig.ins args (rs.drop s.sig.outs.length) R') (bor R s.sig.ins args)) (ioBack s.sig.ins args (rs.drop s.sig.outs.length) R')
       some (tupAV (resAV dm id R0 os rs).1, (resAV dm id R0 os rs).2) = some (v, R1')) ∧ Same (fresh id s.sig.width ++ (ioIds s.sig.ins args ++ cond (s.sig.leaks || s.sig.leaksImm) (bor R s.sig.ins args) [])) R R1 R' R1' := by
    intro os lk hT hw hlk h
    simp only [Option.some.injEq, Prod.mk.injEq] at h
    obtain ⟨rfl, rfl⟩ := h
    have s1 := ioBack_same s.sig.ins args (rs.drop s.sig.outs.length) R R'
    have s2 : Same (ioIds s.sig.ins args ++ cond (s.sig.leaks || s.sig.leaksImm) (bor R s.sig.ins args) []) (ioBack s.sig.ins args (rs.drop s.sig.outs.length) R)
        (cond lk (freeze (ioBack s.sig.ins args (rs.drop s.sig.outs.length) R) (bor R s.sig.ins args)) (ioBack s.sig.ins args (rs.drop s.sig.outs.length) R)) (ioBack s.sig.ins args (rs.drop s.sig.outs.length) R')
        (cond lk (freeze (ioBack s.sig.ins args (rs.drop s.sig.outs.length) R') (bor R s.sig.ins args)) (ioBack s.sig.ins args (rs.drop s.sig.outs.length) R')) := by
      cases lk with
      | false => exact Same.refl _ _ _
      | true =>
        simp only [cond_true]
        have : AgL (ioBack s.sig.ins args (rs.drop s.sig.outs.length) R) (ioBack s.sig.ins args (rs.drop s.sig.outs.length) R') (bor R s.sig.ins args) := s1.ag (hA.sub fun i hi => by simp [hi])
        exact (freeze_same this).sub fun i hi => by rw [hlk rfl]; simp [hi]
    obtain ⟨n1, n2⟩ := resAV_same (dm := dm) os rs id (cond lk (freeze (ioBack s.sig.ins args (rs.drop s.sig.outs.length) R) (bor R s.sig.ins args)) (ioBack s.sig.ins args (rs.drop s.sig.outs.length) R))
      (cond lk (freeze (ioBack s.sig.ins args (rs.drop s.sig.outs.length) R') (bor R s.sig.ins args)) (ioBack s.sig.ins args (rs.drop s.sig.outs.length) R')) hT
    refine ⟨_, by simp only; rw [n1], ?_⟩
    exact ((s1.sub fun i hi => by simp [hi]).trans (s2.sub fun i hi => by rw [List.mem_append] at hi ⊢; rw [List.mem_append]; exact .inr hi)).trans (n2.sub fun i hi => by
      rw [mem_fresh] at hi
      rw [List.mem_append, mem_fresh]
      left; omega)
  refine (?_ : ∃ R1', _ ∧ _).imp fun R1' h => ⟨h.1, h.2, trivial⟩
  cases hfl : s.sig.flag with
  | none =>
    rw [hfl] at h
    exact main s.sig.outs s.sig.leaks (oty_of hty) (by rw [width_outs]; exact Nat.le_refl _) (fun h => by simp [h]) h
  | some k =>
    rw [hfl] at h
    simp only at h ⊢
    have hse := setEl_nth ⟨.int .i64, (0 : Int)⟩ rs k
    generalize hn : nth ⟨.int .i64, (0 : Int)⟩ rs k = d at h hse ⊢
    obtain ⟨t, x⟩ := d
    cases t with
    | bool =>
      simp only at h ⊢
      cases x with
      | true =>
        simp only [cond_true] at h ⊢
        rw [hse] at h ⊢
        exact main s.sig.outs s.sig.leaks (oty_of hty) (by rw [width_outs]; exact Nat.le_refl _) (fun h => by simp [h]) h
      | false =>
        simp only [cond_false] at h ⊢
        rw [hse] at h ⊢
        have hty2 : rs.map Dyn.t = (s.sig.outs.map fun x => (x.1, Own.imm)).map Prod.fst ++ s.sig.ins.flatMap PM.outTy := by rw [hty]; simp
        have hw0 := width_imms s.sig
        exact main (s.sig.outs.map fun x => (x.1, Own.imm)) s.sig.leaksImm (oty_of hty2) (by unfold Sig.imms at hw0; rw [hw0]; exact Nat.zero_le _) (fun h => by simp [h]) h
    | _ => cases h
end Go.VE
/- Operations, wherever they stand. -/
namespace Go.VE
variable {C : Cfg} {dm : Bool} {D : Nat → Prop} {R R' R1 R1' R2 R2' : Regs} {W W' : List Nat} {α : Type}

theorem withTy_of {t : Nat} {i : TyI} {k : TyI → Option α} (h : C.ty t = some i) : withTy C t k = k i := by simp [withTy, h]
theorem withElem_of {t : Nat} {i : TyI} {e : Ty} {k : Ty → Option α} (h : C.ty t = some i) (he : i.ty = .slice e) : withElem C t k = k e := by simp [withElem, withTy, h, he]
theorem ret_loc {F F' : Option AV} {v : AV} (h : F.bind (fun v => some (v, R)) = some (v, R1)) (e : F' = F) : ∃ R1', F'.bind (fun v => some (v, R')) = some (v, R1') ∧ Same W R R1 R' R1' := by
  subst e
  obtain ⟨x, hx, h⟩ := Option.bind_eq_some_iff.1 h
  cases h
  exact ⟨R', by rw [hx]; rfl, Same.refl _ _ _⟩

theorem loadK_loc {t : Nat} {x : AV} {K : AV → Option α} (h : AgL R R' (pids x.cells)) : loadK C t x R' K = loadK C t x R K := by
  unfold loadK
  congr 1; funext i
  split
  · rfl
  · rename_i id n sz off
    rw [h id (by simp [pids, pid, AV.cells])]
  · rfl
theorem indexK_loc {x i : AV} {K : AV → Option α} (h : AgL R R' (pids x.cells)) : indexK x i R' K = indexK x i R K := by
  unfold indexK
  congr 1; funext k n
  split
  · rfl
  · rename_i id
    rw [h id (by simp [pids, pid, AV.cells])]
  · rename_i id sz lo hi
    rw [h id (by simp [pids, pid, AV.cells])]
  · rfl
theorem elemTy_loc {x : AV} {e : Ty} (h : AgL R R' (pids x.cells)) : elemTy e R' x = elemTy e R x := by
  unfold elemTy
  split
  · rfl
  · rename_i id
    rw [h id (by simp [pids, pid, AV.cells])]
  · rename_i id sz lo hi
    rw [h id (by simp [pids, pid, AV.cells])]
  · rfl
theorem sliceTy_loc {x : AV} {t : Ty} (h : AgL R R' (pids x.cells)) : sliceTy t R' x = sliceTy t R x := by
  unfold sliceTy
  split
  · rfl
  · rw [elemTy_loc h]
  · rfl
theorem sliceK_loc {x : AV} {lo hi mx : Option AV} {K : AV → Option α} (h : AgL R R' (pids x.cells)) : sliceK x lo hi mx R' K = sliceK x lo hi mx R K := by
  unfold sliceK
  split
  · rfl
  · rfl
  · rename_i id
    rw [h id (by simp [pids, pid, AV.cells])]
  · rfl
theorem lenK_loc {x : AV} {K : Int → Option α} (h : AgL R R' (pids x.cells)) : lenK R' x K = lenK R x K := by
  unfold lenK
  split
  · rfl
  · rfl
  · rfl
  · rename_i id
    rw [h id (by simp [pids, pid, AV.cells])]
  · rename_i id sz lo hi
    rw [h id (by simp [pids, pid, AV.cells])]
  · rfl
theorem isNil_loc {c : Cell} {K : Bool → Option α} (h : AgL R R' (pid c)) : isNil R' c K = isNil R c K := by
  unfold isNil
  split
  · rfl
  · rename_i id
    rw [h id (by simp [pid])]
  · rfl
  · rfl
theorem bin_loc {t : Nat} {b : BinOp} {x y : AV} {K : AV → Option α} (h : AgL R R' (pids x.cells)) : bin C t b x y R' K = bin C t b x y R K := by
  unfold bin
  split
  all_goals first
    | rfl
    | (rename_i c; congr 1; funext e; exact isNil_loc (h.sub fun i hi => by simpa [pids, AV.cells] using hi))
    | (congr 1; funext e; exact isNil_loc (h.sub fun i hi => by simpa [pids, AV.cells] using hi))
theorem tailK_loc {e : Ty} {x : AV} {z : Bool} {K : List e.den → Option α} (h : AgL R R' (pids x.cells)) : tailK R' e x z K = tailK R e x z K := by
  unfold tailK
  split
  · rfl
  · split
    · rfl
    · rename_i c _
      rw [rdSlice_loc (h.sub fun i hi => by
        cases c <;> simp_all [pids, pid, cid, AV.cells])]
    · rfl
theorem takeOver_loc {e : Ty} {x : AV} (h : takeOver e dm x R = some R1) (hA : AgL R R' (pids x.cells)) : ∃ R1', takeOver e dm x R' = some R1' ∧ Same (pids x.cells) R R1 R' R1' := by
  unfold takeOver at h ⊢
  cases hf : e.flat with
  | true =>
    rw [hf] at h
    simp only [cond_true, Option.some.injEq] at h ⊢
    subst h
    exact ⟨R', rfl, Same.refl _ _ _⟩
  | false =>
    rw [hf] at h
    simp only [cond_false] at h ⊢
    split at h
    · rename_i j
      have hj : R' j = R j := hA j (by simp [pids, pid, AV.cells])
      simp only [hj]
      cases hr : R j with
      | none => rw [hr] at h; cases h
      | some r =>
        rw [hr] at h
        cases r with
        | box ds => cases h
        | arr t xs d =>
          simp only at h ⊢
          cases dm with
          | true =>
            simp only [cond_true] at h ⊢
            obtain ⟨hd, h⟩ := cond_some h
            cases h
            rw [hd]
            exact ⟨_, rfl, Same.upd (by simp [pids, pid, AV.cells]) _⟩
          | false =>
            simp only [cond_false, Option.some.injEq] at h ⊢
            subst h
            exact ⟨_, rfl, Same.upd (by simp [pids, pid, AV.cells]) _⟩
        | frz t xs =>
          simp only at h ⊢
          obtain ⟨hd, h⟩ := cond_some' h
          cases h
          rw [hd]
          exact ⟨R', rfl, Same.refl _ _ _⟩
    · cases h
      exact ⟨R', rfl, Same.refl _ _ _⟩
    · obtain ⟨hd, h⟩ := cond_some' h
      cases h
      simp only [hd, cond_false]
      exact ⟨R', rfl, Same.refl _ _ _⟩
    · cases h

theorem argsBor_cons (E : Operand → AV) (x : Operand) (xs : List Operand) : argsBor R E (x :: xs) = borCells R (E x).cells ++ argsBor R E xs := by simp only [argsBor, app_eq]
theorem argsBor_loc {E : Operand → AV} : ∀ {xs : List Operand}, AgL R R' (argsBor R E xs) → argsBor R' E xs = argsBor R E xs
  | [], _ => rfl
  | x :: xs, h => by
    rw [argsBor_cons] at h ⊢
    rw [argsBor_cons, borCells_loc (h.sub fun i hi => by simp [hi]), argsBor_loc (h.sub fun i hi => by simp [hi])]
theorem pids_bor {cs : List Cell} : ∀ i ∈ pids cs, i ∈ borCells R cs := by
  intro i hi
  obtain ⟨c, hc, hi⟩ := List.mem_flatMap.1 hi
  refine mem_bor hc i ?_
  cases c with
  | ptr id n sz off =>
    simp only [pid, List.mem_singleton] at hi
    subst hi
    simp only [borCell]
    split <;> simp
  | own j => simpa [pid, borCell] using hi
  | view j => simpa [pid, borCell] using hi
  | _ => simp [pid] at hi
theorem cids_pids {cs : List Cell} : ∀ i ∈ cids cs, i ∈ pids cs := by
  intro i hi
  obtain ⟨c, hc, hi⟩ := List.mem_flatMap.1 hi
  refine List.mem_flatMap.2 ⟨c, hc, ?_⟩
  cases c <;> first | exact hi | (simp [cid] at hi)

theorem putAt_bor {off : Nat} {t : Ty} {x : t.den} {new : List Cell} : ∀ i ∈ borCells R (putAt off new (expl t x)), i ∈ borCells R new := by
  intro i hi
  obtain ⟨c, hc, hi⟩ := mem_borCells.1 hi
  rcases putAt_mem hc with hc | hc
  · exact mem_bor hc i hi
  · exfalso
    have : ∀ (t : Ty) (x : t.den), ∀ c ∈ expl t x, borCell R c = [] := by
      intro t
      induction t with
      | one t ih => exact fun x => ih x
      | pair a b iha ihb =>
        intro x c hc
        simp only [expl, app_eq, List.mem_append] at hc
        rcases hc with hc | hc
        · exact iha x.1 c hc
        · exact ihb x.2 c hc
      | _ => intro x c hc; simp only [expl, List.mem_singleton] at hc; subst hc; rfl
    rw [this t x c hc] at hi
    cases hi

theorem store_loc {t : Nat} {x v : AV} {w : AV} (h : storeK C t x v R (fun R' => some (AV.c .top, R')) = some (w, R1)) (hA : AgL R R' (pids x.cells ++ borCells R v.cells)) :
    ∃ R1', storeK C t x v R' (fun R' => some (AV.c .top, R')) = some (w, R1') ∧ Same (pids x.cells ++ pids v.cells) R R1 R' R1' := by
  unfold storeK at h ⊢
  obtain ⟨i, hi, h⟩ := withTy_some h
  rw [withTy_of hi]
  obtain ⟨hb, h⟩ := cond_some h
  rw [hb]
  simp only [cond_true]
  cases x with
  | a xs => cases h
  | t xs => cases h
  | c c =>
    cases c with
    | ptr id n sz off =>
      have hid : R' id = R id := hA id (by simp [pids, pid, AV.cells])
      simp only [hid] at h ⊢
      cases hr : R id with
      | none => rw [hr] at h; cases h
      | some r =>
        rw [hr] at h
        cases r with
        | box cs =>
          simp only at h ⊢
          obtain ⟨hb, h⟩ := cond_some h
          cases h
          rw [hb]
          exact ⟨_, rfl, Same.upd (by simp [pids, pid, AV.cells]) _⟩
        | arr s xs d =>
          simp only at h ⊢
          obtain ⟨hb, h⟩ := cond_some h
          obtain ⟨y, hy, h⟩ := Option.bind_eq_some_iff.1 h
          obtain ⟨R2, h2, h⟩ := Option.bind_eq_some_iff.1 h
          have hv : AgL R R' (borCells R v.cells) := hA.sub fun i hi => by simp [hi]
          have hy' : implAll R' s (putAt off v.cells (expl s (VE.get s xs n))) = some y := by rw [implAll_loc (hv.sub putAt_bor)]; exact hy
          have hab : ∃ R2', cond s.flat (some R') (absorb d v.cells R') = some R2' ∧ Same (pids v.cells) R R2 R' R2' := by
            cases hf : s.flat with
            | true =>
              rw [hf] at h2
              simp only [cond_true, Option.some.injEq] at h2 ⊢
              subst h2
              exact ⟨R', rfl, Same.refl _ _ _⟩
            | false =>
              rw [hf] at h2
              simp only [cond_false] at h2 ⊢
              obtain ⟨R2', k1, k2⟩ := absorb_loc (R' := R') h2 (hv.sub cids_bor)
              exact ⟨R2', k1, k2.sub cids_pids⟩
          obtain ⟨R2', k1, k2⟩ := hab
          have hid2 : R2' id = R2 id := k2.ag (L := [id]) (fun j hj => by rw [List.mem_singleton] at hj; subst hj; exact hid) id (by simp)
          rw [hb, hy', k1]
          simp only [cond_true, Option.bind_some, hid2]
          cases hr2 : R2 id with
          | none => rw [hr2] at h; cases h
          | some r =>
            rw [hr2] at h
            cases r with
            | arr _ _ _ =>
              simp only [Option.some.injEq, Prod.mk.injEq] at h ⊢
              obtain ⟨rfl, rfl⟩ := h
              exact ⟨_, ⟨rfl, rfl⟩, (k2.sub fun i hi => by simp [hi]).trans (Same.upd (by simp [pids, pid, AV.cells]) _)⟩
            | _ => cases h
        | frz t xs => cases h
    | _ => cases h

theorem app_loc {st xt : Nat} {s x : AV} {id : Nat} {w : AV} (h : appK C dm st xt s x id R (fun v R => some (v, R)) = some (w, R1)) (hA : AgL R R' (borCells R s.cells ++ borCells R x.cells)) :
    ∃ R1', appK C dm st xt s x id R' (fun v R => some (v, R)) = some (w, R1') ∧ Same (fresh id 1 ++ (borCells R s.cells ++ borCells R x.cells)) R R1 R' R1' := by
  unfold appK at h ⊢
  obtain ⟨i, e, hi, he, h⟩ := withElem_some h
  obtain ⟨xi, hxi, h⟩ := withTy_some h
  rw [withElem_of hi he, withTy_of hxi]
  have hx : AgL R R' (pids x.cells) := hA.sub fun i hi => List.mem_append_right _ (pids_bor i hi)
  simp only at h ⊢
  have te : ∀ (R : Regs) (z : Bool) (K : List e.den → Option (AV × Regs)), tailK R e x z K = (tailK R e x z some).bind K := fun R z K => (tailK_bind (K := some)).symm
  rw [te] at h
  obtain ⟨ys, hys, h⟩ := Option.bind_eq_some_iff.1 h
  rw [te, tailK_loc hx, hys]
  obtain ⟨R2, h2, h⟩ := Option.bind_eq_some_iff.1 h
  obtain ⟨R2', k1, k2⟩ := takeOver_loc (R' := R') h2 hx
  simp only [Option.bind_some, k1]
  have k2' : Same (fresh id 1 ++ (borCells R s.cells ++ borCells R x.cells)) R R2 R' R2' := k2.sub fun i hi => by
    have := pids_bor (R := R) i hi
    simp [this]
  cases s with
  | a xs => cases h
  | t xs => cases h
  | c c =>
    cases c with
    | nil =>
      simp only at h ⊢
      obtain ⟨hb, h⟩ := cond_some h
      cases h
      simp only [hb, cond_true]
      exact ⟨_, rfl, k2'.trans (Same.upd (by simp [fresh]) _)⟩
    | own j =>
      simp only at h ⊢
      have hj : R2' j = R2 j := k2.ag (L := [j]) (fun q hq => by rw [List.mem_singleton] at hq; subst hq; exact hA q (by simp [AV.cells, borCells, borCell])) j (by simp)
      simp only [hj]
      cases hr : R2 j with
      | none => rw [hr] at h; cases h
      | some r =>
        rw [hr] at h
        cases r with
        | arr t xs d =>
          simp only at h ⊢
          obtain ⟨hb, h⟩ := cond_some h
          obtain ⟨zs, hz, h⟩ := Option.bind_eq_some_iff.1 h
          obtain ⟨hb2, h⟩ := cond_some h
          cases h
          rw [hb, hz]
          simp only [cond_true, Option.bind_some, hb2]
          exact ⟨_, rfl, (k2'.trans (Same.upd (by simp [AV.cells, borCells, borCell]) _)).trans (Same.upd (by simp [fresh]) _)⟩
        | _ => cases h
    | _ => cases h

theorem asI_some {x : AV} {k : IntKind → Int → Option α} {r : α} (h : asI x k = some r) : ∃ i n, x = .c (.val (.int i) n) ∧ k i n = some r := by
  unfold asI at h
  split at h
  · exact ⟨_, _, rfl, h⟩
  · cases h
theorem asS_some {x : AV} {k : ByteArray → Option α} {r : α} (h : asS x k = some r) : ∃ s, x = .c (.val .str s) ∧ k s = some r := by
  unfold asS at h
  split at h
  · exact ⟨_, rfl, h⟩
  · cases h

theorem op_loc {o : Oper} {id : Nat} {E : Operand → AV} {v : AV} (h : op1 C dm o id E R = some (v, R1)) (hA : AgL R R' (fp C o id E R).1) :
    ∃ R1', op1 C dm o id E R' = some (v, R1') ∧ Same (fp C o id E R).2 R R1 R' R1' ∧ fp C o id E R' = fp C o id E R := by
  unfold op1 at h ⊢
  have keep : ∀ {F F' : Option AV}, (op C dm o id E R fun v R => some (v, R)) = F.bind (fun v => some (v, R)) → (op C dm o id E R' fun v R => some (v, R)) = F'.bind (fun v => some (v, R')) → F' = F → fp C o id E R' = fp C o id E R →
      ∃ R1', (op C dm o id E R' fun v R => some (v, R)) = some (v, R1') ∧ Same (fp C o id E R).2 R R1 R' R1' ∧ fp C o id E R' = fp C o id E R := by
    intro F F' e1 e2 e3 e4
    rw [e1] at h
    obtain ⟨R1', k1, k2⟩ := ret_loc (W := (fp C o id E R).2) (R' := R') h e3
    exact ⟨R1', by rw [e2]; exact k1, k2, e4⟩
  cases H : o.op with
  | move x => exact keep (F := some (E x)) (F' := some (E x)) (by simp only [op, H]; rfl) (by simp only [op, H]; rfl) rfl (by simp only [fp, H])
  | assign x => exact keep (F := some (E x)) (F' := some (E x)) (by simp only [op, H]; rfl) (by simp only [op, H]; rfl) rfl (by simp only [fp, H])
  | pick c x y =>
    have e : ∀ R, (op C dm o id E R fun v R => some (v, R)) = (asB (E c) fun t => cond t (some (E x)) (some (E y))).bind fun v => some (v, R) := by
      intro R
      rw [asB_bind]
      simp only [op, H]
      congr 1; funext t; cases t <;> rfl
    exact keep (e R) (e R') rfl (by simp only [fp, H])
  | alloc t =>
    simp only [op, H] at h ⊢
    obtain ⟨i, hi, h⟩ := withTy_some h
    rw [withTy_of hi]
    cases h
    exact ⟨_, rfl, Same.upd (by simp [fp, H, fresh]) _, by simp only [fp, H]⟩
  | box t x =>
    simp only [op, H] at h ⊢
    obtain ⟨i, hi, h⟩ := withTy_some h
    obtain ⟨hb, h⟩ := cond_some h
    rw [withTy_of hi, hb]
    cases h
    exact ⟨_, rfl, Same.upd (by simp [fp, H, fresh]) _, by simp only [fp, H]⟩
  | build t ps =>
    have e : ∀ R, (op C dm o id E R fun v R => some (v, R)) = (withTy C t fun i => cond i.ty.isAgg ((fills C i.fields (ps.toList.map fun p => (p.1, E p.2)) (zer i.ty)).bind fun cs => some (.a cs)) none).bind fun v => some (v, R) := by
      intro R
      rw [withTy_bind]
      simp only [op, H]
      congr 1; funext i
      rw [cond_bind, Option.bind_assoc]; rfl
    exact keep (e R) (e R') rfl (by simp only [fp, H])
  | buildSlice t n ps =>
    simp only [op, H] at h ⊢
    simp only [fp, H, partsB_eq, app_eq] at hA ⊢
    obtain ⟨i, e, hi, he, h⟩ := withElem_some h
    obtain ⟨hb, h⟩ := cond_some h
    obtain ⟨⟨ys, R2⟩, hx, h⟩ := Option.bind_eq_some_iff.1 h
    rw [withElem_of hi he, hb]
    cases h
    obtain ⟨R2', k1, k2⟩ := elems_loc (R' := R') hx hA
    simp only [cond_true, k1, Option.bind_some]
    exact ⟨_, rfl, (k2.sub fun i hi => by simp [hi]).trans (Same.upd (by simp [fresh]) _), by rw [partsB_loc hA]⟩
  | load t x =>
    simp only [fp, H] at hA
    have e : ∀ R, (op C dm o id E R fun v R => some (v, R)) = (loadK C t (E x) R some).bind fun v => some (v, R) := by
      intro R
      rw [loadK_bind]
      simp only [op, H]; rfl
    exact keep (e R) (e R') (loadK_loc hA) (by simp only [fp, H])
  | store t x y =>
    simp only [op, H] at h ⊢
    simp only [fp, H, app_eq] at hA ⊢
    obtain ⟨R1', k1, k2⟩ := store_loc (R' := R') h hA
    exact ⟨R1', k1, k2, by rw [borCells_loc (hA.sub fun i hi => by simp [hi])]⟩
  | nilCheck x =>
    have e : ∀ R, (op C dm o id E R fun v R => some (v, R)) = (match E x with
        | .c (.ptr ..) | .c (.val (.ref _) _) | .c (.func ..) | .c (.val (.fn1 ..) _) | .c (.val (.fn2 ..) _) => some (E x)
        | _ => none).bind fun v => some (v, R) := by
      intro R
      simp only [op, H]
      generalize E x = u
      split <;> first | rfl | simp_all
    exact keep (e R) (e R') rfl (by simp only [fp, H])
  | binOp b t x y pp =>
    simp only [fp, H, app_eq] at hA
    have e : ∀ R, (op C dm o id E R fun v R => some (v, R)) = (bin C t b (E x) (E y) R some).bind fun v => some (v, R) := by
      intro R
      rw [bin_bind]
      simp only [op, H]; rfl
    exact keep (e R) (e R') (bin_loc (hA.sub fun i hi => by simp [hi])) (by simp only [fp, H])
  | unOp u t x =>
    cases u with
    | not =>
      have e : ∀ R, (op C dm o id E R fun v R => some (v, R)) = (asB (E x) fun b => some (.c (.val .bool (!b)))).bind fun v => some (v, R) := by
        intro R
        rw [asB_bind]
        simp only [op, H]; rfl
      exact keep (e R) (e R') rfl (by simp only [fp, H])
    | neg =>
      have e : ∀ R, (op C dm o id E R fun v R => some (v, R)) = (asI (E x) fun k n => some (.c (.val (.int k) (k.wrap (0 - n))))).bind fun v => some (v, R) := by
        intro R
        rw [asI_bind]
        simp only [op, H]; rfl
      exact keep (e R) (e R') rfl (by simp only [fp, H])
    | _ => simp only [op, H] at h; cases h
  | convert s d x =>
    simp only [fp, H] at hA ⊢
    simp only [op, H] at h ⊢
    obtain ⟨i, hi, h⟩ := withTy_some h
    obtain ⟨j, hj, h⟩ := withTy_some h
    rw [withTy_of hi, withTy_of hj]
    generalize i.ty = ti at h ⊢
    generalize j.ty = tj at h ⊢
    split at h
    · obtain ⟨k, n, hx, h⟩ := asI_some h
      cases h
      simp only [hx, asI]
      exact ⟨R', rfl, Same.refl _ _ _, trivial⟩
    · cases hx : E x with
      | c c =>
        rw [hx] at h hA
        simp only at h ⊢
        obtain ⟨xs, hxs, h⟩ := Option.bind_eq_some_iff.1 h
        cases h
        rw [rdSlice_loc (hA.sub fun i hi => by simpa [AV.cells, pids] using cids_pids (cs := [c]) i (by simpa [cids] using hi)), hxs]
        exact ⟨R', rfl, Same.refl _ _ _, trivial⟩
      | a xs => rw [hx] at h; cases h
      | t xs => rw [hx] at h; cases h
    · obtain ⟨s, hx, h⟩ := asS_some h
      cases h
      simp only [hx, asS]
      exact ⟨_, rfl, Same.upd (by simp [fresh]) _, trivial⟩
    · obtain ⟨s, hx, h⟩ := asS_some h
      cases h
      simp only [hx, asS]
      exact ⟨R', rfl, Same.refl _ _ _, trivial⟩
    · cases hx : E x with
      | c c =>
        rw [hx] at h hA
        cases c with
        | own j =>
          have hj : R' j = R j := hA j (by simp [AV.cells, pids, pid])
          simp only [hj] at h ⊢
          cases hr : R j with
          | none => rw [hr] at h; cases h
          | some r =>
            rw [hr] at h
            cases r with
            | arr t xs d =>
              simp only at h ⊢
              obtain ⟨hb, h⟩ := cond_some h
              cases h
              rw [hb]
              exact ⟨R', rfl, Same.refl _ _ _, trivial⟩
            | _ => cases h
        | _ => cases h
      | a xs => rw [hx] at h; cases h
      | t xs => rw [hx] at h; cases h
    · cases h
  | makeFunc f first caps =>
    cases f with
    | func f =>
      have e : ∀ R, (op C dm o id E R fun v R => some (v, R)) = (cond (Nat.beq first.size 0) (some (.c (.func f (caps.toList.map fun x => capC (E x))))) none).bind fun v => some (v, R) := by
        intro R
        rw [cond_bind]
        simp only [op, H]; rfl
      exact keep (e R) (e R') rfl (by simp only [fp, H])
    | _ => simp [op, H] at h
  | makeSlice t l c =>
    simp only [op, H] at h ⊢
    obtain ⟨i, e, hi, he, h⟩ := withElem_some h
    rw [withElem_of hi he]
    obtain ⟨k1, n1, hl, h⟩ := asI_some h
    obtain ⟨k2, n2, hc, h⟩ := asI_some h
    obtain ⟨hb, h⟩ := cond_some h
    cases h
    simp only [hl, hc, asI, hb, cond_true]
    exact ⟨_, rfl, Same.upd (by simp [fp, H, fresh]) _, by simp only [fp, H]⟩
  | slice t x lo hi mx =>
    simp only [fp, H] at hA
    have e : ∀ R, (op C dm o id E R fun v R => some (v, R)) = (withTy C t fun i => cond (sliceTy i.ty R (E x) && (mx.isNone || hi.isSome)) (sliceK (E x) (lo.map E) (hi.map E) (mx.map E) R some) none).bind fun v => some (v, R) := by
      intro R
      rw [withTy_bind]
      simp only [op, H]
      congr 1; funext i
      rw [cond_bind, sliceK_bind]; rfl
    refine keep (e R) (e R') ?_ (by simp only [fp, H])
    congr 1; funext i
    rw [sliceTy_loc hA, sliceK_loc hA]
  | fieldAddr s x f =>
    have e : ∀ R, (op C dm o id E R fun v R => some (v, R)) = (fieldK C s (E x) f some).bind fun v => some (v, R) := by
      intro R
      rw [fieldK_bind]
      simp only [op, H]; rfl
    exact keep (e R) (e R') rfl (by simp only [fp, H])
  | field s x f =>
    have e : ∀ R, (op C dm o id E R fun v R => some (v, R)) = (partK C s (E x) f some).bind fun v => some (v, R) := by
      intro R
      rw [partK_bind]
      simp only [op, H]; rfl
    exact keep (e R) (e R') rfl (by simp only [fp, H])
  | indexAddr t x i =>
    simp only [fp, H] at hA
    have e : ∀ R, (op C dm o id E R fun v R => some (v, R)) = (withElem C t fun e => cond (elemTy e R (E x)) (indexK (E x) (E i) R some) none).bind fun v => some (v, R) := by
      intro R
      rw [withElem_bind]
      simp only [op, H]
      congr 1; funext i
      rw [cond_bind, indexK_bind]; rfl
    refine keep (e R) (e R') ?_ (by simp only [fp, H])
    congr 1; funext i
    rw [elemTy_loc hA, indexK_loc hA]
  | index t x i =>
    have e : ∀ R, (op C dm o id E R fun v R => some (v, R)) = (withTy C t fun ti => cond (decide (ti.ty = .str)) (asS (E x) fun s => asI (E i) fun _ n => cond (inB n s.size) (some (.c (.val (.int .u8) (byteAt s n)))) none) none).bind fun v => some (v, R) := by
      intro R
      rw [withTy_bind]
      simp only [op, H]
      congr 1; funext i
      rw [cond_bind, asS_bind]
      congr 1; congr 1; funext s
      rw [asI_bind]
      congr 1; funext k n
      rw [cond_bind]; rfl
    exact keep (e R) (e R') rfl (by simp only [fp, H])
  | extract x n =>
    have e : ∀ R, (op C dm o id E R fun v R => some (v, R)) = (match E x with
        | .t vs => cond (Nat.blt n vs.length) (some (nth (AV.c .top) vs n)) none
        | _ => none).bind fun v => some (v, R) := by
      intro R
      simp only [op, H]
      generalize E x = u
      split
      · rw [cond_bind]; rfl
      · simp_all
    exact keep (e R) (e R') rfl (by simp only [fp, H])
  | call c =>
    cases hc : c.callee with
    | invoke _ _ => simp [op, H, hc] at h
    | builtin b =>
      cases b with
      | len =>
        simp only [op, H, hc] at h ⊢
        simp only [fp, H, hc] at hA ⊢
        split at h
        · rename_i x t hx ht
          obtain ⟨i, hi, h⟩ := withTy_some h
          obtain ⟨hb, h⟩ := cond_some h
          simp only [hx, ht]
          rw [withTy_of hi, hb]
          rw [hx] at hA
          have hA' : AgL R R' (pids (E x).cells) := hA.sub fun i hi => by rw [argsBor_cons]; exact List.mem_append_left _ (pids_bor i hi)
          have e : ∀ R, (lenK R (E x) fun n => some (AV.c (.val (.int .i64) n), R)) = (lenK R (E x) fun n => some (AV.c (.val (.int .i64) n))).bind fun v => some (v, R) := by
            intro R
            rw [lenK_bind]; rfl
          simp only [cond_true]
          rw [e] at h
          rw [e]
          obtain ⟨R1', k1, k2⟩ := ret_loc (W := []) (R' := R') h (lenK_loc (K := fun n => some (AV.c (.val (.int .i64) n))) hA')
          exact ⟨R1', k1, k2, by rw [argsBor_loc hA]⟩
        · cases h
      | min =>
        have e : ∀ R, (op C dm o id E R fun v R => some (v, R)) = (minmax true (c.args.toList.map E) fun k n => some (.c (.val (.int k) n))).bind fun v => some (v, R) := by
          intro R
          rw [minmax_bind]
          simp only [op, H, hc]; rfl
        simp only [fp, H, hc] at hA
        exact keep (e R) (e R') rfl (by simp only [fp, H, hc]; rw [argsBor_loc hA])
      | max =>
        have e : ∀ R, (op C dm o id E R fun v R => some (v, R)) = (minmax false (c.args.toList.map E) fun k n => some (.c (.val (.int k) n))).bind fun v => some (v, R) := by
          intro R
          rw [minmax_bind]
          simp only [op, H, hc]; rfl
        simp only [fp, H, hc] at hA
        exact keep (e R) (e R') rfl (by simp only [fp, H, hc]; rw [argsBor_loc hA])
      | append =>
        simp only [op, H, hc] at h ⊢
        simp only [fp, H, hc, app_eq] at hA ⊢
        split at h
        · rename_i s x st xt hx ht
          simp only [hx, ht]
          rw [hx] at hA
          have e : argsBor R E [s, x] = borCells R (E s).cells ++ borCells R (E x).cells := by simp only [argsBor, app_eq, List.append_nil]
          rw [argsBor_loc hA, e]
          rw [e] at hA
          obtain ⟨R1', k1, k2⟩ := app_loc (R' := R') h hA
          exact ⟨R1', k1, k2, rfl⟩
        · cases h
      | _ => simp [op, H, hc] at h
    | value f =>
      simp only [op, H, hc] at h ⊢
      simp only [fp, H, hc] at hA ⊢
      cases hf : E f with
      | a xs => rw [hf] at h; cases h
      | t xs => rw [hf] at h; cases h
      | c x =>
        rw [hf] at h hA
        cases x with
        | func g0 caps =>
          simp only at h hA ⊢
          obtain ⟨hth, h⟩ := cond_some h
          rw [hth]
          simp only [cond_true]
          cases hs : C.fn g0 with
          | none => unfold callK at h; rw [hs] at h; cases h
          | some s =>
            rw [hs] at hA
            simp only [app_eq] at hA h ⊢
            obtain ⟨R1', k1, k2, k3⟩ := call_loc (R' := R') hs h hA
            exact ⟨R1', k1, k2, by rw [k3]⟩
        | val t p =>
          cases t with
          | fn1 a r =>
            simp only at h hA ⊢
            split at h
            · rename_i x hx
              simp only [hx]
              rw [hx] at hA
              obtain ⟨y, hy, h⟩ := Option.bind_eq_some_iff.1 h
              obtain ⟨z, hz, h⟩ := Option.bind_eq_some_iff.1 h
              obtain ⟨hfl, h⟩ := cond_some h
              cases h
              rw [rdAV_loc (hA.sub fun i hi => by rw [argsBor_cons]; simp [hi]), hy]
              simp only [Option.bind_some, hz, hfl, cond_true]
              exact ⟨R', rfl, Same.refl _ _ _, by rw [argsBor_loc hA]⟩
            · cases h
          | fn2 a b r =>
            simp only at h hA ⊢
            split at h
            · rename_i x x2 hx
              simp only [hx]
              rw [hx] at hA
              obtain ⟨y, hy, h⟩ := Option.bind_eq_some_iff.1 h
              obtain ⟨y2, hy2, h⟩ := Option.bind_eq_some_iff.1 h
              obtain ⟨z, hz, h⟩ := Option.bind_eq_some_iff.1 h
              obtain ⟨hfl, h⟩ := cond_some h
              cases h
              rw [rdAV_loc (hA.sub fun i hi => by rw [argsBor_cons]; simp [hi]), hy]
              rw [Option.bind_some, rdAV_loc (hA.sub fun i hi => by rw [argsBor_cons, argsBor_cons]; simp [hi]), hy2]
              simp only [Option.bind_some, hz, hfl, cond_true]
              exact ⟨R', rfl, Same.refl _ _ _, by rw [argsBor_loc hA]⟩
            · cases h
          | _ => cases h
        | _ => cases h
  | _ => simp [op, H] at h
end Go.VE
/- Regions whose order is drawn. -/
namespace Go.VE
variable {P : Program} {C : Cfg} {dm : Bool} {D : Nat → Prop} {R R' R1 R1' R2 R2' : Regs} {W W' : List Nat} {α : Type}

theorem op_congr {E E' : Operand → AV} {o : Oper} {id : Nat} {K : AV → Regs → Option α} (h : ∀ x ∈ o.op.operands, E x = E' x) : op C dm o id E R K = op C dm o id E' R K := by
  obtain ⟨dst, q, type, pos, after, guard⟩ := o
  have pairs : ∀ ps : Array (Nat × Operand), (∀ x ∈ (ps.toList.map (·.2)).toArray, E x = E' x) → (ps.toList.map fun p => (p.1, E p.2)) = (ps.toList.map fun p => (p.1, E' p.2)) := fun ps hp =>
    List.map_congr_left fun p hm => by
      obtain ⟨i, x⟩ := p
      simp only [hp x (by simp; exact ⟨i, by simpa using hm⟩)]
  cases q <;> simp only [Op.operands] at h <;> simp only [op]
  case build t ps => rw [pairs ps h]
  case buildSlice t n ps => rw [pairs ps h]
  case makeFunc fn first caps =>
    cases fn with
    | func f =>
      simp only
      rw [List.map_congr_left (l := caps.toList) (g := fun x => capC (E' x)) fun x hx => by rw [h x (by simp; exact .inr (by simpa using hx))]]
    | _ => rfl
  case call c =>
    have ha : c.args.toList.map E = c.args.toList.map E' := List.map_congr_left fun x hx => h x (by simp [Call.operands]; exact .inr (by simpa using hx))
    have hx : ∀ x ∈ c.args.toList, E x = E' x := fun x hx => h x (by simp [Call.operands]; exact .inr (by simpa using hx))
    cases hc : c.callee with
    | builtin b =>
      cases b with
      | len =>
        simp only
        split
        · rename_i x t h1 h2
          rw [h1] at hx
          rw [hx x (by simp)]
        · rfl
      | min => simp only [ha]
      | max => simp only [ha]
      | append =>
        simp only
        split
        · rename_i s x st xt h1 h2
          rw [h1] at hx
          rw [hx s (by simp), hx x (by simp)]
        · rfl
      | _ => rfl
    | value f =>
      have hf : E f = E' f := h f (by simp [Call.operands, hc])
      simp only [hf, ha]
      split
      · rfl
      · split
        · rename_i x h1
          rw [h1] at hx
          rw [hx x (by simp)]
        · rfl
      · split
        · rename_i x y h1
          rw [h1] at hx
          rw [hx x (by simp), hx y (by simp)]
        · rfl
      · rfl
    | invoke r m => rfl
  case slice t x lo hi mx => cases lo <;> cases hi <;> cases mx <;> simp_all
  case unOp u t x => cases u <;> simp_all
  all_goals (first | rfl | (simp_all; done) | (split <;> simp_all; done) | skip)

theorem fp_congr {E E' : Operand → AV} {o : Oper} {id : Nat} (h : ∀ x ∈ o.op.operands, E x = E' x) : fp C o id E R = fp C o id E' R := by
  obtain ⟨dst, q, type, pos, after, guard⟩ := o
  have ab : ∀ l : List Operand, (∀ x ∈ l, E x = E' x) → argsBor R E l = argsBor R E' l := by
    intro l
    induction l with
    | nil => intro _; rfl
    | cons x l ih => intro hl; simp only [argsBor]; rw [hl x (by simp), ih (fun y hy => hl y (by simp [hy]))]
  have pb : ∀ l : List (Nat × Operand), (∀ x ∈ l.map (·.2), E x = E' x) → partsBor R E l = partsBor R E' l := by
    intro l
    induction l with
    | nil => intro _; rfl
    | cons x l ih => intro hl; simp only [partsBor]; rw [hl x.2 (by simp), ih (fun y hy => hl y (by simp at hy ⊢; exact .inr hy))]
  cases q <;> simp only [Op.operands] at h <;> simp only [fp]
  case buildSlice t n ps => rw [pb ps.toList (fun x hx => h x (by simpa using hx))]
  case call c =>
    have ha : c.args.toList.map E = c.args.toList.map E' := List.map_congr_left fun x hx => h x (by simp [Call.operands]; exact .inr (by simpa using hx))
    have hx : ∀ x ∈ c.args.toList, E x = E' x := fun x hx => h x (by simp [Call.operands]; exact .inr (by simpa using hx))
    have hb := ab c.args.toList hx
    cases hc : c.callee with
    | builtin b => cases b <;> simp only [hb]
    | value f =>
      have hf : E f = E' f := h f (by simp [Call.operands, hc])
      simp only [hf, ha, hb]
    | invoke r m => rfl
  all_goals (first | rfl | (simp_all; done))

/-! ### guards -/
def gst (all : List Oper) (o : Oper) (env : Env) : Option Bool := match o.guard with
  | none => some true
  | some (j, want) => match nth none (all.map (·.dst)) j with
    | none => none
    | some t => match env t with
      | .t [] => some false
      | .c (.val .bool b) => some (sameB b want)
      | _ => none

theorem step1_run {all : List Oper} {o : Oper} {id : Nat} {s : St} (h : gst all o s.1 = some true) : step1 C dm all o id s = (op1 C dm o id (ev s.1) s.2).map (fun x => (put s.1 o.dst x.1, x.2)) ∧ fpAt C all o id s = fp C o id (ev s.1) s.2 := by
  unfold gst at h
  unfold step1 fpAt
  cases hg : o.guard with
  | none => exact ⟨rfl, rfl⟩
  | some jw =>
    obtain ⟨j, want⟩ := jw
    rw [hg] at h
    simp only at h ⊢
    cases hn : nth none (all.map (·.dst)) j with
    | none => rw [hn] at h; cases h
    | some t =>
      rw [hn] at h
      simp only at h ⊢
      generalize s.1 t = v at h ⊢
      split at h
      · cases h
      · rename_i b
        simp only [Option.some.injEq] at h
        simp only [h, cond_true, and_self]
      · cases h
theorem step1_skip {all : List Oper} {o : Oper} {id : Nat} {s : St} (h : gst all o s.1 = some false) : step1 C dm all o id s = some (put s.1 o.dst (.t []), s.2) ∧ fpAt C all o id s = ([], []) := by
  unfold gst at h
  unfold step1 fpAt
  cases hg : o.guard with
  | none => rw [hg] at h; cases h
  | some jw =>
    obtain ⟨j, want⟩ := jw
    rw [hg] at h
    simp only at h ⊢
    cases hn : nth none (all.map (·.dst)) j with
    | none => rw [hn] at h; cases h
    | some t =>
      rw [hn] at h
      simp only at h ⊢
      generalize s.1 t = v at h ⊢
      split at h
      · exact ⟨rfl, rfl⟩
      · rename_i b
        simp only [Option.some.injEq] at h
        simp only [h, cond_false, and_self]
      · cases h
theorem step1_none {all : List Oper} {o : Oper} {id : Nat} {s : St} (h : gst all o s.1 = none) : step1 C dm all o id s = none := by
  unfold gst at h
  unfold step1
  cases hg : o.guard with
  | none => rw [hg] at h; cases h
  | some jw =>
    obtain ⟨j, want⟩ := jw
    rw [hg] at h
    simp only at h ⊢
    cases hn : nth none (all.map (·.dst)) j with
    | none => rfl
    | some t =>
      rw [hn] at h
      simp only at h ⊢
      generalize s.1 t = v at h ⊢
      split at h
      · cases h
      · cases h
      · rename_i h1 h2
        split
        · exact absurd rfl (h1 ·)
        · exact absurd rfl (h2 _)
        · rfl
theorem step1_cases {all : List Oper} {o : Oper} {id : Nat} {s s1 : St} (h : step1 C dm all o id s = some s1) : (gst all o s.1 = some true ∧ ∃ v, op1 C dm o id (ev s.1) s.2 = some (v, s1.2) ∧ s1.1 = put s.1 o.dst v ∧ fpAt C all o id s = fp C o id (ev s.1) s.2) ∨
    (gst all o s.1 = some false ∧ s1 = (put s.1 o.dst (.t []), s.2) ∧ fpAt C all o id s = ([], [])) := by
  cases hg : gst all o s.1 with
  | none => rw [step1_none hg] at h; cases h
  | some b =>
    cases b with
    | true =>
      obtain ⟨e1, e2⟩ := step1_run (C := C) (dm := dm) (id := id) hg
      rw [e1] at h
      obtain ⟨⟨v, R'⟩, h1, rfl⟩ := Option.map_eq_some_iff.1 h
      exact .inl ⟨rfl, v, h1, rfl, e2⟩
    | false =>
      obtain ⟨e1, e2⟩ := step1_skip (C := C) (dm := dm) (id := id) hg
      rw [e1] at h
      exact .inr ⟨rfl, (Option.some.inj h).symm, e2⟩

/-! ### slots apart -/
theorem put_comm {env : Env} {x y : Option Nat} {u v : AV} (h : ∀ d, x = some d → y ≠ some d) : put (put env x u) y v = put (put env y v) x u := by
  cases x with
  | none => rfl
  | some d =>
    cases y with
    | none => rfl
    | some e =>
      have hne : e ≠ d := fun e' => h d rfl (by rw [e'])
      funext k
      simp only [put]
      by_cases h1 : k = e
      · subst h1; rw [upd_same, upd_ne _ _ hne, upd_same]
      · rw [upd_ne _ _ h1]
        by_cases h2 : k = d
        · subst h2; rw [upd_same, upd_same]
        · rw [upd_ne _ _ h2, upd_ne _ _ h2, upd_ne _ _ h1]

theorem ev_put {ops : Array Oper} {o : Oper} {env : Env} {d : Option Nat} {v : AV} (h : ∀ t, d = some t → t ∉ o.looksAt ops) : ∀ x ∈ o.op.operands, ev (put env d v) x = ev env x := by
  intro x hx
  cases d with
  | none => rfl
  | some t =>
    cases x with
    | tmp s =>
      have hne : s ≠ t := by
        rintro rfl
        refine h s rfl ?_
        simp only [Oper.looksAt, List.mem_append, List.mem_filterMap]
        exact .inl ⟨.tmp s, by simpa using hx, rfl⟩
      simp only [ev, put]
      rw [upd_ne _ _ hne]
    | _ => rfl
theorem gst_put {ops : Array Oper} {o : Oper} {env : Env} {d : Option Nat} {v : AV} (h : ∀ t, d = some t → t ∉ o.looksAt ops) : gst ops.toList o (put env d v) = gst ops.toList o env := by
  cases d with
  | none => rfl
  | some t =>
    unfold gst
    cases hg : o.guard with
    | none => rfl
    | some jw =>
      obtain ⟨j, want⟩ := jw
      simp only
      cases hn : nth none (ops.toList.map (·.dst)) j with
      | none => rfl
      | some s =>
        simp only
        have hne : s ≠ t := by
          rintro rfl
          refine h s rfl ?_
          simp only [Oper.looksAt, List.mem_append, hg, Option.mem_toList]
          exact .inr (dst_of hn).1
        simp only [put]
        rw [upd_ne _ _ hne]

theorem fpApart_iff {f g : FP} (h : fpApart f g = true) : (∀ i ∈ f.2, i ∉ g.1) ∧ (∀ i ∈ f.2, i ∉ g.2) ∧ ∀ i ∈ g.2, i ∉ f.1 := by
  simp only [fpApart, Bool.and_eq_true] at h
  exact ⟨apartB_iff h.1, apartB_iff h.2.1, apartB_iff h.2.2⟩

/-- two operations whose order is open, the other way round -/
theorem exch {ops : Array Oper} {x y : Oper} {ix iy : Nat} {s s1 s2 : St} (hy : step1 C dm ops.toList y iy s = some s1) (hx : step1 C dm ops.toList x ix s1 = some s2) (hs : y.apart ops x = true)
    (hf : fpApart (fpAt C ops.toList y iy s) (fpAt C ops.toList x ix s1) = true) :
    ∃ s3, step1 C dm ops.toList x ix s = some s3 ∧ step1 C dm ops.toList y iy s3 = some s2 ∧ fpAt C ops.toList x ix s = fpAt C ops.toList x ix s1 ∧ fpAt C ops.toList y iy s3 = fpAt C ops.toList y iy s := by
  obtain ⟨a1, a2, a3⟩ := Oper.apart_spec hs
  obtain ⟨env, R⟩ := s
  obtain ⟨env1, R1⟩ := s1
  obtain ⟨env2, R2⟩ := s2
  -- y on the environment behind x, x on that ahead of y
  have gx : ∀ v, gst ops.toList x (put env y.dst v) = gst ops.toList x env := fun v => gst_put a1
  have gy : ∀ v, gst ops.toList y (put env x.dst v) = gst ops.toList y env := fun v => gst_put a3
  have ex : ∀ v id R, op1 C dm x id (ev (put env y.dst v)) R = op1 C dm x id (ev env) R := fun v id R => op_congr (ev_put a1)
  have ey : ∀ v id R, op1 C dm y id (ev (put env x.dst v)) R = op1 C dm y id (ev env) R := fun v id R => op_congr (ev_put a3)
  have fx : ∀ v id R, fp C x id (ev (put env y.dst v)) R = fp C x id (ev env) R := fun v id R => fp_congr (ev_put a1)
  have fy : ∀ v id R, fp C y id (ev (put env x.dst v)) R = fp C y id (ev env) R := fun v id R => fp_congr (ev_put a3)
  have pc : ∀ u v, put (put env x.dst u) y.dst v = put (put env y.dst v) x.dst u := fun u v => put_comm (fun d h1 h2 => a2 d h2 h1)
  rcases step1_cases hy with ⟨hgy, vy, oy, e1, f1⟩ | ⟨hgy, e1, f1⟩
  · simp only at e1
    subst e1
    rcases step1_cases hx with ⟨hgx, vx, ox, e2, f2⟩ | ⟨hgx, e2, f2⟩
    · simp only at e2 hgx ox oy hgy
      subst e2
      rw [gx] at hgx
      rw [ex] at ox
      rw [f1, f2] at hf
      simp only at hf
      rw [fx] at hf
      obtain ⟨p1, p2, p3⟩ := fpApart_iff hf
      obtain ⟨_, _, sy0, _⟩ := op_loc (R' := R) oy (fun _ _ => rfl)
      have hsame : ∀ i, i ∉ (fp C y iy (ev env) R).2 → R1 i = R i := by
        obtain ⟨R1', k1, k2, _⟩ := op_loc (R' := R) oy (fun _ _ => rfl)
        exact fun i hi => (k2.not hi).1
      obtain ⟨R3, ox3, sx, fx3⟩ := op_loc (R' := R) ox (fun i hi => (hsame i (fun h => p1 i h hi)).symm)
      obtain ⟨R4, oy4, sy, fy4⟩ := op_loc (R' := R3) oy (fun i hi => (sx.not (fun h => p3 i h hi)).2)
      have hR : R4 = R2 := by
        funext i
        rcases sy i with ⟨y1, y2⟩ | ⟨y1, y2⟩ <;> rcases sx i with ⟨x1, x2⟩ | ⟨x1, x2⟩
        · exact absurd x1 (p2 i y1)
        · rw [y2, x1]
        · rw [y2, x2]
        · rw [y2, x2, x1, y1]
      subst hR
      have r1 := step1_run (C := C) (dm := dm) (id := ix) (s := (env, R)) hgx
      simp only at r1
      refine ⟨(put env x.dst vx, R3), by rw [r1.1, ox3]; rfl, ?_, ?_, ?_⟩
      · have r2 := step1_run (C := C) (dm := dm) (id := iy) (s := (put env x.dst vx, R3)) (by simp only; rw [gy]; exact hgy)
        simp only at r2
        rw [r2.1, ey, oy4]
        simp only [Option.map_some, pc]
      · rw [r1.2, f2]; simp only; rw [fx, fx3]
      · have r2 := step1_run (C := C) (dm := dm) (id := iy) (s := (put env x.dst vx, R3)) (by simp only; rw [gy]; exact hgy)
        simp only at r2
        rw [r2.2, f1, fy, fy4]
    · simp only at hgx oy hgy e2
      simp only [Prod.mk.injEq] at e2
      obtain ⟨rfl, rfl⟩ := e2
      rw [gx] at hgx
      have r1 := step1_skip (C := C) (dm := dm) (id := ix) (s := (env, R)) hgx
      simp only at r1
      have r2 := step1_run (C := C) (dm := dm) (id := iy) (s := (put env x.dst (.t []), R)) (by simp only; rw [gy]; exact hgy)
      simp only at r2
      refine ⟨_, r1.1, ?_, by rw [r1.2, f2], by rw [r2.2, f1, fy]⟩
      rw [r2.1, ey, oy]
      simp only [Option.map_some, pc]
  · simp only at e1 hgy
    simp only [Prod.mk.injEq] at e1
    obtain ⟨rfl, rfl⟩ := e1
    rcases step1_cases hx with ⟨hgx, vx, ox, e2, f2⟩ | ⟨hgx, e2, f2⟩
    · simp only at e2 hgx ox
      subst e2
      rw [gx] at hgx
      rw [ex] at ox
      have r1 := step1_run (C := C) (dm := dm) (id := ix) (s := (env, R1)) hgx
      simp only at r1
      have r2 := step1_skip (C := C) (dm := dm) (id := iy) (s := (put env x.dst vx, R2)) (by simp only; rw [gy]; exact hgy)
      simp only at r2
      refine ⟨(put env x.dst vx, R2), by rw [r1.1, ox]; rfl, by rw [r2.1, pc], ?_, by rw [r2.2, f1]⟩
      rw [r1.2, f2]; simp only; rw [fx]
    · simp only at hgx e2
      simp only [Prod.mk.injEq] at e2
      obtain ⟨rfl, rfl⟩ := e2
      rw [gx] at hgx
      have r1 := step1_skip (C := C) (dm := dm) (id := ix) (s := (env, R2)) hgx
      simp only at r1
      have r2 := step1_skip (C := C) (dm := dm) (id := iy) (s := (put env x.dst (.t []), R2)) (by simp only; rw [gy]; exact hgy)
      simp only at r2
      exact ⟨_, r1.1, by rw [r2.1, pc], by rw [r1.2, f2], by rw [r2.2, f1]⟩
end Go.VE
/- Every order of a region's operations answers alike. -/
namespace Go.VE
variable {P : Program} {C : Cfg} {dm : Bool} {D : Nat → Prop} {ops : Array Oper} {n : Nat}

def fpI (C : Cfg) (ops : Array Oper) (n i : Nat) (s : St) : FP := match ops[i]? with
  | some o => fpAt C ops.toList o (idOf C ops.toList n i) s
  | none => ([], [])
/-- the operations of a list run, each with the footprint that 'F' names -/
def RunF (C : Cfg) (dm : Bool) (ops : Array Oper) (n : Nat) (F : Nat → FP) : List Nat → St → St → Prop
  | [], s, s1 => s = s1
  | i :: l, s, s1 => ∃ s', stepI C dm ops n i s = some s' ∧ fpI C ops n i s = F i ∧ RunF C dm ops n F l s' s1

theorem runSF_run : ∀ (k m : Nat) (s s1 : St) (fs0 fs : List FP), k + m = ops.size → fs0.length = k → runSF C dm ops.toList (ops.toList.drop k) (idOf C ops.toList n k) s fs0 = some (s1, fs) →
    (∃ pre, fs = pre ++ fs0 ∧ pre.length = m) ∧ RunF C dm ops n (fun i => fs.reverse.getD i ([], [])) (List.range' k m) s s1
  | k, 0, s, s1, fs0, fs, h, hl, hr => by
    have : ops.toList.drop k = [] := by rw [List.drop_eq_nil_iff]; simp; omega
    rw [this] at hr
    simp only [runSF, Option.some.injEq, Prod.mk.injEq] at hr
    obtain ⟨rfl, rfl⟩ := hr
    exact ⟨⟨[], rfl, rfl⟩, rfl⟩
  | k, m + 1, s, s1, fs0, fs, h, hl, hr => by
    have hk : k < ops.toList.length := by simp; omega
    rw [List.drop_eq_getElem_cons hk] at hr
    have ho : ops[k]? = some (ops.toList[k]) := by simp [hk]
    simp only [runSF] at hr
    obtain ⟨s2, h1, h2⟩ := Option.bind_eq_some_iff.1 hr
    rw [← idOf_succ (n := n) (by rw [List.getElem?_eq_getElem hk])] at h2
    obtain ⟨⟨pre, e, el⟩, h3⟩ := runSF_run (k + 1) m s2 s1 _ fs (by omega) (by simp [hl]) h2
    refine ⟨⟨pre ++ [_], by rw [e, List.append_assoc]; rfl, by simp [el]⟩, ?_⟩
    rw [List.range'_succ]
    refine ⟨s2, by simp only [stepI, ho]; exact h1, ?_, h3⟩
    simp only [fpI, ho]
    rw [e]
    simp [List.getD_eq_getElem?_getD, ← hl]

def Ap (ops : Array Oper) (F : Nat → FP) (y x : Nat) : Prop := ∀ oy ox, ops[y]? = some oy → ops[x]? = some ox → oy.apart ops ox = true ∧ fpApart (F y) (F x) = true

theorem pull {F : Nat → FP} {x : Nat} {post : List Nat} {s1 : St} : ∀ (pre : List Nat) (s : St), RunF C dm ops n F (pre ++ x :: post) s s1 → (∀ y ∈ pre, Ap ops F y x) →
    ∃ s', stepI C dm ops n x s = some s' ∧ fpI C ops n x s = F x ∧ RunF C dm ops n F (pre ++ post) s' s1
  | [], s, h, _ => h
  | y :: pre, s, ⟨s2, h1, h2, h3⟩, ha => by
    obtain ⟨s3, k1, k2, k3⟩ := pull pre s2 h3 (fun z hz => ha z (by simp [hz]))
    cases hy : ops[y]? with
    | none =>
      simp only [stepI, hy, Option.some.injEq] at h1
      subst h1
      exact ⟨s3, k1, k2, s3, by simp only [stepI, hy], by rw [← h2]; simp only [fpI, hy], k3⟩
    | some oy =>
      cases hx : ops[x]? with
      | none =>
        have : s2 = s3 := by simpa only [stepI, hx, Option.some.injEq] using k1
        subst this
        exact ⟨s, by simp only [stepI, hx], by rw [← k2]; simp only [fpI, hx], s2, h1, h2, k3⟩
      | some ox =>
        obtain ⟨a1, a2⟩ := ha y (by simp) oy ox hy hx
        have h1' := h1
        have k1' := k1
        rw [← h2, ← k2] at a2
        simp only [fpI, hy, hx] at a2
        simp only [stepI, hy] at h1'
        simp only [stepI, hx] at k1'
        obtain ⟨s4, e1, e2, e3, e4⟩ := exch h1' k1' a1 a2
        refine ⟨s4, by simp only [stepI, hx]; exact e1, ?_, s3, by simp only [stepI, hy]; exact e2, ?_, k3⟩
        · rw [← k2]; simp only [fpI, hx]; exact e3
        · rw [← h2]; simp only [fpI, hy]; exact e4

/-! ### masks -/
theorem mask_fold {acc : List Nat} {y : Nat} : ∀ (l : List Edge) (m : Nat), (l.foldl (fun s e => cond (Region.binds .any e) (s ||| (2 ^ e.on ||| nth 0 acc e.on)) s) m).testBit y = true →
    m.testBit y = true ∨ ∃ e ∈ l, Region.binds .any e = true ∧ (e.on = y ∨ (nth 0 acc e.on).testBit y = true)
  | [], m, h => .inl h
  | e :: l, m, h => by
    rcases mask_fold l _ h with h1 | ⟨e', h1, h2⟩
    · dsimp only at h1
      cases hb : Region.binds .any e with
      | false => rw [hb] at h1; exact .inl h1
      | true =>
        rw [hb] at h1
        simp only [cond_true, Nat.testBit_or, Bool.or_eq_true, Nat.testBit_two_pow, decide_eq_true_eq] at h1
        rcases h1 with h1 | h1 | h1
        · exact .inl h1
        · exact .inr ⟨e, by simp, hb, .inl h1⟩
        · exact .inr ⟨e, by simp, hb, .inr h1⟩
    · exact .inr ⟨e', by simp [h1], h2⟩

theorem nth_app {α : Type} (d : α) (xs ys : List α) (i : Nat) : nth d (xs ++ ys) i = if i < xs.length then nth d xs i else nth d ys (i - xs.length) := by
  simp only [nth_getD, List.getD_eq_getElem?_getD]
  split
  · rename_i h; rw [List.getElem?_append_left h]
  · rename_i h; rw [List.getElem?_append_right (by omega)]
theorem nth_big {α : Type} (d : α) (xs : List α) (i : Nat) (h : xs.length ≤ i) : nth d xs i = d := by
  simp only [nth_getD, List.getD_eq_getElem?_getD]
  rw [List.getElem?_eq_none h]; rfl

theorem masks_spec : ∀ (os : List Oper) (acc : List Nat), ∃ r, masks os acc = acc ++ r ∧ r.length = os.length ∧
    ∀ (k : Nat) (o : Oper) (y : Nat), os[k]? = some o → (nth 0 (acc ++ r) (acc.length + k)).testBit y = true →
      ∃ e ∈ o.after.toList, Region.binds .any e = true ∧ (e.on = y ∨ (e.on < acc.length + k ∧ (nth 0 (acc ++ r) e.on).testBit y = true))
  | [], acc => ⟨[], by simp [masks], rfl, by simp⟩
  | o :: os, acc => by
    simp only [masks]
    generalize hm : o.after.toList.foldl (fun s e => cond (Region.binds .any e) (s ||| (2 ^ e.on ||| nth 0 acc e.on)) s) 0 = m
    obtain ⟨r, h1, h2, h3⟩ := masks_spec os (app acc [m])
    rw [app_eq] at h1 h3 ⊢
    refine ⟨m :: r, by rw [h1]; simp, by simp [h2], ?_⟩
    have e1 : acc ++ m :: r = acc ++ [m] ++ r := by simp
    intro k o' y hk hy
    rw [e1] at hy ⊢
    cases k with
    | zero =>
      simp only [List.getElem?_cons_zero, Option.some.injEq] at hk
      subst hk
      have : nth 0 (acc ++ [m] ++ r) (acc.length + 0) = m := by
        rw [nth_app, if_pos (by simp), nth_app, if_neg (by simp)]
        simp [nth]
      rw [this, ← hm] at hy
      rcases mask_fold _ _ hy with h | ⟨e, he, hb, h⟩
      · simp at h
      · refine ⟨e, he, hb, h.imp id fun h => ?_⟩
        rcases Nat.lt_or_ge e.on acc.length with hl | hl
        · refine ⟨hl, ?_⟩
          rw [nth_app, if_pos (by simp; omega), nth_app, if_pos hl]
          exact h
        · rw [nth_big _ _ _ hl] at h; simp at h
    | succ k =>
      have e2 : (acc ++ [m]).length + k = acc.length + (k + 1) := by simp; omega
      have := h3 k o' y (by simpa using hk) (by rw [e2]; exact hy)
      rw [e2] at this
      exact this

/-- for each operation, those ahead of it in every order -/
def maskI (ops : List Oper) (i : Nat) : Nat := nth 0 (masks ops []) i
theorem maskI_spec {ops : List Oper} {i : Nat} {o : Oper} {y : Nat} (ho : ops[i]? = some o) (h : (maskI ops i).testBit y = true) :
    ∃ e ∈ o.after.toList, Region.binds .any e = true ∧ (e.on = y ∨ (e.on < i ∧ (maskI ops e.on).testBit y = true)) := by
  obtain ⟨r, h1, h2, h3⟩ := masks_spec ops []
  unfold maskI at h ⊢
  rw [h1] at h ⊢
  have := h3 i o y ho (by simpa using h)
  simpa using this
theorem masks_len {ops : List Oper} : (masks ops []).length = ops.length := by
  obtain ⟨r, h1, h2, h3⟩ := masks_spec ops []
  rw [h1]; simpa using h2

/-- edges look back, and what is not ordered touches other slots -/
def statB1 (ops : Array Oper) (o : Oper) (i m : Nat) : List Oper → Nat → Bool
  | [], _ => true
  | p :: ps, j => (Nat.testBit m j || p.apart ops o) && statB1 ops o i m ps (j + 1)
def statB (ops : Array Oper) : List Oper → List Nat → Nat → Bool
  | [], _, _ => true
  | o :: os, m :: ms, i => o.after.toList.all (fun e => !Region.binds .any e || Nat.blt e.on i) && (statB1 ops o i m (ops.toList.take i) 0 && statB ops os ms (i + 1))
  | _ :: _, [], _ => false
structure Stat (ops : Array Oper) : Prop where
  back : ∀ (i : Nat) (o : Oper), ops[i]? = some o → ∀ e ∈ o.after.toList, Region.binds .any e = true → e.on < i
  apart : ∀ (i j : Nat) (o p : Oper), j < i → ops[i]? = some o → ops[j]? = some p → (maskI ops.toList i).testBit j = true ∨ p.apart ops o = true

theorem statB1_spec {o : Oper} {i m : Nat} : ∀ (ps : List Oper) (j : Nat), statB1 ops o i m ps j = true → ∀ k p, ps[k]? = some p → m.testBit (j + k) = true ∨ p.apart ops o = true
  | [], _, _, k, p, h => by simp at h
  | q :: ps, j, h, k, p, hk => by
    simp only [statB1, Bool.and_eq_true, Bool.or_eq_true] at h
    cases k with
    | zero => simp only [List.getElem?_cons_zero, Option.some.injEq] at hk; subst hk; exact h.1
    | succ k =>
      have := statB1_spec ps (j + 1) h.2 k p (by simpa using hk)
      rw [show j + (k + 1) = j + 1 + k by omega]
      exact this
theorem statB_spec : ∀ (os : List Oper) (ms : List Nat) (i : Nat), statB ops os ms i = true → ∀ k o, os[k]? = some o →
    (∀ e ∈ o.after.toList, Region.binds .any e = true → e.on < i + k) ∧ ∀ j p, j < i + k → ops[j]? = some p → (nth 0 ms k).testBit j = true ∨ p.apart ops o = true
  | [], _, _, _, k, o, h => by simp at h
  | _ :: _, [], _, h, _, _, _ => by simp [statB] at h
  | o :: os, m :: ms, i, h, k, o', hk => by
    simp only [statB, Bool.and_eq_true] at h
    obtain ⟨h1, h2, h3⟩ := h
    cases k with
    | zero =>
      simp only [List.getElem?_cons_zero, Option.some.injEq] at hk
      subst hk
      refine ⟨fun e he hb => ?_, fun j p hj hp => ?_⟩
      · have := List.all_eq_true.1 h1 e he
        simpa [hb, Nat.blt_eq] using this
      · have := statB1_spec _ 0 h2 j p (by rw [List.getElem?_take_of_lt (by omega), Array.getElem?_toList]; exact hp)
        simpa [nth] using this
    | succ k =>
      have := statB_spec os ms (i + 1) h3 k o' (by simpa using hk)
      rw [show i + (k + 1) = i + 1 + k by omega]
      exact this
theorem stat_of (h : statB ops ops.toList (masks ops.toList []) 0 = true) : Stat ops := by
  have := statB_spec _ _ _ h
  refine ⟨fun i o ho => ?_, fun i j o p hj ho hp => ?_⟩
  · have := (this i o (by rw [Array.getElem?_toList]; exact ho)).1
    simpa using this
  · exact (this i o (by rw [Array.getElem?_toList]; exact ho)).2 j p (by simpa using hj) hp

/-! ### footprints -/
theorem chkWith_spec {m : Nat} {f : FP} : ∀ (gs : List FP) (j : Nat), gs.length = j → chkWith m f gs j = true → ∀ k, k < j → fpApart (gs.reverse.getD k ([], [])) f = true ∨ m.testBit k = true
  | [], j, hl, _, k, hk => by simp at hl; omega
  | g :: gs, 0, hl, _, k, hk => by omega
  | g :: gs, j + 1, hl, h, k, hk => by
    simp only [List.length_cons, Nat.add_right_cancel_iff] at hl
    simp only [chkWith, Bool.and_eq_true, Bool.or_eq_true, Nat.add_sub_cancel] at h
    rcases Nat.lt_or_ge k j with hlt | hge
    · have := chkWith_spec gs j hl h.2 k hlt
      simpa [List.getD_eq_getElem?_getD, List.getElem?_append_left (show k < gs.reverse.length by simp [hl]; exact hlt)] using this
    · have e : k = j := by omega
      subst e
      simpa [List.getD_eq_getElem?_getD, ← hl] using h.1
theorem chkAll_spec : ∀ (fs : List FP) (ms : List Nat) (j : Nat), fs.length = j → ms.length = j → chkAll fs ms j = true → ∀ i, i < j → ∀ k, k < i →
    fpApart (fs.reverse.getD k ([], [])) (fs.reverse.getD i ([], [])) = true ∨ (nth 0 ms.reverse i).testBit k = true
  | [], _, j, hl, _, _, i, hi, _, _ => by simp at hl; omega
  | _ :: _, [], j, hl, hm, _, i, hi, _, _ => by simp at hm; omega
  | f :: fs, m :: ms, 0, hl, _, _, i, hi, _, _ => by omega
  | f :: fs, m :: ms, j + 1, hl, hm, h, i, hi, k, hk => by
    simp only [List.length_cons, Nat.add_right_cancel_iff] at hl hm
    simp only [chkAll, Bool.and_eq_true, Nat.add_sub_cancel] at h
    have ek : ∀ x, x < j → (f :: fs).reverse.getD x ([], []) = fs.reverse.getD x ([], []) := fun x hx => by
      simp [List.getD_eq_getElem?_getD, List.getElem?_append_left (show x < fs.reverse.length by simp [hl]; exact hx)]
    rcases Nat.lt_or_ge i j with hlt | hge
    · have := chkAll_spec fs ms j hl hm h.2 i hlt k hk
      rw [ek k (by omega), ek i hlt]
      refine this.imp id fun h => ?_
      rw [List.reverse_cons, nth_app, if_pos (by simp [hm]; exact hlt)]
      exact h
    · have e : i = j := by omega
      subst e
      have := chkWith_spec fs i hl h.1 k hk
      rw [ek k hk]
      refine this.imp (fun h => ?_) fun h => ?_
      · simpa [List.getD_eq_getElem?_getD, ← hl] using h
      · rw [List.reverse_cons, nth_app, if_neg (by simp [hm])]
        simpa [nth, hm] using h
end Go.VE
/- A region whose order is drawn. -/
namespace Go.VE
variable {P : Program} {C : Cfg} {dm : Bool} {D : Nat → Prop} {ops : Array Oper} {n N : Nat} {F : Nat → FP}

def unl (l : Array Bool) (i : Nat) : Bool := !l.getD i true
def rem (l : Array Bool) (n : Nat) : List Nat := (List.range n).filter (unl l)

theorem mem_rem {l : Array Bool} {i : Nat} : i ∈ rem l n ↔ i < n ∧ l.getD i true = false := by
  simp [rem, unl, List.mem_filter]

theorem getD_tt {l : Array Bool} {i : Nat} (h : i < l.size) : l.getD i true = l.getD i false := by
  simp [Array.getD_eq_getD_getElem?, h]

theorem ready_mem {l : Array Bool} {i : Nat} : i ∈ Region.ready .any ops l ↔ ∃ o, ops[i]? = some o ∧ l.getD i true = false ∧ ∀ e ∈ o.after.toList, Region.binds .any e = true → l.getD e.on false = true := by
  unfold Region.ready
  rw [List.mem_filter]
  constructor
  · rintro ⟨h1, h2⟩
    simp only [Bool.and_eq_true] at h2
    obtain ⟨h2, h3⟩ := h2
    have hi : i < ops.size := by simpa using h1
    rw [Array.getElem?_eq_getElem hi] at h3 ⊢
    refine ⟨_, rfl, by simpa using h2, fun e he hb => ?_⟩
    simp only [Option.map_some, Option.getD_some, Array.all_eq_true_iff_forall_mem] at h3
    have := h3 e (Array.mem_toList_iff.1 he)
    simpa [hb] using this
  · rintro ⟨o, h1, h2, h3⟩
    have hi : i < ops.size := by
      rcases Nat.lt_or_ge i ops.size with h | h
      · exact h
      · rw [Array.getElem?_eq_none h] at h1; cases h1
    refine ⟨by simpa using hi, ?_⟩
    rw [h1]
    simp only [h2, Option.map_some, Option.getD_some, Bool.not_false, Bool.true_and, Array.all_eq_true_iff_forall_mem]
    intro e he
    cases hb : Region.binds .any e with
    | false => rfl
    | true => simp [h3 e (Array.mem_toList_iff.2 he) hb]

/-- what is listed has its forerunners listed -/
def Down (ops : Array Oper) (l : Array Bool) : Prop := ∀ i o, ops[i]? = some o → l.getD i true = true → ∀ e ∈ o.after.toList, Region.binds .any e = true → l.getD e.on false = true

theorem reach (S : Stat ops) {l : Array Bool} (hl : l.size = ops.size) (hd : Down ops l) {y : Nat} : ∀ (i : Nat) (o : Oper), ops[i]? = some o → (∀ e ∈ o.after.toList, Region.binds .any e = true → l.getD e.on false = true) → (maskI ops.toList i).testBit y = true → l.getD y false = true := by
  intro i
  induction i using Nat.strongRecOn with
  | _ i ih =>
    intro o ho he hy
    obtain ⟨e, h1, h2, h3⟩ := maskI_spec (by rw [Array.getElem?_toList]; exact ho) hy
    rcases h3 with h3 | ⟨h3, h4⟩
    · rw [← h3]; exact he e h1 h2
    · have hi : i < ops.size := by
        rcases Nat.lt_or_ge i ops.size with h | h
        · exact h
        · rw [Array.getElem?_eq_none h] at ho; cases ho
      have hon : e.on < ops.size := by omega
      refine ih e.on h3 ops[e.on] (by simp [hon]) (hd e.on _ (by simp [hon]) ?_) h4
      rw [getD_tt (by omega)]
      exact he e h1 h2

theorem ready_nil (S : Stat ops) {l : Array Bool} (hl : l.size = ops.size) (h : Region.ready .any ops l = []) : rem l ops.size = [] := by
  have key : ∀ i, i < ops.size → l.getD i true = true := by
    intro i
    induction i using Nat.strongRecOn with
    | _ i ih =>
      intro hi
      cases hc : l.getD i true with
      | true => rfl
      | false =>
        have : i ∈ Region.ready .any ops l := ready_mem.2 ⟨ops[i], by simp [hi], hc, fun e he hb => by
          have := S.back i ops[i] (by simp [hi]) e he hb
          rw [← getD_tt (by omega)]
          exact ih e.on this (by omega)⟩
        rw [h] at this; cases this
  rw [List.eq_nil_iff_forall_not_mem]
  intro i hi
  obtain ⟨h1, h2⟩ := mem_rem.1 hi
  rw [key i h1] at h2; cases h2

theorem set_getD {l : Array Bool} {i j : Nat} {d : Bool} (hi : i < l.size) : (l.setIfInBounds i true).getD j d = if j = i then true else l.getD j d := by
  simp only [Array.getD_eq_getD_getElem?, Array.getElem?_setIfInBounds]
  by_cases h : i = j
  · subst h; simp [hi]
  · rw [if_neg h, if_neg (fun e => h e.symm)]

theorem filter_split {α : Type} (p : α → Bool) : ∀ (xs : List α) (x : α), x ∈ xs → p x = true → xs.Nodup → ∃ a b, xs = a ++ x :: b ∧ x ∉ a ∧ x ∉ b
  | [], x, h, _, _ => by cases h
  | y :: ys, x, h, hp, hn => by
    by_cases e : x = y
    · subst e; exact ⟨[], ys, rfl, by simp, (List.nodup_cons.1 hn).1⟩
    · obtain ⟨a, b, h1, h2, h3⟩ := filter_split p ys x (by simpa [e] using h) hp (List.nodup_cons.1 hn).2
      exact ⟨y :: a, b, by rw [h1]; rfl, by simp [e, h2], h3⟩

theorem rem_set {l : Array Bool} {i : Nat} (hl : l.size = n) (hi : i < n) (hu : l.getD i true = false) : ∃ pre post, rem l n = pre ++ i :: post ∧ rem (l.setIfInBounds i true) n = pre ++ post ∧ ∀ y ∈ pre, y < i := by
  have hs : List.range n = List.range i ++ i :: List.range' (i + 1) (n - (i + 1)) := by
    have e := @List.range'_append_1 0 i (n - (i + 1) + 1)
    rw [Nat.zero_add, show i + (n - (i + 1) + 1) = n by omega] at e
    rw [List.range_eq_range', List.range_eq_range', ← e, List.range'_succ]
  have hcong : ∀ xs : List Nat, i ∉ xs → xs.filter (unl (l.setIfInBounds i true)) = xs.filter (unl l) := by
    intro xs hx
    refine List.filter_congr fun y hy => ?_
    simp only [unl]
    rw [set_getD (by omega), if_neg (fun e => hx (by rw [← e]; exact hy))]
  refine ⟨(List.range i).filter (unl l), (List.range' (i + 1) (n - (i + 1))).filter (unl l), ?_, ?_, ?_⟩
  · unfold rem
    rw [hs, List.filter_append, List.filter_cons_of_pos (by simp [unl, hu])]
  · unfold rem
    rw [hs, List.filter_append, List.filter_cons_of_neg (by simp only [unl]; rw [set_getD (by omega)]; simp), hcong _ (by simp), hcong _ (by simp only [List.mem_range'_1]; omega)]
  · intro y hy
    simpa using (List.mem_filter.1 hy).1

theorem any_run {gv : Nat → Value} {df : List Deferred} {Q : Exit → Act → World → Prop} (E : Env0 P C N) (hdst : dstsOk N ops.toList) (S : Stat ops)
    (hF : ∀ i, i < ops.size → ∀ k, k < i → fpApart (F k) (F i) = true ∨ (maskI ops.toList i).testBit k = true) {w0 : World} {g0 : Gh} {s1 : St} {m : Nat} (hm : n + widths C ops.toList ≤ m)
    (hQ : ∀ a w g D, At P N df gv a w g D s1 → (∀ x, D x → x < m) → Tr w0 g0 w g → Q .normal a w) : ∀ (fuel : Nat) (l : Array Bool) (s : St) (a : Act) (w : World) (g : Gh) (D : Nat → Prop), l.size = ops.size → Down ops l →
    (rem l ops.size).length = fuel → RunF C dm ops n F (rem l ops.size) s s1 → At P N df gv a w g D s → (∀ i ∈ rem l ops.size, Free C ops n D i) → (∀ x, D x → x < m) → Tr w0 g0 w g → wpAny P .any ops Q fuel l a w
  | 0, l, s, a, w, g, D, hl, hd, hlen, hr, A, hf, hb, hT => by
    have e : rem l ops.size = [] := List.length_eq_zero_iff.1 hlen
    rw [e] at hr
    have hr' : s = s1 := hr
    subst hr'
    refine ⟨?_, hQ a w g D A hb hT⟩
    rw [List.eq_nil_iff_forall_not_mem]
    intro i hi
    obtain ⟨o, ho, hu, _⟩ := ready_mem.1 hi
    have hi : i < ops.size := by
      rcases Nat.lt_or_ge i ops.size with h | h
      · exact h
      · rw [Array.getElem?_eq_none h] at ho; cases ho
    have : i ∈ rem l ops.size := mem_rem.2 ⟨hi, hu⟩
    rw [e] at this; cases this
  | fuel + 1, l, s, a, w, g, D, hl, hd, hlen, hr, A, hf, hb, hT => by
    refine ⟨fun h => ?_, fun i hi => ?_⟩
    · rw [ready_nil S hl h] at hlen
      simp at hlen
    · obtain ⟨o, ho, hu, he⟩ := ready_mem.1 hi
      have hi : i < ops.size := by
        rcases Nat.lt_or_ge i ops.size with h | h
        · exact h
        · rw [Array.getElem?_eq_none h] at ho; cases ho
      obtain ⟨pre, post, h1, h2, h3⟩ := rem_set hl hi hu
      rw [h1] at hr hlen
      obtain ⟨s', k1, k2, k3⟩ := pull pre s hr fun y hy oy ox hoy hox => by
        have hym : y ∈ rem l ops.size := by rw [h1]; simp [hy]
        obtain ⟨_, hyu⟩ := mem_rem.1 hym
        have hno : (maskI ops.toList i).testBit y ≠ true := fun hb => by
          have := reach S hl hd i o ho he hb
          rw [← getD_tt (by have := h3 y hy; omega), hyu] at this; cases this
        exact ⟨((S.apart i y ox oy (h3 y hy) hox hoy).resolve_left hno), (hF i hi y (h3 y hy)).resolve_right hno⟩
      simp only [stepI, ho] at k1
      have hnd : (pre ++ i :: post).Nodup := by rw [← h1]; exact List.nodup_range.sublist List.filter_sublist
      have hii : ∀ j ∈ pre ++ post, i ≠ j := by
        intro j hj e
        subst e
        rw [List.nodup_append] at hnd
        rcases List.mem_append.1 hj with hj | hj
        · exact absurd rfl (hnd.2.2 i hj i (by simp))
        · exact (List.nodup_cons.1 hnd.2.1).1 hj
      refine step1_wp E hdst ho k1 A (hf i (by rw [h1]; simp) o ho) fun a' w' g' D' A' hG hT' => ?_
      refine any_run E hdst S hF hm hQ fuel _ s' a' w' g' D' (by simpa using hl) ?_ (by rw [h2]; simp at hlen ⊢; omega) (by rw [h2]; exact k3) A' ?_ (grow_bound hm hb ho hG) (hT.trans hT')
      · intro j o' hj hs e' he' hb'
        rw [set_getD (by omega)] at hs ⊢
        split
        · rfl
        · by_cases hji : j = i
          · subst hji; rw [ho] at hj; cases hj; exact he e' he' hb'
          · rw [if_neg hji] at hs; exact hd j o' hj hs e' he' hb'
      · rw [h2]
        intro j hj
        exact (hf j (by rw [h1]; simp at hj ⊢; rcases hj with h | h <;> simp [h])).step (hii j hj) ho hG

theorem draw_ok (E : Env0 P C N) (hmx : P.follows .mixedOrders = true) (hd : dstsOk N ops.toList) (hs : statB ops ops.toList (masks ops.toList []) 0 = true) : DrawOk P C dm N ops := by
  intro df gv id n Q a w g D s s1 fs hr hc A hn hQ
  have S := stat_of hs
  have e0 : idOf C ops.toList n 0 = n := by simp [idOf, widths]
  obtain ⟨⟨pre, e1, e2⟩, hR⟩ :=  runSF_run (ops := ops) (n := n) 0 ops.size s s1 [] fs (by omega) rfl (by rw [e0]; exact hr)
  rw [List.append_nil] at e1
  subst e1
  have hrem : rem (Array.replicate ops.size false) ops.size = List.range ops.size := by
    unfold rem
    rw [List.filter_eq_self]
    intro i hi
    have : i < ops.size := by simpa using hi
    simp [unl, Array.getD_eq_getD_getElem?, this]
  refine wp_region_any hmx (any_run (dm := dm) (gv := gv) (df := df) (s1 := s1) (w0 := w) (g0 := g) E hd S (F := fun i => fs.reverse.getD i ([], [])) ?_ (Nat.le_refl (n + widths C ops.toList)) ?_ ops.size _ s a _ g D (by simp) ?_ (by rw [hrem]; simp) ?_ ?_ ?_ ?_ ?_)
  · intro i hi k hk
    have := chkAll_spec fs _ _ (by simpa using e2) (by simp [masks_len]) hc i (by simpa using hi) k hk
    rw [List.reverse_reverse] at this
    exact this
  · intro a' w' g' D' A' hb hT
    exact hQ a' w' g' D' A' hb hT
  · intro i o ho h
    have hi : i < ops.size := by
      rcases Nat.lt_or_ge i ops.size with h | h
      · exact h
      · rw [Array.getElem?_eq_none h] at ho; cases ho
    simp [Array.getD_eq_getD_getElem?, hi] at h
  · rw [hrem, List.range_eq_range']
    exact hR
  · exact ⟨A.sim.same rfl, A.size, A.defers⟩
  · rw [hrem]
    intro i _ o ho x h3 _ hx
    have := hn x hx
    have := idOf_mono (C := C) (ops := ops.toList) (n := n) (show 0 ≤ i by omega)
    omega
  · intro x hx
    have := hn x hx
    omega
  · exact Tr.same rfl rfl rfl rfl
end Go.VE
/- What a function's text must pass, as one check. -/
namespace Go.VE
variable {P : Program} {C : Cfg} {dm : Bool} {N : Nat}

def resB (N : Nat) : ResultVar → Bool
  | .tmp t => Nat.blt t N
  | .cell t _ => Nat.blt t N
theorem resB_ok {N : Nat} {r : ResultVar} (h : resB N r = true) : resOk N r := by
  cases r <;> simpa [resB, resOk] using h

def dstB (N : Nat) : List Oper → Bool
  | [] => true
  | o :: os => (match o.dst with | some d => Nat.blt d N | none => true) && dstB N os
theorem dstB_ok : ∀ {os : List Oper}, dstB N os = true → dstsOk N os
  | [], _ => fun o ho => by cases ho
  | o :: os, h => by
    simp only [dstB, Bool.and_eq_true] at h
    intro o' ho' d hd
    rcases List.mem_cons.1 ho' with e | ho'
    · subst e
      have h1 := h.1
      rw [hd] at h1
      simpa using h1
    · exact dstB_ok h.2 o' ho' d hd

def regsB (N : Nat) : Code → Bool
  | .region _ ops dr => dstB N ops.toList && cond dr (statB ops ops.toList (masks ops.toList []) 0) true
  | .seq a b => regsB N a && regsB N b
  | .cond _ a b => regsB N a && regsB N b
  | .block _ c => regsB N c
  | .loop c => regsB N c
  | _ => true
theorem regsB_ok {N : Nat} (E : Env0 P C N) (hm : P.follows .mixedOrders = true) : ∀ {c : Code}, regsB N c = true → RegsOk' (DrawOk P C dm N) N c
  | .region _ ops dr, h => by
    simp only [regsB, Bool.and_eq_true] at h
    refine ⟨dstB_ok h.1, fun e => ?_⟩
    have h2 := h.2
    rw [e] at h2
    exact draw_ok E hm (dstB_ok h.1) h2
  | .seq a b, h => by
    simp only [regsB, Bool.and_eq_true] at h
    exact ⟨regsB_ok E hm h.1, regsB_ok E hm h.2⟩
  | .cond _ a b, h => by
    simp only [regsB, Bool.and_eq_true] at h
    exact ⟨regsB_ok E hm h.1, regsB_ok E hm h.2⟩
  | .block _ c, h => regsB_ok E hm (c := c) h
  | .loop c, h => regsB_ok E hm (c := c) h
  | .skip, _ => trivial
  | .exit _, _ => trivial
  | .ret, _ => trivial
  | .goto _, _ => trivial
  | .label _, _ => trivial
  | .scope _, _ => trivial
  | .refuse _, _ => trivial
  | .rangeFunc .., _ => trivial

def fnB (sig : Sig) (fn : Func) : Bool := Nat.ble sig.ins.length fn.ntmps && (Nat.ble fn.ntmps gslot && (fn.results.toList.all (resB fn.ntmps) && (!(fn.name == "runtime.NumGoroutine") && (match fn.body with | some c => regsB fn.ntmps c | none => false))))

def eqsB (P : Program) (ty : Nat → Option TyI) : List (Nat × TyI) → Bool
  | [] => true
  | (t, i) :: r => (!eqTys i.ty i.fields 0 ty || eqChk P t) && eqsB P ty r
theorem eqsB_ok {ty : Nat → Option TyI} : ∀ {tys : List (Nat × TyI)} {t : Nat} {i : TyI}, eqsB P ty tys = true → assoc tys t = some i → eqTys i.ty i.fields 0 ty = true → eqChk P t = true
  | [], _, _, _, h, _ => by simp [assoc] at h
  | (s, j) :: r, t, i, hc, h, he => by
    simp only [eqsB, Bool.and_eq_true] at hc
    simp only [assoc] at h
    cases hb : Nat.beq s t with
    | true =>
      rw [hb] at h
      have : s = t := by simpa using hb
      subst this
      simp only [cond_true, Option.some.injEq] at h
      subst h
      have := hc.1
      rw [he] at this
      simpa using this
    | false =>
      rw [hb] at h
      exact eqsB_ok hc.2 h he

/-- what a seat's program and table of types give -/
structure Glob (P : Program) (tys : List (Nat × TyI)) : Prop where
  ctys : chkTys P tys = true
  ceqs : eqsB P (assoc tys) tys = true
  mixed : P.follows .mixedOrders = true

def FnsOk (P : Program) (fns : List (Nat × FnSum)) : Prop := ∀ x ∈ fns, FnOk P x.1 x.2
theorem FnsOk.nil : FnsOk P [] := fun _ h => by cases h
theorem FnsOk.cons {f : Nat} {s : FnSum} {r : List (Nat × FnSum)} (h : FnOk P f s) (h' : FnsOk P r) : FnsOk P ((f, s) :: r) := fun x hx => by
  rcases List.mem_cons.1 hx with e | hx
  · subst e; exact h
  · exact h' x hx
theorem FnsOk.cfg {tys : List (Nat × TyI)} : ∀ {fns : List (Nat × FnSum)}, FnsOk P fns → CfgOk P ⟨tys, fns⟩
  | [], _ => fun f s h => by simp [Cfg.fn, assoc] at h
  | (g, x) :: r, h => fun f s hs => by
    simp only [Cfg.fn, assoc] at hs
    cases hb : Nat.beq g f with
    | true =>
      rw [hb] at hs
      have : g = f := by simpa using hb
      subst this
      simp only [cond_true, Option.some.injEq] at hs
      subst hs
      exact h (g, x) (by simp)
    | false =>
      rw [hb] at hs
      exact FnsOk.cfg (tys := tys) (fns := r) (fun y hy => h y (by simp [hy])) f s hs

theorem fn_ok {tys : List (Nat × TyI)} {fns : List (Nat × FnSum)} {f : Nat} {fn : Func} {s : FnSum} {c : Code} {bs : List Code} {ls : List LoopSum} (G : Glob P tys) (hfns : FnsOk P fns) (hf : P.funcs[f]? = some fn) (hb : fn.body = some c)
    (hc : fnB s.sig fn = true) (hbs : loopList c = bs) (hl : LoopsOk ⟨tys, fns⟩ dm bs ls) (hrun : ∀ p, run ⟨tys, fns⟩ dm s.sig fn ls p = s.f p) : FnOk P f s := by
  unfold fnB at hc
  simp only [Bool.and_eq_true] at hc
  obtain ⟨h1, h2, h3, h4, h5⟩ := hc
  have E : Env0 P ⟨tys, fns⟩ fn.ntmps := ⟨hfns.cfg, fun t i h => assoc_chk G.ctys h, fun t i h he => eqsB_ok G.ceqs h he, Nat.le_of_ble_eq_true h2⟩
  refine fn_sound E G.mixed hf hb ⟨Nat.le_of_ble_eq_true h1, fun r hr => resB_ok (List.all_eq_true.1 h3 r hr), by simpa using h4, fun c' hc' => ?_⟩ (by rw [hbs]; exact hl) (fun p q h => by rw [hrun]; exact h)
  rw [hc'] at h5
  exact regsB_ok E G.mixed h5

/-- a function that answers none -/
theorem fn_none {f : Nat} {fn : Func} {s : FnSum} (hf : P.funcs[f]? = some fn) (hb : fn.body.isNone = false) (hn : (fn.name == "runtime.NumGoroutine") = false) (h : ∀ p, s.f p = none) : FnOk P f s :=
  ⟨⟨fn, hf, hn, hb⟩, fun _ _ _ _ p q _ _ _ _ hq => by rw [h p] at hq; cases hq⟩

theorem loop_ok {C : Cfg} {dm : Bool} {c : Code} {l : LoopSum} {bs : List Code} {inner : List LoopSum} (hbs : loopList c = bs) (hin : LoopsOk C dm bs inner) (F : (α : Type) → Nat → DenP l.head.holes → (DenO l.outs → Option α) → Option α) (n : Nat)
    (h1 : ∀ (α : Type) p K, l.f (α := α) p K = F α n p K) (h2 : ∀ (α : Type) p K, F α 0 p K = none)
    (h3 : ∀ (α : Type) n p K, round C dm c inner l.head l.outs (fun p => F α n p K) K p = F α (n + 1) p K) : LoopOk C dm c l :=
  .mk inner (by rw [hbs]; exact hin) F n h1 h2 h3
end Go.VE
/- An argument's reading, as a value of the evaluator. -/
namespace Go.VE
open Go.ChangeShapes
variable {P : Program} {w : World}

/-! ### types side by side -/
mutual
def okT (P : Program) : Nat → Ty → TypeId → Bool
  | 0, _, _ => false
  | n + 1, ty, t => Nat.beq (P.cellsOf t) ty.cells && (match ty, P.underlying t with
    | .int k, some (.int k') => decide (k = k')
    | .bool, some .bool => true
    | .str, some .string => true
    | .slice e, some (.slice et) => okT P n e et
    | .one u, some (.struct fs) => okFs P n u fs.toList 0
    | .pair a b, some (.struct fs) => (match fs.toList with
      | f :: g :: r => Nat.beq f.offset 0 && (okT P n a f.type && okFs P n b (g :: r) a.cells)
      | _ => false)
    | _, _ => false)
def okFs (P : Program) : Nat → Ty → List Field → Nat → Bool
  | 0, _, _, _ => false
  | n + 1, ty, fs, off => match fs with
    | [] => false
    | [f] => Nat.beq f.offset off && okT P n ty f.type
    | f :: g :: r => match ty with
      | .pair a b => Nat.beq f.offset off && (okT P n a f.type && okFs P n b (g :: r) (off + a.cells))
      | _ => false
end

/-- whole numbers in the range of their kind, lengths that memory bears -/
def Fit : (t : Ty) → t.den → Prop
  | .int k, x => (Lit.int k x).wf = true
  | .str, s => ByteArray.size s ≤ maxLen
  | .slice t, xs => List.length xs ≤ maxLen ∧ ∀ x ∈ (xs : List t.den), Fit t x
  | .one t, x => Fit t x
  | .pair a b, x => Fit a x.1 ∧ Fit b x.2
  | _, _ => True
/-- how many values and letters -/
def sz : (t : Ty) → t.den → Nat
  | .str, s => ByteArray.size s + 1
  | .slice t, xs => ((xs : List t.den).map (sz t)).sum + 1
  | .one t, x => sz t x
  | .pair a b, x => sz a x.1 + sz b x.2
  | _, _ => 1

/-- what is asked of a count of values and letters -/
structure Bulk {H : Type} (B : DataW H → Nat) : Prop where
  str : ∀ b, b.length + 1 ≤ B (.lit (.string b))
  lit : ∀ l, 1 ≤ B (.lit l)
  nil : 1 ≤ B .nil
  slice : ∀ es sp, (es.map B).sum + 1 ≤ B (.slice es sp)
  agg : ∀ ps, (ps.map B).sum ≤ B (.agg ps)

theorem Ty.cells_pos : ∀ t : Ty, 0 < t.cells
  | .int _ => Nat.one_pos
  | .bool => Nat.one_pos
  | .str => Nat.one_pos
  | .slice _ => Nat.one_pos
  | .ref _ => Nat.one_pos
  | .fn1 _ _ => Nat.one_pos
  | .fn2 _ _ _ => Nat.one_pos
  | .one t => cells_pos t
  | .pair a b => by have := cells_pos a; simp only [Ty.cells]; omega

def Old (w : World) (b : Nat) : Prop := b < w.heap.size

section
variable {H : Type} {enc : TypeId × Value → H} {B : DataW H → Nat}

theorem seg_of {c : Array Value} {off n : Nat} {cs : List Value} (hl : cs.length = n) (h : ∀ i, i < n → c[off + i]? = cs[i]?) : seg c off n = cs := by
  apply List.ext_getElem?
  intro i
  simp only [seg, List.getElem?_take, List.getElem?_drop]
  split
  · rename_i hi
    rw [← h i hi, Array.getElem?_toList]
  · rename_i hi
    rw [List.getElem?_eq_none (by omega)]

theorem add_off (a : Addr) (n : Nat) : (a.add n).block = a.block ∧ (a.add n).off = a.off + n := by
  unfold Addr.add
  split
  · rename_i h; subst h; exact ⟨rfl, rfl⟩
  · exact ⟨rfl, rfl⟩

/-- cells that are read are a piece of a block -/
theorem cells_seg {a : Addr} {n : Nat} {cs : List Value} (h : w.cells? 0 a n = some cs) (hn : 0 < n) : a.spot = none ∧ ∃ c e fz, w.heap[a.block]? = some (.cells c e fz) ∧ a.off + n ≤ c.size ∧ seg c a.off n = cs := by
  obtain ⟨_, hl, hc⟩ := World.cells?_some h
  have h0 := hc 0 hn
  rw [List.getElem?_eq_getElem (by omega)] at h0
  unfold World.cell? at h0
  rw [(add_off a 0).1] at h0
  cases hb : w.heap[a.block]? with
  | none => rw [hb] at h0; cases h0
  | some o =>
    rw [hb] at h0
    cases o with
    | cells c e fz =>
      simp only at h0
      have hspot : a.spot = none := by
        cases hs : a.spot with
        | none => rfl
        | some k => simp [Addr.add, hs] at h0
      have each : ∀ i, i < n → c[a.off + i]? = cs[i]? := by
        intro i hi
        have := hc i hi
        unfold World.cell? at this
        rw [(add_off a i).1, hb] at this
        simp only [(add_off a i).2] at this
        have hs : (a.add i).spot = none := by unfold Addr.add; split <;> simp [hspot]
        rw [hs] at this
        simpa using this
      refine ⟨hspot, c, e, fz, rfl, ?_, seg_of hl each⟩
      have := each (n - 1) (by omega)
      rw [List.getElem?_eq_getElem (by omega)] at this
      obtain ⟨h1, _⟩ := Array.getElem?_eq_some_iff.1 this
      omega
    | _ => cases h0

theorem map_fin {α β : Type} {p : α → β → Prop} : ∀ (n : Nat) (f : Nat → α), (∀ i, i < n → ∃ y, p (f i) y) → ∃ ys : List β, ys.length = n ∧ ∀ i (h : i < ys.length), p (f i) ys[i]
  | 0, _, _ => ⟨[], rfl, fun i h => by simp at h⟩
  | n + 1, f, h => by
    obtain ⟨y, hy⟩ := h 0 (by omega)
    obtain ⟨ys, h1, h2⟩ := map_fin (p := p) n (fun i => f (i + 1)) (fun i hi => h (i + 1) (by omega))
    refine ⟨y :: ys, by simp [h1], fun i hi => ?_⟩
    cases i with
    | zero => exact hy
    | succ i => exact h2 i (by simpa using hi)

theorem sum_le {α β : Type} {f : α → Nat} {g : β → Nat} : ∀ {xs : List α} {ys : List β}, xs.length = ys.length → (∀ i (h : i < xs.length) (h' : i < ys.length), f xs[i] ≤ g ys[i]) → (xs.map f).sum ≤ (ys.map g).sum
  | [], [], _, _ => Nat.le_refl _
  | x :: xs, y :: ys, hl, h => by
    have h0 := h 0 (by simp) (by simp)
    have := sum_le (xs := xs) (ys := ys) (by simpa using hl) (fun i hi hi' => by have := h (i + 1) (by simpa using hi) (by simpa using hi'); simpa using this)
    simp only [List.getElem_cons_zero] at h0
    simp only [List.map_cons, List.sum_cons]
    omega
  | [], _ :: _, hl, _ => by simp at hl
  | _ :: _, [], hl, _ => by simp at hl

/-- what a reading of a type says -/
def Reads (P : Program) (w : World) (B : DataW H → Nat) (ty : Ty) (cs : List Value) (d : DataW H) : Prop := ∃ v, Rep P ty w (Old w) v cs ∧ Fit ty v ∧ sz ty v ≤ B d

theorem trod_fields {r : TypeId → List Value → Option (DataW H × List MemPlace)} {N : Nat} {cs : List Value} (hr : ∀ n, n < N → ∀ ty t cs x, okT P n ty t = true → r t cs = some x → Reads P w B ty cs x.1) : ∀ (n : Nat), n ≤ N → ∀ (ty : Ty) (fs : List Field) (off : Nat) (xs : List (DataW H × List MemPlace)),
    okFs P n ty fs off = true → xs.length = fs.length → (∀ (i : Nat) (f : Field), fs[i]? = some f → r f.type ((cs.drop f.offset).take (P.cellsOf f.type)) = xs[i]?) → off + ty.cells = cs.length → ∃ v, Rep P ty w (Old w) v (cs.drop off) ∧ Fit ty v ∧ sz ty v ≤ ((xs.map (·.1)).map B).sum
  | 0, _, _, _, _, _, h, _, _, _ => by simp [okFs] at h
  | n + 1, hN, ty, [], off, xs, h, _, _, _ => by simp [okFs] at h
  | n + 1, hN, ty, [f], off, xs, h, hl, hx, hc => by
    simp only [okFs, Bool.and_eq_true] at h
    have h1 : f.offset = off := by simpa using h.1
    match xs, hl with
    | [y], _ =>
      have hy := hx 0 f rfl
      simp only [List.getElem?_cons_zero] at hy
      have hcell : P.cellsOf f.type = ty.cells := by
        cases n with
        | zero => simp [okT] at h
        | succ n => have := h.2; simp only [okT, Bool.and_eq_true] at this; simpa using this.1
      rw [h1, hcell, List.take_of_length_le (by simp; omega)] at hy
      obtain ⟨v, k1, k2, k3⟩ := hr n (by omega) ty f.type _ y h.2 hy
      exact ⟨v, k1, k2, by simpa using k3⟩
  | n + 1, hN, ty, f :: g :: rest, off, xs, h, hl, hx, hc => by
    cases ty with
    | pair a b =>
      simp only [okFs, Bool.and_eq_true] at h
      obtain ⟨h1, h2, h3⟩ := h
      have h1 : f.offset = off := by simpa using h1
      match xs, hl with
      | y :: ys, hl =>
        have hy := hx 0 f rfl
        simp only [List.getElem?_cons_zero] at hy
        have hcell : P.cellsOf f.type = a.cells := by
          cases n with
          | zero => simp [okT] at h2
          | succ n => have := h2; simp only [okT, Bool.and_eq_true] at this; simpa using this.1
        rw [h1, hcell] at hy
        obtain ⟨v, k1, k2, k3⟩ := hr n (by omega) a f.type _ y h2 hy
        simp only [Ty.cells] at hc
        obtain ⟨u, m1, m2, m3⟩ := trod_fields hr n (by omega) b (g :: rest) (off + a.cells) ys h3 (by simpa using hl) (fun i f' hf => by have := hx (i + 1) f' (by simpa using hf); simpa using this) (by omega)
        refine ⟨(v, u), ⟨_, _, ?_, k1, m1⟩, ⟨k2, m2⟩, ?_⟩
        · rw [← List.drop_drop, List.take_append_drop]
        · simp only [sz, List.map_cons, List.sum_cons]
          omega
    | _ => simp [okFs] at h

theorem trod_reads (hB : Bulk B) : ∀ (n m : Nat) (ty : Ty) (t : TypeId) (cs : List Value) (x : DataW H × List MemPlace), okT P n ty t = true → DataW.trod enc P w 0 (fun _ => true) true m t cs = some x → Reads P w B ty cs x.1 := by
  intro n
  induction n using Nat.strongRecOn with
  | _ n ih =>
    intro m ty t cs x hok hx
    cases n with
    | zero => simp [okT] at hok
    | succ n =>
      simp only [okT, Bool.and_eq_true] at hok
      obtain ⟨hc, hok⟩ := hok
      have hc : P.cellsOf t = ty.cells := by simpa using hc
      cases hu : P.underlying t with
      | none => rw [hu] at hok; cases ty <;> cases hok
      | some ds =>
        rw [hu] at hok
        cases ty with
        | int k =>
          cases ds with
          | int k' =>
            have e : k = k' := by simpa using hok
            subst e
            obtain ⟨q, rfl, rfl, hw⟩ := DataW.trod_int hu hx
            exact ⟨q, rfl, hw, hB.lit _⟩
          | _ => cases hok
        | bool =>
          cases ds with
          | bool =>
            obtain ⟨b, rfl, rfl⟩ := DataW.trod_bool hu hx
            exact ⟨b, rfl, trivial, hB.lit _⟩
          | _ => cases hok
        | str =>
          cases ds with
          | string =>
            obtain ⟨b, rfl, rfl, hs⟩ := DataW.trod_string hu hx
            exact ⟨b, rfl, hs, by have := hB.str b.data.toList; simpa [sz] using this⟩
          | _ => cases hok
        | slice e =>
          cases ds with
          | slice et =>
            rcases Deep.open_slice hu hx with ⟨rfl, rfl⟩ | ⟨a, len, cap, q, k, D, Pl, rfl, hb, hl, hm, hq, rfl, he⟩
            · exact ⟨[], ⟨none, 0, rfl, Nat.le_refl _, .inl rfl⟩, ⟨Nat.zero_le _, fun x h => by cases h⟩, hB.nil⟩
            · have hok : okT P n e et = true := hok
              have hce : P.cellsOf et = e.cells := by
                cases n with
                | zero => simp [okT] at hok
                | succ n => simp only [okT, Bool.and_eq_true] at hok; simpa using hok.1
              have hpos := e.cells_pos
              simp only [if_true] at hq
              subst hq
              obtain ⟨vs, hvl, hvs⟩ := map_fin (p := fun i (v : e.den) => (∃ cs', w.cells? 0 (a.add (i * e.cells)) e.cells = some cs' ∧ Rep P e w (Old w) v cs') ∧ Fit e v ∧ sz e v ≤ B (D i)) q id (fun i hi => by
                obtain ⟨cs', h1, h2⟩ := he i hi
                rw [hce] at h1
                obtain ⟨v, k1, k2, k3⟩ := ih n (by omega) k e et cs' _ hok h2
                exact ⟨v, ⟨cs', h1, k1⟩, k2, k3⟩)
              simp only [id] at hvs
              have hlen : List.length (vs.take len) = len := by rw [List.length_take, hvl, Nat.min_eq_left hl]
              refine ⟨vs.take len, ⟨some a, q, by rw [hlen], by rw [hlen]; exact hl, ?_⟩, ⟨by rw [hlen]; omega, fun v hv => ?_⟩, ?_⟩
              · rcases Nat.eq_zero_or_pos len with h0 | h0
                · exact .inl (by rw [hlen]; exact h0)
                · right
                  have hq0 : 0 < q := by omega
                  obtain ⟨⟨cs0, h1, _⟩, _, _⟩ := hvs 0 (by omega)
                  rw [Nat.zero_mul] at h1
                  have ha0 : a.add 0 = a := by simp [Addr.add]
                  rw [ha0] at h1
                  obtain ⟨hspot, c, e', fz, hblk, _, _⟩ := cells_seg h1 hpos
                  have each : ∀ i (hi : i < vs.length), a.off + i * e.cells + e.cells ≤ c.size ∧ Rep P e w (Old w) vs[i] (seg c (a.off + i * e.cells) e.cells) := by
                    intro i hi
                    obtain ⟨⟨cs', h1, h2⟩, _, _⟩ := hvs i hi
                    obtain ⟨s1, c', e'', fz', s2, s3, s4⟩ := cells_seg h1 hpos
                    rw [(add_off _ _).1, hblk] at s2
                    rw [(add_off _ _).2] at s3 s4
                    cases s2
                    exact ⟨s3, by rw [s4]; exact h2⟩
                  refine ⟨a.block, a.off, c, e', fz, ?_, ?_, hblk, ?_, ?_⟩
                  · cases a; simp only at hspot; subst hspot; rfl
                  · show a.block < w.heap.size
                    exact (Array.getElem?_eq_some_iff.1 hblk).1
                  · have := (each (q - 1) (by omega)).1
                    have : (q - 1) * e.cells + e.cells = q * e.cells := by
                      obtain ⟨q', rfl⟩ : ∃ q', q = q' + 1 := ⟨q - 1, by omega⟩
                      simp [Nat.succ_mul]
                    omega
                  · intro i hi
                    have hi' : i < vs.length := by simp only [List.length_take] at hi; omega
                    rw [List.getElem_take]
                    exact (each i hi').2
              · obtain ⟨i, hi, rfl⟩ := List.getElem_of_mem hv
                rw [List.getElem_take]
                exact (hvs i (by simp only [List.length_take] at hi; omega)).2.1
              · simp only [sz]
                refine Nat.le_trans (Nat.add_le_add_right ?_ 1) (hB.slice _ _)
                refine sum_le (by rw [hlen]; simp) fun i hi hi' => ?_
                rw [List.getElem_take]
                simp only [List.getElem_map, List.getElem_range]
                exact (hvs i (by simp only [List.length_take] at hi; omega)).2.2
          | _ => cases hok
        | one u =>
          cases ds with
          | struct fs =>
            obtain ⟨xs, k, rfl, rfl, hcl, hxl, hxs⟩ := DataW.trod_struct hu hx
            have hok : okFs P n u fs.toList 0 = true := hok
            obtain ⟨v, k1, k2, k3⟩ := trod_fields (B := B) (w := w) (cs := cs) (r := DataW.trod enc P w 0 (fun _ => true) true k) (N := n + 1) (fun n' h' ty t cs x => ih n' h' k ty t cs x) n (by omega) u fs.toList 0 xs hok (by simpa using hxl)
              (fun i f hf => hxs i f (by rw [← Array.getElem?_toList]; exact hf)) (by rw [hcl, hc]; simp [Ty.cells])
            rw [List.drop_zero] at k1
            exact ⟨v, k1, k2, Nat.le_trans k3 (hB.agg _)⟩
          | _ => cases hok
        | pair a b =>
          cases ds with
          | struct fs =>
            obtain ⟨xs, k, rfl, rfl, hcl, hxl, hxs⟩ := DataW.trod_struct hu hx
            have hok : okFs P (n + 1) (.pair a b) fs.toList 0 = true := by
              simp only [okFs]
              simp only at hok
              split at hok
              · rename_i f g r e
                simp only [e, Nat.zero_add]
                exact hok
              · cases hok
            obtain ⟨v, k1, k2, k3⟩ := trod_fields (B := B) (w := w) (cs := cs) (r := DataW.trod enc P w 0 (fun _ => true) true k) (N := n + 1) (fun n' h' ty t cs x => ih n' h' k ty t cs x) (n + 1) (by omega) (.pair a b) fs.toList 0 xs hok (by simpa using hxl)
              (fun i f hf => hxs i f (by rw [← Array.getElem?_toList]; exact hf)) (by rw [hcl, hc]; omega)
            rw [List.drop_zero] at k1
            exact ⟨v, k1, k2, Nat.le_trans k3 (hB.agg _)⟩
          | _ => cases hok
        | ref _ => cases hok
        | fn1 _ _ => cases hok
        | fn2 _ _ _ => cases hok
end
end Go.VE
/- A law's row, out of its contract. -/
namespace Go.VE
open Go.ChangeShapes
variable {P : Program} {w : World}

def argsB (P : Program) : List PM → List TypeId → Bool
  | [], [] => true
  | .imm ty :: ps, t :: ts => okT P 64 ty t && (P.readableRec t && (Nat.blt t P.types.size && argsB P ps ts))
  | _, _ => false

def FitP : (ts : List Ty) → DenP ts → Prop
  | [], _ => True
  | [t], x => Fit t x
  | t :: u :: ts, x => Fit t x.1 ∧ FitP (u :: ts) x.2
def szP : (ts : List Ty) → DenP ts → Nat
  | [], _ => 0
  | [t], x => sz t x
  | t :: u :: ts, x => sz t x.1 + szP (u :: ts) x.2

section
variable {H : Type} {enc : TypeId × Value → H} {B : DataW H → Nat}

theorem vrep_arg {n : Nat} {ty : Ty} {t : TypeId} {v : Value} {r : Reach} {base : Nat} {rep : List Value → Prop} (hok : okT P n ty t = true) (hv : Value.okWide P w r base t v) (h : rep v.cells.toList) : vrep ty.isAgg rep v := by
  cases n with
  | zero => simp [okT] at hok
  | succ n =>
    simp only [okT, Bool.and_eq_true] at hok
    obtain ⟨_, hok⟩ := hok
    cases hu : P.underlying t with
    | none => rw [hu] at hok; cases ty <;> cases hok
    | some ds =>
      rw [hu] at hok
      cases ty with
      | int k =>
        cases ds with
        | int k' => obtain ⟨z, rfl⟩ := WideShapes.okWide_int hu hv; exact h
        | _ => cases hok
      | bool =>
        cases ds with
        | bool => obtain ⟨z, rfl⟩ := WideShapes.okWide_bool hu hv; exact h
        | _ => cases hok
      | str =>
        cases ds with
        | string => obtain ⟨z, rfl⟩ := WideShapes.okWide_string hu hv; exact h
        | _ => cases hok
      | slice e =>
        cases ds with
        | slice et => obtain ⟨z, _, _, rfl⟩ := WideShapes.okWide_slice hu hv; exact h
        | _ => cases hok
      | one u =>
        cases ds with
        | struct fs => obtain ⟨cs, rfl, _⟩ := WideShapes.okWide_struct hu hv; exact ⟨cs, rfl, h⟩
        | _ => cases hok
      | pair a b =>
        cases ds with
        | struct fs => obtain ⟨cs, rfl, _⟩ := WideShapes.okWide_struct hu hv; exact ⟨cs, rfl, h⟩
        | _ => cases hok
      | ref _ => cases hok
      | fn1 _ _ => cases hok
      | fn2 _ _ _ => cases hok

theorem args_of (hB : Bulk B) {r : Reach} {base : Nat} : ∀ (ins : List PM) (ts : List TypeId) (vs : List Value) (ds : List (DataW H)) (ps : List MemPlace), argsB P ins ts = true → DataW.TrodAll enc P w 0 (fun _ => true) true ts vs ds ps →
    (∀ (j : Nat) t v, ts[j]? = some t → vs[j]? = some v → Value.okWide P w r base t v) → ∃ p : DenP (ins.map PM.ty), ArgsRel P w (Old w) (fun _ => False) ins (unpack _ p) vs ∧ FitP _ p ∧ szP _ p ≤ (ds.map B).sum
  | [], [], vs, ds, ps, _, h, _ => by
    obtain ⟨rfl, rfl, _⟩ := trodAll_nil h
    exact ⟨(), trivial, trivial, Nat.le_refl _⟩
  | [], _ :: _, _, _, _, hb, _, _ => by simp [argsB] at hb
  | q :: ins, [], _, _, _, hb, _, _ => by cases q <;> simp [argsB] at hb
  | .mv _ :: ins, _ :: _, _, _, _, hb, _, _ => by simp [argsB] at hb
  | .io _ :: ins, _ :: _, _, _, _, hb, _, _ => by simp [argsB] at hb
  | .iop _ :: ins, _ :: _, _, _, _, hb, _, _ => by simp [argsB] at hb
  | .imm ty :: ins, t :: ts, vs, ds, ps, hb, h, hval => by
    simp only [argsB, Bool.and_eq_true] at hb
    obtain ⟨v, vs, d, ds, p, ps, rfl, rfl, rfl, ⟨m, h0⟩, h1⟩ := trodAll_cons h
    obtain ⟨x, k1, k2, k3⟩ := trod_reads hB _ m ty t _ _ hb.1 h0
    obtain ⟨y, m1, m2, m3⟩ := args_of hB ins ts vs ds ps hb.2.2.2 h1 (fun j t v hj hv => hval (j + 1) t v (by simpa using hj) (by simpa using hv))
    have a1 : ArgRel P w (fun _ => False) (Old w) (.imm ty) ⟨ty, x⟩ v := ⟨x, rfl, vrep_arg hb.1 (hval 0 t v rfl rfl) k1⟩
    have sp : Split (fun _ : Nat => False) (fun _ => False) (fun _ => False) := ⟨fun _ h => h, fun _ h => h, fun _ h _ => h⟩
    cases ins with
    | nil => exact ⟨x, ⟨_, _, sp, a1, m1⟩, k2, by
      have e : szP (List.map PM.ty [PM.imm ty]) x = sz ty x := rfl
      rw [e, show ((d :: ds).map B).sum = B d + (ds.map B).sum from rfl]
      exact Nat.le_trans k3 (Nat.le_add_right _ _)⟩
    | cons q ins => exact ⟨(x, y), ⟨_, _, sp, a1, m1⟩, ⟨k2, m2⟩, by
      have e : szP (List.map PM.ty (PM.imm ty :: q :: ins)) (x, y) = sz ty x + szP (List.map PM.ty (q :: ins)) y := rfl
      rw [e, show ((d :: ds).map B).sum = B d + (ds.map B).sum from rfl]
      exact Nat.add_le_add k3 m3⟩

theorem stays_all (hl : laidOutB P = true) {W W' : World} {sp : Nat → Bool} (hb : ∀ k, k < W.heap.size → W'.heap[k]? = W.heap[k]?) : ∀ (ins : List PM) (ts : List TypeId) (vs : List Value) (ds : List (DataW H)) (ps : List MemPlace), argsB P ins ts = true → DataW.TrodAll enc P W 0 (fun _ => true) true ts vs ds ps →
    (∀ x ∈ ps, x.block < W.heap.size) → (∀ x ∈ ps, sp x.block = true) → DataW.TrodAll enc P W' 0 sp true ts vs ds ps
  | [], [], vs, ds, ps, _, h, _, _ => by
    obtain ⟨rfl, rfl, rfl⟩ := trodAll_nil h
    exact rfl
  | [], _ :: _, _, _, _, hb, _, _, _ => by simp [argsB] at hb
  | q :: ins, [], _, _, _, hb, _, _, _ => by cases q <;> simp [argsB] at hb
  | .mv _ :: ins, _ :: _, _, _, _, hb, _, _, _ => by simp [argsB] at hb
  | .io _ :: ins, _ :: _, _, _, _, hb, _, _, _ => by simp [argsB] at hb
  | .iop _ :: ins, _ :: _, _, _, _, hb, _, _, _ => by simp [argsB] at hb
  | .imm ty :: ins, t :: ts, vs, ds, ps, hok, h, hlt, hs => by
    simp only [argsB, Bool.and_eq_true] at hok
    obtain ⟨v, vs, d, ds, p, ps, rfl, rfl, rfl, h0, h1⟩ := trodAll_cons h
    have same : ∀ x ∈ p, W.sameAt W' x := fun x hx => by
      have := hlt x (by simp [hx])
      cases x with
      | cell b o => exact World.cell?_of_block (w := W) (hb b this)
      | map b => exact hb b this
    exact ⟨p, ps, WideElems.Trod_stays hl hok.2.1 (by simpa using hok.2.2.1) h0 same (fun x hx => hs x (by simp [hx])),
      stays_all hl hb ins ts vs ds ps hok.2.2.2 h1 (fun x hx => hlt x (by simp [hx])) (fun x hx => hs x (by simp [hx])), rfl⟩

/-- what the row asks, where nothing of old memory has turned; a weaker premise on what is frozen than the kit's 'post_of_same' -/
theorem post_same {f : Func} {s : ChangeSpec} {apart fresh handsOn again : Bool} {W W' : World} {args : Array Value} {v : Value} {ds gs : List (DataW H)} {before pa pv : List MemPlace}
    (hW : DataW.Whole enc P f.params.toList s.vars apart W args.toList ds gs before)
    (hres : ∀ (b : Nat) (sp : Nat → Bool) (hd : Bool), DataW.TrodAll enc P W' b sp hd f.resultTypes.toList (v.resultList f.resultTypes.size) (s.fn H (ds ++ gs)).results [])
    (hargs : ∀ sp : Nat → Bool, (∀ p ∈ before, sp p.block = true) → DataW.TrodAll enc P W' 0 sp true f.params.toList args.toList (s.fn H (ds ++ gs)).args pa)
    (hvars : ∀ sp : Nat → Bool, (∀ p ∈ before, sp p.block = true) → DataW.TrodVars enc P W' sp s.vars (s.fn H (ds ++ gs)).vars pv)
    (hps : before = pa ++ pv) (hk : W.keptBut W' (· ∈ before)) (hfz : ∀ b off, MemPlace.cell b off ∈ before → W'.frozen? ⟨b, off, none⟩ = W.frozen? ⟨b, off, none⟩)
    (hok : ∀ (j : Nat) (t : TypeId) (r : Value), f.resultTypes[j]? = some t → (v.resultList f.resultTypes.size)[j]? = some r → Value.okWide P W' .any 0 t r) :
    s.post enc P f apart fresh handsOn again W args v W' := by
  have hlt := hW.lt
  have hold : ∀ p ∈ before, (fun b => decide (b < W.heap.size)) p.block = true := fun p hp => by simpa using hlt p hp
  have hcov : ∀ p : MemPlace, p ∈ before → p ∈ ([] ++ pa) ++ pv := fun p hp => by rw [hps] at hp; simpa using hp
  refine ⟨ds, gs, before, [], pa, pv, hW, hres _ _ _, hargs _ hold, hvars _ hold, World.keptBut_mono (fun p hp => ⟨hp, by simpa using hcov p hp⟩) hk, fun _ => ?_⟩
  obtain ⟨_, _, _, _, _, hz, hn⟩ := hW
  refine ⟨hok, _, _, ([] ++ pa) ++ pv, ⟨[] ++ pa, pv, trodAll_append (hargs _ (fun _ _ => rfl)) (hres _ _ _), hvars _ (fun _ _ => rfl), rfl, fun b off hp => ?_, fun ha => ?_⟩, ?_⟩
  · have hp' : MemPlace.cell b off ∈ before := by rw [hps]; simpa using hp
    rw [hfz b off hp']
    exact hz b off hp'
  · have := hn ha
    rw [hps] at this
    simpa using this
  · intro p hp _
    rw [hps]
    simpa using hp

theorem law_contract {f : Nat} {fn : Func} {s : FnSum} {rt : TypeId} {sp : ChangeSpec} (hok : FnOk P f s) (hins : argsB P s.sig.ins fn.params.toList = true) (houts : s.sig.outs = [(.bool, .imm)]) (hflag : s.sig.flag = none)
    (hres : fn.resultTypes = #[rt]) (hbool : P.underlying rt = some .bool) (hl : laidOutB P = true) (hvars : sp.vars = []) (hsp : ∀ ds, ds.length = fn.params.toList.length → (sp.fn H ds).results = [.lit (.bool true)] ∧ (sp.fn H ds).args = ds ∧ (sp.fn H ds).vars = [])
    (hB : Bulk B) {W : World} {base : Nat} {args : Array Value} {ds gs : List (DataW H)} {before : List MemPlace} {apart fresh handsOn again : Bool}
    (hval : ∀ (j : Nat) t v, fn.params[j]? = some t → args[j]? = some v → Value.okWide P W .any base t v) (hW : DataW.Whole enc P fn.params.toList sp.vars apart W args.toList ds gs before)
    (law : ∀ p : DenP s.sig.inTys, FitP _ p → szP _ p ≤ (ds.map B).sum → ∃ q, s.f p = some q ∧ (unpack _ q).take 1 = [⟨.bool, true⟩]) :
    Calls P f args W fun e W' => ∃ v, e = .returned v ∧ sp.post enc P fn apart fresh handsOn again W args v W' := by
  have hW0 := hW
  obtain ⟨p0, q0, hA, hV, rfl, hfz, hnd⟩ := hW
  rw [hvars] at hV
  obtain ⟨rfl, rfl⟩ := trodVars_none hV
  obtain ⟨p, k1, k2, k3⟩ := args_of hB (r := .any) (base := base) s.sig.ins fn.params.toList args.toList ds p0 hins hA (fun j t v hj hv => hval j t v (by rw [← Array.getElem?_toList]; exact hj) (by rw [← Array.getElem?_toList]; exact hv))
  obtain ⟨q, hq, hr⟩ := law p k2 k3
  have hlen : ds.length = fn.params.toList.length := by
    have : ∀ (ts : List TypeId) (vs : List Value) (ds : List (DataW H)) (ps : List MemPlace), DataW.TrodAll enc P W 0 (fun _ => true) true ts vs ds ps → ds.length = ts.length := by
      intro ts
      induction ts with
      | nil => intro vs ds ps h; obtain ⟨_, rfl, _⟩ := trodAll_nil h; rfl
      | cons t ts ih => intro vs ds ps h; obtain ⟨_, _, _, _, _, _, _, rfl, _, _, h1⟩ := trodAll_cons h; simp [ih _ _ _ h1]
    exact this _ _ _ _ hA
  obtain ⟨e1, e2, e3⟩ := hsp ds hlen
  refine (hok.2 W (Old W) (fun _ => False) args.toList p q k1 (fun _ h => h) (fun _ h => h.elim) (fun _ _ h => h) hq).mono fun e W' ⟨vs, S1, S2, I', he, hP⟩ => ?_
  have hout := hP.outs
  have hof : s.sig.outsOf (unpack s.sig.outTys q) = [(.bool, .imm)] := by unfold Sig.outsOf; rw [hflag]; exact houts
  rw [hof, houts] at hout
  rw [show List.length [(Ty.bool, Own.imm)] = 1 from rfl, hr] at hout
  obtain ⟨v, rfl⟩ : ∃ v, vs = [v] := by
    match vs, hout with
    | [v], _ => exact ⟨v, rfl⟩
    | [], h => exact h.elim
    | _ :: _ :: _, ⟨_, _, _, _, h⟩ => exact h.elim
  obtain ⟨_, _, _, ⟨x, hx, hv⟩, _⟩ := hout
  have hx : x = true := by cases hx; rfl
  subst hx
  have hv : v = .bool true := by
    simp only [Ty.isAgg, vrep, Rep, List.cons.injEq, and_true] at hv
    exact hv
  subst hv
  subst he
  have hb : ∀ k, k < W.heap.size → W'.heap[k]? = W.heap[k]? := fun k hk => hP.same k hk (fun h => h)
  have hbelow : RowKit.Below W.heap.size W W' := ⟨hP.keeps.os, hP.keeps.tape, hP.keeps.output, hP.keeps.size, hb⟩
  have hlt : ∀ x ∈ p0, x.block < W.heap.size := fun x hx => hW0.lt x (by simpa using hx)
  refine ⟨.bool true, rfl, post_same (pa := p0) (pv := []) hW0 ?_ ?_ ?_ (by simp) (hbelow.frame _) ?_ (RowKit.ok_one hres rfl (RowKit.okWide_bool_mk hbool _))⟩
  · intro b sp' hd
    rw [List.append_nil, e1, hres]
    exact trodAll_cons_mk (RowKit.shut_bool hbool true) trodAll_mk0
  · intro sp' hs
    rw [List.append_nil, e2]
    exact stays_all hl hb s.sig.ins fn.params.toList args.toList ds p0 hins hA hlt (fun x hx => hs x (by simpa using hx))
  · intro sp' hs
    rw [List.append_nil, e3, hvars]
    rfl
  · intro b off hp
    exact hbelow.frozen (p := ⟨b, off, none⟩) (hW0.lt _ hp)
end
end Go.VE
/- Contracts of Go's library that the kit has proved, in the evaluator's words. -/
namespace Go.VE
variable {P : Program} {w : World}

theorem split_none : Split (fun _ : Nat => False) (fun _ => False) (fun _ => False) := ⟨fun _ h => h, fun _ h => h, fun _ h _ => h⟩

/-- a call that turns nothing of what was there and gives out nothing of its own -/
theorem post_below {s : Sig} {w w' : World} {I S : Nat → Prop} {args : List Value} {rs : List Dyn} {vs : List Value} (hI : ∀ b, I b → b < w.heap.size) (hS : ∀ b, I b → S b → False) (hb : RowKit.Below w.heap.size w w') (houts : OutsRel P true w' I (fun _ => False) (s.outsOf rs) (rs.take s.outs.length) vs)
    (hback : BacksRel P w' I (fun _ => False) s.ins args (rs.drop s.outs.length)) : Post P s w I S args rs w' vs (fun _ => False) (fun _ => False) I where
  outs := houts
  backs := hback
  apart := fun _ h _ => h
  imm1 := fun _ h _ => h
  imm2 := fun _ h _ => h
  keep := fun _ h => h
  immOld := fun _ _ h => .inl h
  old1 := fun _ _ h => h.elim
  old2 := fun _ _ h => h.elim
  new1 := fun _ h => h.elim
  new2 := fun _ h => h.elim
  newI := fun b h => Nat.lt_of_lt_of_le (hI b h) hb.size
  keeps := ⟨hb.os, hb.tape, hb.output, hb.size⟩
  same := fun b h _ => hb.block b h

def repeatF (s : ByteArray) (c : Int) : Option ByteArray := bif decide (0 ≤ c) && (decide (c ≤ 9223372036854775807) && decide (s.size * c.toNat ≤ 140737488355328)) then some ⟨(Lib.repeatL s.data.toList c.toNat).toArray⟩ else none

theorem repeatF_some {s : ByteArray} {c : Int} {q : ByteArray} (h : repeatF s c = some q) : 0 ≤ c ∧ c ≤ 9223372036854775807 ∧ s.size * c.toNat ≤ 140737488355328 ∧ q = ⟨(Lib.repeatL s.data.toList c.toNat).toArray⟩ := by
  unfold repeatF at h
  cases hc : decide (0 ≤ c) && (decide (c ≤ 9223372036854775807) && decide (s.size * c.toNat ≤ 140737488355328)) with
  | false => rw [hc] at h; cases h
  | true =>
    rw [hc] at h
    simp only [cond_true, Option.some.injEq] at h
    simp only [Bool.and_eq_true, decide_eq_true_eq] at hc
    exact ⟨hc.1, hc.2.1, hc.2.2, h.symm⟩

theorem ok_repeat {f : Nat} (hc : Callable P f) (h : ∀ (s : ByteArray) (c : Nat) (w : World), c ≤ 9223372036854775807 → s.size * c ≤ 140737488355328 → Calls P f #[.string s, .int .i64 c] w fun e w' => e = .returned (.string ⟨(Lib.repeatL s.data.toList c).toArray⟩) ∧ RowKit.Below w.heap.size w w') :
    FnOk P f ⟨{ ins := [.imm .str, .imm (.int .i64)], outs := [(.str, .imm)] }, fun p => repeatF p.1 p.2⟩ := by
  refine ⟨hc, fun w I S args p q hargs hI hS hIS hq => ?_⟩
  obtain ⟨s, c⟩ := p
  match args, hargs with
  | [va, vb], ⟨_, _, _, ⟨x, hx, rx⟩, _, _, _, ⟨y, hy, ry⟩, _⟩ =>
    cases hx
    cases hy
    simp only [Ty.isAgg, vrep, Rep, List.cons.injEq, and_true] at rx ry
    subst rx ry
    obtain ⟨h0, h1, h2, e⟩ := repeatF_some hq
    have e : q = ⟨(Lib.repeatL (ByteArray.data s).toList (Int.toNat c)).toArray⟩ := e
    have := h s (Int.toNat c) w (by omega) h2
    rw [Int.toNat_of_nonneg h0] at this
    refine this.mono fun en w' ⟨he, hb⟩ => ⟨[_], _, _, _, he, post_below hI hIS hb ⟨_, _, split_none, ⟨q, rfl, ?_⟩, trivial⟩ trivial⟩
    exact congrArg (fun z : ByteArray => [Value.string z]) e.symm
  | [], h => exact h.elim
  | [_], ⟨_, _, _, _, h⟩ => exact h.elim
  | _ :: _ :: _ :: _, ⟨_, _, _, _, _, _, _, _, h⟩ => exact h.elim
end Go.VE
