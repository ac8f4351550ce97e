/- The law FnWritten, as the Lean function that it answers, is true at every input. -/
import Derived.Test.YtocpbdnkmlpehaaP1
import Derived.Test.YtocpbdnkmlpehaaG
set_option linter.unusedVariables false
set_option linter.unusedSimpArgs false
set_option linter.unusedSectionVars false
/- What the draws of the law FnWritten give. -/
namespace Go.Proofs.Ytocpbdnkmlpehaa
open Go Go.VE Go.Proofs Go.PL

def CurOk (c : Tl1Cur) : Prop := 0 ≤ c.2.1 ∧ c.1.length < 4611686018427387904

theorem byte_ok {c : Tl1Cur} (h : CurOk c) : ∃ r c', spec_l1Byte.f c = some (r, c') ∧ 0 ≤ r ∧ r ≤ 255 ∧ CurOk c' := by
  unfold spec_l1Byte.f
  simp only
  by_cases hlt : c.2.1 < (List.length c.1 : Int)
  · have hb : inB c.2.1 (List.length c.1) = true := inB_iff.2 ⟨h.1, hlt⟩
    simp only [hlt, decide_true, cond_true, hb]
    refine ⟨_, _, rfl, (and255 _).1, (and255 _).2, ?_, h.2⟩
    have := h.1
    have := h.2
    simp only
    rw [wrap_i64 (by omega) (by omega)]
    omega
  · simp only [hlt, decide_false, cond_false]
    exact ⟨_, _, rfl, (and255 _).1, (and255 _).2, h⟩

theorem below_ok {c : Tl1Cur} {n : Int} (h : CurOk c) (hn : 0 < n) (hn' : n ≤ 256) : ∃ r c', spec_l1Below.f c n = some (r, c') ∧ 0 ≤ r ∧ r < n ∧ CurOk c' := by
  obtain ⟨r, c', h1, h2, h3, h4⟩ := byte_ok h
  unfold spec_l1Below.f
  have e1 : decide (n ≤ 0) = false := by simp; omega
  have e2 : decide (n ≤ 256) = true := by simp; omega
  have e3 : decide (n = 0) = false := by simp; omega
  simp only [e1, e2, e3, cond_false, cond_true, h1, Option.bind_some]
  exact ⟨_, _, rfl, Int.tmod_nonneg _ h2, Int.tmod_lt_of_pos _ hn, h4⟩

theorem pickInt_ok {c : Tl1Cur} {xs : List Int} (h : CurOk c) (hn : 0 < xs.length) (hn' : xs.length ≤ 256) : ∃ v c', spec_l1PickInt.f c xs = some (v, c') ∧ v ∈ xs ∧ CurOk c' := by
  obtain ⟨r, c', h1, h2, h3, h4⟩ := below_ok (n := (xs.length : Int)) h (by omega) (by omega)
  unfold spec_l1PickInt.f
  have hb : inB r xs.length = true := inB_iff.2 ⟨h2, h3⟩
  simp only [h1, Option.bind_some, hb, cond_true]
  refine ⟨_, _, rfl, ?_, h4⟩
  have : r.toNat < xs.length := by omega
  rw [List.getD_eq_getElem?_getD, List.getElem?_eq_getElem this]
  exact List.getElem_mem this
theorem pick_ok {c : Tl1Cur} {xs : List ByteArray} (h : CurOk c) (hn : 0 < xs.length) (hn' : xs.length ≤ 256) : ∃ v c', spec_l1Pick.f c xs = some (v, c') ∧ v ∈ xs ∧ CurOk c' := by
  obtain ⟨r, c', h1, h2, h3, h4⟩ := below_ok (n := (xs.length : Int)) h (by omega) (by omega)
  unfold spec_l1Pick.f
  have hb : inB r xs.length = true := inB_iff.2 ⟨h2, h3⟩
  simp only [h1, Option.bind_some, hb, cond_true]
  refine ⟨_, _, rfl, ?_, h4⟩
  have : r.toNat < xs.length := by omega
  rw [List.getD_eq_getElem?_getD, List.getElem?_eq_getElem this]
  exact List.getElem_mem this

theorem text_loop {α : Type} {n : Int} {K : ByteArray → List Int → Int → Int → Option α} (hn : n ≤ 1000) : ∀ (k : Nat) (s : ByteArray) (i : Int) (c : Tl1Cur), CurOk c → 0 ≤ i → (s.size : Int) = i → (i ≤ n) → (n - i).toNat < k →
    ∃ s' c', spec_l7Text.l0 n K k s i c.1 c.2.1 c.2.2 = K s' c'.1 c'.2.1 c'.2.2 ∧ (s'.size : Int) = n ∧ CurOk c'
  | 0, _, _, _, _, _, _, _, h => by omega
  | k + 1, s, i, c, hc, h0, hs, hi, hk => by
    simp only [spec_l7Text.l0]
    by_cases hlt : i < n
    · obtain ⟨r, c', h1, h2, h3, h4⟩ := below_ok (n := 2) hc (by omega) (by omega)
      have h1' : spec_l1Below.f (c.1, (c.2.1, c.2.2)) 2 = some (r, c') := h1
      have hsz : ∀ x : Int, (ofBytes [x]).size = 1 := fun _ => rfl
      have hsm : small (s.size + 1) = true := small_iff.2 (by omega)
      simp only [hlt, decide_true, cond_true, h1', Option.bind_some, hsz, hsm]
      rw [wrap_i64 (x := i + 1) (by omega) (by omega)]
      exact text_loop hn k _ (i + 1) c' h4 (by omega) (by rw [ByteArray.size_append, hsz]; omega) (by omega) (by omega)
    · simp only [hlt, decide_false, cond_false]
      exact ⟨s, c, rfl, by omega, hc⟩

theorem new_loop {α : Type} {xs : List Int} {K : Int → Option α} (hl : xs.length < 4611686018427387904) : ∀ (k : Nat) (x i : Int), 0 ≤ i → (4000 - i).toNat < k → ∃ q, spec_l1New.l0 xs K k x i = K q
  | 0, _, _, _, h => by omega
  | k + 1, x, i, h0, hk => by
    simp only [spec_l1New.l0]
    by_cases h1 : i < (List.length xs : Int)
    · by_cases h2 : i < 4000
      · have hb : inB i (List.length xs) = true := inB_iff.2 ⟨h0, h1⟩
        simp only [h1, h2, hb, decide_true, cond_true]
        rw [wrap_i64 (x := i + 1) (by omega) (by omega)]
        exact new_loop hl k _ (i + 1) (by omega) (by omega)
      · simp only [h1, h2, decide_true, decide_false, cond_true, cond_false]
        exact ⟨_, rfl⟩
    · simp only [h1, decide_false, cond_false]
      exact ⟨_, rfl⟩

theorem new_ok {xs : List Int} (hl : xs.length < 4611686018427387904) : ∃ c, spec_l1New.f xs = some c ∧ CurOk c := by
  unfold spec_l1New.f
  obtain ⟨q, hq⟩ := new_loop (K := fun q3 => some (xs, ((0 : Int), q3))) hl fuel (IntKind.i64.wrap ((26583 : Int) + (List.length xs : Int))) 0 (by omega) (by rw [fuel_eq]; omega)
  rw [hq]
  exact ⟨_, rfl, by simp [CurOk], hl⟩

theorem text_ok {c : Tl1Cur} (h : CurOk c) : ∃ s c', spec_l7Text.f c = some (s, c') ∧ s.size ≤ 81 ∧ CurOk c' := by
  unfold spec_l7Text.f
  obtain ⟨v, c1, h1, h2, h3⟩ := pickInt_ok (xs := [0, 1, 5, 15, 16, 17, 33, 64, 80, 81]) h (by decide) (by decide)
  simp only [h1, Option.bind_some]
  have hv : 0 ≤ v ∧ v ≤ 81 := by simp at h2; omega
  obtain ⟨s, c', e1, e2, e3⟩ := text_loop (n := v) (K := fun q5 q6 q7 q8 => some (q5, (q6, (q7, q8)))) (by omega) fuel ⟨#[]⟩ 0 c1 h3 (by omega) (by rfl) (by omega) (by rw [fuel_eq]; omega)
  rw [e1]
  exact ⟨s, c', rfl, by omega, e3⟩

theorem draw_ok {xs : List Int} (hl : xs.length < 4611686018427387904) : ∃ t n m, spec_DrawWritten.f xs = some (t, n, m) ∧ t.size ≤ 81 ∧ (n = -1 ∨ 0 ≤ n ∧ n ≤ 90) ∧ m.size ≤ 4 := by
  unfold spec_DrawWritten.f
  obtain ⟨c0, h0, k0⟩ := new_ok hl
  obtain ⟨t, c1, h1, ht, k1⟩ := text_ok k0
  obtain ⟨n, c2, h2, hn, k2⟩ := pickInt_ok (xs := [0, 1, 3, 16, 90, (-1)]) k1 (by decide) (by decide)
  obtain ⟨m, c3, h3, hm, k3⟩ := pick_ok (xs := [⟨#[]⟩, ⟨#[65]⟩, ⟨#[66, 67, 68, 69]⟩]) k2 (by decide) (by decide)
  simp only [h0, h1, h2, h3, Option.bind_some]
  refine ⟨t, n, m, rfl, ht, ?_, ?_⟩
  · simp at hn; omega
  · simp only [List.mem_cons, List.not_mem_nil, or_false] at hm
    rcases hm with rfl | rfl | rfl <;> decide
end Go.Proofs.Ytocpbdnkmlpehaa
/- The law FnWritten answers true, at every draw. -/
namespace Go.Proofs.Ytocpbdnkmlpehaa
open Go Go.VE Go.Proofs Go.PL

def zs (n : Nat) : List UInt8 := List.replicate n 0
/-- the data t with m written at n -/
def wr (t : List UInt8) (n : Nat) (m : List UInt8) : List UInt8 := t.take n ++ zs (n - t.length) ++ m ++ t.drop (n + m.length)

theorem rep0 {n : Int} (h : 0 ≤ n) (h' : n ≤ 100000) : ∃ r, strings_Repeat.f ⟨#[0]⟩ n = some r ∧ bl r = zs n.toNat := by
  refine ⟨⟨(Lib.repeatL (⟨#[0]⟩ : ByteArray).data.toList n.toNat).toArray⟩, ?_, ?_⟩
  · unfold strings_Repeat.f repeatF
    have e1 : decide (0 ≤ n) = true := by simp; omega
    have e2 : decide (n ≤ 9223372036854775807) = true := by simp; omega
    have e3 : decide ((⟨#[0]⟩ : ByteArray).size * n.toNat ≤ 140737488355328) = true := by
      have : (⟨#[0]⟩ : ByteArray).size = 1 := rfl
      simp [this]; omega
    simp only [e1, e2, e3, Bool.and_self, cond_true]
  · have := Lib.repeatL_replicate 0 1 n.toNat
    simp only [bl, zs]
    simpa using this

theorem within_ok {n : Int} (h : 0 ≤ n) (h' : n ≤ 100000) : impl_within.f n 0 100000 = some true ∧ spec_l1In.f n 0 100000 = some true := by
  unfold impl_within.f spec_l1In.f
  have e1 : decide (0 ≤ n) = true := by simp; omega
  have e2 : decide (n ≤ 100000) = true := by simp; omega
  simp only [e1, e2, cond_true, and_self]

theorem zs_len (n : Nat) : (zs n).length = n := by simp [zs]
theorem impl_wr {t m : ByteArray} {n : Nat} (hn : n ≤ 100000) (ht : t.size ≤ 100000) (hm : m.size ≤ 100000) : ∃ r, impl_Written.f t n m = some r ∧ bl r = wr (bl t) n (bl m) := by
  unfold impl_Written.f
  rw [(within_ok (n := (n : Int)) (by omega) (by omega)).1]
  simp only [Option.bind_some, Bool.not_true, cond_false]
  have hlt := bl_len t
  have hlm := bl_len m
  have w1 : IntKind.i64.wrap ((n : Int) + (m.size : Int)) = (n : Int) + m.size := wrap_i64 (by omega) (by omega)
  by_cases h : t.size < n
  · have e1 : decide ((t.size : Int) < (n : Int)) = true := by simp; omega
    obtain ⟨r, h1, h2⟩ := rep0 (n := (n : Int) - t.size) (by omega) (by omega)
    have hr : r.size = n - t.size := by rw [← bl_len, h2, zs_len]; omega
    have hs : (t ++ r).size = n := by rw [ByteArray.size_append, hr]; omega
    have ha : (t ++ r).extract 0 n = t ++ r := by
      apply bl_ext
      rw [bl_extract, List.drop_zero, List.take_of_length_le (by rw [bl_len, hs]; exact Nat.le_refl _)]
    have hb : inSl 0 (n : Int) n = true := inSl_iff.2 ⟨by omega, by omega, by omega⟩
    have e2 : ¬ ((n : Int) + (m.size : Int) < (n : Int)) := by omega
    have hb2 : inSl (n : Int) (n : Int) n = true := inSl_iff.2 ⟨by omega, by omega, by omega⟩
    have hx : ((t ++ r).extract n n).size = 0 := by rw [← bl_len, bl_extract]; simp
    have s1 : small (t.size + r.size) = true := small_iff.2 (by omega)
    have s2 : small (n + m.size) = true := small_iff.2 (by omega)
    have s3 : small ((t ++ r ++ m).size + 0) = true := small_iff.2 (by rw [ByteArray.size_append, hs]; omega)
    rw [wrap_i64 (x := (n : Int) - t.size) (by omega) (by omega), h1]
    simp only [e1, cond_true, Option.bind_some, s1, hs, hb, Int.toNat_natCast, ha, s2, w1, e2, if_false, hb2, hx, s3]
    refine ⟨_, rfl, ?_⟩
    rw [bl_append, bl_append, bl_append, bl_extract, h2, bl_append, h2]
    unfold wr
    have d1 : ((bl t ++ zs ((n : Int) - (t.size : Int)).toNat).take n).drop n = [] := List.drop_eq_nil_of_le (List.length_take_le _ _)
    have d2 : (bl t).drop (n + (bl m).length) = [] := List.drop_eq_nil_of_le (by omega)
    have d3 : (bl t).take n = bl t := List.take_of_length_le (by omega)
    rw [d1, d2, d3, hlt, show ((n : Int) - (t.size : Int)).toNat = n - t.size by omega]
  · have e1 : decide ((t.size : Int) < (n : Int)) = false := by simp; omega
    have hb : inSl 0 (n : Int) t.size = true := inSl_iff.2 ⟨by omega, by omega, by omega⟩
    have z : (bl t).length ≥ n := by omega
    have hx : (t.extract 0 n).size = n := by rw [← bl_len, bl_extract]; simp; omega
    have s2 : small (n + m.size) = true := small_iff.2 (by omega)
    have hw : wr (bl t) n (bl m) = (bl t).take n ++ bl m ++ (bl t).drop (n + (bl m).length) := by
      unfold wr
      rw [show n - (bl t).length = 0 by omega]
      simp [zs]
    by_cases h3 : n + m.size < t.size
    · have e2 : ((n : Int) + (m.size : Int) < (t.size : Int)) := by omega
      have hb2 : inSl ((n : Int) + m.size) (t.size : Int) t.size = true := inSl_iff.2 ⟨by omega, by omega, by omega⟩
      have hy : (t.extract ((n : Int) + m.size).toNat t.size).size ≤ t.size := by rw [← bl_len, bl_extract]; simp; omega
      have s3 : small ((t.extract 0 n ++ m).size + (t.extract ((n : Int) + m.size).toNat t.size).size) = true := small_iff.2 (by rw [ByteArray.size_append, hx]; omega)
      simp only [e1, cond_false, cond_true, hb, Int.toNat_natCast, hx, s2, w1, e2, if_true, hb2, s3]
      refine ⟨_, rfl, ?_⟩
      rw [bl_append, bl_append, bl_extract, bl_extract, hw, List.drop_zero, List.take_of_length_le (l := bl t) (i := t.size) (by omega), show ((n : Int) + (m.size : Int)).toNat = n + (bl m).length by omega]
    · have e2 : ¬ ((n : Int) + (m.size : Int) < (t.size : Int)) := by omega
      have hb2 : inSl (t.size : Int) (t.size : Int) t.size = true := inSl_iff.2 ⟨by omega, by omega, by omega⟩
      have hy : (t.extract t.size t.size).size = 0 := by rw [← bl_len, bl_extract]; simp
      have s3 : small ((t.extract 0 n ++ m).size + 0) = true := small_iff.2 (by rw [ByteArray.size_append, hx]; omega)
      simp only [e1, cond_false, cond_true, hb, Int.toNat_natCast, hx, s2, w1, e2, if_false, hb2, hy, s3]
      refine ⟨_, rfl, ?_⟩
      rw [bl_append, bl_append, bl_extract, bl_extract, hw, List.drop_zero, List.take_of_length_le (l := bl t) (i := t.size) (by omega), List.drop_eq_nil_of_le (by omega), List.drop_eq_nil_of_le (by omega)]

theorem spec_wr {t m : ByteArray} {n : Nat} (hn : n ≤ 100000) (ht : t.size ≤ 100000) (hm : m.size ≤ 100000) : ∃ r, spec_Written.f t n m = some r ∧ bl r = wr (bl t) n (bl m) := by
  unfold spec_Written.f
  rw [(within_ok (n := (n : Int)) (by omega) (by omega)).2]
  simp only [Option.bind_some, Bool.not_true, cond_false]
  have hlt := bl_len t
  have hlm := bl_len m
  have w1 : IntKind.i64.wrap ((n : Int) + (m.size : Int)) = (n : Int) + m.size := wrap_i64 (by omega) (by omega)
  have he : (⟨#[]⟩ : ByteArray).size = 0 := rfl
  have hbe : bl (⟨#[]⟩ : ByteArray) = [] := rfl
  by_cases h : n < t.size
  · have e1 : decide ((n : Int) < (t.size : Int)) = true := by simp; omega
    have hb : inSl 0 (n : Int) t.size = true := inSl_iff.2 ⟨by omega, by omega, by omega⟩
    have hx : (t.extract 0 n).size = n := by rw [← bl_len, bl_extract]; simp; omega
    have s2 : small (n + m.size) = true := small_iff.2 (by omega)
    have hw : wr (bl t) n (bl m) = (bl t).take n ++ bl m ++ (bl t).drop (n + (bl m).length) := by
      unfold wr
      rw [show n - (bl t).length = 0 by omega]
      simp [zs]
    by_cases h3 : n + m.size < t.size
    · have e2 : decide ((n : Int) + (m.size : Int) < (t.size : Int)) = true := by simp; omega
      have hb2 : inSl ((n : Int) + m.size) (t.size : Int) t.size = true := inSl_iff.2 ⟨by omega, by omega, by omega⟩
      have hy : (t.extract ((n : Int) + m.size).toNat t.size).size ≤ t.size := by rw [← bl_len, bl_extract]; simp; omega
      have s3 : small ((t.extract 0 n ++ m).size + (t.extract ((n : Int) + m.size).toNat t.size).size) = true := small_iff.2 (by rw [ByteArray.size_append, hx]; omega)
      simp only [e1, cond_true, hb, Int.toNat_natCast, hx, s2, w1, e2, hb2, s3]
      refine ⟨_, rfl, ?_⟩
      rw [bl_append, bl_append, bl_extract, bl_extract, hw, List.drop_zero, List.take_of_length_le (l := bl t) (i := t.size) (by omega), show ((n : Int) + (m.size : Int)).toNat = n + (bl m).length by omega]
    · have e2 : decide ((n : Int) + (m.size : Int) < (t.size : Int)) = false := by simp; omega
      have s3 : small ((t.extract 0 n ++ m).size + 0) = true := small_iff.2 (by rw [ByteArray.size_append, hx]; omega)
      simp only [e1, cond_true, cond_false, hb, Int.toNat_natCast, hx, s2, w1, e2, he, s3]
      refine ⟨_, rfl, ?_⟩
      rw [bl_append, bl_append, bl_extract, hw, List.drop_zero, hbe, List.drop_eq_nil_of_le (by omega)]
  · have e1 : decide ((n : Int) < (t.size : Int)) = false := by simp; omega
    have w2 : IntKind.i64.wrap ((n : Int) - (t.size : Int)) = (n : Int) - t.size := wrap_i64 (by omega) (by omega)
    have hsn : small ((n : Int) - t.size).toNat = true := small_iff.2 (by omega)
    have hc1 : decide ((0 : Int) ≤ (n : Int) - t.size) = true := by simp; omega
    have hc2 : decide ((n : Int) - t.size ≤ (n : Int) - t.size) = true := by simp
    have hz : (ofBytes (List.replicate ((n : Int) - t.size).toNat 0)).size = n - t.size := by rw [← bl_len, bl_of, List.length_map, List.length_replicate]; omega
    have hbz : bl (ofBytes (List.replicate ((n : Int) - t.size).toNat 0)) = zs (n - t.size) := by
      rw [bl_of, List.map_replicate, show ((n : Int) - (t.size : Int)).toNat = n - t.size by omega]; rfl
    have s1 : small (t.size + (n - t.size)) = true := small_iff.2 (by omega)
    have s2 : small (n + m.size) = true := small_iff.2 (by omega)
    have hs : (t ++ ofBytes (List.replicate ((n : Int) - t.size).toNat 0)).size = n := by rw [ByteArray.size_append, hz]; omega
    have s3 : small ((t ++ ofBytes (List.replicate ((n : Int) - t.size).toNat 0) ++ m).size + 0) = true := small_iff.2 (by rw [ByteArray.size_append, hs]; omega)
    simp only [e1, cond_false, cond_true, w2, hc1, hc2, hsn, Bool.and_self, hz, s1, hs, s2, he, s3]
    refine ⟨_, rfl, ?_⟩
    rw [bl_append, bl_append, bl_append, hbz, hbe]
    unfold wr
    rw [List.take_of_length_le (by omega), List.drop_eq_nil_of_le (by omega), hlt]

/-- data cut to a length -/
def ct (t : List UInt8) (n : Nat) : List UInt8 := t.take n ++ zs (n - t.length)
theorem cut_ok {t : ByteArray} {n : Nat} (hn : n ≤ 100000) (ht : t.size ≤ 200000) : ∃ r, impl_Cut.f t n = some r ∧ bl r = ct (bl t) n := by
  unfold impl_Cut.f
  rw [(within_ok (n := (n : Int)) (by omega) (by omega)).1]
  simp only [Option.bind_some, Bool.not_true, cond_false]
  have hlt := bl_len t
  by_cases h : t.size < n
  · have e1 : decide ((t.size : Int) < (n : Int)) = true := by simp; omega
    obtain ⟨r, h1, h2⟩ := rep0 (n := (n : Int) - t.size) (by omega) (by omega)
    have hr : r.size = n - t.size := by rw [← bl_len, h2, zs_len]; omega
    have s1 : small (t.size + r.size) = true := small_iff.2 (by omega)
    rw [wrap_i64 (x := (n : Int) - t.size) (by omega) (by omega), h1]
    simp only [e1, cond_true, Option.bind_some, s1]
    refine ⟨_, rfl, ?_⟩
    rw [bl_append, h2]
    unfold ct
    rw [List.take_of_length_le (by omega), hlt, show ((n : Int) - (t.size : Int)).toNat = n - t.size by omega]
  · have e1 : decide ((t.size : Int) < (n : Int)) = false := by simp; omega
    have hb : inSl 0 (n : Int) t.size = true := inSl_iff.2 ⟨by omega, by omega, by omega⟩
    simp only [e1, cond_false, cond_true, hb, Int.toNat_natCast]
    refine ⟨_, rfl, ?_⟩
    rw [bl_extract]
    unfold ct
    rw [show n - (bl t).length = 0 by omega]
    simp [zs]
end Go.Proofs.Ytocpbdnkmlpehaa
/- The law FnWritten answers true. -/
namespace Go.Proofs.Ytocpbdnkmlpehaa
open Go Go.VE Go.Proofs Go.PL

def hd (t : List UInt8) (n : Nat) : List UInt8 := t.take n ++ zs (n - t.length)
theorem hd_len (t : List UInt8) (n : Nat) : (hd t n).length = n := by simp [hd, zs]; omega
theorem wr_eq (t m : List UInt8) (n : Nat) : wr t n m = hd t n ++ (m ++ t.drop (n + m.length)) := by simp [wr, hd]
theorem wr_len (t m : List UInt8) (n : Nat) : (wr t n m).length = n + (m.length + (t.length - (n + m.length))) := by
  rw [wr_eq, List.length_append, hd_len, List.length_append, List.length_drop]
theorem wr_mid (t m : List UInt8) (n : Nat) : ((wr t n m).take (n + m.length)).drop n = m := by
  rw [wr_eq, List.drop_take, List.drop_append_of_le_length (by rw [hd_len]; exact Nat.le_refl _), List.drop_eq_nil_of_le (by rw [hd_len]; exact Nat.le_refl _), List.nil_append, Nat.add_sub_cancel_left]
  simp
theorem wr_low {t m : List UInt8} {n i : Nat} (h : i < n) (h' : i < t.length) : (wr t n m).getD i 0 = t.getD i 0 := by
  rw [wr_eq, List.getD_eq_getElem?_getD, List.getD_eq_getElem?_getD, List.getElem?_append_left (by rw [hd_len]; exact h)]
  unfold hd
  rw [List.getElem?_append_left (by simp; omega), List.getElem?_take_of_lt h]
theorem wr_high {t m : List UInt8} {n i : Nat} (h : n + m.length ≤ i) : (wr t n m).getD i 0 = t.getD i 0 := by
  rw [wr_eq, List.getD_eq_getElem?_getD, List.getD_eq_getElem?_getD, List.getElem?_append_right (by rw [hd_len]; omega), hd_len, List.getElem?_append_right (by omega), List.getElem?_drop]
  congr 2
  omega
theorem ct_wr (t m : List UInt8) (n : Nat) : ct (wr t n m) n = ct t n := by
  have e : ct t n = hd t n := rfl
  rw [e]
  unfold ct
  have hl := wr_len t m n
  rw [show n - (wr t n m).length = 0 by omega, wr_eq, List.take_append_of_le_length (by rw [hd_len]; exact Nat.le_refl _), List.take_of_length_le (by rw [hd_len]; exact Nat.le_refl _)]
  simp [zs]
theorem ct_full (t : List UInt8) : ct t t.length = t := by simp [ct, zs]

theorem law_loop {α : Type} {t m r : ByteArray} {n : Nat} {K0 : Bool → Option α} {K1 : Option α} (hr : bl r = wr (bl t) n (bl m)) (ht : t.size ≤ 100000) (hn : n ≤ 100000) (hm : m.size ≤ 100000) :
    ∀ (k i : Nat), i ≤ t.size → t.size - i < k → laws_FnWritten.l0 t (n : Int) m r K0 K1 k (i : Int) = K1
  | 0, _, _, h => by omega
  | k + 1, i, hi, hk => by
    simp only [laws_FnWritten.l0]
    have hlt := bl_len t
    have hlm := bl_len m
    have hlr := bl_len r
    have hl := wr_len (bl t) (bl m) n
    rw [hr] at hlr
    have w1 : IntKind.i64.wrap ((n : Int) + (m.size : Int)) = (n : Int) + m.size := wrap_i64 (by omega) (by omega)
    have w2 : IntKind.i64.wrap ((i : Int) + 1) = ((i + 1 : Nat) : Int) := by rw [wrap_i64 (by omega) (by omega)]; omega
    by_cases h1 : i < t.size
    · have e1 : decide ((i : Int) < (t.size : Int)) = true := by simp; omega
      have b1 : inB (i : Int) r.size = true := inB_iff.2 ⟨by omega, by omega⟩
      have b2 : inB (i : Int) t.size = true := inB_iff.2 ⟨by omega, by omega⟩
      by_cases h2 : i < n
      · have e2 : decide ((i : Int) < (n : Int)) = true := by simp; omega
        have e3 : byteAt r (i : Int) = byteAt t (i : Int) := by
          rw [byteAt_eq, byteAt_eq, hr, Int.toNat_natCast, wr_low h2 (by omega)]
        simp only [e1, e2, b1, b2, e3, cond_true, decide_true, Bool.not_true, cond_false, w2]
        exact law_loop hr ht hn hm k (i + 1) (by omega) (by omega)
      · have e2 : decide ((i : Int) < (n : Int)) = false := by simp; omega
        by_cases h3 : n + m.size ≤ i
        · have e4 : decide ((n : Int) + (m.size : Int) ≤ (i : Int)) = true := by simp; omega
          have e3 : byteAt r (i : Int) = byteAt t (i : Int) := by
            rw [byteAt_eq, byteAt_eq, hr, Int.toNat_natCast, wr_high (by omega)]
          simp only [e1, e2, e4, b1, b2, e3, cond_true, decide_true, Bool.not_true, cond_false, w1, w2]
          exact law_loop hr ht hn hm k (i + 1) (by omega) (by omega)
        · have e4 : decide ((n : Int) + (m.size : Int) ≤ (i : Int)) = false := by simp; omega
          simp only [e1, e2, e4, cond_true, cond_false, w1, w2]
          exact law_loop hr ht hn hm k (i + 1) (by omega) (by omega)
    · have e1 : decide ((i : Int) < (t.size : Int)) = false := by simp; omega
      simp only [e1, cond_false]

theorem fnWritten_true (xs : List Int) : laws_FnWritten.f xs = some true := by
  unfold laws_FnWritten.f laws_big.f
  simp only [Option.bind_some]
  by_cases hbig : (1048576 : Int) < (List.length xs : Int)
  · simp only [hbig, decide_true, cond_true]
  · simp only [hbig, decide_false, cond_false]
    obtain ⟨t, n, m, hd, ht, hn, hm⟩ := draw_ok (xs := xs) (by omega)
    rw [hd]
    simp only [Option.bind_some]
    have hlt := bl_len t
    have hlm := bl_len m
    obtain ⟨c, hc1, hc2⟩ := cut_ok (t := t) (n := t.size) (by omega) (by omega)
    have hc : c = t := bl_ext (by rw [hc2, ← hlt, ct_full])
    subst hc
    rcases hn with rfl | ⟨hn0, hn9⟩
    · have e1 : impl_Written.f c (-1) m = some c := rfl
      have e2 : spec_Written.f c (-1) m = some c := rfl
      have e3 : decide ((-1 : Int) < 0) = true := rfl
      simp only [e1, e2, hc1, e3, Option.bind_some, decide_true, Bool.not_true, cond_false, cond_true]
    · obtain ⟨n, rfl⟩ := Int.eq_ofNat_of_zero_le hn0
      obtain ⟨r, hr1, hr⟩ := impl_wr (t := c) (m := m) (n := n) (by omega) (by omega) (by omega)
      obtain ⟨r', hr1', hr'⟩ := spec_wr (t := c) (m := m) (n := n) (by omega) (by omega) (by omega)
      have e : r' = r := bl_ext (by rw [hr, hr'])
      subst e
      have hlr := bl_len r'
      rw [hr, wr_len] at hlr
      have w1 : IntKind.i64.wrap ((n : Int) + (m.size : Int)) = (n : Int) + m.size := wrap_i64 (by omega) (by omega)
      have e3 : decide ((n : Int) < 0) = false := decide_eq_false (by omega)
      have e4 : decide ((r'.size : Int) < (n : Int) + m.size) = false := by simp; omega
      have b1 : inSl (n : Int) ((n : Int) + m.size) r'.size = true := inSl_iff.2 ⟨by omega, by omega, by omega⟩
      have e5 : r'.extract n ((n : Int) + m.size).toNat = m := by
        apply bl_ext
        rw [bl_extract, show ((n : Int) + (m.size : Int)).toNat = n + (bl m).length by omega, hr, wr_mid]
      have e6 : decide ((r'.size : Int) < (c.size : Int)) = false := by simp; omega
      obtain ⟨u, hu1, hu2⟩ := cut_ok (t := r') (n := n) (by omega) (by omega)
      obtain ⟨v, hv1, hv2⟩ := cut_ok (t := c) (n := n) (by omega) (by omega)
      have e7 : u = v := bl_ext (by rw [hu2, hv2, hr, ct_wr])
      simp only [hr1, hr1', hc1, Option.bind_some, decide_true, Bool.not_true, cond_false, w1, e3, e4, b1, cond_true, Int.toNat_natCast, e5, e6, hu1, hv1, e7]
      exact law_loop hr (by omega) (by omega) (by omega) fuel 0 (by omega) (by rw [fuel_eq]; omega)
end Go.Proofs.Ytocpbdnkmlpehaa
