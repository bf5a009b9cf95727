/- Contract: slices.Repeat of one element. No condition. -/
import Derived.Test.YtleiddajojgmmaaDoorMc
import Derived.Test.YtleiddajojgmmaaDoorCb
namespace Go.Proofs.YtleiddajojgmmaaDoor
open Go Go.RowKit VC
set_option linter.unusedSimpArgs false
set_option linter.unusedVariables false

theorem wrapU' {n : Nat} (h : n < 18446744073709551616) : IntKind.u64.wrap (n : Int) = n := by
  have : IntKind.u64.wrap (n : Int) = (n : Int) % 2 ^ 64 := by simp [IntKind.wrap, IntKind.signed, IntKind.bits]
  rw [this]; omega
theorem ofIntU {n : Nat} (h : n < 18446744073709551616) : (BitVec.ofInt 64 (n : Int)).toNat = n := by
  rw [BitVec.toNat_ofInt]; omega
theorem shrU {a i : Nat} (hi : i ≤ 64) : iShr .u64 (a : Int) (i : Int) = ((a >>> i : Nat) : Int) := by
  have e : min (Int.toNat (i : Int)) IntKind.u64.bits = i := by
    have : IntKind.u64.bits = 64 := rfl
    rw [this]; simp; omega
  simp only [iShr, e]
  rw [Int.fdiv_eq_ediv_of_nonneg _ (by exact_mod_cast Nat.zero_le (2 ^ i)), Nat.shiftRight_eq_div_pow]
  simp
theorem andU {a b : Nat} (ha : a < 18446744073709551616) (hb : b < 18446744073709551616) : iAnd .u64 (a : Int) (b : Int) = ((a &&& b : Nat) : Int) := by
  have h : a &&& b < 18446744073709551616 := Nat.lt_of_le_of_lt Nat.and_le_left ha
  show IntKind.u64.wrap (((BitVec.ofInt 64 (a : Int) &&& BitVec.ofInt 64 (b : Int)).toNat : Nat) : Int) = _
  rw [BitVec.toNat_and, ofIntU ha, ofIntU hb, wrapU' h]
theorem mul_c {a b : Nat} (ha : a < 65536) (hb : b < 65536) {w : World} : Calls Tryd.prog 65 #[.int .u64 (a : Int), .int .u64 (b : Int)] w (Ret w (.tuple #[.int .u64 0, .int .u64 ((a * b : Nat) : Int)])) := by
  refine f65_calls _ _ ?_
  have h64 : Calls Tryd.prog 77 #[.int .u64 (a : Int), .int .u64 (b : Int)] w (Ret w (.tuple #[.int .u64 0, .int .u64 ((a * b : Nat) : Int)])) := by
    refine f77_calls _ _ ?_
    have hab : a * b < 65536 * 65536 := Nat.mul_lt_mul'' ha hb
    have s32 : ∀ {x : Nat}, x < 4294967296 → iShr .u64 (x : Int) 32 = 0 := fun {x} hx => by
      have := shrU (a := x) (i := 32) (by omega)
      rw [show ((32 : Nat) : Int) = (32 : Int) from rfl] at this
      rw [this, Nat.shiftRight_eq_div_pow, Nat.div_eq_of_lt (by omega)]; rfl
    have a32 : ∀ {x : Nat}, x < 4294967296 → iAnd .u64 (x : Int) 4294967295 = (x : Int) := fun {x} hx => by
      have := andU (a := x) (b := 4294967295) (by omega) (by omega)
      rw [show ((4294967295 : Nat) : Int) = (4294967295 : Int) from rfl] at this
      rw [this, show (4294967295 : Nat) = 2 ^ 32 - 1 from rfl, Nat.and_two_pow_sub_one_of_lt_two_pow (by omega)]
    have w0 : IntKind.wrap .u64 0 = 0 := by decide
    have hm : IntKind.wrap .u64 ((a : Int) * (b : Int)) = ((a * b : Nat) : Int) := by rw [show (a : Int) * (b : Int) = ((a * b : Nat) : Int) by simp, wrapU' (by omega)]
    have z : iAnd .u64 (0 : Int) 4294967295 = 0 := a32 (x := 0) (by omega)
    have z2 : iShr .u64 (0 : Int) 32 = 0 := s32 (x := 0) (by omega)
    have e1 : iShr .u64 ((a * b : Nat) : Int) 32 = 0 := s32 (by omega)
    refine ⟨by omega, by omega, by omega, by omega, by omega, ?_⟩
    rw [s32 (x := a) (by omega), s32 (x := b) (by omega), a32 (x := a) (by omega), a32 (x := b) (by omega), hm, e1]
    simp only [Int.zero_mul, Int.mul_zero, w0, Int.add_zero, z, z2]
    exact ⟨rfl, Grow.refl w⟩
  refine h64.mono ?_
  rintro e w' ⟨rfl, g⟩
  exact ⟨_, _, rfl, rfl, g⟩
theorem sz_int : (Tryd.prog.info? 3).map (·.size) = some 1 := by kernel_rfl
def rowR (m n : Nat) (z : Int) : List Value := List.replicate m (.int .i64 z) ++ List.replicate (n - m) (.int .i64 0)
theorem rowR_len {m n : Nat} (h : m ≤ n) (z : Int) : (rowR m n z).length = n := by simp [rowR]; omega
theorem rowR_copy {m n k : Nat} {z : Int} (hk : m + k ≤ n) : (rowR m n z).take m ++ List.replicate k (Value.int .i64 z) ++ (rowR m n z).drop (m + k) = rowR (m + k) n z := by
  unfold rowR
  have e1 : (List.replicate m (Value.int .i64 z) ++ List.replicate (n - m) (Value.int .i64 0)).take m = List.replicate m (Value.int .i64 z) := by rw [List.take_append_of_le_length (by simp)]; simp
  have e2 : (List.replicate m (Value.int .i64 z) ++ List.replicate (n - m) (Value.int .i64 0)).drop (m + k) = List.replicate (n - (m + k)) (Value.int .i64 0) := by
    rw [List.drop_append, List.drop_replicate, List.drop_replicate]
    simp
    omega
  rw [e1, e2, List.replicate_append_replicate]
theorem copy_row {w : World} {g m k n : Nat} {z : Int} {a : Addr} {sLen sCap dLen dCap : Nat} (hg : w.heap[g]? = some (.cells (rowR m n z).toArray 3 (0, 0))) (hk : m + k ≤ n) (hmn : m ≤ n) (hmin : k = Nat.min sLen dLen) (hsrc : ∀ j, j < k → w.cell? (a.add j) = some (.int .i64 z)) {K : Int → World → Prop}
    (hK : ∀ w', Fr (fun q => q = g) w w' → w'.heap[g]? = some (.cells (rowR (m + k) n z).toArray 3 (0, 0)) → K (k : Int) w') :
    ∃ t : Int, ∃ w' : World, (Builtin.copy_ #[22, 22] 3 #[.slice (some ⟨g, m, none⟩) dLen dCap, .slice (some a) sLen sCap]).run Tryd.prog w = .ok (.int .i64 t) w' ∧ K t w' := by
  have hr := run_copy_row (P := Tryd.prog) w 22 22 3 3 g m dLen dCap a sLen sCap _ _ (List.replicate k (.int .i64 z)) el_int.und sz_int hg (by simpa using hmin) (fun j v hj => by
      have hjk : j < k := by have := (List.getElem?_eq_some_iff.1 hj).1; simpa using this
      have : v = .int .i64 z := by
        have := (List.getElem?_eq_some_iff.1 hj).2
        simpa using this.symm
      rw [this]; exact hsrc j hjk) (by simp [rowR_len hmn]; omega) (fun v hv => by rw [List.eq_of_mem_replicate hv]; rfl)
  simp only [List.length_replicate] at hr
  refine ⟨_, _, hr, hK _ ⟨rfl, rfl, rfl, by simp [World.setRow], fun q _ hq => setRow_other w g q _ hq⟩ ?_⟩
  have := setRow_heap w g (rowR m n z).toArray ((rowR m n z).toArray.toList.take m ++ List.replicate k (Value.int .i64 z) ++ (rowR m n z).toArray.toList.drop (m + k)).toArray 3 (0, 0) hg
  refine this.trans ?_
  rw [← rowR_copy hk]
/-- slices.Repeat of one element. -/
theorem repeat_c {w : World} {a : Addr} {z : Int} {n : Nat} (hs : SlI w (.slice (some a) 1 1) [z]) (h1 : 1 ≤ n) (hn : n ≤ 4096) : Calls Tryd.prog 43 #[.slice (some a) 1 1, .int .i64 (n : Int)] w fun e w' => ∃ (g : Nat), e = .returned (.slice (some ⟨g, 0, none⟩) n n) ∧ OwnI w' w.heap.size (.slice (some ⟨g, 0, none⟩) n n) (List.replicate n z) ∧ Grow w w' := by
  refine f43_calls _ _ ?_
  refine cF (by simp) ⟨_, _, _, rfl, ?_⟩
  rw [wrapU' (by omega), wrapU' (by omega)]
  refine (mul_c (a := 1) (b := n) (by omega) (by omega)).mono ?_
  rintro e w1 ⟨rfl, g1⟩
  refine ⟨_, _, rfl, cF (by simp) (cF (by simp; omega) ?_)⟩
  have hw : IntKind.wrap .i64 ((1 * n : Nat) : Int) = (n : Int) := by rw [wrap_nat (by omega)]; simp
  rw [hw]
  refine ⟨⟨by omega, by omega, by omega, by omega⟩, fun w2 hw2 => ?_⟩
  simp only [Int.toNat_natCast] at hw2 ⊢
  have g2 := alloc_grow hw2
  have s2 := alloc_size hw2
  have hcell : ∀ {w'}, Grow w w' → w'.cell? a = some (.int .i64 z) := fun g => by
    obtain ⟨a', c', e, _, _, _, h4⟩ := (hs.grow g).ex
    obtain ⟨b, e1, e2⟩ := h4 0 (VC.encI z) rfl
    simp only [Value.slice.injEq] at e
    rw [e1] at e
    obtain ⟨e3, -⟩ := e
    rw [Option.some.inj e3, ← add0 b]
    exact e2
  have hmade : (madeCells #[Value.int .i64 0] (n * 1)) = (rowR 0 n z).toArray := by
    apply Array.ext'
    rw [made_toList]
    simp [rowR]
  have hrow : w2.heap[w1.heap.size]? = some (.cells (rowR 0 n z).toArray 3 (0, 0)) := by
    subst hw2; rw [hmade]; exact heap_alloc_new w1 _
  refine copy_row (m := 0) (k := 1) hrow (by omega) (by omega) (show 1 = min 1 n by omega) (fun j hj => by
    have : j = 0 := by omega
    subst this
    rw [add0]; exact hcell (g1.trans g2)) fun w3 f3 hrow3 => ?_
  have g13 : Grow w1 w3 := g2.fr f3 fun i hi e => by omega
  refine ⟨fun t w' => ∃ m : Nat, t = m ∧ 1 ≤ m ∧ m ≤ n ∧ w'.heap[w1.heap.size]? = some (.cells (rowR m n z).toArray 3 (0, 0)) ∧ Grow w1 w', fun t _ => n - t.toNat, ⟨1, rfl, by omega, h1, hrow3, g13⟩, ?_⟩
  rintro - t w4 ⟨m, rfl, hm1, hmn, hrow4, g4⟩
  refine ⟨_, _, _, rfl, condD (fun hlt d => ?_) (fun hge => ?_)⟩
  · have hlt' : m < n := by omega
    refine ⟨_, _, _, rfl, m, n, n, ⟨rfl, rfl, rfl, by simp, by omega, by omega, by omega⟩, _, _, _, rfl, 0, m, n, ⟨rfl, rfl, rfl, by simp, by omega, by omega, by omega⟩, ?_⟩
    rw [if_neg (by omega), if_neg (by omega)]
    simp only [Option.map_some, Nat.zero_mul, Nat.mul_one, Nat.sub_zero]
    rw [add0, Addr.add0]
    refine copy_row (w := VC.dr w4 d) (m := m) (k := min m (n - m)) hrow4 (by omega) hmn rfl (fun j hj => ?_) fun w5 f5 hrow5 => ?_
    · have := row_cells (w := VC.dr w4 d) hrow4 j (.int .i64 z) (by show (rowR m n z)[j]? = _; unfold rowR; rw [List.getElem?_append_left (by simp; omega), List.getElem?_replicate, if_pos (by omega)])
      exact this
    · refine ⟨by unfold inR; omega, ⟨m + min m (n - m), by omega, by omega, by omega, hrow5, (g4.dr d).fr f5 fun i hi e => by omega⟩, by first | omega | (dsimp only; omega)⟩
  · have : m = n := by omega
    subst this
    have hfull : (rowR m m z) = List.replicate m (.int .i64 z) := by simp [rowR]
    refine ⟨_, rfl, ?_, g1.trans g4⟩
    refine ⟨by simp, .inr ⟨_, m, _, by simp, g1.size, hrow4, by simp, by simp [maxLen]; omega, by simp [rowR_len (Nat.le_refl _)], ?_⟩⟩
    simp only
    rw [hfull]
    simp [VC.encI]
end Go.Proofs.YtleiddajojgmmaaDoor
