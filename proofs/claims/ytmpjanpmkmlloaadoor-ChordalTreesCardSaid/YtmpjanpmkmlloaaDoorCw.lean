/- Contracts: slices.Repeat of one element; package chordal: Tree. The table of bits is laid (Tab). -/
import Derived.Test.YtmpjanpmkmlloaaDoorCn
import Derived.Test.YtmpjanpmkmlloaaDoorCo
import Derived.Test.YtmpjanpmkmlloaaDoorCp
import Derived.Test.YtmpjanpmkmlloaaDoorVq
import Derived.Test.YtmpjanpmkmlloaaDoorGt
namespace Go.Proofs.YtmpjanpmkmlloaaDoor
open Go Go.RowKit VC
set_option linter.unusedSimpArgs false
set_option linter.unusedVariables false

theorem wrapU' {n : Nat} (h : n < 18446744073709551616) : IntKind.u64.wrap (n : Int) = n := by
  have : IntKind.u64.wrap (n : Int) = (n : Int) % 2 ^ 64 := by simp [IntKind.wrap, IntKind.signed, IntKind.bits]
  rw [this]; omega
theorem ofIntU {n : Nat} (h : n < 18446744073709551616) : (BitVec.ofInt 64 (n : Int)).toNat = n := by
  rw [BitVec.toNat_ofInt]; omega
theorem shrU {a i : Nat} (hi : i ≤ 64) : iShr .u64 (a : Int) (i : Int) = ((a >>> i : Nat) : Int) := by
  have e : min (Int.toNat (i : Int)) IntKind.u64.bits = i := by
    have : IntKind.u64.bits = 64 := rfl
    rw [this]; simp; omega
  simp only [iShr, e]
  rw [Int.fdiv_eq_ediv_of_nonneg _ (by exact_mod_cast Nat.zero_le (2 ^ i)), Nat.shiftRight_eq_div_pow]
  simp
theorem andU {a b : Nat} (ha : a < 18446744073709551616) (hb : b < 18446744073709551616) : iAnd .u64 (a : Int) (b : Int) = ((a &&& b : Nat) : Int) := by
  have h : a &&& b < 18446744073709551616 := Nat.lt_of_le_of_lt Nat.and_le_left ha
  show IntKind.u64.wrap (((BitVec.ofInt 64 (a : Int) &&& BitVec.ofInt 64 (b : Int)).toNat : Nat) : Int) = _
  rw [BitVec.toNat_and, ofIntU ha, ofIntU hb, wrapU' h]
theorem mul_c {a b : Nat} (ha : a < 65536) (hb : b < 65536) {w : World} : Calls Tryd.prog 114 #[.int .u64 (a : Int), .int .u64 (b : Int)] w (Ret w (.tuple #[.int .u64 0, .int .u64 ((a * b : Nat) : Int)])) := by
  refine f114_calls _ _ ?_
  have h64 : Calls Tryd.prog 120 #[.int .u64 (a : Int), .int .u64 (b : Int)] w (Ret w (.tuple #[.int .u64 0, .int .u64 ((a * b : Nat) : Int)])) := by
    refine f120_calls _ _ ?_
    have hab : a * b < 65536 * 65536 := Nat.mul_lt_mul'' ha hb
    have s32 : ∀ {x : Nat}, x < 4294967296 → iShr .u64 (x : Int) 32 = 0 := fun {x} hx => by
      have := shrU (a := x) (i := 32) (by omega)
      rw [show ((32 : Nat) : Int) = (32 : Int) from rfl] at this
      rw [this, Nat.shiftRight_eq_div_pow, Nat.div_eq_of_lt (by omega)]; rfl
    have a32 : ∀ {x : Nat}, x < 4294967296 → iAnd .u64 (x : Int) 4294967295 = (x : Int) := fun {x} hx => by
      have := andU (a := x) (b := 4294967295) (by omega) (by omega)
      rw [show ((4294967295 : Nat) : Int) = (4294967295 : Int) from rfl] at this
      rw [this, show (4294967295 : Nat) = 2 ^ 32 - 1 from rfl, Nat.and_two_pow_sub_one_of_lt_two_pow (by omega)]
    have w0 : IntKind.wrap .u64 0 = 0 := by decide
    have hm : IntKind.wrap .u64 ((a : Int) * (b : Int)) = ((a * b : Nat) : Int) := by rw [show (a : Int) * (b : Int) = ((a * b : Nat) : Int) by simp, wrapU' (by omega)]
    have z : iAnd .u64 (0 : Int) 4294967295 = 0 := a32 (x := 0) (by omega)
    have z2 : iShr .u64 (0 : Int) 32 = 0 := s32 (x := 0) (by omega)
    have e1 : iShr .u64 ((a * b : Nat) : Int) 32 = 0 := s32 (by omega)
    refine ⟨by omega, by omega, by omega, by omega, by omega, ?_⟩
    rw [s32 (x := a) (by omega), s32 (x := b) (by omega), a32 (x := a) (by omega), a32 (x := b) (by omega), hm, e1]
    simp only [Int.zero_mul, Int.mul_zero, w0, Int.add_zero, z, z2]
    exact ⟨rfl, Grow.refl w⟩
  refine h64.mono ?_
  rintro e w' ⟨rfl, g⟩
  exact ⟨_, _, rfl, rfl, g⟩
theorem sz_int : (Tryd.prog.info? 3).map (·.size) = some 1 := by kernel_rfl
def rowR (m n : Nat) (z : Int) : List Value := List.replicate m (.int .i64 z) ++ List.replicate (n - m) (.int .i64 0)
theorem rowR_len {m n : Nat} (h : m ≤ n) (z : Int) : (rowR m n z).length = n := by simp [rowR]; omega
theorem rowR_copy {m n k : Nat} {z : Int} (hk : m + k ≤ n) : (rowR m n z).take m ++ List.replicate k (Value.int .i64 z) ++ (rowR m n z).drop (m + k) = rowR (m + k) n z := by
  unfold rowR
  have e1 : (List.replicate m (Value.int .i64 z) ++ List.replicate (n - m) (Value.int .i64 0)).take m = List.replicate m (Value.int .i64 z) := by rw [List.take_append_of_le_length (by simp)]; simp
  have e2 : (List.replicate m (Value.int .i64 z) ++ List.replicate (n - m) (Value.int .i64 0)).drop (m + k) = List.replicate (n - (m + k)) (Value.int .i64 0) := by
    rw [List.drop_append, List.drop_replicate, List.drop_replicate]
    simp
    omega
  rw [e1, e2, List.replicate_append_replicate]
theorem copy_row {w : World} {g m k n : Nat} {z : Int} {a : Addr} {sLen sCap dLen dCap : Nat} (hg : w.heap[g]? = some (.cells (rowR m n z).toArray 3 (0, 0))) (hk : m + k ≤ n) (hmn : m ≤ n) (hmin : k = Nat.min sLen dLen) (hsrc : ∀ j, j < k → w.cell? (a.add j) = some (.int .i64 z)) {K : Int → World → Prop}
    (hK : ∀ w', Fr (fun q => q = g) w w' → w'.heap[g]? = some (.cells (rowR (m + k) n z).toArray 3 (0, 0)) → K (k : Int) w') :
    ∃ t : Int, ∃ w' : World, (Builtin.copy_ #[22, 22] 3 #[.slice (some ⟨g, m, none⟩) dLen dCap, .slice (some a) sLen sCap]).run Tryd.prog w = .ok (.int .i64 t) w' ∧ K t w' := by
  have hr := run_copy_row (P := Tryd.prog) w 22 22 3 3 g m dLen dCap a sLen sCap _ _ (List.replicate k (.int .i64 z)) el_int.und sz_int hg (by simpa using hmin) (fun j v hj => by
      have hjk : j < k := by have := (List.getElem?_eq_some_iff.1 hj).1; simpa using this
      have : v = .int .i64 z := by
        have := (List.getElem?_eq_some_iff.1 hj).2
        simpa using this.symm
      rw [this]; exact hsrc j hjk) (by simp [rowR_len hmn]; omega) (fun v hv => by rw [List.eq_of_mem_replicate hv]; rfl)
  simp only [List.length_replicate] at hr
  refine ⟨_, _, hr, hK _ ⟨rfl, rfl, rfl, by simp [World.setRow], fun q _ hq => setRow_other w g q _ hq⟩ ?_⟩
  have := setRow_heap w g (rowR m n z).toArray ((rowR m n z).toArray.toList.take m ++ List.replicate k (Value.int .i64 z) ++ (rowR m n z).toArray.toList.drop (m + k)).toArray 3 (0, 0) hg
  refine this.trans ?_
  rw [← rowR_copy hk]
/-- slices.Repeat of one element. -/
theorem repeat_c {w : World} {a : Addr} {z : Int} {n : Nat} (hs : SlI w (.slice (some a) 1 1) [z]) (h1 : 1 ≤ n) (hn : n ≤ 4096) : Calls Tryd.prog 97 #[.slice (some a) 1 1, .int .i64 (n : Int)] w fun e w' => ∃ (g : Nat), e = .returned (.slice (some ⟨g, 0, none⟩) n n) ∧ OwnI w' w.heap.size (.slice (some ⟨g, 0, none⟩) n n) (List.replicate n z) ∧ Grow w w' := by
  refine f97_calls _ _ ?_
  refine cF (by simp) ⟨_, _, _, rfl, ?_⟩
  rw [wrapU' (by omega), wrapU' (by omega)]
  refine (mul_c (a := 1) (b := n) (by omega) (by omega)).mono ?_
  rintro e w1 ⟨rfl, g1⟩
  refine ⟨_, _, rfl, cF (by simp) (cF (by simp; omega) ?_)⟩
  have hw : IntKind.wrap .i64 ((1 * n : Nat) : Int) = (n : Int) := by rw [wrap_nat (by omega)]; simp
  rw [hw]
  refine ⟨⟨by omega, by omega, by omega, by omega⟩, fun w2 hw2 => ?_⟩
  simp only [Int.toNat_natCast] at hw2 ⊢
  have g2 := alloc_grow hw2
  have s2 := alloc_size hw2
  have hcell : ∀ {w'}, Grow w w' → w'.cell? a = some (.int .i64 z) := fun g => by
    obtain ⟨a', c', e, _, _, _, h4⟩ := (hs.grow g).ex
    obtain ⟨b, e1, e2⟩ := h4 0 (encI z) rfl
    simp only [Value.slice.injEq] at e
    rw [e1] at e
    obtain ⟨e3, -⟩ := e
    rw [Option.some.inj e3, ← add0 b]
    exact e2
  have hmade : (madeCells #[Value.int .i64 0] (n * 1)) = (rowR 0 n z).toArray := by
    apply Array.ext'
    rw [made_toList]
    simp [rowR]
  have hrow : w2.heap[w1.heap.size]? = some (.cells (rowR 0 n z).toArray 3 (0, 0)) := by
    subst hw2; rw [hmade]; exact heap_alloc_new w1 _
  refine copy_row (m := 0) (k := 1) hrow (by omega) (by omega) (show 1 = min 1 n by omega) (fun j hj => by
    have : j = 0 := by omega
    subst this
    rw [add0]; exact hcell (g1.trans g2)) fun w3 f3 hrow3 => ?_
  have g13 : Grow w1 w3 := g2.fr f3 fun i hi e => by omega
  refine ⟨fun t w' => ∃ m : Nat, t = m ∧ 1 ≤ m ∧ m ≤ n ∧ w'.heap[w1.heap.size]? = some (.cells (rowR m n z).toArray 3 (0, 0)) ∧ Grow w1 w', fun t _ => n - t.toNat, ⟨1, rfl, by omega, h1, hrow3, g13⟩, ?_⟩
  rintro - t w4 ⟨m, rfl, hm1, hmn, hrow4, g4⟩
  refine ⟨_, _, _, rfl, condD (fun hlt d => ?_) (fun hge => ?_)⟩
  · have hlt' : m < n := by omega
    refine ⟨_, _, _, rfl, m, n, n, ⟨rfl, rfl, rfl, by simp, by omega, by omega, by omega⟩, _, _, _, rfl, 0, m, n, ⟨rfl, rfl, rfl, by simp, by omega, by omega, by omega⟩, ?_⟩
    rw [if_neg (by omega), if_neg (by omega)]
    simp only [Option.map_some, Nat.zero_mul, Nat.mul_one, Nat.sub_zero]
    rw [add0, Addr.add0]
    refine copy_row (w := VC.dr w4 d) (m := m) (k := min m (n - m)) hrow4 (by omega) hmn rfl (fun j hj => ?_) fun w5 f5 hrow5 => ?_
    · have := row_cells (w := VC.dr w4 d) hrow4 j (.int .i64 z) (by show (rowR m n z)[j]? = _; unfold rowR; rw [List.getElem?_append_left (by simp; omega), List.getElem?_replicate, if_pos (by omega)])
      exact this
    · refine ⟨by unfold inR; omega, ⟨m + min m (n - m), by omega, by omega, by omega, hrow5, (g4.dr d).fr f5 fun i hi e => by omega⟩, by first | omega | (dsimp only; omega)⟩
  · have : m = n := by omega
    subst this
    have hfull : (rowR m m z) = List.replicate m (.int .i64 z) := by simp [rowR]
    refine ⟨_, rfl, ?_, g1.trans g4⟩
    refine ⟨by simp, .inr ⟨_, m, _, by simp, g1.size, hrow4, by simp, by simp [maxLen]; omega, by simp [rowR_len (Nat.le_refl _)], ?_⟩⟩
    simp only
    rw [hfull]
    simp [encI]
/-! ## Tree -/
theorem el_map : Tryd.prog.underlying 98 = some (.map 3 4) ∧ Tryd.prog.underlying 3 = some (.int .i64) ∧ Tryd.prog.info? 4 = some Tryd.t4 ∧ Tryd.t4.zero = some (.bool false) := ⟨by kernel_rfl, by kernel_rfl, by kernel_rfl, by kernel_rfl⟩
def keysT (kv : List (Int × Value)) (A : List Nat) : Prop := ∀ k : Nat, getM kv (k : Int) = if k ∈ A then some (.bool true) else none
theorem keysT.upd {kv : List (Int × Value)} {A : List Nat} (h : keysT kv A) (i : Nat) : keysT (updM kv (i : Int) (.bool true)) (A ++ [i]) := fun k => by
  rw [getM_upd, h k]
  by_cases e : k = i
  · subst e; simp
  · have : ¬ (k : Int) = (i : Int) := by omega
    simp [e, this]
/-- The best so far, of the pairs (e, c) ahead of (i, j) with e not in and c in. -/
structure BestT (L A : List Nat) (i j : Nat) (next to most : Int) : Prop where
  all : ∀ e c, e < L.length → c < L.length → (e < i ∨ (e = i ∧ c < j)) → e ∉ A → c ∈ A → (pc (gn L e &&& gn L c) : Int) ≤ most
  one : (most = -1) ∨ ∃ a c : Nat, next = a ∧ to = c ∧ a < L.length ∧ a ∉ A ∧ c ∈ A ∧ most = (pc (gn L a &&& gn L c) : Int)
theorem BestT.row {L A : List Nat} {i : Nat} {next to most : Int} (h : BestT L A i L.length next to most) : BestT L A (i + 1) 0 next to most :=
  ⟨fun e c he hc hl => h.all e c he hc (by omega), h.one⟩
theorem BestT.skip {L A : List Nat} {i j : Nat} {next to most : Int} (h : BestT L A i j next to most) (hn : i ∉ A → j ∈ A → (pc (gn L i &&& gn L j) : Int) ≤ most) : BestT L A i (j + 1) next to most :=
  ⟨fun e c he hc hl he' hc' => by
    by_cases e1 : e = i ∧ c = j
    · obtain ⟨rfl, rfl⟩ := e1; exact hn he' hc'
    · exact h.all e c he hc (by omega) he' hc', h.one⟩
theorem BestT.take {L A : List Nat} {i j : Nat} {next to most : Int} (h : BestT L A i j next to most) (hi : i < L.length) (hiA : i ∉ A) (hj : j ∈ A) (hlt : most < (pc (gn L i &&& gn L j) : Int)) : BestT L A i (j + 1) (i : Int) (j : Int) (pc (gn L i &&& gn L j) : Int) :=
  ⟨fun e c he hc hl he' hc' => by
    by_cases e1 : e = i ∧ c = j
    · obtain ⟨rfl, rfl⟩ := e1; exact Int.le_refl _
    · have := h.all e c he hc (by omega) he' hc'; omega, .inr ⟨i, j, rfl, rfl, hi, hiA, hj, rfl⟩⟩
theorem Tree_no {w : World} {v : Value} {G : List Int} (hs : SlI w v G) (hv : ¬ VG G) : Calls Tryd.prog 47 #[v] w (Ret w (.tuple #[.slice none 0 0, .int .i64 2])) := by
  refine f47_calls _ ?_
  refine (chordal_no hs hv).mono ?_
  rintro e w1 ⟨rfl, g1⟩
  exact ⟨2, rfl, cT (by simp) ⟨rfl, g1⟩⟩
theorem Tree_none {w : World} {v : Value} {N : List Nat} (hs : SlI w v (ofN N)) (hN : VN N) (hT : Tab w) (ho : (ordG N).isSome = false) : Calls Tryd.prog 47 #[v] w (Ret w (.tuple #[.slice none 0 0, .int .i64 7])) := by
  refine f47_calls _ ?_
  refine (chordal_c hs hN hT).mono ?_
  rintro e w1 ⟨rfl, g1⟩
  rw [ho]
  exact ⟨7, rfl, cT (by simp) ⟨rfl, g1⟩⟩
theorem Tree_c {w : World} {v : Value} {N : List Nat} (hs : SlI w v (ofN N)) (hN : VN N) (hT : Tab w) (ho : (ordG N).isSome = true) : Calls Tryd.prog 47 #[v] w fun e w' => ∃ u l, e = .returned (.tuple #[u, .int .i64 0]) ∧ SlI w' u l ∧ TreeP N l ∧ Grow w w' := by
  refine f47_calls _ ?_
  have h12 := hN.le
  have hp := hN.pow
  have hno := (firstH_none hN).1 (ord_some hN ho)
  have hfew := mcl_few hN ho
  obtain ⟨um, uk, ui, uz⟩ := el_map
  refine (chordal_c hs hN hT).mono ?_
  rintro e w1 ⟨rfl, g1⟩
  rw [ho]
  refine ⟨0, rfl, cF (by simp) ((cliques_c (hs.grow g1) hN (hT.grow g1)).mono ?_)⟩
  rintro e w2 ⟨lv, rfl, hl2, g2⟩
  have g02 := g1.trans g2
  have hpos : 0 < (mcl N).length := by
    obtain ⟨K, hK, -⟩ := clq_in hN (s := 1) (by have := hN.one; have := Nat.pow_le_pow_right (n := 2) (by omega) this; omega) (fun i hi j hj hne => by
      rw [show (1 : Nat) = 2 ^ 0 from rfl, two_bit, decide_eq_true_eq] at hi hj
      exact absurd (hj.symm.trans hi) hne) (by omega)
    exact List.length_pos_of_mem hK
  refine ⟨lv, rfl, fun w3 hw3 => hl2.slI.ln ?_⟩
  rw [ofN_len]
  have g3 := alloc_grow hw3
  have s3 := alloc_size hw3
  have hlit : SlI w3 (.slice (some ⟨w2.heap.size, 0, none⟩) 1 1) [-1] := (Own.lit (B := w2.heap.size) (n := 1) (sz := 1) hw3 (Nat.le_refl _) (by omega) (by simp)).slC
  refine (repeat_c (n := (mcl N).length) hlit hpos (by omega)).mono ?_
  rintro e w4 ⟨g, rfl, hrep, g4⟩
  have g24 := g3.trans g4
  refine ⟨_, rfl, MapI.make _ w4 fun w5 hw5 hm5 g5 s5 => ?_⟩
  have hgB : w3.heap.size ≤ g ∧ g < w4.heap.size := Own.lt hrep rfl
  obtain ⟨w6, hr6, hm6, f6⟩ := hm5.set (P := Tryd.prog) um uk 0 (.bool true)
  refine ⟨w6, hr6, ?_⟩
  have f26 : Grow w2 w6 := (g24.trans g5).fr f6 fun i hi e => by have := g24.size; omega
  have hrep6 : Own w6 w3.heap.size 3 1 (.slice (some ⟨g, 0, none⟩) (mcl N).length (mcl N).length) (mcl N).length ((List.replicate (mcl N).length (-1 : Int)).map encI) := by
    have h := hrep
    unfold OwnI at h
    rw [List.length_replicate] at h
    exact Own.fr (h.grow g5) f6 fun k hk e => by
      have h1 : g = k := by simpa [Value.ownBlock] using hk
      omega
  have hk6 : keysT (updM [] (0 : Int) (.bool true)) [0] := fun k => by
    rw [show (0 : Int) = ((0 : Nat) : Int) from rfl, getM_upd]
    by_cases e : k = 0
    · subst e; simp
    · have : ¬ (k : Int) = ((0 : Nat) : Int) := by omega
      rw [if_neg this]
      simp [e]; rfl
  refine ⟨fun w' => ∃ (A : List Nat) (l : List Int) (kv : List (Int × Value)), GrowT N A l ∧ MapI w' w4.heap.size kv ∧ keysT kv A ∧ kv.length = A.length ∧ Own w' w3.heap.size 3 1 (.slice (some ⟨g, 0, none⟩) (mcl N).length (mcl N).length) (mcl N).length (l.map encI) ∧ Grow w2 w',
    fun w' => (mcl N).length - mapSize w' w4.heap.size, ⟨[0], _, _, GrowT.zero hN hpos, hm6, hk6, rfl, hrep6, f26⟩, ?_⟩
  rintro - w7 ⟨A, l, kv, hgt, hm7, hkv, hlen, hown7, g27⟩
  refine ⟨_, w7, hm7.len um, (hl2.slI.grow g27).ln ?_⟩
  rw [ofN_len]
  have hlv : ∀ {w'}, Grow w2 w' → SlI w' lv (ofN (mcl N)) := fun g => hl2.slI.grow g
  refine condD (fun hlt => (hlv g27).ln ?_) (fun hge => ?_)
  · rw [ofN_len]
    have hAl : A.length < (mcl N).length := by omega
    refine ⟨fun next to most t w' => ∃ i : Nat, t = i ∧ i ≤ (mcl N).length ∧ BestT (mcl N) A i 0 next to most ∧ Grow w7 w', fun _ _ _ t _ => (mcl N).length - t.toNat, ⟨0, rfl, by omega, ⟨fun e c _ _ h => by omega, .inl rfl⟩, Grow.refl _⟩, ?_⟩
    rintro - next to most t w8 ⟨i, rfl, hi, hbest, g8⟩
    refine condD (fun hlt2 => (hlv (g27.trans g8)).ln ?_) (fun hge2 => ?_)
    · have hil : i < (mcl N).length := by omega
      rw [ofN_len]
      refine ⟨fun next to most t w' => ∃ j : Nat, t = j ∧ j ≤ (mcl N).length ∧ BestT (mcl N) A i j next to most ∧ Grow w7 w', fun _ _ _ t _ => (mcl N).length - t.toNat, ⟨0, rfl, by omega, hbest, g8⟩, ?_⟩
      rintro - next to most t w9 ⟨j, rfl, hj, hb, g9⟩
      refine condD (fun hlt3 => ?_) (fun hge3 => ?_)
      · have hjl : j < (mcl N).length := by omega
        have g29 := g27.trans g9
        have small : ∀ {c}, c < (mcl N).length → gn (mcl N) c < 4096 := fun hc => Nat.lt_of_lt_of_le (clq_at hN hc).2.1 hp
        refine (hlv g29).rd rfl (by simpa using hil) ((hlv g29).rd rfl (by simpa using hjl) ?_)
        rw [ofN_get, ofN_get, gn_get hil, gn_get hjl]
        have hand : gn (mcl N) i &&& gn (mcl N) j < 4096 := Nat.lt_of_le_of_lt Nat.and_le_left (small hil)
        rw [iAnd_nat (by have := small hil; omega) (by have := small hjl; omega), wrapU (by omega)]
        refine ⟨_, fun w10 g10 => ones_c hand, fun w11 g11 => ?_⟩
        have g711 := g9.trans g11
        have hm11 := hm7.grow g711
        have look : ∀ k : Nat, (Instr.lookup 98 (.map (some w4.heap.size)) (.int .i64 (k : Int)) false).run Tryd.prog w11 = .ok (.bool (decide (k ∈ A))) w11 := fun k => by
          rw [hm11.get um uk ui uz (k : Int) false, hkv k]
          by_cases h : k ∈ A <;> simp [h]
        have nxt : ∀ {next' to' most' : Int}, BestT (mcl N) A i (j + 1) next' to' most' → inR ((j : Int) + 1) ∧ (∃ j' : Nat, (j : Int) + 1 = j' ∧ j' ≤ (mcl N).length ∧ BestT (mcl N) A i j' next' to' most' ∧ Grow w7 w11) ∧ (mcl N).length - Int.toNat ((j : Int) + 1) < (mcl N).length - Int.toNat (j : Int) := fun hb' => ⟨by unfold inR; omega, ⟨j + 1, by omega, by omega, hb', g711⟩, by omega⟩
        refine ⟨_, w11, look i, condP_i (fun h1 => ⟨_, w11, look j, condP_i (fun h2 => condD (fun h3 => nxt (hb.take hil (by simpa using h1) (by simpa using h2) h3)) fun h3 => nxt (hb.skip fun _ _ => by omega)) fun h2 => nxt (hb.skip fun _ h => absurd h (by simpa using h2))⟩) fun h1 => nxt (hb.skip fun h _ => absurd (by simpa using h1) h)⟩
      · have : j = (mcl N).length := by omega
        subst this
        exact ⟨by unfold inR; omega, ⟨i + 1, by omega, by omega, hb.row, g9⟩, by dsimp only; omega⟩
    · have : i = (mcl N).length := by omega
      subst this
      -- a clique that is not in, and the best of these
      have hex : ∃ e, e < (mcl N).length ∧ e ∉ A := Classical.byContradiction fun hn => by
        have : (List.range (mcl N).length).length ≤ A.length := List.nodup_range.length_le_of_subset fun e he => Classical.byContradiction fun h => hn ⟨e, by simpa using he, h⟩
        simp at this; omega
      obtain ⟨e, he, heA⟩ := hex
      obtain ⟨B, hB⟩ := hgt.head
      have h0A : 0 ∈ A := by rw [hB]; simp
      have hmost := hbest.all e 0 he hpos (.inl he) heA h0A
      rcases hbest.one with h1 | ⟨a, c, rfl, rfl, hal, haA, hcA, hmo⟩
      · omega
      have hnext := hgt.next hN hno hal haA hcA fun e he heA c hc => by
        have := hbest.all e c he (hgt.inn.lt c hc) (.inl he) heA hc
        omega
      have g28 := g27.trans g8
      obtain ⟨w9, hr9, hm9, f9⟩ := (hm7.grow g8).set (P := Tryd.prog) um uk (a : Int) (.bool true)
      refine ⟨w9, hr9, ?_⟩
      have ne9 : ∀ k, (Value.slice (some ⟨g, 0, none⟩) (mcl N).length (mcl N).length).ownBlock = some k → ¬ k = w4.heap.size := fun k hk e => by
        have h1 : g = k := by simpa [Value.ownBlock] using hk
        omega
      have hown9 := Own.fr (hown7.grow g8) f9 ne9
      have hw9 := Own.wr hown9 hal
      have hpl : (⟨g, 0, none⟩ : Addr).add (Int.toNat (a : Int) * 1) = ⟨g, a, none⟩ := by rw [Int.toNat_natCast, Nat.mul_one, Addr.add0]
      refine ⟨_, _, _, rfl, ⟨by omega, by omega⟩, ?_⟩
      rw [hpl]
      refine ⟨hw9.1, hw9.2, fun w10 hw10 => ?_⟩
      have hown10 := Own.set hown9 hal hw10
      have f10 := set_fr hw10
      have hm10 := hm9.fr f10 fun e => by
        have : w4.heap.size = g := e
        omega
      have g210 : Grow w2 w10 := (g28.fr f9 fun k hk e => by have := g24.size; omega).fr f10 fun k hk e => by
        have h1 : k = g := e
        have := s3; omega
      refine ⟨⟨A ++ [a], _, _, hnext, hm10, hkv.upd a, ?_, ?_, g210⟩, ?_⟩
      · rw [getM_none kv (a : Int) (by rw [hkv a, if_neg haA])]
        simp [hlen]
      · have e : (l.set a (c : Int)).map encI = (l.map encI).set a (encI (c : Int)) := by rw [List.map_set]
        rw [e]; exact hown10
      · dsimp only
        rw [hm10.size, hm7.size, getM_none kv (a : Int) (by rw [hkv a, if_neg haA])]
        simp; omega
  · refine ⟨_, l, rfl, ?_, hgt.tree hN (by omega), g02.trans g27⟩
    have := hown7.slC
    unfold SlI
    rw [hgt.len]
    exact this
end Go.Proofs.YtmpjanpmkmlloaaDoor
