/- Contracts of package chordal and of its reference, second part: orders, and what the laws of this layer share. The table of bits is laid (Tab). -/
import Derived.Test.YtmpjanpmkmlloaaDoorCb
import Derived.Test.YtmpjanpmkmlloaaDoorGo
namespace Go.Proofs.YtmpjanpmkmlloaaDoor
open Go Go.RowKit VC
set_option linter.unusedSimpArgs false
set_option linter.unusedVariables false

theorem and_expr {a b : Nat} (ha : a < 4096) (hb : b < 4096) : iAnd .i64 (a : Int) (b : Int) = ((a &&& b : Nat) : Int) := iAnd_nat (by omega) (by omega)
theorem without {a i : Nat} (ha : a < 4096) (hi : i < 12) : iAndNot .i64 (a : Int) (iShl .i64 1 (i : Int)) = ((nSub a (2 ^ i) : Nat) : Int) := by
  rw [iShl_one (by omega), iAndNot_nat (by omega) (p2 hi)]
theorem order_lit_c {w : World} {b1 b2 : Nat} {g : Value} {N : List Nat} {left : Nat} (h1 : w.cell? ⟨b1, 0, none⟩ = some g) (h2 : w.cell? ⟨b2, 0, none⟩ = some (.int .i64 (left : Int))) (hg : SlI w g (ofN N)) (hN : VN N) (hl : left < 2 ^ N.length) (hT : Tab w) {i : Nat} (hi : i < N.length) :
    Calls Tryd.prog 101 #[.int .i64 (i : Int), .pointer (some ⟨b1, 0, none⟩), .pointer (some ⟨b2, 0, none⟩)] w (Ret w (.bool (cliq N (nb N i &&& left)))) := by
  refine f101_calls _ _ _ ?_
  have hl4 : left < 4096 := Nat.lt_of_lt_of_le hl hN.pow
  refine ⟨g, h1, g, h1, hg.rd rfl (by simpa using hi) ⟨_, h2, cliq N (nb N i &&& left), fun w' hw' => ?_, fun w' hw' => ⟨rfl, hw'⟩⟩⟩
  rw [ofN_get, nb_get, and_expr (hN.nb_lt' i) hl4]
  exact clique_c (hg.grow hw') hN (and_lt (hN.nb_lt i)) (hT.grow hw')
theorem find_of_idx {l : List Nat} {q : Nat → Bool} : (match (ofN l).findIdx? (fun x => q x.toNat) with | some i => l[i]? | none => none) = l.find? q := by
  have h : (ofN l).findIdx? (fun x => q x.toNat) = l.findIdx? q := by
    unfold ofN
    rw [List.findIdx?_map]
    rfl
  rw [h]
  clear h
  induction l with
  | nil => rfl
  | cons a r ih =>
    rw [List.findIdx?_cons, List.find?_cons]
    cases hq : q a with
    | true => simp
    | false =>
      rw [← ih]
      cases hf : r.findIdx? q with
      | none => simp
      | some j => simp
theorem idxOf_neg {p : Int → Bool} {xs : List Int} : idxOf p xs < 0 ↔ xs.findIdx? p = none := by
  unfold idxOf
  cases h : xs.findIdx? p with
  | none => simp
  | some i => simp
/-- Graph.order: the greedy order, and whether there is one. -/
theorem order_c {w : World} {v : Value} {N : List Nat} (hs : SlI w v (ofN N)) (hN : VN N) (hT : Tab w) : Calls Tryd.prog 62 #[v] w fun e w' => ∃ u, e = .returned (.tuple #[u, .bool (ordG N).isSome]) ∧ OwnI w' w.heap.size u (ofN ((ordG N).getD [])) ∧ Grow w w' := by
  refine f62_calls _ ?_
  have hle := hN.le
  refine ⟨hs.one, fun w1 hw1 => ⟨v, alloc_cell0 hw1, ?_⟩⟩
  have g1 := alloc_grow hw1
  refine (all_c (hs.grow g1) (by simpa using hN.le)).mono ?_
  rintro e w2 ⟨rfl, g2⟩
  refine ⟨_, rfl, fun w3 hw3 => ⟨⟨_, alloc_cell0 hw3⟩, alloc_free hw3 0, fun w4 hw4 => ?_⟩⟩
  have g3 := alloc_grow hw3
  have b4 : Box w4 w2.heap.size (.int .i64 ((al N : Nat) : Int)) := by
    have := (Box.new hw3).set hw4
    rw [show (ofN N).length = N.length by simp] at this
    exact this
  have f4 := set_fr hw4
  have g12 : Grow w w2 := g1.trans g2
  have g4 : Grow w w4 := (g12.trans g3).fr f4 fun i hi e => by have := g12.size; have : i = w2.heap.size := e; omega
  have c1 : w4.cell? ⟨w.heap.size, 0, none⟩ = some v := f4.cell (g3.cell (g2.cell (alloc_cell0 hw1))) (fun e => by
    have h1 := alloc_size hw1; have h2 := g2.size
    have : w.heap.size = w2.heap.size := e
    omega)
  have hlt : w.heap.size < w2.heap.size := by have h1 := alloc_size hw1; have h2 := g2.size; omega
  refine ⟨fun out w' => ∃ (left : Nat) (done : List Nat), left < 2 ^ N.length ∧ pc left + done.length ≤ 12 ∧ ordG N = (ordN N (12 - done.length) left).map (done ++ ·) ∧ Box w' w2.heap.size (.int .i64 (left : Int)) ∧ w'.cell? ⟨w.heap.size, 0, none⟩ = some v ∧
      OwnI w' (w2.heap.size + 1) out (ofN done) ∧ Grow w w',
    fun out _ => match out with | .slice _ n _ => 13 - n | _ => 0,
    ⟨al N, [], al_lt N, by have := pc_le (al N); simpa using this, by simp [ordG], b4, c1, Own.nil _ _ _ _, g4⟩, ?_⟩
  rintro - out w5 ⟨left, done, hl, hpc, hord, hb, hc, ho, hg⟩
  have hl4 : left < 4096 := Nat.lt_of_lt_of_le hl hN.pow
  have hN4 := hN.nb_lt'
  refine ⟨_, hb.cell, condP_i (fun hnz => ?_) (fun hz => ?_)⟩
  · have hnz : left ≠ 0 := by simpa using hnz
    have hpos : 0 < pc left := by
      rcases Nat.eq_zero_or_pos (pc left) with h | h
      · exact absurd ((pc_zero hl4).1 h) hnz
      · exact h
    have hfuel : 12 - done.length = (11 - done.length) + 1 := by omega
    refine ⟨_, hb.cell, (nodes_c hl4 (hT.grow hg)).mono ?_⟩
    rintro e w6 ⟨u, rfl, hu, g6⟩
    refine ⟨u, rfl, ?_⟩
    have hask : Asks w6 (.func (.func 101) #[] #[.pointer (some ⟨w.heap.size, 0, none⟩), .pointer (some ⟨w2.heap.size, 0, none⟩)]) (ofN (els left)) (fun x => (fun i => cliq N (nb N i &&& left)) x.toNat) := by
      refine ⟨_, _, _, rfl, rfl, fun x hx w' hw' => ?_⟩
      simp only [ofN, List.mem_map, mem_els] at hx
      obtain ⟨i, ⟨hi, hbit⟩, rfl⟩ := hx
      simp only [Int.toNat_natCast]
      exact order_lit_c (hw'.cell (g6.cell hc)) (hw'.cell (g6.cell hb.cell)) (hs.grow ((hg.trans g6).trans hw')) hN hl (hT.grow ((hg.trans g6).trans hw')) (bit_lt hl hbit)
    refine (indexFunc_c hu.slI hask).mono ?_
    rintro e w7 ⟨rfl, g7⟩
    have g67 : Grow w5 w7 := g6.trans g7
    refine ⟨_, rfl, condD (fun hneg => ?_) (fun hpos2 => ?_)⟩
    · -- no node can be eliminated
      have hnone := idxOf_neg.1 hneg
      have hfind : (els left).find? (fun i => cliq N (nb N i &&& left)) = none := by
        rw [← find_of_idx, hnone]
      have : ordG N = none := by
        rw [hord, hfuel]
        unfold ordN
        rw [if_neg hnz, hfind]
        rfl
      rw [this]
      exact ⟨_, rfl, Own.nil _ _ _ _, hg.trans g67⟩
    · cases hfi : (ofN (els left)).findIdx? (fun x => (fun i => cliq N (nb N i &&& left)) x.toNat) with
      | none => exact absurd (idxOf_neg.2 hfi) hpos2
      | some k =>
        have hk : k < (els left).length := by
          have := (List.findIdx?_eq_some_iff_getElem.1 hfi).1
          simpa using this
        have hval : idxOf (fun x => (fun i => cliq N (nb N i &&& left)) x.toNat) (ofN (els left)) = (k : Int) := by
          unfold idxOf; rw [hfi]
        have hfind : (els left).find? (fun i => cliq N (nb N i &&& left)) = some (els left)[k] := by
          rw [← find_of_idx, hfi]; simp [hk]
        have hmem : (els left)[k] ∈ els left := List.getElem_mem hk
        obtain ⟨hi12, hibit⟩ := mem_els.1 hmem
        have hb7 := hb.grow g67
        refine ⟨_, hb7.cell, (nodes_c hl4 (hT.grow (hg.trans g67))).mono ?_⟩
        rintro e w8 ⟨u2, rfl, hu2, g8⟩
        refine ⟨u2, rfl, hu2.slI.rd hval (by simpa using hk) ?_⟩
        rw [ofN_get]
        intro w9 hw9
        have g58 : Grow w5 w8 := g67.trans g8
        have hsz := hb.lt
        refine pappI hw9 (ho.grow g58) (by have := g58.size; omega) (by simp; omega) ?_
        intro v' w10 ho' hf' m
        have g9 := alloc_grow hw9
        have hlow : ∀ k, k ≤ w2.heap.size → ¬ some k = out.ownBlock := fun k hk e => by have := ho.lt e.symm; omega
        have hb10 : Box (dr w10 m) w2.heap.size (.int .i64 (left : Int)) := (((hb.grow g58).grow g9).fr hf' (hlow _ (Nat.le_refl _))).dr m
        have hc10 : w10.cell? ⟨w.heap.size, 0, none⟩ = some v := hf'.cell (g9.cell (g58.cell hc)) (hlow w.heap.size (by omega))
        refine ⟨by omega, _, hb10.cell, ⟨_, hb10.cell⟩, hb10.free, fun w11 hw11 => ?_⟩
        have e1 : iAndNot .i64 (left : Int) (iShl .i64 1 (((els left)[k] : Nat) : Int)) = ((nSub left (2 ^ (els left)[k]) : Nat) : Int) := without hl4 hi12
        rw [e1] at hw11
        have f11 := set_fr hw11
        have g10 : Grow w (dr w10 m) := (own_grow (hg.trans g58) (ho.grow g58) (by omega) hw9 hf').dr m
        refine ⟨⟨nSub left (2 ^ (els left)[k]), done ++ [(els left)[k]], nSub_lt hl, ?_, ?_, hb10.set hw11, ?_, ?_, ?_⟩, ?_⟩
        · have := pc_sub hibit hi12
          simp; omega
        · rw [hord, hfuel]
          conv => lhs; unfold ordN
          rw [if_neg hnz, hfind]
          simp only [Option.map_map]
          have : 12 - (done ++ [(els left)[k]]).length = 11 - done.length := by rw [List.length_append, List.length_singleton]; omega
          rw [this]
          congr 1
          funext r
          simp
        · exact f11.cell hc10 fun e => absurd (show w.heap.size = w2.heap.size from e) (by omega)
        · rw [ofN_app]
          refine (Own.dr ho' m).fr f11 fun k hk e => ?_
          have := ho'.lt hk
          have : k = w2.heap.size := e
          omega
        · exact g10.fr f11 fun i hi e => absurd (show i = w2.heap.size from e) (by omega)
        · obtain ⟨a1, c1, rfl, _⟩ := ho.slC.ex
          obtain ⟨a2, c2, rfl, _⟩ := ho'.slC.ex
          simp; omega
  · have hz : left = 0 := by simpa using hz
    subst hz
    have : ordG N = some done := by
      rw [hord]
      cases 12 - done.length <;> simp [ordN]
    rw [this]
    exact ⟨out, rfl, ho.mono (by omega), hg⟩

/-! ## The exported functions -/
/-- Why a graph has no order: its code. -/
noncomputable def chE (G : List Int) (N : List Nat) : Int := if (ordG N).isSome then 0 else 7
theorem chordal_no {w : World} {v : Value} {G : List Int} (hs : SlI w v G) (hv : ¬ VG G) : Calls Tryd.prog 61 #[v] w (Ret w (.int .i64 2)) := by
  refine f61_calls _ ?_
  refine (valid_c hs (b := false) (by simp [hv])).mono ?_
  rintro e w1 ⟨rfl, g1⟩
  exact ⟨false, rfl, rfl, g1⟩
theorem chordal_c {w : World} {v : Value} {N : List Nat} (hs : SlI w v (ofN N)) (hN : VN N) (hT : Tab w) : Calls Tryd.prog 61 #[v] w (Ret w (.int .i64 (if (ordG N).isSome then 0 else 7))) := by
  refine f61_calls _ ?_
  refine (valid_c hs (b := true) (by simp [VG_ofN.2 hN])).mono ?_
  rintro e w1 ⟨rfl, g1⟩
  refine ⟨true, rfl, ?_⟩
  refine (order_c (hs.grow g1) hN (hT.grow g1)).mono ?_
  rintro e w2 ⟨u, rfl, _, g2⟩
  refine ⟨u, _, rfl, condP_i (fun h => ?_) (fun h => ?_)⟩
  · simp at h
    rw [h]
    exact ⟨rfl, g1.trans g2⟩
  · simp only [Bool.not_eq_false'] at h
    rw [h]
    exact ⟨rfl, g1.trans g2⟩
theorem Order_no {w : World} {v : Value} {G : List Int} (hs : SlI w v G) (hv : ¬ VG G) : Calls Tryd.prog 16 #[v] w (Ret w (.tuple #[.slice none 0 0, .int .i64 2])) := by
  refine f16_calls _ ?_
  refine (chordal_no hs hv).mono ?_
  rintro e w1 ⟨rfl, g1⟩
  exact ⟨2, rfl, rfl, g1⟩
/-- Order of a valid graph: the greedy order, or ErrState. -/
theorem Order_c {w : World} {v : Value} {N : List Nat} (hs : SlI w v (ofN N)) (hN : VN N) (hT : Tab w) : Calls Tryd.prog 16 #[v] w fun e w' => ∃ u, e = .returned (.tuple #[u, .int .i64 (if (ordG N).isSome then 0 else 7)]) ∧ OwnI w' w.heap.size u (ofN ((ordG N).getD [])) ∧ Grow w w' := by
  refine f16_calls _ ?_
  refine (chordal_c hs hN hT).mono ?_
  rintro e w1 ⟨rfl, g1⟩
  refine ⟨_, rfl, ?_⟩
  cases ho : ordG N with
  | none => exact ⟨_, rfl, Own.nil _ _ _ _, g1⟩
  | some l =>
    refine (order_c (hs.grow g1) hN (hT.grow g1)).mono ?_
    rintro e w2 ⟨u, rfl, hu, g2⟩
    rw [ho] at hu
    exact ⟨u, _, rfl, u, rfl, hu.mono g1.size, g1.trans g2⟩
theorem permutation_c {w : World} {v u : Value} {N : List Nat} {l : List Int} (hs : SlI w v (ofN N)) (hu : SlI w u l) (hN : VN N) : Calls Tryd.prog 65 #[v, u] w (Ret w (.bool (permN N l))) := by
  refine f65_calls _ _ ?_
  have hle := hu.len_le
  have h12 := hN.le
  refine hu.ln ⟨fun s t w' => ∃ (k s' : Nat), t = k ∧ k ≤ l.length ∧ s = (s' : Int) ∧ s' < 4096 ∧ Grow w w' ∧ inRange N (l.take k) = true ∧ (∀ i, s'.testBit i = (orAll (l.take k)).testBit i), fun _ t _ => l.length - t.toNat, ⟨0, 0, rfl, by omega, rfl, by omega, Grow.refl w, rfl, fun i => rfl⟩, ?_⟩
  rintro - s t w1 ⟨k, s', rfl, hk, rfl, hs', hg, hr, ho⟩
  refine condD (fun hlt => ?_) (fun hge => ?_)
  · have hkl : k < l.length := by omega
    have htk := List.take_succ_eq_append_getElem hkl
    have no : ¬ (0 ≤ l[k] ∧ l[k] < (N.length : Int)) → ∀ {w'}, Grow w w' → Ret w (.bool (permN N l)) (.returned (.bool false)) w' := fun h w' hg => by
      have : permN N l = false := by
        have : inRange N l = false := by
          simp only [inRange, List.all_eq_false]
          refine ⟨l[k], List.getElem_mem hkl, ?_⟩
          simp; omega
        simp [permN, this]
      rw [this]; exact ⟨rfl, hg⟩
    refine (hu.grow hg).rd rfl hkl (condD (fun h => no (by omega) hg) fun h0 => hs.ln (condD (fun h => no (by simp at h; omega) hg) fun h1 => ?_))
    have h1 : l[k] < (N.length : Int) := by simp at h1; omega
    obtain ⟨x, hx⟩ : ∃ x : Nat, l[k] = (x : Int) := ⟨l[k].toNat, by omega⟩
    have hx12 : x < 12 := by omega
    have hor : iOr .i64 (s' : Int) (iShl .i64 1 l[k]) = ((s' ||| 2 ^ x : Nat) : Int) := by
      rw [hx, iShl_one (by omega), iOr_nat (by omega) (p2 hx12)]
    rw [hor]
    refine ⟨by omega, by unfold inR; omega, ⟨k + 1, s' ||| 2 ^ x, by omega, by omega, rfl, ?_, hg, ?_, ?_⟩, by dsimp only; omega⟩
    · have : s' ||| 2 ^ x < 2 ^ 12 := Nat.or_lt_two_pow hs' (Nat.pow_lt_pow_right (by omega) hx12)
      omega
    · rw [htk]
      simp only [inRange, List.all_append, List.all_cons, List.all_nil, Bool.and_true, Bool.and_eq_true, decide_eq_true_eq]
      exact ⟨hr, by omega, h1⟩
    · intro i
      rw [htk, Nat.testBit_or, ho, two_bit]
      rw [Bool.eq_iff_iff, Bool.or_eq_true, orAll_bit, orAll_bit]
      simp only [List.mem_append, List.mem_singleton, decide_eq_true_eq]
      constructor
      · rintro (⟨y, hy, rfl⟩ | rfl)
        · exact ⟨y, .inl hy, rfl⟩
        · exact ⟨l[k], .inr rfl, by omega⟩
      · rintro ⟨y, hy | rfl, rfl⟩
        · exact .inl ⟨y, hy, rfl⟩
        · exact .inr (by omega)
  · have hkl : k = l.length := by omega
    subst hkl
    rw [List.take_length] at hr ho
    refine hu.ln (hs.ln (condD (fun he => ?_) fun he => ?_))
    · have hlen : l.length = N.length := by simp at he; omega
      refine (all_c (hs.grow hg) (by simpa using h12)).mono ?_
      rintro e w2 ⟨rfl, g2⟩
      refine ⟨_, rfl, ?_, hg.trans g2⟩
      have e1 : s' = orAll l := Nat.eq_of_testBit_eq ho
      have : permN N l = decide ((s' : Int) = ((2 ^ (ofN N).length - 1 : Nat) : Int)) := by
        rw [ofN_len]
        simp only [permN, hr, hlen, decide_true, Bool.true_and, ← e1, al]
        rw [Bool.eq_iff_iff]; simp
        omega
      rw [this]
    · refine ⟨?_, hg⟩
      have : permN N l = false := by
        have : ¬ l.length = N.length := fun h => he (by simp [h])
        simp [permN, this]
      rw [this]
end Go.Proofs.YtmpjanpmkmlloaaDoor
