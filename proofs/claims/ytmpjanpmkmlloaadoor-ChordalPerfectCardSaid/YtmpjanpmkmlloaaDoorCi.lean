/- Contracts of package chordal and of its reference: the search for holes. The table of bits is laid (Tab). -/
import Derived.Test.YtmpjanpmkmlloaaDoorCh
import Derived.Test.YtmpjanpmkmlloaaDoorVn
namespace Go.Proofs.YtmpjanpmkmlloaaDoor
open Go Go.RowKit VC
set_option linter.unusedSimpArgs false
set_option linter.unusedVariables false

theorem findSome_idx {α β : Type} {F : α → Option β} : ∀ {l : List α} {k : Nat} {r : β} (hk : k < l.length), (∀ j (hj : j < l.length), j < k → F l[j] = none) → F l[k] = some r → l.findSome? F = some r
  | a :: t, 0, r, _, _, h => by
    simp only [List.getElem_cons_zero] at h
    simp [List.findSome?_cons, h]
  | a :: t, k + 1, r, hk, hno, h => by
    have h0 := hno 0 (by simp) (by omega)
    simp only [List.getElem_cons_zero] at h0
    rw [List.findSome?_cons, h0]
    exact findSome_idx (l := t) (k := k) (by simpa using hk) (fun j hj hjk => hno (j + 1) (by simpa using hj) (by omega)) h
theorem findSome_filter {α β : Type} {F : α → Option β} {p : α → Bool} : ∀ {l : List α}, (∀ x, p x = false → F x = none) → (l.filter p).findSome? F = l.findSome? F
  | [], _ => rfl
  | a :: t, h => by
    rw [List.filter_cons, List.findSome?_cons]
    split
    · rw [List.findSome?_cons, findSome_filter h]
    · rename_i hp
      rw [h a (by simpa using hp), findSome_filter h]
noncomputable def dfsF (N : List Nat) (long f : Nat) (l : List Nat) (x : Nat) : Option (List Nat) := if extB N long l x then dfs N long f (l ++ [x]) else none
theorem dfs_succ (N : List Nat) (long f : Nat) (l : List Nat) : dfs N long (f + 1) l = (List.range 12).findSome? (dfsF N long f l) := by
  unfold dfs dfsF; rfl
theorem dfs_els (N : List Nat) (long f : Nat) (l : List Nat) : dfs N long (f + 1) l = (els (nb N (gn l (l.length - 1)))).findSome? (dfsF N long f l) := by
  rw [dfs_succ]
  unfold els
  rw [findSome_filter fun x hx => ?_]
  unfold dfsF
  rw [if_neg]
  unfold extB
  rw [hx]; simp

/-! ## package chordal -/
def holeClo (bf bg : Nat) : Value := .func (.func 72) #[] #[.pointer (some ⟨bf, 0, none⟩), .pointer (some ⟨bg, 0, none⟩), .pointer (some ⟨bf + 1, 0, none⟩)]
structure HEnv (w0 : World) (bf bg : Nat) (g : Value) (N : List Nat) : Prop where
  size : w0.heap.size = bf
  cg : w0.cell? ⟨bg, 0, none⟩ = some g
  sl : SlI w0 g (ofN N)
  vn : VN N
  tab : Tab w0
structure HSt (w0 : World) (bf bg : Nat) (w : World) : Prop where
  gr : Grow w0 w
  cl : w.cell? ⟨bf + 1, 0, none⟩ = some (holeClo bf bg)
  box : ∃ u, Box w bf u
  sz : bf + 2 ≤ w.heap.size
theorem HSt.fr {S : Nat → Prop} {w0 w w' : World} {bf bg : Nat} (h0 : w0.heap.size = bf) (h : HSt w0 bf bg w) (hf : Fr S w w') (hs : ∀ k, S k → k = bf ∨ bf + 2 ≤ k) (hb : ∃ u, Box w' bf u) : HSt w0 bf bg w' :=
  ⟨h.gr.fr hf fun i hi e => by rcases hs i e with h | h <;> omega, hf.cell h.cl fun e => by rcases hs _ e with h | h <;> simp at h <;> omega, hb, by have := h.sz; have := hf.size; omega⟩
theorem HSt.grow {w0 w w' : World} {bf bg : Nat} (h0 : w0.heap.size = bf) (h : HSt w0 bf bg w) (hg : Grow w w') : HSt w0 bf bg w' :=
  h.fr h0 (Fr.of_grow (S := fun _ => False) hg) (fun _ h => h.elim) (by obtain ⟨u, hu⟩ := h.box; exact ⟨u, hu.grow hg⟩)
/-- What a call of grow leaves. -/
def GPost (w0 : World) (bf bg : Nat) (res : Option (List Nat)) (l : Value) (xs : List Nat) (w : World) (e : Ending) (w' : World) : Prop :=
  ∃ b : Bool, e = .returned (.bool b) ∧ HSt w0 bf bg w' ∧ Fr (fun k => k = bf ∨ some k = l.ownBlock) w w' ∧ (b = false → res = none ∧ OwnI w' (bf + 2) l (ofN xs)) ∧ (b = true → ∃ r u, res = some r ∧ Box w' bf u ∧ SlI w' u (ofN r))
def GrowC (w0 : World) (bf bg : Nat) (N : List Nat) (long f : Nat) : Prop :=
  ∀ (xs : List Nat) (w : World) (l : Value), HSt w0 bf bg w → OwnI w (bf + 2) l (ofN xs) → xs.length + f = long → 1 ≤ xs.length → (∀ x ∈ xs, x < N.length) →
    Calls Tryd.prog 72 #[l, .int .i64 (long : Int), .pointer (some ⟨bf, 0, none⟩), .pointer (some ⟨bg, 0, none⟩), .pointer (some ⟨bf + 1, 0, none⟩)] w (GPost w0 bf bg (dfs N long f xs) l xs w)
theorem gn_mem {N xs : List Nat} (h : ∀ x ∈ xs, x < N.length) {k : Nat} (hk : k < xs.length) : gn xs k < N.length := by
  rw [← gn_get hk]; exact h _ (List.getElem_mem hk)
theorem hole_step {w0 w : World} {bf bg b1 b2 : Nat} {g l : Value} {N xs : List Nat} {long f x : Nat} (E : HEnv w0 bf bg g N) (ih : GrowC w0 bf bg N long f) (hst : HSt w0 bf bg w) (ho : OwnI w (bf + 2) l (ofN xs)) (hlen : xs.length + (f + 1) = long) (hl1 : 1 ≤ xs.length) (hxs : ∀ x ∈ xs, x < N.length) (hlong : long ≤ 12)
    (c1 : w.cell? ⟨b1, 0, none⟩ = some l) (c2 : w.cell? ⟨b2, 0, none⟩ = some (.int .i64 (long : Int))) (n1 : bf + 2 ≤ b1 ∧ l.ownBlock ≠ some b1) (n2 : bf + 2 ≤ b2 ∧ l.ownBlock ≠ some b2) (hx : (nb N (gn xs (xs.length - 1))).testBit x = true) :
    Calls Tryd.prog 76 #[.int .i64 (x : Int), .pointer (some ⟨b1, 0, none⟩), .pointer (some ⟨b2, 0, none⟩), .pointer (some ⟨bg, 0, none⟩), .pointer (some ⟨bf + 1, 0, none⟩)] w (GPost w0 bf bg (dfsF N long f xs x) l xs w) := by
  refine f76_calls _ _ _ _ _ ?_
  have hN := E.vn
  have h12 := hN.le
  have hs : SlI w l (ofN xs) := ho.slI
  have hxn : x < N.length := bit_lt (hN.nb_lt _) hx
  have hgrow : ∀ {w'}, Grow w w' → dfsF N long f xs x = none → GPost w0 bf bg (dfsF N long f xs x) l xs w (.returned (.bool false)) w' := fun hg hd =>
    ⟨false, rfl, hst.grow E.size hg, Fr.of_grow hg, fun _ => ⟨hd, ho.grow hg⟩, fun h => by cases h⟩
  refine ⟨l, c1, l, c1, hs.ln ?_⟩
  rw [ofN_len]
  have hz : (xs.length : Int) - 1 = ((xs.length - 1 : Nat) : Int) := by omega
  refine ⟨by unfold inR; omega, ?_⟩
  obtain ⟨a, n, c, e, lo, hh, m, hsb, hv'⟩ := hs.upto (k := .i64) (i := xs.length - 1) hz (by simp) (K := fun v' => SlI w v' ((ofN xs).take (xs.length - 1))) fun v' hv' => hv'
  have htl : ((ofN xs).take (xs.length - 1)).length = xs.length - 1 := by simp
  refine ⟨a, n, c, e, lo, hh, m, hsb, hv'.ln ?_⟩
  rw [htl]
  let inn := fun k => (decide (0 < k) || decide (xs.length + 1 < long)) && (nb N (gn xs k)).testBit x
  have hskip : xs.length + 1 < long ↔ (xs.length : Int) < (long : Int) - 1 := by omega
  refine ⟨fun inner t w' => ∃ (k i : Nat), t = k ∧ k ≤ xs.length - 1 ∧ inner = (i : Int) ∧ i < 4096 ∧ w' = w ∧ i.testBit x = (List.range k).any inn, fun _ t _ => xs.length - t.toNat, ⟨0, 0, rfl, by omega, rfl, by omega, rfl, by simp⟩, ?_⟩
  rintro - inner t w' ⟨k, i, rfl, hk, rfl, hi, rfl, hbit⟩
  have hor : ∀ y : Nat, y < 4096 → iOr .i64 (i : Int) (y : Int) = ((i ||| y : Nat) : Int) := fun y hy => iOr_nat (by omega) (by omega)
  have hor4 : ∀ y : Nat, y < 4096 → i ||| y < 4096 := fun y hy => Nat.or_lt_two_pow (n := 12) hi hy
  refine condD (fun hlt => ?_) (fun hge => ?_)
  · have hkl : k < xs.length - 1 := by omega
    refine hv'.rd rfl (by omega) ?_
    have egi : ((ofN xs).take (xs.length - 1))[k]'(by omega) = ((gn xs k : Nat) : Int) := by rw [List.getElem_take, ofN_get, gn_get (by omega)]
    rw [egi]
    have hgk := gn_mem hxs (show k < xs.length by omega)
    have hrd : ∀ {K : Int → Prop}, K ((nb N (gn xs k) : Nat) : Int) → ∃ t, w'.cell? ⟨bg, 0, none⟩ = some t ∧ ∃ (a : Addr) (n c : Nat), t = Value.slice (some a) n c ∧ ((0 : Int) ≤ ((gn xs k : Nat) : Int) ∧ ((gn xs k : Nat) : Int) < (n : Int)) ∧ ∃ t : Int, w'.cell? (a.add (Int.toNat ((gn xs k : Nat) : Int) * 1)) = some (.int .i64 t) ∧ K t := fun {K} hK =>
      ⟨g, hst.gr.cell E.cg, (E.sl.grow hst.gr).rd rfl (by simpa using hgk) (by rw [ofN_get, nb_get]; exact hK)⟩
    have next : ∀ i', i' < 4096 → i'.testBit x = (i.testBit x || inn k) → ∃ (k' j : Nat), (k : Int) + 1 = k' ∧ k' ≤ xs.length - 1 ∧ ((i' : Nat) : Int) = (j : Int) ∧ j < 4096 ∧ w' = w' ∧ j.testBit x = (List.range k').any inn := fun i' hi' hb => by
      refine ⟨k + 1, i', by omega, by omega, rfl, hi', rfl, ?_⟩
      rw [List.range_succ, List.any_append, ← hbit, hb]; simp
    refine condD (fun h0 => hrd ?_) (fun h0 => ⟨l, c1, hs.ln ⟨_, c2, by unfold inR; omega, condD (fun h1 => hrd ?_) (fun h1 => ?_)⟩⟩)
    · rw [hor _ (hN.nb_lt' _)]
      refine ⟨by unfold inR; omega, next _ (hor4 _ (hN.nb_lt' _)) ?_, by dsimp only; omega⟩
      have : 0 < k := by omega
      simp [Nat.testBit_or, inn, this]
    · rw [hor _ (hN.nb_lt' _)]
      refine ⟨by unfold inR; omega, next _ (hor4 _ (hN.nb_lt' _)) ?_, by dsimp only; omega⟩
      have : xs.length + 1 < long := by rw [ofN_len] at h1; omega
      simp [Nat.testBit_or, inn, this]
    · refine ⟨by unfold inR; omega, next i hi ?_, by dsimp only; omega⟩
      have h2 : ¬ xs.length + 1 < long := by rw [ofN_len] at h1; omega
      have h3 : k = 0 := by omega
      simp [inn, h2, h3]
  · have hkl : k = xs.length - 1 := by omega
    subst hkl
    intro d
    have gd : Grow w' (dr w' d) := (Grow.refl w').dr d
    have c1d := gd.cell c1
    refine ⟨l, c1d, (hs.dr d).rd (i := 0) rfl (by simp; omega) ?_⟩
    rw [ofN_get, gn_get]
    have hext : extB N long xs x = (decide (gn xs 0 < x) && (decide (∀ j, j < xs.length - 1 → x ≠ gn xs j) && !(List.range (xs.length - 1)).any inn)) := by
      unfold extB
      rw [hx, Bool.true_and, Bool.eq_iff_iff]
      simp only [Bool.and_eq_true, decide_eq_true_eq, List.all_eq_true, List.mem_range, Bool.or_eq_true, Bool.not_eq_true', List.any_eq_false, inn]
      constructor
      · rintro ⟨h1, h2⟩
        refine ⟨h1, fun j hj => (h2 j hj).1, fun j hj => ?_⟩
        rcases (h2 j hj).2 with h3 | ⟨h3, h4⟩
        · simp [h3]
        · have : ¬ xs.length + 1 < long := by omega
          simp [h3, this]
      · rintro ⟨h1, h2, h3⟩
        refine ⟨h1, fun j hj => ⟨h2 j hj, ?_⟩⟩
        have := h3 j hj
        cases hb : (nb N (gn xs j)).testBit x with
        | false => exact .inl rfl
        | true =>
          rw [hb] at this
          simp at this
          exact .inr (by omega)
    refine condD (fun hx0 => ?_) (fun hx0 => ?_)
    rotate_left
    · have hd : dfsF N long f xs x = none := by
        unfold dfsF
        have : ¬ gn xs 0 < x := by omega
        rw [hext]; simp [this]
      repeat' first | exact hgrow gd hd | apply And.intro
    refine ⟨l, c1d, (contains_c (hs.dr d)).mono ?_⟩
    rintro e2 w2 ⟨rfl, g2⟩
    have gw2 := gd.trans g2
    have hmemb : ((x : Int) ∈ ofN xs) ↔ ¬ (∀ j, j < xs.length - 1 → x ≠ gn xs j) := by
      simp only [ofN, List.mem_map]
      constructor
      · rintro ⟨y, hy, hxy⟩ hall
        have hyx : y = x := by omega
        subst hyx
        obtain ⟨j, hj, rfl⟩ := List.mem_iff_getElem.1 hy
        rw [gn_get hj] at *
        by_cases e : j = xs.length - 1
        · subst e
          rw [hN.irr'] at hx; cases hx
        · exact hall j (by omega) rfl
      · intro h
        simp only [Classical.not_forall, Classical.not_not] at h
        obtain ⟨j, hj, e⟩ := h
        exact ⟨xs[j]'(by omega), List.getElem_mem _, by rw [gn_get (by omega), e]⟩
    refine ⟨_, rfl, condP_i (fun hno => ?_) (fun hno => ?_)⟩
    rotate_left
    · have hd : dfsF N long f xs x = none := by
        unfold dfsF
        simp only [Bool.not_eq_false', decide_eq_true_eq] at hno
        have := hmemb.1 hno
        rw [hext]
        simp only [this, decide_false, Bool.false_and, Bool.and_false]
        rfl
      repeat' first | exact hgrow gw2 hd | apply And.intro
    have hno : ∀ j, j < xs.length - 1 → x ≠ gn xs j := by
      simp only [Bool.not_eq_true', decide_eq_false_iff_not] at hno
      exact Classical.not_not.1 (fun h => hno (hmemb.2 h))
    refine ⟨by omega, ?_⟩
    rw [iBit _ (by omega), ibit_nat]
    refine condD (fun hb => ?_) (fun hb => ?_)
    rotate_left
    · have hd : dfsF N long f xs x = none := by
        unfold dfsF
        have : (List.range (xs.length - 1)).any inn = true := by
          rw [← hbit]
          cases h : i.testBit x with | true => rfl | false => simp [h] at hb
        rw [hext, this]; simp
      repeat' first | exact hgrow gw2 hd | apply And.intro
    have hinn : (List.range (xs.length - 1)).any inn = false := by
      rw [← hbit]
      cases h : i.testBit x with | true => simp [h] at hb | false => rfl
    have hextT : extB N long xs x = true := by
      rw [hext, hinn]
      have : gn xs 0 < x := by omega
      simp only [this, decide_true, Bool.true_and, Bool.not_false, Bool.and_true, decide_eq_true_eq]
      exact hno
    have hdF : dfsF N long f xs x = dfs N long f (xs ++ [x]) := by unfold dfsF; rw [if_pos hextT]
    have hst2 : HSt w0 bf bg w2 := hst.grow E.size gw2
    have e1 := gw2.cell c1
    have e2 := gw2.cell c2
    have e4 : w2.cell? ⟨bf + 1, 0, none⟩ = some (holeClo bf bg) := hst2.cl
    have ho2 := ho.grow gw2
    have core : ∀ w3, w3 = w2.alloc (.cells #[.int .i64 (x : Int)] 3) → ∀ {K : Value → World → Prop}, (∀ v' w4, w4.cell? ⟨b2, 0, none⟩ = some (.int .i64 (long : Int)) → w4.cell? ⟨bf + 1, 0, none⟩ = some (holeClo bf bg) → (∃ (g : FuncId) (fst cap : Array Value), holeClo bf bg = Value.func (.func g) fst cap ∧ callOK g = true ∧ Calls Tryd.prog g (fst ++ #[v', .int .i64 (long : Int)] ++ cap) w4 fun e w5 => ∃ t : Bool, e = .returned (.bool t) ∧ GPost w0 bf bg (dfsF N long f xs x) l xs w' (.returned (.bool t)) w5) → K v' w4) → PApp Tryd.prog 22 22 l (.slice (some ⟨w2.heap.size, 0, none⟩) 1 1) w3 K := fun w3 hw3 {K} hK => by
      refine papp1k el_int hw3 ho2 rfl (by have := hst2.sz; omega) (by simp; omega) (by omega) ?_
      intro v' w4 ho4 hf4 hkin
      have g3 := alloc_grow hw3
      have hst4 : HSt w0 bf bg w4 := by
        obtain ⟨u, hu⟩ := hst2.box
        refine (hst2.grow E.size g3).fr E.size hf4 (fun k hk => .inr (ho2.lt hk.symm).1) ⟨u, (hu.grow g3).fr hf4 fun e => ?_⟩
        have := (ho2.lt e.symm).1; omega
      have ho4' : OwnI w4 (bf + 2) v' (ofN (xs ++ [x])) := by
        rw [ofN_app]
        have e1 : (ofN xs ++ ofN [x]).length = (ofN xs).length + 1 := by simp
        have e2 : (ofN xs ++ ofN [x]).map encI = (ofN xs).map encI ++ [.int .i64 (x : Int)] := by simp [encI, ofN]
        unfold OwnI
        rw [e1, e2]
        exact ho4
      refine hK v' w4 (hf4.cell (g3.cell e2) fun e => n2.2 e.symm) hst4.cl ⟨_, _, _, rfl, rfl, (ih (xs ++ [x]) w4 v' hst4 ho4' (by simp; omega) (by simp) (fun y hy => by
        rcases List.mem_append.1 hy with h | h
        · exact hxs y h
        · have : y = x := by simpa using h
          omega)).mono ?_⟩
      rintro e5 w5 ⟨b, rfl, hst5, hf5, hfalse, htrue⟩
      have hv'own : v'.ownBlock = l.ownBlock ∨ ∃ k, v'.ownBlock = some k ∧ w3.heap.size ≤ k := by
        rcases hkin with ⟨g, cap, rfl, rfl⟩ | ⟨k, h1, h2, _⟩
        · exact .inl rfl
        · exact .inr ⟨k, h1, h2⟩
      have hsz3 : w'.heap.size ≤ w3.heap.size := (gw2.trans g3).size
      have hfr : Fr (fun k => k = bf ∨ some k = l.ownBlock) w' w5 := by
        have f1 : Fr (fun k => k = bf ∨ some k = l.ownBlock) w' w4 := (Fr.of_grow (gw2.trans g3)).trans (hf4.mono fun k _ h => .inr h)
        refine ⟨hf5.os.trans f1.os, hf5.tape.trans f1.tape, hf5.output.trans f1.output, Nat.le_trans f1.size hf5.size, fun k hk hn => (hf5.block k (by have := f1.size; omega) fun h => hn ?_).trans (f1.block k hk hn)⟩
        rcases h with h | h
        · exact .inl h
        · rcases hv'own with h2 | ⟨k2, h2, h3⟩
          · exact .inr (by rw [h, h2])
          · rw [h2] at h
            simp at h; omega
      refine ⟨b, rfl, b, rfl, hst5, hfr, fun hb => ?_, fun hb => ?_⟩
      · obtain ⟨hd, ho5⟩ := hfalse hb
        refine ⟨by rw [hdF, hd], ?_⟩
        have e1 : (ofN (xs ++ [x])).length = (ofN xs).length + 1 := by simp
        have e2 : (ofN (xs ++ [x])).map encI = (ofN xs).map encI ++ [.int .i64 (x : Int)] := by simp [encI, ofN]
        unfold OwnI at ho5
        rw [e1, e2] at ho5
        refine kin_back hkin (ho2.grow g3) ho5 hf5 fun k hk => ?_
        rcases hk with h | h
        · refine .inr fun e => ?_
          have := (ho2.lt e).1; omega
        · exact .inl h
      · obtain ⟨r, u, hd, hbx, hsr⟩ := htrue hb
        exact ⟨r, u, by rw [hdF, hd], hbx, hsr⟩
    repeat' first
      | exact core _ (by assumption) fun v' w4 hc hc4 hcall => by repeat' first | exact hcall | refine And.intro ?_ ?_ | refine ⟨_, hc, ?_⟩ | refine ⟨_, hc4, ?_⟩
      | refine And.intro ?_ ?_
      | refine ⟨_, e1, ?_⟩
      | refine ⟨_, e2, ?_⟩
      | refine ⟨_, e4, ?_⟩
      | refine ⟨_, (alloc_grow (by assumption)).cell e1, ?_⟩
      | refine ⟨_, (alloc_grow (by assumption)).cell e2, ?_⟩
      | refine ⟨_, (alloc_grow (by assumption)).cell e4, ?_⟩
      | intro w3 hw3
end Go.Proofs.YtmpjanpmkmlloaaDoor
