/- Contracts: all repairs, by the program (a map gone through in any order, then sorted). No condition. -/
import Derived.Test.YtmjpnfapjcfejaaDoorRf
import Derived.Test.YtmjpnfapjcfejaaDoorSh
import Derived.Sort.OwnSortedInts
namespace Go.Proofs.YtmjpnfapjcfejaaDoor
open Go Go.RowKit VC
set_option linter.unusedSimpArgs false
set_option linter.unusedVariables false

def natI (l : List Nat) : List Int := l.map fun (x : Nat) => (x : Int)
theorem natI_len (l : List Nat) : (natI l).length = l.length := by simp [natI]
theorem natI_get {l : List Nat} {i : Nat} (hi : i < l.length) (hi' : i < (natI l).length) : (natI l)[i] = (l[i] : Int) := by simp [natI]
theorem natI_app (l l' : List Nat) : natI (l ++ l') = natI l ++ natI l' := by simp [natI]
theorem sortI_c {w : World} {B : Nat} {v : Value} {xs : List Int} (h : OwnI w B v xs) (hlen : xs.length < 4611686018427387904) : Calls Tryd.prog 90 #[v] w fun e w' => e = .returned (.tuple #[]) ∧ OwnI w' B v (xs.mergeSort fun x y => decide (x ≤ y)) ∧ Fr (fun k => some k = v.ownBlock) w w' := by
  rcases h.2 with ⟨rfl, h0⟩ | ⟨g, cap, cur, rfl, hb, hgg, hnc, hcm, hcs, htake⟩
  · have hx : xs = [] := by simpa using h0
    subst hx
    refine (Tryd.slices_Sort_int_none none 0 w).mono ?_
    rintro e w' ⟨rfl, rfl⟩
    exact ⟨rfl, by simpa using h, Fr.refl _ _⟩
  · have ht : cur.toList.take xs.length = xs.map (Value.int .i64) := by
      have h := htake
      rw [Nat.mul_one] at h
      exact h
    have hH := Go.holds_of_blockI hgg ht
    refine (Tryd.slices_Sort_int g 0 cap xs w hH (Array.getElem?_eq_some_iff.1 hgg).1 hlen).mono ?_
    rintro e w' ⟨rfl, n, os, rfl⟩
    have hl : (xs.mergeSort fun x y => decide (x ≤ y)).length = xs.length := by simp
    refine ⟨rfl, ?_, Fr.of_grown (Go.grownBy_sortedI _)⟩
    have := Go.ownsRow_sortedI (base := B) (n := n) (os := os) (ss := xs) (ts := xs.mergeSort fun x y => decide (x ≤ y)) (e := 3) (cap := cap) hl hb hgg hnc hcm hcs
    unfold OwnI
    rw [hl]
    exact this
theorem sort_nat (cs : List Nat) : ∃ ds : List Nat, (natI cs).mergeSort (fun x y => decide (x ≤ y)) = natI ds ∧ ds.Perm cs ∧ ds.Pairwise (· ≤ ·) := by
  have hp := List.mergeSort_perm (natI cs) (fun x y => decide (x ≤ y))
  have hs := List.pairwise_mergeSort (le := fun x y : Int => decide (x ≤ y)) (fun a b c h1 h2 => by simp at h1 h2 ⊢; omega) (fun a b => by simp; omega) (natI cs)
  generalize (natI cs).mergeSort (fun x y => decide (x ≤ y)) = l at hp hs
  have hnn : ∀ x ∈ l, 0 ≤ x := fun x hx => by
    have := hp.subset hx
    obtain ⟨n, _, rfl⟩ := List.mem_map.1 this
    omega
  have e : natI (l.map Int.toNat) = l := by
    unfold natI
    rw [List.map_map]
    conv => rhs; rw [← List.map_id l]
    exact List.map_congr_left fun x hx => by have := hnn x hx; simp; omega
  refine ⟨l.map Int.toNat, e.symm, ?_, ?_⟩
  · have := hp.map Int.toNat
    have e2 : (natI cs).map Int.toNat = cs := by
      unfold natI
      rw [List.map_map]
      conv => rhs; rw [← List.map_id cs]
      exact List.map_congr_left fun x _ => by simp
    rwa [e2] at this
  · rw [List.pairwise_map]
    exact hs.imp fun h => by simp at h; omega
/-- The set of all repairs, sorted. -/
theorem sort_allR {kl : Int → Nat} {L : List Atm} {cs : List Nat} (hn : cs.Nodup) (hm : ∀ r, r ∈ cs ↔ r ∈ allR kl L) : (natI cs).mergeSort (fun x y => decide (x ≤ y)) = natI (allR kl L) := by
  obtain ⟨ds, e, hp, hs⟩ := sort_nat cs
  rw [e]
  congr 1
  have hd : ds.Nodup := hp.nodup_iff.2 hn
  refine inc_uniq ?_ inc_allR fun a => (hp.mem_iff).trans (hm a)
  exact (List.pairwise_and_iff.2 ⟨hs, hd⟩).imp fun h => by have := h.1; have := h.2; omega
/-! ## The map of the blocks -/
theorem getM_map (f : Nat → Value) (j : Nat) : ∀ l : List Nat, getM (l.map fun (i : Nat) => ((i : Int), f i)) (j : Int) = if j ∈ l then some (f j) else none
  | [] => rfl
  | a :: r => by
    rw [List.map_cons, getM_cons, getM_map f j r]
    by_cases h : j = a
    · subst h; simp
    · have : ¬ (j : Int) = (a : Int) := by omega
      simp [h, this]
theorem updM_map (f : Nat → Value) (j : Nat) (v : Value) : ∀ l : List Nat, l.Nodup → updM (l.map fun (i : Nat) => ((i : Int), f i)) (j : Int) v = if j ∈ l then l.map (fun (i : Nat) => ((i : Int), if i = j then v else f i)) else l.map (fun (i : Nat) => ((i : Int), f i)) ++ [((j : Int), v)]
  | [], _ => rfl
  | a :: r, hn => by
    rw [List.nodup_cons] at hn
    rw [List.map_cons]
    unfold updM
    by_cases h : j = a
    · subst h
      rw [if_pos rfl, if_pos (List.mem_cons_self ..), List.map_cons, if_pos rfl]
      congr 1
      refine List.map_congr_left fun i hi => ?_
      rw [if_neg (fun e : i = j => hn.1 (e ▸ hi))]
    · have hne : ¬ (j : Int) = (a : Int) := by omega
      rw [if_neg hne, updM_map f j v r hn.2]
      by_cases hr : j ∈ r
      · rw [if_pos hr, if_pos (List.mem_cons_of_mem _ hr), List.map_cons, if_neg (fun e => h e.symm)]
      · rw [if_neg hr, if_neg (by simp [h, hr])]
        rfl
def keysN (kl : Int → Nat) (L : List Atm) (k : Nat) : List Nat := (List.range k).filter fun i => decide (blkN kl L i = i)
def encM (l : List (Nat × Nat)) : List (Int × Value) := l.map fun p => ((p.1 : Int), .int .i64 (p.2 : Int))
theorem encM_kv (kl : Int → Nat) (L : List Atm) (k : Nat) : encM (kvP kl L k) = (keysN kl L k).map fun (i : Nat) => ((i : Int), Value.int .i64 (bmask kl L k i : Int)) := by
  unfold encM kvP keysN
  rw [List.map_map]
  rfl
theorem mem_keysN {kl : Int → Nat} {L : List Atm} {k i : Nat} : i ∈ keysN kl L k ↔ i < k ∧ blkN kl L i = i := by
  unfold keysN
  rw [List.mem_filter, List.mem_range, decide_eq_true_eq]
theorem bmask_none {kl : Int → Nat} {L : List Atm} {k j : Nat} (h : ∀ i, i < k → blkN kl L i ≠ j) : bmask kl L k j = 0 := Nat.eq_of_testBit_eq fun i => by
  rw [Nat.zero_testBit, ← Bool.not_eq_true, bmask_bit]
  exact fun h2 => h i h2.1 h2.2
theorem kv_get {kl : Int → Nat} {L : List Atm} {k : Nat} (hk : k < L.length) : (getM (encM (kvP kl L k)) (blkN kl L k : Int)).getD (.int .i64 0) = .int .i64 (bmask kl L k (blkN kl L k) : Int) := by
  rw [encM_kv, getM_map fun i => Value.int .i64 (bmask kl L k i : Int)]
  split
  · rfl
  · rename_i h
    rw [bmask_none fun i hi e => h (mem_keysN.2 ⟨?_, blk_blk hk⟩)]
    · rfl
    · have := (blk_spec (kl := kl) (L := L) (i := i) (by omega)).1
      omega
theorem kv_upd {kl : Int → Nat} {L : List Atm} {k : Nat} (hk : k < L.length) : updM (encM (kvP kl L k)) (blkN kl L k : Int) (.int .i64 ((bmask kl L k (blkN kl L k) ||| 2 ^ k : Nat) : Int)) = encM (kvP kl L (k + 1)) := by
  have hn : (keysN kl L k).Nodup := List.nodup_range.filter _
  have step : ∀ i, bmask kl L (k + 1) i = if i = blkN kl L k then bmask kl L k (blkN kl L k) ||| 2 ^ k else bmask kl L k i := fun i => by
    conv => lhs; unfold bmask
    by_cases e : i = blkN kl L k
    · subst e; simp
    · rw [if_neg (fun h => e h.symm), if_neg e]
  rw [encM_kv, encM_kv, updM_map (fun i => Value.int .i64 (bmask kl L k i : Int)) _ _ _ hn]
  have keys : keysN kl L (k + 1) = keysN kl L k ++ (if blkN kl L k = k then [k] else []) := by
    unfold keysN
    rw [List.range_succ, List.filter_append]
    congr 1
    by_cases e : blkN kl L k = k <;> simp [e]
  split
  · rename_i h
    have hlt := (mem_keysN.1 h).1
    rw [keys, if_neg (by omega), List.append_nil]
    refine List.map_congr_left fun i hi => ?_
    rw [step]
    split <;> rfl
  · rename_i h
    have e : blkN kl L k = k := by
      have h1 := (blk_spec (kl := kl) hk).1
      have h2 := blk_blk (kl := kl) hk
      refine Classical.byContradiction fun hne => h (mem_keysN.2 ⟨by omega, h2⟩)
    rw [keys, if_pos e, List.map_append]
    congr 1
    · refine List.map_congr_left fun i hi => ?_
      rw [step, if_neg (by have := (mem_keysN.1 hi).1; omega)]
    · rw [List.map_cons, List.map_nil, step, e, if_pos rfl]
/-! ## A range over it -/
theorem perm_enc {l : List (Nat × Nat)} {p : Int × Value} {left : List (Int × Value)} (h : (encM l).Perm (p :: left)) : ∃ q l', p = ((q.1 : Int), .int .i64 (q.2 : Int)) ∧ left = encM l' ∧ l.Perm (q :: l') := by
  let dec : Int × Value → Nat × Nat := fun p => (p.1.toNat, match p.2 with | .int _ z => z.toNat | _ => 0)
  have hdec : ∀ q : Nat × Nat, dec ((q.1 : Int), .int .i64 (q.2 : Int)) = q := fun q => by simp [dec]
  have mem : ∀ x ∈ p :: left, ((((dec x).1 : Nat) : Int), Value.int .i64 (((dec x).2 : Nat) : Int)) = x := fun x hx => by
    obtain ⟨q, hq, rfl⟩ := List.mem_map.1 (h.mem_iff.2 hx)
    rw [hdec]
  refine ⟨dec p, left.map dec, (mem p (List.mem_cons_self ..)).symm, ?_, ?_⟩
  · unfold encM
    rw [List.map_map]
    conv => lhs; rw [← List.map_id left]
    exact List.map_congr_left fun x hx => (mem x (List.mem_cons_of_mem _ hx)).symm
  · have := h.map dec
    rw [encM, List.map_map, List.map_cons] at this
    have e : l.map (dec ∘ fun p : Nat × Nat => ((p.1 : Int), Value.int .i64 (p.2 : Int))) = l := by
      conv => rhs; rw [← List.map_id l]
      exact List.map_congr_left fun x _ => hdec x
    rwa [e] at this
def itLeft (w : World) (b r : Nat) : Nat := match w.heap[b]?, w.heap[r]? with
  | some (.map es _), some (.mapIter _ _ seen _) => (es.toList.filter fun e => !seen.contains e.born).length
  | _, _ => 0
theorem itLeft_eq {w : World} {b r : Nat} {kv left : List (Int × Value)} (h : ItS w b r kv left) : itLeft w b r = left.length := by
  obtain ⟨es, clock, since, seen, c0, h1, h2, h3, h4, h5, h6, h7, rfl⟩ := h.ex
  unfold itLeft
  rw [h1, h5]
  simp
/-! ## The bits of a set, one by one -/
def lowOk (s : Nat) : Bool := s == 0 || iAnd .i64 (s : Int) (0 - (s : Int)) == ((2 ^ tz s : Nat) : Int)
theorem lowAll' : ∀ a, a < 64 → ∀ b, b < 64 → lowOk (a * 64 + b) = true := by decide +kernel
theorem low_bit {s : Nat} (hs : s < 4096) (h0 : s ≠ 0) : iAnd .i64 (s : Int) (0 - (s : Int)) = ((2 ^ tz s : Nat) : Int) := by
  have := all4096 (p := fun s => lowOk s = true) lowAll' s hs
  simp only [lowOk, Bool.or_eq_true, beq_iff_eq] at this
  exact this.resolve_left h0
theorem bitsOf_els {n s : Nat} (hn : n ≤ 12) (hs : s < 2 ^ n) : bitsOf n s = els s := by
  unfold bitsOf els
  have : List.range 12 = List.range n ++ (List.range (12 - n)).map (n + ·) := by
    rw [← List.range_add]
    congr 1
    omega
  rw [this, List.filter_append]
  have e : ((List.range (12 - n)).map (n + ·)).filter s.testBit = [] := List.filter_eq_nil_iff.2 fun x hx => by
    obtain ⟨j, _, rfl⟩ := List.mem_map.1 hx
    intro hb
    have := bit_lt hs hb
    omega
  rw [e, List.append_nil]
theorem kv_small {kl : Int → Nat} {L : List Atm} {p : Nat × Nat} {k : Nat} (h : p ∈ kvP kl L k) : p.2 < 2 ^ k := by
  unfold kvP at h
  obtain ⟨i, _, rfl⟩ := List.mem_map.1 h
  refine Nat.lt_pow_two_of_testBit _ fun j hj => ?_
  rw [← Bool.not_eq_true, bmask_bit]
  omega
theorem prodR_small {n : Nat} {sets : List Nat} (hd : sets.Pairwise fun s t => s &&& t = 0) (hb : ∀ s ∈ sets, s < 2 ^ n) : ∀ r ∈ prodR n sets, r < 2 ^ n := fun r hr => by
  have h := ((mem_prodR hd hb r).1 hr).1
  refine Nat.lt_pow_two_of_testBit _ fun i hi => ?_
  rw [← Bool.not_eq_true]
  intro hbit
  obtain ⟨s, hs, h3⟩ := h i hbit
  have := bit_lt (hb s hs) h3
  omega
theorem prodR_len {n : Nat} {sets : List Nat} (hd : sets.Pairwise fun s t => s &&& t = 0) (hb : ∀ s ∈ sets, s < 2 ^ n) : (prodR n sets).length ≤ 2 ^ n := by
  have := sub_len (l' := List.range (2 ^ n)) (nodup_prodR hd hb) fun r hr => List.mem_range.2 (prodR_small hd hb r hr)
  rwa [List.length_range] at this
end Go.Proofs.YtmjpnfapjcfejaaDoor

/- Contracts: all repairs, and their number, by the program. No condition. -/
namespace Go.Proofs.YtmjpnfapjcfejaaDoor
open Go Go.RowKit VC
set_option linter.unusedSimpArgs false
set_option linter.unusedVariables false

theorem bmask_lt (kl : Int → Nat) (L : List Atm) (k j : Nat) : bmask kl L k j < 2 ^ k := Nat.lt_pow_two_of_testBit _ fun i hi => by
  rw [← Bool.not_eq_true, bmask_bit]
  omega
theorem kv_sets {kl : Int → Nat} {L : List Atm} {sets rest : List Nat} (h : (sets ++ rest).Perm ((kvP kl L L.length).map Prod.snd)) : (sets.Pairwise fun s t => s &&& t = 0) ∧ ∀ s ∈ sets ++ rest, s < 2 ^ L.length := by
  have hd : (sets ++ rest).Pairwise fun s t => s &&& t = 0 := by
    refine (h.pairwise_iff (fun {a b} h => by rw [Nat.and_comm]; exact h)).2 ?_
    unfold kvP
    rw [List.map_map, List.pairwise_map]
    refine List.Pairwise.imp_of_mem (R := fun a b => a ≠ b) (fun {a b} _ _ hab => ?_) (List.nodup_range.filter _)
    refine Classical.byContradiction fun h0 => ?_
    obtain ⟨x, h1, h2⟩ := and_ne_zero.1 h0
    have h1 := (bmask_bit _ _ _).1 h1
    have h2 := (bmask_bit _ _ _).1 h2
    exact hab (h1.2.symm.trans h2.2)
  refine ⟨(List.pairwise_append.1 hd).1, fun s hs => ?_⟩
  obtain ⟨p, hp, rfl⟩ := List.mem_map.1 (h.mem_iff.1 hs)
  exact kv_small hp
theorem mulR_succ (n : Nat) (R : List Nat) (s : Nat) {i : Nat} (hi : i < R.length) : mulR n (R.take (i + 1)) s = mulR n (R.take i) s ++ (bitsOf n s).map fun j => R[i] ||| 2 ^ j := by
  unfold mulR
  rw [List.take_succ_eq_append_getElem hi, List.flatMap_append, List.flatMap_cons, List.flatMap_nil, List.append_nil]
theorem mulR_len (n : Nat) (R : List Nat) (s : Nat) : (mulR n R s).length = R.length * (bitsOf n s).length := by
  unfold mulR
  induction R with
  | nil => simp
  | cons a r ih => rw [List.flatMap_cons, List.length_append, ih, List.length_map, List.length_cons, Nat.succ_mul]; omega
theorem bitsOf_len (n s : Nat) : (bitsOf n s).length ≤ n := by
  have := List.length_filter_le s.testBit (List.range n)
  rwa [List.length_range] at this
/-- An array of the call's own that takes one more number. -/
theorem ownApp {w w' : World} {B : Nat} {v : Value} {l : List Nat} {x : Nat} (h : Own w' B 3 1 v ((natI l).length + 1) ((natI l).map encI ++ [.int .i64 (x : Int)])) : OwnI w' B v (natI (l ++ [x])) := by
  unfold OwnI
  rw [natI_app, List.length_append, List.map_append]
  exact h
theorem repairs_c {w : World} {sv fv : Value} {s : List Int} {L : List Atm} (hs : SlI w sv s) (hl : SlA w fv L) (hR : okR s L = true) :
    Calls Tryd.prog 72 #[.agg #[sv, fv]] w fun e w' => ∃ v, e = .returned v ∧ SlI w' v (natI (allR (klS s) L)) ∧ Grow w w' := by
  refine f72_calls _ ?_
  obtain ⟨um, uk, ui, uz⟩ := el_mapI
  have h12 := (okR_out hR).2.1
  have hpow : 2 ^ L.length ≤ 2 ^ 12 := Nat.pow_le_pow_right (by omega) h12
  refine ⟨_, rfl, fun w1 hw1 => ?_⟩
  have g1 := alloc_grow hw1
  have s1 := alloc_size hw1
  have hB := RecV.new hw1
  refine VC.MapSt.make _ w1 fun w3 hw3 hm3 g3 s3 => ?_
  refine ⟨_, (hB.grow g3).cell (j := 1) rfl, SlX.ln (hl.gr (g1.trans g3)) ?_⟩
  obtain ⟨kl, hkl⟩ : ∃ kl, kl = klS s := ⟨_, rfl⟩
  refine ⟨fun t w' => ∃ k : Nat, t = k ∧ k ≤ L.length ∧ VC.MapSt w' w1.heap.size (encM (kvP (klS s) L k)) ∧ Fr (fun i => i = w1.heap.size) w3 w', fun t _ => L.length - t.toNat, ⟨0, rfl, by omega, hm3, Fr.refl _ _⟩, ?_⟩
  rintro - t w13 ⟨k, rfl, hk, hm13, hf13⟩
  have gW : ∀ {w'}, Fr (fun i => i = w1.heap.size) w3 w' → Grow w w' := fun hf => (g1.trans g3).fr hf fun i hi e => by omega
  have g13 := gW hf13
  have s13 := hf13.size
  refine condD (fun hlt => ?_) fun hge => ?_
  · intro m
    have hkl2 : k < L.length := by omega
    have gm : Grow w13 (dr w13 m.1) := (Grow.refl w13).dr m.1
    refine ⟨by omega, [_, _], rfl, (((hB.grow g3).fr hf13 (by omega)).grow gm).all, (block_c (hs.grow (g13.trans gm)) (hl.gr (g13.trans gm)) hR hkl2).mono ?_⟩
    rintro e w16 ⟨rfl, g16⟩
    have hm16 := (hm13.grow gm).grow g16
    have hget := hm16.toI.get (P := Tryd.prog) um uk ui uz (blkN (klS s) L k : Int) false
    rw [if_neg (by decide), kv_get hkl2] at hget
    obtain ⟨w21, hr21, hm21, f21⟩ := hm16.set (P := Tryd.prog) um uk (blkN (klS s) L k : Int) (.int .i64 ((bmask (klS s) L k (blkN (klS s) L k) ||| 2 ^ k : Nat) : Int))
    rw [kv_upd hkl2] at hm21
    refine ⟨_, rfl, _, w16, hget, w21, ?_, by unfold inR; omega, ⟨k + 1, by omega, by omega, hm21, (hf13.trans (Fr.of_grow (gm.trans g16))).trans f21⟩, by dsimp only; omega⟩
    have h1 := bmask_lt (klS s) L k (blkN (klS s) L k)
    have h2 : 2 ^ k ≤ 2 ^ 12 := Nat.pow_le_pow_right (by omega) (by omega)
    rw [iShl_one (by omega), iOr_nat (by omega) (by omega)]
    exact hr21
  · have hkL : k = L.length := by omega
    subst hkL
    intro w22 hw22
    have g22 := alloc_grow hw22
    have s22 := alloc_size hw22
    have out0 : OwnI w22 w13.heap.size (.slice (some ⟨w13.heap.size, 0, none⟩) 1 1) (natI (prodR L.length [])) := Own.lit (B := w13.heap.size) (n := 1) (sz := 1) hw22 (Nat.le_refl _) (by omega) (by simp)
    refine VC.MapSt.range um (hm13.grow g22) fun w23 hit23 g23 s23 => ?_
    have gw23 := (g13.trans g22).trans g23
    refine ⟨fun out w' => ∃ (sets : List Nat) (lft : List (Nat × Nat)), (sets ++ lft.map Prod.snd).Perm ((kvP (klS s) L L.length).map Prod.snd) ∧ ItS w' w1.heap.size w22.heap.size (encM (kvP (klS s) L L.length)) (encM lft) ∧ OwnI w' w13.heap.size out (natI (prodR L.length sets)) ∧ (∀ b, out.ownBlock = some b → b ≠ w22.heap.size) ∧ Grow w w' ∧ w23.heap.size ≤ w'.heap.size,
      fun _ w' => itLeft w' w1.heap.size w22.heap.size, ⟨[], kvP (klS s) L L.length, List.Perm.refl _, hit23, Own.grow out0 g23, fun b hb e => ?_, gw23, Nat.le_refl _⟩, ?_⟩
    · simp [Value.ownBlock] at hb
      omega
    rintro - out w29 ⟨sets, lft, hp, hit, ho, hne, gw, hsz⟩
    obtain ⟨hdis, hbd⟩ := kv_sets hp
    have hRl : (prodR L.length sets).length ≤ 4096 := by
      have := prodR_len hdis fun s hs => hbd s (List.mem_append_left _ hs)
      omega
    have hRs : ∀ r ∈ prodR L.length sets, r < 4096 := fun r hr => by
      have := prodR_small hdis (fun s hs => hbd s (List.mem_append_left _ hs)) r hr
      omega
    rcases hit.next (P := Tryd.prog) (by omega) 0 with ⟨hnil, hrun⟩ | ⟨p, left', w35, hperm, hrun, hit', hf35, hent⟩
    · refine ⟨fun t w' => t = false ∧ w' = w29, .inl ⟨w29, hrun, rfl, rfl⟩, ?_⟩
      rintro - t w37 ⟨rfl, rfl⟩
      have hl0 : lft = [] := by
        unfold encM at hnil
        exact List.map_eq_nil_iff.1 hnil
      subst hl0
      have hall := prod_all (kl := klS s) (L := L) (sets := sets) (by simpa using hp)
      refine cF rfl ((sortI_c ho (by rw [natI_len]; omega)).mono ?_)
      rintro e w63 ⟨rfl, ho', hf'⟩
      rw [sort_allR hall.1 hall.2] at ho'
      exact ⟨rfl, _, rfl, Own.slI ho', gw.fr hf' fun i hi e => by have := (Own.lt ho e.symm).1; have := g13.size; omega⟩
    · obtain ⟨q, lft', rfl, rfl, hperm2⟩ := perm_enc hperm
      refine ⟨fun t w' => t = true ∧ w' = w35, .inr ⟨_, _, w35, hrun, rfl, rfl⟩, ?_⟩
      rintro - t w37 ⟨rfl, rfl⟩
      refine cT rfl ⟨_, _, w37, hent, ?_⟩
      obtain ⟨S, hS⟩ : ∃ S, S = q.2 := ⟨_, rfl⟩
      have hSm : S < 2 ^ L.length := hbd S (List.mem_append_right _ (List.mem_map.2 ⟨q, hperm2.mem_iff.2 (List.mem_cons_self ..), hS.symm⟩))
      have hS4 : S < 4096 := by omega
      have hbits : bitsOf L.length S = els S := bitsOf_els h12 hSm
      have s35 := hf35.size
      have ho35 : OwnI w37 w13.heap.size out (natI (prodR L.length sets)) := Own.fr ho hf35 fun b hb e => hne b hb e
      obtain ⟨R, hRR⟩ : ∃ R, R = prodR L.length sets := ⟨_, rfl⟩
      rw [← hRR] at ho35 hRl hRs
      have g35 : Grow w w37 := gw.fr hf35 fun i hi e => by have := g13.size; omega
      have hso : SlI w37 out (natI R) := Own.slI ho35
      rw [← hS]
      refine hso.ln ?_
      rw [natI_len]
      refine ⟨fun next t w' => ∃ i : Nat, t = i ∧ i ≤ R.length ∧ OwnI w' w37.heap.size next (natI (mulR L.length (R.take i) S)) ∧ Grow w37 w', fun _ t _ => R.length - t.toNat, ⟨0, rfl, by omega, Own.nil _ _ _ _, Grow.refl _⟩, ?_⟩
      rintro - next t w49 ⟨i, rfl, hi, hn, g49⟩
      refine condD (fun hlt => ?_) fun hge2 => ?_
      · have hil : i < R.length := by omega
        refine (hso.grow g49).rd rfl (by rw [natI_len]; exact hil) ?_
        rw [natI_get hil]
        have hri := hRs _ (List.getElem_mem hil)
        refine ⟨fun nx left w' => ∃ (l : Nat) (done : List Nat), left = l ∧ done ++ els l = els S ∧ l < 4096 ∧ OwnI w' w37.heap.size nx (natI (mulR L.length (R.take i) S ++ done.map fun j => R[i] ||| 2 ^ j)) ∧ Grow w37 w', fun _ left _ => left.toNat, ⟨S, [], rfl, rfl, hS4, by rw [List.map_nil, List.append_nil]; exact hn, g49⟩, ?_⟩
        rintro - nx left w59 ⟨l, done, rfl, hd, hl4, hnx, g59⟩
        refine condP_i (fun hne2 => ?_) fun heq => ?_
        · have hl0 : l ≠ 0 := by simp at hne2; omega
          obtain ⟨e1, e2, e3⟩ := els_step hl4 hl0
          refine ⟨by unfold inR; omega, ?_⟩
          have ht : 2 ^ tz l ≤ 2 ^ 11 := Nat.pow_le_pow_right (by omega) (by omega)
          rw [low_bit hl4 hl0, iOr_nat (by omega) (by omega)]
          intro w60 hw60
          have hdl : done.length ≤ 12 := by
            have := congrArg List.length hd
            rw [List.length_append] at this
            have h2 : (els S).length ≤ 12 := by
              have := List.length_filter_le S.testBit (List.range 12)
              rwa [List.length_range] at this
            omega
          have hlen : (natI (mulR L.length (R.take i) S ++ done.map fun j => R[i] ||| 2 ^ j)).length ≤ 60000 := by
            rw [natI_len, List.length_append, List.length_map, mulR_len, List.length_take]
            have h1 := bitsOf_len L.length S
            have h2 : min i R.length * (bitsOf L.length S).length ≤ 4096 * 12 := Nat.mul_le_mul (by omega) (by omega)
            omega
          refine papp1 el_int hw60 hnx rfl g59.size (by omega) (by omega) fun v' w' ho2 hf2 _ => ⟨by unfold inR; omega, ⟨l &&& (l - 1), done ++ [tz l], ?_, ?_, by omega, ?_, ?_⟩, ?_⟩
          · rw [show ((l : Int) - 1) = ((l - 1 : Nat) : Int) by omega, iAnd_nat (by omega) (by omega)]
          · rw [List.append_assoc, ← hd, e1]
            rfl
          · have := ownApp (w := w59) ho2
            rw [List.map_append, ← List.append_assoc]
            exact this
          · exact (g59.trans (alloc_grow hw60)).fr hf2 fun b hb e => by have := (Own.lt hnx e.symm).1; omega
          · rw [show ((l : Int) - 1) = ((l - 1 : Nat) : Int) by omega, iAnd_nat (by omega) (by omega)]
            dsimp only
            omega
        · have hl0 : l = 0 := by simp at heq; omega
          subst hl0
          rw [els_zero, List.append_nil] at hd
          refine ⟨by unfold inR; omega, ⟨i + 1, by omega, by omega, ?_, g59⟩, by dsimp only; omega⟩
          rw [mulR_succ _ _ _ hil, hbits, ← hd]
          exact hnx
      · have hil : i = R.length := by omega
        subst hil
        rw [List.take_length] at hn
        have s49 := g49.size
        refine ⟨⟨sets ++ [S], lft', ?_, hit'.grow g49, ?_, fun b hb e => ?_, g35.trans g49, by omega⟩, ?_⟩
        · refine List.Perm.trans ?_ hp
          rw [List.append_assoc]
          refine List.Perm.append_left _ ?_
          have := hperm2.map Prod.snd
          rw [List.map_cons] at this
          rw [hS]
          exact this.symm
        · rw [prodR_app, ← hRR]
          exact Own.mono hn (by omega)
        · have := (Own.lt hn hb).1
          omega
        · dsimp only
          rw [itLeft_eq (hit'.grow g49), itLeft_eq hit]
          have := hperm2.length_eq
          simp only [encM, List.length_map, List.length_cons] at this ⊢
          omega
end Go.Proofs.YtmjpnfapjcfejaaDoor
