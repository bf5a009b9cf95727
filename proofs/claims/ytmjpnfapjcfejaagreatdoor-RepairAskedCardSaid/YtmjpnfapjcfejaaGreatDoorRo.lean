/- Contracts: all repairs, by the program (a map gone through in any order, then sorted). No condition. -/
import Derived.Test.YtmjpnfapjcfejaaGreatDoorRf
import Derived.Test.YtmjpnfapjcfejaaGreatDoorSh
import Derived.Sort.OwnSortedInts
import Derived.Test.YtmjpnfapjcfejaaGreatDoorRd
namespace Go.Proofs.YtmjpnfapjcfejaaGreatDoor
open Go Go.RowKit VC
set_option linter.unusedSimpArgs false
set_option linter.unusedVariables false

def natI (l : List Nat) : List Int := l.map fun (x : Nat) => (x : Int)
theorem natI_len (l : List Nat) : (natI l).length = l.length := by simp [natI]
theorem natI_get {l : List Nat} {i : Nat} (hi : i < l.length) (hi' : i < (natI l).length) : (natI l)[i] = (l[i] : Int) := by simp [natI]
theorem natI_app (l l' : List Nat) : natI (l ++ l') = natI l ++ natI l' := by simp [natI]
theorem sortI_c {w : World} {B : Nat} {v : Value} {xs : List Int} (h : OwnI w B v xs) (hlen : xs.length < 4611686018427387904) : Calls Tryz.prog 78 #[v] w fun e w' => e = .returned (.tuple #[]) ∧ OwnI w' B v (xs.mergeSort fun x y => decide (x ≤ y)) ∧ Fr (fun k => some k = v.ownBlock) w w' := by
  rcases h.2 with ⟨rfl, h0⟩ | ⟨g, cap, cur, rfl, hb, hgg, hnc, hcm, hcs, htake⟩
  · have hx : xs = [] := by simpa using h0
    subst hx
    refine (Tryz.slices_Sort_int_none none 0 w).mono ?_
    rintro e w' ⟨rfl, rfl⟩
    exact ⟨rfl, by simpa using h, Fr.refl _ _⟩
  · have ht : cur.toList.take xs.length = xs.map (Value.int .i64) := by
      have h := htake
      rw [Nat.mul_one] at h
      exact h
    have hH := Go.holds_of_blockI hgg ht
    refine (Tryz.slices_Sort_int g 0 cap xs w hH (Array.getElem?_eq_some_iff.1 hgg).1 hlen).mono ?_
    rintro e w' ⟨rfl, n, os, rfl⟩
    have hl : (xs.mergeSort fun x y => decide (x ≤ y)).length = xs.length := by simp
    refine ⟨rfl, ?_, Fr.of_grown (Go.grownBy_sortedI _)⟩
    have := Go.ownsRow_sortedI (base := B) (n := n) (os := os) (ss := xs) (ts := xs.mergeSort fun x y => decide (x ≤ y)) (e := 3) (cap := cap) hl hb hgg hnc hcm hcs
    unfold OwnI
    rw [hl]
    exact this
theorem sort_nat (cs : List Nat) : ∃ ds : List Nat, (natI cs).mergeSort (fun x y => decide (x ≤ y)) = natI ds ∧ ds.Perm cs ∧ ds.Pairwise (· ≤ ·) := by
  have hp := List.mergeSort_perm (natI cs) (fun x y => decide (x ≤ y))
  have hs := List.pairwise_mergeSort (le := fun x y : Int => decide (x ≤ y)) (fun a b c h1 h2 => by simp at h1 h2 ⊢; omega) (fun a b => by simp; omega) (natI cs)
  generalize (natI cs).mergeSort (fun x y => decide (x ≤ y)) = l at hp hs
  have hnn : ∀ x ∈ l, 0 ≤ x := fun x hx => by
    have := hp.subset hx
    obtain ⟨n, _, rfl⟩ := List.mem_map.1 this
    omega
  have e : natI (l.map Int.toNat) = l := by
    unfold natI
    rw [List.map_map]
    conv => rhs; rw [← List.map_id l]
    exact List.map_congr_left fun x hx => by have := hnn x hx; simp; omega
  refine ⟨l.map Int.toNat, e.symm, ?_, ?_⟩
  · have := hp.map Int.toNat
    have e2 : (natI cs).map Int.toNat = cs := by
      unfold natI
      rw [List.map_map]
      conv => rhs; rw [← List.map_id cs]
      exact List.map_congr_left fun x _ => by simp
    rwa [e2] at this
  · rw [List.pairwise_map]
    exact hs.imp fun h => by simp at h; omega
/-- The set of all repairs, sorted. -/
theorem sort_allR {kl : Int → Nat} {L : List Atm} {cs : List Nat} (hn : cs.Nodup) (hm : ∀ r, r ∈ cs ↔ r ∈ allR kl L) : (natI cs).mergeSort (fun x y => decide (x ≤ y)) = natI (allR kl L) := by
  obtain ⟨ds, e, hp, hs⟩ := sort_nat cs
  rw [e]
  congr 1
  have hd : ds.Nodup := hp.nodup_iff.2 hn
  refine inc_uniq ?_ inc_allR fun a => (hp.mem_iff).trans (hm a)
  exact (List.pairwise_and_iff.2 ⟨hs, hd⟩).imp fun h => by have := h.1; have := h.2; omega
/-! ## The map of the blocks -/
theorem getM_map (f : Nat → Value) (j : Nat) : ∀ l : List Nat, getM (l.map fun (i : Nat) => ((i : Int), f i)) (j : Int) = if j ∈ l then some (f j) else none
  | [] => rfl
  | a :: r => by
    rw [List.map_cons, getM_cons, getM_map f j r]
    by_cases h : j = a
    · subst h; simp
    · have : ¬ (j : Int) = (a : Int) := by omega
      simp [h, this]
theorem updM_map (f : Nat → Value) (j : Nat) (v : Value) : ∀ l : List Nat, l.Nodup → updM (l.map fun (i : Nat) => ((i : Int), f i)) (j : Int) v = if j ∈ l then l.map (fun (i : Nat) => ((i : Int), if i = j then v else f i)) else l.map (fun (i : Nat) => ((i : Int), f i)) ++ [((j : Int), v)]
  | [], _ => rfl
  | a :: r, hn => by
    rw [List.nodup_cons] at hn
    rw [List.map_cons]
    unfold updM
    by_cases h : j = a
    · subst h
      rw [if_pos rfl, if_pos (List.mem_cons_self ..), List.map_cons, if_pos rfl]
      congr 1
      refine List.map_congr_left fun i hi => ?_
      rw [if_neg (fun e : i = j => hn.1 (e ▸ hi))]
    · have hne : ¬ (j : Int) = (a : Int) := by omega
      rw [if_neg hne, updM_map f j v r hn.2]
      by_cases hr : j ∈ r
      · rw [if_pos hr, if_pos (List.mem_cons_of_mem _ hr), List.map_cons, if_neg (fun e => h e.symm)]
      · rw [if_neg hr, if_neg (by simp [h, hr])]
        rfl
def keysN (kl : Int → Nat) (L : List Atm) (k : Nat) : List Nat := (List.range k).filter fun i => decide (blkN kl L i = i)
def encM (l : List (Nat × Nat)) : List (Int × Value) := l.map fun p => ((p.1 : Int), .int .i64 (p.2 : Int))
theorem encM_kv (kl : Int → Nat) (L : List Atm) (k : Nat) : encM (kvP kl L k) = (keysN kl L k).map fun (i : Nat) => ((i : Int), Value.int .i64 (bmask kl L k i : Int)) := by
  unfold encM kvP keysN
  rw [List.map_map]
  rfl
theorem mem_keysN {kl : Int → Nat} {L : List Atm} {k i : Nat} : i ∈ keysN kl L k ↔ i < k ∧ blkN kl L i = i := by
  unfold keysN
  rw [List.mem_filter, List.mem_range, decide_eq_true_eq]
theorem bmask_none {kl : Int → Nat} {L : List Atm} {k j : Nat} (h : ∀ i, i < k → blkN kl L i ≠ j) : bmask kl L k j = 0 := Nat.eq_of_testBit_eq fun i => by
  rw [Nat.zero_testBit, ← Bool.not_eq_true, bmask_bit]
  exact fun h2 => h i h2.1 h2.2
theorem kv_get {kl : Int → Nat} {L : List Atm} {k : Nat} (hk : k < L.length) : (getM (encM (kvP kl L k)) (blkN kl L k : Int)).getD (.int .i64 0) = .int .i64 (bmask kl L k (blkN kl L k) : Int) := by
  rw [encM_kv, getM_map fun i => Value.int .i64 (bmask kl L k i : Int)]
  split
  · rfl
  · rename_i h
    rw [bmask_none fun i hi e => h (mem_keysN.2 ⟨?_, blk_blk hk⟩)]
    · rfl
    · have := (blk_spec (kl := kl) (L := L) (i := i) (by omega)).1
      omega
theorem kv_upd {kl : Int → Nat} {L : List Atm} {k : Nat} (hk : k < L.length) : updM (encM (kvP kl L k)) (blkN kl L k : Int) (.int .i64 ((bmask kl L k (blkN kl L k) ||| 2 ^ k : Nat) : Int)) = encM (kvP kl L (k + 1)) := by
  have hn : (keysN kl L k).Nodup := List.nodup_range.filter _
  have step : ∀ i, bmask kl L (k + 1) i = if i = blkN kl L k then bmask kl L k (blkN kl L k) ||| 2 ^ k else bmask kl L k i := fun i => by
    conv => lhs; unfold bmask
    by_cases e : i = blkN kl L k
    · subst e; simp
    · rw [if_neg (fun h => e h.symm), if_neg e]
  rw [encM_kv, encM_kv, updM_map (fun i => Value.int .i64 (bmask kl L k i : Int)) _ _ _ hn]
  have keys : keysN kl L (k + 1) = keysN kl L k ++ (if blkN kl L k = k then [k] else []) := by
    unfold keysN
    rw [List.range_succ, List.filter_append]
    congr 1
    by_cases e : blkN kl L k = k <;> simp [e]
  split
  · rename_i h
    have hlt := (mem_keysN.1 h).1
    rw [keys, if_neg (by omega), List.append_nil]
    refine List.map_congr_left fun i hi => ?_
    rw [step]
    split <;> rfl
  · rename_i h
    have e : blkN kl L k = k := by
      have h1 := (blk_spec (kl := kl) hk).1
      have h2 := blk_blk (kl := kl) hk
      refine Classical.byContradiction fun hne => h (mem_keysN.2 ⟨by omega, h2⟩)
    rw [keys, if_pos e, List.map_append]
    congr 1
    · refine List.map_congr_left fun i hi => ?_
      rw [step, if_neg (by have := (mem_keysN.1 hi).1; omega)]
    · rw [List.map_cons, List.map_nil, step, e, if_pos rfl]
/-! ## A range over it -/
theorem perm_enc {l : List (Nat × Nat)} {p : Int × Value} {left : List (Int × Value)} (h : (encM l).Perm (p :: left)) : ∃ q l', p = ((q.1 : Int), .int .i64 (q.2 : Int)) ∧ left = encM l' ∧ l.Perm (q :: l') := by
  let dec : Int × Value → Nat × Nat := fun p => (p.1.toNat, match p.2 with | .int _ z => z.toNat | _ => 0)
  have hdec : ∀ q : Nat × Nat, dec ((q.1 : Int), .int .i64 (q.2 : Int)) = q := fun q => by simp [dec]
  have mem : ∀ x ∈ p :: left, ((((dec x).1 : Nat) : Int), Value.int .i64 (((dec x).2 : Nat) : Int)) = x := fun x hx => by
    obtain ⟨q, hq, rfl⟩ := List.mem_map.1 (h.mem_iff.2 hx)
    rw [hdec]
  refine ⟨dec p, left.map dec, (mem p (List.mem_cons_self ..)).symm, ?_, ?_⟩
  · unfold encM
    rw [List.map_map]
    conv => lhs; rw [← List.map_id left]
    exact List.map_congr_left fun x hx => (mem x (List.mem_cons_of_mem _ hx)).symm
  · have := h.map dec
    rw [encM, List.map_map, List.map_cons] at this
    have e : l.map (dec ∘ fun p : Nat × Nat => ((p.1 : Int), Value.int .i64 (p.2 : Int))) = l := by
      conv => rhs; rw [← List.map_id l]
      exact List.map_congr_left fun x _ => hdec x
    rwa [e] at this
def itLeft (w : World) (b r : Nat) : Nat := match w.heap[b]?, w.heap[r]? with
  | some (.map es _), some (.mapIter _ _ seen _) => (es.toList.filter fun e => !seen.contains e.born).length
  | _, _ => 0
theorem itLeft_eq {w : World} {b r : Nat} {kv left : List (Int × Value)} (h : ItS w b r kv left) : itLeft w b r = left.length := by
  obtain ⟨es, clock, since, seen, c0, h1, h2, h3, h4, h5, h6, h7, rfl⟩ := h.ex
  unfold itLeft
  rw [h1, h5]
  simp
/-! ## The bits of a set, one by one -/
def lowOk (s : Nat) : Bool := s == 0 || iAnd .i64 (s : Int) (0 - (s : Int)) == ((2 ^ tz s : Nat) : Int)
theorem lowAll' : ∀ a, a < 64 → ∀ b, b < 64 → lowOk (a * 64 + b) = true := by decide +kernel
theorem low_bit {s : Nat} (hs : s < 4096) (h0 : s ≠ 0) : iAnd .i64 (s : Int) (0 - (s : Int)) = ((2 ^ tz s : Nat) : Int) := by
  have := all4096 (p := fun s => lowOk s = true) lowAll' s hs
  simp only [lowOk, Bool.or_eq_true, beq_iff_eq] at this
  exact this.resolve_left h0
theorem bitsOf_els {n s : Nat} (hn : n ≤ 12) (hs : s < 2 ^ n) : bitsOf n s = els s := by
  unfold bitsOf els
  have : List.range 12 = List.range n ++ (List.range (12 - n)).map (n + ·) := by
    rw [← List.range_add]
    congr 1
    omega
  rw [this, List.filter_append]
  have e : ((List.range (12 - n)).map (n + ·)).filter s.testBit = [] := List.filter_eq_nil_iff.2 fun x hx => by
    obtain ⟨j, _, rfl⟩ := List.mem_map.1 hx
    intro hb
    have := bit_lt hs hb
    omega
  rw [e, List.append_nil]
theorem kv_small {kl : Int → Nat} {L : List Atm} {p : Nat × Nat} {k : Nat} (h : p ∈ kvP kl L k) : p.2 < 2 ^ k := by
  unfold kvP at h
  obtain ⟨i, _, rfl⟩ := List.mem_map.1 h
  refine Nat.lt_pow_two_of_testBit _ fun j hj => ?_
  rw [← Bool.not_eq_true, bmask_bit]
  omega
theorem prodR_small {n : Nat} {sets : List Nat} (hd : sets.Pairwise fun s t => s &&& t = 0) (hb : ∀ s ∈ sets, s < 2 ^ n) : ∀ r ∈ prodR n sets, r < 2 ^ n := fun r hr => by
  have h := ((mem_prodR hd hb r).1 hr).1
  refine Nat.lt_pow_two_of_testBit _ fun i hi => ?_
  rw [← Bool.not_eq_true]
  intro hbit
  obtain ⟨s, hs, h3⟩ := h i hbit
  have := bit_lt (hb s hs) h3
  omega
theorem prodR_len {n : Nat} {sets : List Nat} (hd : sets.Pairwise fun s t => s &&& t = 0) (hb : ∀ s ∈ sets, s < 2 ^ n) : (prodR n sets).length ≤ 2 ^ n := by
  have := sub_len (l' := List.range (2 ^ n)) (nodup_prodR hd hb) fun r hr => List.mem_range.2 (prodR_small hd hb r hr)
  rwa [List.length_range] at this
end Go.Proofs.YtmjpnfapjcfejaaGreatDoor

/- Contracts: all repairs, and their number, by the program. No condition. -/
namespace Go.Proofs.YtmjpnfapjcfejaaGreatDoor
open Go Go.RowKit VC
set_option linter.unusedSimpArgs false
set_option linter.unusedVariables false

theorem bmask_lt (kl : Int → Nat) (L : List Atm) (k j : Nat) : bmask kl L k j < 2 ^ k := Nat.lt_pow_two_of_testBit _ fun i hi => by
  rw [← Bool.not_eq_true, bmask_bit]
  omega
theorem kv_sets {kl : Int → Nat} {L : List Atm} {sets rest : List Nat} (h : (sets ++ rest).Perm ((kvP kl L L.length).map Prod.snd)) : (sets.Pairwise fun s t => s &&& t = 0) ∧ ∀ s ∈ sets ++ rest, s < 2 ^ L.length := by
  have hd : (sets ++ rest).Pairwise fun s t => s &&& t = 0 := by
    refine (h.pairwise_iff (fun {a b} h => by rw [Nat.and_comm]; exact h)).2 ?_
    unfold kvP
    rw [List.map_map, List.pairwise_map]
    refine List.Pairwise.imp_of_mem (R := fun a b => a ≠ b) (fun {a b} _ _ hab => ?_) (List.nodup_range.filter _)
    refine Classical.byContradiction fun h0 => ?_
    obtain ⟨x, h1, h2⟩ := and_ne_zero.1 h0
    have h1 := (bmask_bit _ _ _).1 h1
    have h2 := (bmask_bit _ _ _).1 h2
    exact hab (h1.2.symm.trans h2.2)
  refine ⟨(List.pairwise_append.1 hd).1, fun s hs => ?_⟩
  obtain ⟨p, hp, rfl⟩ := List.mem_map.1 (h.mem_iff.1 hs)
  exact kv_small hp
theorem mulR_succ (n : Nat) (R : List Nat) (s : Nat) {i : Nat} (hi : i < R.length) : mulR n (R.take (i + 1)) s = mulR n (R.take i) s ++ (bitsOf n s).map fun j => R[i] ||| 2 ^ j := by
  unfold mulR
  rw [List.take_succ_eq_append_getElem hi, List.flatMap_append, List.flatMap_cons, List.flatMap_nil, List.append_nil]
theorem mulR_len (n : Nat) (R : List Nat) (s : Nat) : (mulR n R s).length = R.length * (bitsOf n s).length := by
  unfold mulR
  induction R with
  | nil => simp
  | cons a r ih => rw [List.flatMap_cons, List.length_append, ih, List.length_map, List.length_cons, Nat.succ_mul]; omega
theorem bitsOf_len (n s : Nat) : (bitsOf n s).length ≤ n := by
  have := List.length_filter_le s.testBit (List.range n)
  rwa [List.length_range] at this
/-- An array of the call's own that takes one more number. -/
theorem ownApp {w w' : World} {B : Nat} {v : Value} {l : List Nat} {x : Nat} (h : Own w' B 3 1 v ((natI l).length + 1) ((natI l).map encI ++ [.int .i64 (x : Int)])) : OwnI w' B v (natI (l ++ [x])) := by
  unfold OwnI
  rw [natI_app, List.length_append, List.map_append]
  exact h
theorem repairs_c {w : World} {sv fv : Value} {s : List Int} {L : List Atm} (hs : SlI w sv s) (hl : SlA w fv L) (hR : okR s L = true) :
    Calls Tryz.prog 47 #[.agg #[sv, fv]] w fun e w' => ∃ v, e = .returned v ∧ SlI w' v (natI (allR (klS s) L)) ∧ Grow w w' := by
  refine f47_calls _ ?_
  obtain ⟨um, uk, ui, uz⟩ := el_mapI
  have h12 := (okR_out hR).2.1
  have hpow : 2 ^ L.length ≤ 2 ^ 12 := Nat.pow_le_pow_right (by omega) h12
  refine ⟨_, rfl, fun w1 hw1 => ?_⟩
  have g1 := alloc_grow hw1
  have s1 := alloc_size hw1
  have hB := RecV.new hw1
  refine VC.MapSt.make _ w1 fun w3 hw3 hm3 g3 s3 => ?_
  refine ⟨_, (hB.grow g3).cell (j := 1) rfl, SlX.ln (hl.gr (g1.trans g3)) ?_⟩
  obtain ⟨kl, hkl⟩ : ∃ kl, kl = klS s := ⟨_, rfl⟩
  refine ⟨fun t w' => ∃ k : Nat, t = k ∧ k ≤ L.length ∧ VC.MapSt w' w1.heap.size (encM (kvP (klS s) L k)) ∧ Fr (fun i => i = w1.heap.size) w3 w', fun t _ => L.length - t.toNat, ⟨0, rfl, by omega, hm3, Fr.refl _ _⟩, ?_⟩
  rintro - t w13 ⟨k, rfl, hk, hm13, hf13⟩
  have gW : ∀ {w'}, Fr (fun i => i = w1.heap.size) w3 w' → Grow w w' := fun hf => (g1.trans g3).fr hf fun i hi e => by omega
  have g13 := gW hf13
  have s13 := hf13.size
  refine condD (fun hlt => ?_) fun hge => ?_
  · intro m
    have hkl2 : k < L.length := by omega
    have gm : Grow w13 (dr w13 m.1) := (Grow.refl w13).dr m.1
    refine ⟨by omega, [_, _], rfl, (((hB.grow g3).fr hf13 (by omega)).grow gm).all, (block_c (hs.grow (g13.trans gm)) (hl.gr (g13.trans gm)) hR hkl2).mono ?_⟩
    rintro e w16 ⟨rfl, g16⟩
    have hm16 := (hm13.grow gm).grow g16
    have hget := hm16.toI.get (P := Tryz.prog) um uk ui uz (blkN (klS s) L k : Int) false
    rw [if_neg (by decide), kv_get hkl2] at hget
    obtain ⟨w21, hr21, hm21, f21⟩ := hm16.set (P := Tryz.prog) um uk (blkN (klS s) L k : Int) (.int .i64 ((bmask (klS s) L k (blkN (klS s) L k) ||| 2 ^ k : Nat) : Int))
    rw [kv_upd hkl2] at hm21
    refine ⟨_, rfl, _, w16, hget, w21, ?_, by unfold inR; omega, ⟨k + 1, by omega, by omega, hm21, (hf13.trans (Fr.of_grow (gm.trans g16))).trans f21⟩, by dsimp only; omega⟩
    have h1 := bmask_lt (klS s) L k (blkN (klS s) L k)
    have h2 : 2 ^ k ≤ 2 ^ 12 := Nat.pow_le_pow_right (by omega) (by omega)
    rw [iShl_one (by omega), iOr_nat (by omega) (by omega)]
    exact hr21
  · have hkL : k = L.length := by omega
    subst hkL
    intro w22 hw22
    have g22 := alloc_grow hw22
    have s22 := alloc_size hw22
    have out0 : OwnI w22 w13.heap.size (.slice (some ⟨w13.heap.size, 0, none⟩) 1 1) (natI (prodR L.length [])) := Own.lit (B := w13.heap.size) (n := 1) (sz := 1) hw22 (Nat.le_refl _) (by omega) (by simp)
    refine VC.MapSt.range um (hm13.grow g22) fun w23 hit23 g23 s23 => ?_
    have gw23 := (g13.trans g22).trans g23
    refine ⟨fun out w' => ∃ (sets : List Nat) (lft : List (Nat × Nat)), (sets ++ lft.map Prod.snd).Perm ((kvP (klS s) L L.length).map Prod.snd) ∧ ItS w' w1.heap.size w22.heap.size (encM (kvP (klS s) L L.length)) (encM lft) ∧ OwnI w' w13.heap.size out (natI (prodR L.length sets)) ∧ (∀ b, out.ownBlock = some b → b ≠ w22.heap.size) ∧ Grow w w' ∧ w23.heap.size ≤ w'.heap.size,
      fun _ w' => itLeft w' w1.heap.size w22.heap.size, ⟨[], kvP (klS s) L L.length, List.Perm.refl _, hit23, Own.grow out0 g23, fun b hb e => ?_, gw23, Nat.le_refl _⟩, ?_⟩
    · simp [Value.ownBlock] at hb
      omega
    rintro - out w29 ⟨sets, lft, hp, hit, ho, hne, gw, hsz⟩
    obtain ⟨hdis, hbd⟩ := kv_sets hp
    have hRl : (prodR L.length sets).length ≤ 4096 := by
      have := prodR_len hdis fun s hs => hbd s (List.mem_append_left _ hs)
      omega
    have hRs : ∀ r ∈ prodR L.length sets, r < 4096 := fun r hr => by
      have := prodR_small hdis (fun s hs => hbd s (List.mem_append_left _ hs)) r hr
      omega
    rcases hit.next (P := Tryz.prog) (by omega) 0 with ⟨hnil, hrun⟩ | ⟨p, left', w35, hperm, hrun, hit', hf35, hent⟩
    · refine ⟨fun t w' => t = false ∧ w' = w29, .inl ⟨w29, hrun, rfl, rfl⟩, ?_⟩
      rintro - t w37 ⟨rfl, rfl⟩
      have hl0 : lft = [] := by
        unfold encM at hnil
        exact List.map_eq_nil_iff.1 hnil
      subst hl0
      have hall := prod_all (kl := klS s) (L := L) (sets := sets) (by simpa using hp)
      refine cF rfl ((sortI_c ho (by rw [natI_len]; omega)).mono ?_)
      rintro e w63 ⟨rfl, ho', hf'⟩
      rw [sort_allR hall.1 hall.2] at ho'
      exact ⟨rfl, _, rfl, Own.slI ho', gw.fr hf' fun i hi e => by have := (Own.lt ho e.symm).1; have := g13.size; omega⟩
    · obtain ⟨q, lft', rfl, rfl, hperm2⟩ := perm_enc hperm
      refine ⟨fun t w' => t = true ∧ w' = w35, .inr ⟨_, _, w35, hrun, rfl, rfl⟩, ?_⟩
      rintro - t w37 ⟨rfl, rfl⟩
      refine cT rfl ⟨_, _, w37, hent, ?_⟩
      obtain ⟨S, hS⟩ : ∃ S, S = q.2 := ⟨_, rfl⟩
      have hSm : S < 2 ^ L.length := hbd S (List.mem_append_right _ (List.mem_map.2 ⟨q, hperm2.mem_iff.2 (List.mem_cons_self ..), hS.symm⟩))
      have hS4 : S < 4096 := by omega
      have hbits : bitsOf L.length S = els S := bitsOf_els h12 hSm
      have s35 := hf35.size
      have ho35 : OwnI w37 w13.heap.size out (natI (prodR L.length sets)) := Own.fr ho hf35 fun b hb e => hne b hb e
      obtain ⟨R, hRR⟩ : ∃ R, R = prodR L.length sets := ⟨_, rfl⟩
      rw [← hRR] at ho35 hRl hRs
      have g35 : Grow w w37 := gw.fr hf35 fun i hi e => by have := g13.size; omega
      have hso : SlI w37 out (natI R) := Own.slI ho35
      rw [← hS]
      refine hso.ln ?_
      rw [natI_len]
      refine ⟨fun next t w' => ∃ i : Nat, t = i ∧ i ≤ R.length ∧ OwnI w' w37.heap.size next (natI (mulR L.length (R.take i) S)) ∧ Grow w37 w', fun _ t _ => R.length - t.toNat, ⟨0, rfl, by omega, Own.nil _ _ _ _, Grow.refl _⟩, ?_⟩
      rintro - next t w49 ⟨i, rfl, hi, hn, g49⟩
      refine condD (fun hlt => ?_) fun hge2 => ?_
      · have hil : i < R.length := by omega
        refine (hso.grow g49).rd rfl (by rw [natI_len]; exact hil) ?_
        rw [natI_get hil]
        have hri := hRs _ (List.getElem_mem hil)
        refine ⟨fun nx left w' => ∃ (l : Nat) (done : List Nat), left = l ∧ done ++ els l = els S ∧ l < 4096 ∧ OwnI w' w37.heap.size nx (natI (mulR L.length (R.take i) S ++ done.map fun j => R[i] ||| 2 ^ j)) ∧ Grow w37 w', fun _ left _ => left.toNat, ⟨S, [], rfl, rfl, hS4, by rw [List.map_nil, List.append_nil]; exact hn, g49⟩, ?_⟩
        rintro - nx left w59 ⟨l, done, rfl, hd, hl4, hnx, g59⟩
        refine condP_i (fun hne2 => ?_) fun heq => ?_
        · have hl0 : l ≠ 0 := by simp at hne2; omega
          obtain ⟨e1, e2, e3⟩ := els_step hl4 hl0
          refine ⟨by unfold inR; omega, ?_⟩
          have ht : 2 ^ tz l ≤ 2 ^ 11 := Nat.pow_le_pow_right (by omega) (by omega)
          rw [low_bit hl4 hl0, iOr_nat (by omega) (by omega)]
          intro w60 hw60
          have hdl : done.length ≤ 12 := by
            have := congrArg List.length hd
            rw [List.length_append] at this
            have h2 : (els S).length ≤ 12 := by
              have := List.length_filter_le S.testBit (List.range 12)
              rwa [List.length_range] at this
            omega
          have hlen : (natI (mulR L.length (R.take i) S ++ done.map fun j => R[i] ||| 2 ^ j)).length ≤ 60000 := by
            rw [natI_len, List.length_append, List.length_map, mulR_len, List.length_take]
            have h1 := bitsOf_len L.length S
            have h2 : min i R.length * (bitsOf L.length S).length ≤ 4096 * 12 := Nat.mul_le_mul (by omega) (by omega)
            omega
          refine papp1 el_int hw60 hnx rfl g59.size (by omega) (by omega) fun v' w' ho2 hf2 _ => ⟨by unfold inR; omega, ⟨l &&& (l - 1), done ++ [tz l], ?_, ?_, by omega, ?_, ?_⟩, ?_⟩
          · rw [show ((l : Int) - 1) = ((l - 1 : Nat) : Int) by omega, iAnd_nat (by omega) (by omega)]
          · rw [List.append_assoc, ← hd, e1]
            rfl
          · have := ownApp (w := w59) ho2
            rw [List.map_append, ← List.append_assoc]
            exact this
          · exact (g59.trans (alloc_grow hw60)).fr hf2 fun b hb e => by have := (Own.lt hnx e.symm).1; omega
          · rw [show ((l : Int) - 1) = ((l - 1 : Nat) : Int) by omega, iAnd_nat (by omega) (by omega)]
            dsimp only
            omega
        · have hl0 : l = 0 := by simp at heq; omega
          subst hl0
          rw [els_zero, List.append_nil] at hd
          refine ⟨by unfold inR; omega, ⟨i + 1, by omega, by omega, ?_, g59⟩, by dsimp only; omega⟩
          rw [mulR_succ _ _ _ hil, hbits, ← hd]
          exact hnx
      · have hil : i = R.length := by omega
        subst hil
        rw [List.take_length] at hn
        have s49 := g49.size
        refine ⟨⟨sets ++ [S], lft', ?_, hit'.grow g49, ?_, fun b hb e => ?_, g35.trans g49, by omega⟩, ?_⟩
        · refine List.Perm.trans ?_ hp
          rw [List.append_assoc]
          refine List.Perm.append_left _ ?_
          have := hperm2.map Prod.snd
          rw [List.map_cons] at this
          rw [hS]
          exact this.symm
        · rw [prodR_app, ← hRR]
          exact Own.mono hn (by omega)
        · have := (Own.lt hn hb).1
          omega
        · dsimp only
          rw [itLeft_eq (hit'.grow g49), itLeft_eq hit]
          have := hperm2.length_eq
          simp only [encM, List.length_map, List.length_cons] at this ⊢
          omega
end Go.Proofs.YtmjpnfapjcfejaaGreatDoor

/- Contracts: trailing zeros, the facts of a repair. The table of bits is laid (Tab). -/
namespace Go.Proofs.YtmjpnfapjcfejaaGreatDoor
open Go Go.RowKit VC
set_option linter.unusedSimpArgs false
set_option linter.unusedVariables false

def tab64 : List Nat := [0, 1, 56, 2, 57, 49, 28, 3, 61, 58, 42, 50, 38, 29, 17, 4, 62, 47, 59, 36, 45, 43, 51, 22, 53, 39, 33, 30, 24, 18, 12, 5, 63, 55, 48, 27, 60, 41, 37, 16, 46, 35, 44, 21, 52, 32, 23, 11, 54, 26, 40, 15, 34, 20, 31, 10, 25, 14, 19, 9, 13, 8, 7, 6]
/-- The table of package math/bits stands where it stood at the start. -/
def Tab (w : World) : Prop := ∀ j, j < 64 → w.cell? (Addr.add ⟨1, 0, none⟩ j) = some (.int .u8 (tab64.getD j 0 : Nat))
theorem Tab.grow {w w' : World} (h : Tab w) (hg : Grow w w') : Tab w' := fun j hj => hg.cell (h j hj)
def tzIdx (s : Nat) : Int := iShr .u64 (IntKind.wrap .u64 ((iAnd .u64 (s : Int) (IntKind.wrap .u64 (0 - (s : Int)))) * 285870213051353865)) 58
def tzOk (s : Nat) : Bool := s == 0 || (decide (0 ≤ tzIdx s) && decide (tzIdx s < 64) && tab64.getD (tzIdx s).toNat 0 == tz s)
theorem tzAll' : ∀ a, a < 64 → ∀ b, b < 64 → tzOk (a * 64 + b) = true := by decide +kernel
theorem tz64_c {s : Nat} (h : s < 4096) (h0 : s ≠ 0) {w : World} (hT : Tab w) : Calls Tryz.prog 111 #[.int .u64 (s : Int)] w (Ret w (.int .i64 (tz s : Int))) := by
  refine f111_calls _ ?_
  have hk := all4096 (p := fun s => tzOk s = true) tzAll' s h
  simp only [tzOk, Bool.or_eq_true, beq_iff_eq, h0, false_or, Bool.and_eq_true, decide_eq_true_eq] at hk
  obtain ⟨⟨h1, h2⟩, h3⟩ := hk
  have h4 := (els_step h h0).2.2
  have h5 : ¬ (s : Int) = 0 := by omega
  refine condD (fun e => absurd e h5) fun _ => ⟨by decide, ⟨h1, h2⟩, (tz s : Int), ?_, ?_⟩
  · have hlt : (tzIdx s).toNat < 64 := by clear h3; generalize tzIdx s = z at *; omega
    have hc := hT (tzIdx s).toNat hlt
    rw [h3, ← Nat.mul_one (tzIdx s).toNat] at hc
    exact hc
  · refine ⟨?_, Grow.refl w⟩
    rw [wrap_nat (by omega)]
theorem tz_c {s : Nat} (h : s < 4096) (h0 : s ≠ 0) {w : World} (hT : Tab w) : Calls Tryz.prog 79 #[.int .u64 (s : Int)] w (Ret w (.int .i64 (tz s : Int))) := by
  refine f79_calls _ ?_
  refine (tz64_c h h0 hT).mono ?_
  rintro e w' ⟨rfl, hg⟩
  exact ⟨_, rfl, rfl, hg⟩
theorem wrapU {n : Nat} (h : n < 9223372036854775808) : IntKind.u64.wrap (n : Int) = n := by
  have : IntKind.u64.wrap (n : Int) = (n : Int) % 2 ^ 64 := by simp [IntKind.wrap, IntKind.signed, IntKind.bits]
  rw [this]; omega
theorem ofM_els {L : List Atm} (h12 : L.length ≤ 12) {m : Nat} (hm : m < 2 ^ L.length) : ofM L m = (els m).map (fa L) := by
  unfold ofM
  have := bitsOf_els h12 hm
  unfold bitsOf at this
  rw [this]
/-- An element that lies in older memory. -/
theorem elx_old {T : Nat → Prop} {w w0 : World} {a : Atm} {u out : Value} (hu : SlI w0 u a.2) (g : Grow w0 w) (hT : ∀ b, T b → w0.heap.size ≤ b) (hout : ∀ b, out.ownBlock = some b → w0.heap.size ≤ b) : ElX T 2 repA out w ([.int .i64 a.1, u], a) := by
  refine ⟨rfl, ?_, fun w2 hf => ⟨u, rfl, hu.grow (g.fr hf fun i hi e => ?_)⟩⟩
  · intro y hy
    simp at hy
    rcases hy with rfl | rfl
    · rfl
    · exact hu.one.2
  · rcases e with e | e
    · have := hT i e; omega
    · have := hout i e.symm; omega
theorem chosen_c {w : World} {sv fv : Value} {L : List Atm} (hl : SlA w fv L) (h12 : L.length ≤ 12) {m : Nat} (hm : m < 2 ^ L.length) (hT : Tab w) :
    Calls Tryz.prog 48 #[.agg #[sv, fv], .int .i64 (m : Int)] w fun e w' => ∃ v, e = .returned v ∧ SlA w' v (ofM L m) ∧ Grow w w' := by
  refine f48_calls _ _ ?_
  refine ⟨_, rfl, fun w1 hw1 => ?_⟩
  have g1 := alloc_grow hw1
  have s1 := alloc_size hw1
  have hB := RecV.new hw1
  have hpow : 2 ^ L.length ≤ 2 ^ 12 := Nat.pow_le_pow_right (by omega) h12
  refine ⟨fun left out w' => ∃ (l : Nat) (done : List Nat), left = l ∧ done ++ els l = els m ∧ l < 2 ^ L.length ∧ (∀ i, l.testBit i = true → m.testBit i = true) ∧ OwnX (fun b => w.heap.size ≤ b) 2 repA w' w1.heap.size 47 out (done.map (fa L)) ∧ Grow w1 w', fun left _ _ => left.toNat, ⟨m, [], rfl, rfl, hm, fun i h => h, OwnX.nil _ _ _, Grow.refl _⟩, ?_⟩
  rintro - left out w8 ⟨l, done, rfl, hd, hl2, hsub, ho, g8⟩
  refine condP_i (fun hne => ?_) fun heq => ?_
  · have hl0 : l ≠ 0 := by simp at hne; omega
    have hl4 : l < 4096 := by omega
    obtain ⟨e1, e2, e3⟩ := els_step hl4 hl0
    have htz : tz l < L.length := by
      have : tz l ∈ els l := by rw [e1]; exact List.mem_cons_self ..
      exact bit_lt hl2 (mem_els.1 this).2
    intro d
    have gd : Grow w8 (dr w8 d.1) := (Grow.refl w8).dr d.1
    rw [wrapU (by omega)]
    have hdl : done.length ≤ 12 := by
      have := congrArg List.length hd
      rw [List.length_append] at this
      have h2 : (els m).length ≤ 12 := by
        have := List.length_filter_le m.testBit (List.range 12)
        rwa [List.length_range] at this
      omega
    have leaf : ∀ {w11}, Grow (dr w8 d.1) w11 → ∃ (a_v14 : Addr) (n_v15 c_v16 : Nat), fv = Value.slice (some a_v14) n_v15 c_v16 ∧ ((0 : Int) ≤ (tz l : Int) ∧ (tz l : Int) < (n_v15 : Int)) ∧ ∃ cs_v17 : List Value, cs_v17.length = 2 ∧ (∀ (j : Nat) (v : Value), cs_v17[j]? = some v → w11.cell? (Addr.add (a_v14.add (Int.toNat (tz l : Int) * 2)) j) = some v) ∧ ∃ t_v19 : Value, ∃ w_v18 : World, (Instr.buildSlice 23 1 #[(0, (Value.agg cs_v17.toArray))]).run Tryz.prog w11 = .ok t_v19 w_v18 ∧ PApp Tryz.prog 23 23 out t_v19 w_v18 fun t_v20 w_v21 => inR ((l : Int) - 1) ∧ ((∃ (l' : Nat) (done : List Nat), iAnd .i64 (l : Int) ((l : Int) - 1) = l' ∧ done ++ els l' = els m ∧ l' < 2 ^ L.length ∧ (∀ i, l'.testBit i = true → m.testBit i = true) ∧ OwnX (fun b => w.heap.size ≤ b) 2 repA w_v21 w1.heap.size 47 t_v20 (done.map (fa L)) ∧ Grow w1 w_v21) ∧ (iAnd .i64 (l : Int) ((l : Int) - 1)).toNat < (l : Int).toNat) := fun {w11} g11 => by
      have g111 := (g8.trans gd).trans g11
      refine SlX.rd (pinR hl (g1.trans g111)) rfl htz fun cs hcl hr => ?_
      obtain ⟨u, rfl, hu⟩ := hr
      refine bs1 el_fact (by omega) (by omega) (cs := #[.int .i64 (L[tz l]).1, u]) rfl w11 fun w18 hw18 => ?_
      have hs8 := g8.size
      have hs11 := g111.size
      refine pappX1 el_fact (by omega) (cs := [.int .i64 (L[tz l]).1, u]) (y := L[tz l]) (ho.grow (gd.trans g11)) hw18 (elx_old hu (g1.trans g111) (fun b hb => hb) fun b hb => by have := (ho.lt hb).1; omega) (by omega) (by rw [List.length_map]; omega) (by omega) ?_
      intro v2 w21 ho2 hf2 _ _
      have e4 : iAnd .i64 (l : Int) ((l : Int) - 1) = ((l &&& (l - 1) : Nat) : Int) := by rw [show ((l : Int) - 1) = ((l - 1 : Nat) : Int) by omega, iAnd_nat (by omega) (by omega)]
      rw [e4]
      refine ⟨by unfold inR; omega, ⟨l &&& (l - 1), done ++ [tz l], rfl, ?_, by omega, fun i hi => ?_, ?_, ?_⟩, by omega⟩
      · rw [List.append_assoc, ← hd, e1]
        rfl
      · rw [Nat.testBit_and, Bool.and_eq_true] at hi
        exact hsub i hi.1
      · rw [List.map_append, List.map_cons, List.map_nil, fa_get htz]
        exact ho2
      · exact (g111.trans (alloc_grow hw18)).fr hf2 fun b hb e => by have := (ho.lt e.symm).1; omega
    have hc1 : ∀ {w'}, Grow (dr w8 d.1) w' → w'.cell? (Addr.add ⟨w.heap.size, 0, none⟩ 1) = some fv := fun g => ((hB.grow g8).grow (gd.trans g)).cell (j := 1) rfl
    refine ⟨⟨_, hc1 (Grow.refl _), (tz_c hl4 hl0 (hT.grow ((g1.trans g8).trans gd))).mono ?_⟩, (tz_c hl4 hl0 (hT.grow ((g1.trans g8).trans gd))).mono ?_⟩
    · rintro e w11 ⟨rfl, g11⟩
      exact ⟨_, rfl, leaf g11⟩
    · rintro e w11 ⟨rfl, g11⟩
      exact ⟨_, rfl, _, hc1 g11, leaf g11⟩
  · have hl0 : l = 0 := by simp at heq; omega
    subst hl0
    rw [els_zero, List.append_nil] at hd
    refine ⟨_, rfl, ?_, g1.trans g8⟩
    rw [ofM_els h12 hm, ← hd]
    exact ho.slX
/-! ## Questions -/
/-- Why a query cannot be asked, or 0. -/
def askE (q : Bool) (s h : List Int) (b L : List Atm) : Int := if okR s L && !(q && decide (0 < h.length)) then (askO h b L).1 else 2
theorem ask_c {w : World} {sv fv hv bv : Value} {s h : List Int} {b L : List Atm} {q : Bool} (hs : SlI w sv s) (hl : SlA w fv L) (hh : SlI w hv h) (hb : SlA w bv b) :
    Calls Tryz.prog 36 #[sv, fv, .agg #[hv, bv], .bool q] w fun e w' => ∃ x y, e = .returned (.tuple #[.agg #[x, y], .int .i64 (askE q s h b L)]) ∧ oneV x ∧ oneV y ∧ (askE q s h b L = 0 → x = sv ∧ y = fv) ∧ Grow w w' := by
  refine f36_calls _ _ _ _ ?_
  refine ⟨_, rfl, fun w1 hw1 w3 hw3 => ?_⟩
  have g1 := alloc_grow hw1
  have s1 := alloc_size hw1
  have g3 := alloc_grow hw3
  have s3 := alloc_size hw3
  have hQ := (RecV.new hw1).grow g3
  have hO := RecV.new hw3
  have g03 := g1.trans g3
  refine (read_c (hs.grow g03) (hl.gr g03)).mono ?_
  rintro e w4 ⟨x, y, rfl, hx, hy, hxy, g4⟩
  refine ⟨_, _, rfl, fun w8 hw8 => RecV.init (cs := [x, y]) hw8 rfl (by simp [hx.2, hy.2]) fun w9 g9 s9 hB => ?_⟩
  have g39 := g4.trans g9
  have g09 := g03.trans g39
  have hO9 := hO.grow g39
  have hQ9 := hQ.grow g39
  have nl : oneV (.slice none 0 0) := ⟨rfl, rfl⟩
  have no : ∀ {z}, z ≠ 0 → askE q s h b L = z → ∃ cs : Array Value, (Value.agg #[(.slice none 0 0), (.slice none 0 0)]) = .agg cs ∧ cs.size = 2 ∧ ∃ w2 : World, (storeCells ⟨w1.heap.size, 0, none⟩ cs.toList).run Tryz.prog w9 = .ok () w2 ∧ ∃ ds : List Value, ds.length = 2 ∧ (∀ (j : Nat) (v : Value), ds[j]? = some v → w2.cell? (Addr.add ⟨w1.heap.size, 0, none⟩ j) = some v) ∧
      ∃ x y, Ending.returned (.tuple #[.agg ds.toArray, .int .i64 z]) = .returned (.tuple #[.agg #[x, y], .int .i64 (askE q s h b L)]) ∧ oneV x ∧ oneV y ∧ (askE q s h b L = 0 → x = sv ∧ y = fv) ∧ Grow w w2 := fun {z} hz he => by
    refine RecV.store (cs := [.slice none 0 0, .slice none 0 0]) hO9 rfl (by simp [Value.oneCell']) fun w2 hf hr => ⟨[_, _], rfl, hr.all, _, _, (by rw [he]), nl, nl, fun h => absurd (he.symm.trans h) hz, g09.fr hf fun i hi e => by omega⟩
  have yes : okR s L = true → askE q s h b L = (askO h b L).1 → ∃ cs_v21 : List Value, cs_v21.length = 2 ∧ (∀ (j : Nat) (v : Value), cs_v21[j]? = some v → w9.cell? (Addr.add ⟨w.heap.size, 0, none⟩ j) = some v) ∧ Calls Tryz.prog 73 #[(Value.agg cs_v21.toArray), fv] w9 fun e_v23 w_v22 => ∃ t_v24 : Int, ∃ t_v25 : Int, e_v23 = .returned (Value.tuple #[(Value.int .i64 t_v24), (Value.int .i64 t_v25)]) ∧ ∃ cs_v26 : List Value, cs_v26.length = 2 ∧ (∀ (j : Nat) (v : Value), cs_v26[j]? = some v → w_v22.cell? (Addr.add ⟨w4.heap.size, 0, none⟩ j) = some v) ∧ ∃ cs_v28 : Array Value, (Value.agg cs_v26.toArray) = Value.agg cs_v28 ∧ cs_v28.size = 2 ∧ ∃ w_v27 : World, (storeCells ⟨w1.heap.size, 0, none⟩ cs_v28.toList).run Tryz.prog w_v22 = .ok () w_v27 ∧ ∃ cs_v29 : List Value, cs_v29.length = 2 ∧ (∀ (j : Nat) (v : Value), cs_v29[j]? = some v → w_v27.cell? (Addr.add ⟨w1.heap.size, 0, none⟩ j) = some v) ∧
      ∃ x y, Ending.returned (.tuple #[.agg cs_v29.toArray, .int .i64 t_v25]) = .returned (.tuple #[.agg #[x, y], .int .i64 (askE q s h b L)]) ∧ oneV x ∧ oneV y ∧ (askE q s h b L = 0 → x = sv ∧ y = fv) ∧ Grow w w_v27 := fun hk he => by
    obtain ⟨rfl, rfl⟩ := hxy hk
    refine ⟨[_, _], rfl, hQ9.all, (count_c (hh.grow g09) (hb.gr g09) (hl.gr g09)).mono ?_⟩
    rintro e w22 ⟨rfl, g22⟩
    refine ⟨_, _, rfl, [_, _], rfl, (hB.grow g22).all, RecV.store (cs := [x, y]) (hO9.grow g22) rfl (by simp [hx.2, hy.2]) fun w27 hf hr => ⟨[_, _], rfl, hr.all, x, y, (by rw [he]), hx, hy, fun _ => ⟨rfl, rfl⟩, (g09.trans g22).fr hf fun i hi e => by omega⟩⟩
  refine condP_i (fun hn => ?_) fun hk => ?_
  · have hn : okR s L = false := by simpa using hn
    exact no (by decide) (by simp [askE, hn])
  have hk : okR s L = true := by simpa using hk
  cases q with
  | true =>
    refine cT rfl ⟨_, hQ9.cell (j := 0) rfl, (hh.grow g09).ln (condD (fun h0 => no (by decide) ?_) fun h0 => yes hk ?_)⟩
    · have : 0 < h.length := by omega
      simp [askE, this]
    · have : ¬ 0 < h.length := by omega
      simp [askE, this, hk]
  | false => exact cF rfl (yes hk (by simp [askE, hk]))
theorem counts_c {w : World} {sv fv hv bv : Value} {s h : List Int} {b L : List Atm} (hs : SlI w sv s) (hl : SlA w fv L) (hh : SlI w hv h) (hb : SlA w bv b) (hR : okR s L = true) (h0 : (askO h b L).1 = 0) (hT : Tab w) :
    Calls Tryz.prog 37 #[.agg #[sv, fv], .agg #[hv, bv]] w fun e w' => ∃ rv cv, e = .returned (.tuple #[rv, cv]) ∧ SlI w' rv (natI (allR (klS s) L)) ∧ SlI w' cv (natI ((allR (klS s) L).map (cntM b L))) ∧ Grow w w' := by
  refine f37_calls _ _ ?_
  refine ⟨_, rfl, fun w1 hw1 => ⟨_, rfl, fun w3 hw3 => ?_⟩⟩
  have g1 := alloc_grow hw1
  have g3 := alloc_grow hw3
  have g03 := g1.trans g3
  have hB := (RecV.new hw1).grow g3
  have hQ := RecV.new hw3
  have h12 := (okR_out hR).2.1
  refine ⟨[_, _], rfl, hB.all, (repairs_c (hs.grow g03) (hl.gr g03) hR).mono ?_⟩
  rintro e w6 ⟨rv, rfl, hrv, g6⟩
  have g06 := g03.trans g6
  refine ⟨_, rfl, hrv.ln ?_⟩
  rw [natI_len]
  obtain ⟨R, hRR⟩ : ∃ R, R = allR (klS s) L := ⟨_, rfl⟩
  rw [← hRR] at hrv ⊢
  have hRl : R.length ≤ 4096 := by
    have := List.length_filter_le (repB (klS s) L) (List.range (2 ^ L.length))
    rw [List.length_range] at this
    have hpow : 2 ^ L.length ≤ 2 ^ 12 := Nat.pow_le_pow_right (by omega) h12
    have e : R.length = ((List.range (2 ^ L.length)).filter (repB (klS s) L)).length := by rw [hRR]; rfl
    omega
  refine ⟨fun out t w' => ∃ i : Nat, t = i ∧ i ≤ R.length ∧ OwnI w' w6.heap.size out (natI ((R.take i).map (cntM b L))) ∧ Grow w6 w', fun _ t _ => R.length - t.toNat, ⟨0, rfl, by omega, Own.nil _ _ _ _, Grow.refl _⟩, ?_⟩
  rintro - out t w17 ⟨i, rfl, hi, ho, g17⟩
  refine condD (fun hlt => ?_) fun hge => ?_
  · have hil : i < R.length := by omega
    refine (hrv.grow g17).rd rfl (by rw [natI_len]; exact hil) ?_
    rw [natI_get hil]
    intro d
    have gd : Grow w17 (dr w17 d.1) := (Grow.refl w17).dr d.1
    have hm : R[i] < 2 ^ L.length := by
      have : R[i] ∈ allR (klS s) L := by rw [← hRR]; exact List.getElem_mem hil
      exact (mem_allR.1 this).1
    have gD := (g06.trans g17).trans gd
    have hBD := ((hB.grow g6).grow g17).grow gd
    have hQD := ((hQ.grow g6).grow g17).grow gd
    have leaf : ∀ {w25 v}, Grow (dr w17 d.1) w25 → SlA w25 v (ofM L R[i]) → Calls Tryz.prog 73 #[.agg #[hv, bv], v] w25 fun e_v29 w_v28 => ∃ t_v30 : Int, ∃ t_v31 : Int, e_v29 = .returned (Value.tuple #[(Value.int .i64 t_v30), (Value.int .i64 t_v31)]) ∧ ∀ w_v32, w_v32 = w_v28.alloc (.cells #[(Value.int .i64 t_v30)] 3) → PApp Tryz.prog 22 22 out (Value.slice (some ⟨w_v28.heap.size, 0, none⟩) 1 1) w_v32 fun t_v33 w_v34 => inR ((i : Int) + 1) ∧ ((∃ i' : Nat, (i : Int) + 1 = i' ∧ i' ≤ R.length ∧ OwnI w_v34 w6.heap.size t_v33 (natI ((R.take i').map (cntM b L))) ∧ Grow w6 w_v34) ∧ R.length - Int.toNat ((i : Int) + 1) < R.length - Int.toNat (i : Int)) := fun {w25 v} g25 hv => by
      refine (count_c (hh.grow (gD.trans g25)) (hb.gr (gD.trans g25)) hv).mono ?_
      rintro e w28 ⟨rfl, g28⟩
      rw [askO_ofM h0]
      refine ⟨_, _, rfl, fun w32 hw32 => ?_⟩
      have hlen : (natI ((R.take i).map (cntM b L))).length = i := by rw [natI_len, List.length_map, List.length_take]; omega
      have hs17 := g17.size
      have hs28 := ((gd.trans g25).trans g28).size
      refine papp1 el_int hw32 (Own.grow ho ((gd.trans g25).trans g28)) rfl (by omega) (by rw [hlen]; omega) (by omega) fun v' w' ho2 hf2 _ => ⟨by unfold inR; omega, ⟨i + 1, by omega, by omega, ?_, ?_⟩, by omega⟩
      · rw [List.take_succ_eq_append_getElem hil, List.map_append]
        exact ownApp (w := w) ho2
      · exact ((g17.trans ((gd.trans g25).trans g28)).trans (alloc_grow hw32)).fr hf2 fun x hx e => by have := (Own.lt ho e.symm).1; omega
    have call : ∀ {Q : Ending → World → Prop}, (∀ v w25, Grow (dr w17 d.1) w25 → SlA w25 v (ofM L R[i]) → Q (.returned v) w25) → Calls Tryz.prog 48 #[.agg #[sv, fv], .int .i64 (R[i] : Int)] (dr w17 d.1) Q := fun hq => (chosen_c (hl.gr gD) h12 hm (hT.grow gD)).mono (by
      rintro e w25 ⟨v, rfl, hv, g25⟩
      exact hq v w25 g25 hv)
    refine ⟨⟨[_, _], rfl, hQD.all, [_, _], rfl, hBD.all, call fun v w25 g25 hv => ⟨v, rfl, leaf g25 hv⟩⟩, [_, _], rfl, hBD.all, ⟨[_, _], rfl, hQD.all, call fun v w25 g25 hv => ⟨v, rfl, leaf g25 hv⟩⟩, call fun v w25 g25 hv => ⟨v, rfl, [_, _], rfl, (hQD.grow g25).all, leaf g25 hv⟩⟩
  · have hil : i = R.length := by omega
    subst hil
    rw [List.take_length] at ho
    exact ⟨_, _, rfl, hrv.grow g17, Own.slI ho, g06.trans g17⟩
end Go.Proofs.YtmjpnfapjcfejaaGreatDoor

/- Contracts: Certain, Counter, Share, Range, by the program. The table of bits is laid (Tab). -/
namespace Go.Proofs.YtmjpnfapjcfejaaGreatDoor
open Go Go.RowKit VC
set_option linter.unusedSimpArgs false
set_option linter.unusedVariables false

theorem indexI_c {w : World} {v : Value} {xs : List Int} {x : Int} (hs : SlI w v xs) : Calls Tryz.prog 46 #[v, .int .i64 x] w (Ret w (.int .i64 (idxOf (fun y => decide (x = y)) xs))) := by
  refine f46_calls _ _ ?_
  have hle := hs.len_le
  refine hs.ln ⟨fun t w' => ∃ k : Nat, t = k ∧ k ≤ xs.length ∧ w' = w ∧ ∀ j (hj : j < xs.length), j < k → ¬ x = xs[j], fun t _ => xs.length - t.toNat, ⟨0, rfl, by omega, rfl, fun j _ h => by omega⟩, ?_⟩
  rintro - t w1 ⟨k, rfl, hk, rfl, hno⟩
  refine condD (fun hlt => ?_) (fun hge => ?_)
  · have hkl : k < xs.length := by omega
    refine hs.rd rfl hkl (condD (fun he => ⟨?_, Grow.refl _⟩) fun he => ⟨by unfold inR; omega, ⟨k + 1, by omega, by omega, rfl, fun j hj hjk => ?_⟩, by dsimp only; omega⟩)
    · rw [idxOf_some hkl (decide_eq_true he) fun j hj hlt => decide_eq_false (hno j hj hlt)]
    · by_cases e : j = k
      · subst e; exact he
      · exact hno j hj (by omega)
  · have : idxOf (fun y => decide (x = y)) xs = -1 := idxOf_none fun j hj => decide_eq_false (hno j hj (by omega))
    exact ⟨by rw [this], Grow.refl _⟩
theorem containsI_c {w : World} {v : Value} {xs : List Int} {x : Int} (hs : SlI w v xs) : Calls Tryz.prog 45 #[v, .int .i64 x] w (Ret w (.bool (decide (x ∈ xs)))) := by
  refine f45_calls _ _ ?_
  refine (indexI_c hs).mono ?_
  rintro e w1 ⟨rfl, g⟩
  refine ⟨_, rfl, ?_, g⟩
  rw [idxOf_any]
  have : xs.any (fun y => decide (x = y)) = decide (x ∈ xs) := by
    rw [Bool.eq_iff_iff, List.any_eq_true, decide_eq_true_eq]
    constructor
    · rintro ⟨y, hy, h⟩
      rw [decide_eq_true_eq] at h
      exact h ▸ hy
    · exact fun h => ⟨x, h, decide_eq_true rfl⟩
  rw [this]
/-! ## What a question comes to -/
def cnts (s : List Int) (b L : List Atm) : List Nat := (allR (klS s) L).map (cntM b L)
def certB (s : List Int) (b L : List Atm) : Bool := (allR (klS s) L).all fun m => decide (cntM b L m ≠ 0)
theorem zero_mem (s : List Int) (b L : List Atm) : (!decide ((0 : Int) ∈ natI (cnts s b L))) = certB s b L := by
  rw [Bool.eq_iff_iff, Bool.not_eq_true', decide_eq_false_iff_not, certB, List.all_eq_true]
  constructor
  · intro h m hm
    refine decide_eq_true fun h0 => h ?_
    exact List.mem_map.2 ⟨0, List.mem_map.2 ⟨m, hm, h0⟩, rfl⟩
  · intro h h0
    obtain ⟨x, hx, e⟩ := List.mem_map.1 h0
    obtain ⟨m, hm, rfl⟩ := List.mem_map.1 hx
    exact of_decide_eq_true (h m hm) (by omega)
theorem allR_len (kl : Int → Nat) (L : List Atm) (h12 : L.length ≤ 12) : (allR kl L).length ≤ 4096 := by
  have := List.length_filter_le (repB kl L) (List.range (2 ^ L.length))
  rw [List.length_range] at this
  have hpow : 2 ^ L.length ≤ 2 ^ 12 := Nat.pow_le_pow_right (by omega) h12
  have e : (allR kl L).length = ((List.range (2 ^ L.length)).filter (repB kl L)).length := rfl
  omega
section
variable {w : World} {sv fv hv bv : Value} {s h : List Int} {b L : List Atm}
/-- What Certain, Counter, Share and Range have in common: the question is asked, then counted. -/
theorem quest_c {q : Bool} (hs : SlI w sv s) (hl : SlA w fv L) (hh : SlI w hv h) (hb : SlA w bv b) (hT : Tab w) {K : Ending → World → Prop} {F : Value → Value → Value → World → Prop} {N : Int → World → Prop}
    (hno : ∀ w', Grow w w' → askE q s h b L ≠ 0 → N (askE q s h b L) w')
    (hyes : ∀ rv cv w', Grow w w' → askE q s h b L = 0 → okR s L = true → SlI w' rv (natI (allR (klS s) L)) → SlI w' cv (natI (cnts s b L)) → F (.tuple #[rv, cv]) rv cv w') :
    ∀ w1, w1 = w.alloc (.cells #[hv, bv] 34) → ∃ cs_v3 : List Value, cs_v3.length = 2 ∧ (∀ (j : Nat) (v : Value), cs_v3[j]? = some v → w1.cell? (Addr.add ⟨w.heap.size, 0, none⟩ j) = some v) ∧ Calls Tryz.prog 36 #[sv, fv, (Value.agg cs_v3.toArray), (Value.bool q)] w1 fun e_v5 w_v4 => ∃ t_v6 : Value, ∃ t_v7 : Int, e_v5 = .returned (Value.tuple #[t_v6, (Value.int .i64 t_v7)]) ∧ ∀ w_v8, w_v8 = w_v4.alloc (.cells #[(Value.slice none 0 0), (Value.slice none 0 0)] 68) → ∃ cs_v10 : Array Value, t_v6 = Value.agg cs_v10 ∧ cs_v10.size = 2 ∧ ∃ w_v9 : World, (storeCells ⟨w_v4.heap.size, 0, none⟩ cs_v10.toList).run Tryz.prog w_v8 = .ok () w_v9 ∧ condP (!decide (t_v7 = (0 : Int))) (N t_v7 w_v9) (∃ cs_v11 : List Value, cs_v11.length = 2 ∧ (∀ (j : Nat) (v : Value), cs_v11[j]? = some v → w_v9.cell? (Addr.add ⟨w_v4.heap.size, 0, none⟩ j) = some v) ∧ ∃ cs_v12 : List Value, cs_v12.length = 2 ∧ (∀ (j : Nat) (v : Value), cs_v12[j]? = some v → w_v9.cell? (Addr.add ⟨w.heap.size, 0, none⟩ j) = some v) ∧ Calls Tryz.prog 37 #[(Value.agg cs_v11.toArray), (Value.agg cs_v12.toArray)] w_v9 fun e_v14 w_v13 => ∃ t_v15 : Value, ∃ t_v16 : Value, e_v14 = .returned (Value.tuple #[t_v15, t_v16]) ∧ F (.tuple #[t_v15, t_v16]) t_v15 t_v16 w_v13) := by
  intro w1 hw1
  have g1 := alloc_grow hw1
  have hQ := RecV.new hw1
  refine ⟨[_, _], rfl, hQ.all, (ask_c (hs.grow g1) (hl.gr g1) (hh.grow g1) (hb.gr g1)).mono ?_⟩
  rintro e w4 ⟨x, y, rfl, hx, hy, hxy, g4⟩
  refine ⟨_, _, rfl, fun w8 hw8 => RecV.init (cs := [x, y]) hw8 rfl (by simp [hx.2, hy.2]) fun w9 g9 s9 hB => ?_⟩
  have g09 := (g1.trans g4).trans g9
  refine condP_i (fun hne => hno w9 g09 (by simpa using hne)) fun heq => ?_
  have h0 : askE q s h b L = 0 := by simpa using heq
  obtain ⟨rfl, rfl⟩ := hxy h0
  have hR : okR s L = true := by
    cases hr : okR s L with
    | true => rfl
    | false => rw [askE, hr] at h0; simp at h0
  have h0' : (askO h b L).1 = 0 := by
    unfold askE at h0
    split at h0
    · exact h0
    · cases h0
  refine ⟨[_, _], rfl, hB.all, [_, _], rfl, (hQ.grow (g4.trans g9)).all, (counts_c (hs.grow g09) (hl.gr g09) (hh.grow g09) (hb.gr g09) hR h0' (hT.grow g09)).mono ?_⟩
  rintro e w13 ⟨rv, cv, rfl, hrv, hcv, g13⟩
  exact ⟨_, _, rfl, hyes rv cv w13 (g09.trans g13) h0 hR hrv hcv⟩
theorem certain_c (hs : SlI w sv s) (hl : SlA w fv L) (hh : SlI w hv h) (hb : SlA w bv b) (hT : Tab w) :
    Calls Tryz.prog 18 #[sv, fv, .agg #[hv, bv]] w (Ret w (.tuple #[.bool (decide (askE true s h b L = 0) && certB s b L), .int .i64 (askE true s h b L)])) := by
  refine f18_calls _ _ _ ⟨_, rfl, ?_⟩
  refine quest_c (K := fun _ _ => True) (N := fun z w9 => Ret w _ (.returned (.tuple #[(Value.bool false), (Value.int .i64 z)])) w9) (F := fun _ rv cv w13 => Calls Tryz.prog 45 #[cv, (Value.int .i64 0)] w13 fun e_v18 w_v17 => ∃ t_v19 : Bool, e_v18 = .returned (Value.bool t_v19) ∧ Ret w _ (.returned (.tuple #[(Value.bool (!t_v19)), (Value.int .i64 0)])) w_v17) hs hl hh hb hT (fun w' g hne => ⟨?_, g⟩) fun rv cv w' g h0 hR hrv hcv => ?_
  · rw [decide_eq_false hne]; rfl
  · refine (containsI_c hcv).mono ?_
    rintro e w17 ⟨rfl, g17⟩
    refine ⟨_, rfl, ?_, g.trans g17⟩
    rw [zero_mem, h0]; rfl
end
end Go.Proofs.YtmjpnfapjcfejaaGreatDoor

/- Contracts: the reference's questions. No condition. -/
namespace Go.Proofs.YtmjpnfapjcfejaaGreatDoor
open Go Go.RowKit VC
set_option linter.unusedSimpArgs false
set_option linter.unusedVariables false

section
variable {w : World} {sv fv hv bv : Value} {s h : List Int} {b L : List Atm}
/-- The least and the greatest of a list, if it is not empty. -/
def LowHigh (l : List Int) (lo hi : Int) : Prop := lo ∈ l ∧ hi ∈ l ∧ ∀ x ∈ l, lo ≤ x ∧ x ≤ hi
theorem LowHigh.uniq {l : List Int} {lo hi lo' hi' : Int} (h : LowHigh l lo hi) (h' : LowHigh l lo' hi') : lo = lo' ∧ hi = hi' := by
  have a := h.2.2 _ h'.1
  have b := h.2.2 _ h'.2.1
  have c := h'.2.2 _ h.1
  have d := h'.2.2 _ h.2.1
  exact ⟨by omega, by omega⟩
end
end Go.Proofs.YtmjpnfapjcfejaaGreatDoor

/- Contracts: what the statements about repairs have in common. The table of bits is laid where it is asked (Tab). -/
namespace Go.Proofs.YtmjpnfapjcfejaaGreatDoor
open Go Go.RowKit VC
set_option linter.unusedSimpArgs false
set_option linter.unusedVariables false

theorem few7_c {w : World} {v : Value} {xs : List Int} (hs : SlI w v xs) : Calls Tryz.prog 12 #[v] w fun e w' => ∃ v', e = .returned v' ∧ OwnI w' w.heap.size v' (xs.take 9) ∧ Grow w w' := by
  refine f12_calls _ ?_
  have hle := hs.len_le
  have e : (if 9 < (xs.length : Int) then (9 : Int) else xs.length) = ((min 9 xs.length : Nat) : Int) := by split <;> omega
  refine hs.ln ?_
  rw [e]
  obtain ⟨a, n, c, e1, l, h, m, h2, hv'⟩ := hs.upto (i := min 9 xs.length) (k := .i64) (K := fun x => SlI w x (xs.take 9)) rfl (by omega) fun v' hv' => by rwa [take_min] at hv'
  refine ⟨a, n, c, e1, l, h, m, h2, (clone_c hv' (by simp; omega)).mono ?_⟩
  rintro e w1 ⟨u, rfl, ho, g1⟩
  exact ⟨u, rfl, u, rfl, ho, g1⟩
theorem fill_three {A : Array Value} (h : A.size = 6) {a0 a1 b0 b1 c0 c1 : Value} : Instr.fill (fun i => some (i * 2, 2)) A [(0, .agg #[a0, a1]), (1, .agg #[b0, b1]), (2, .agg #[c0, c1])] = some #[a0, a1, b0, b1, c0, c1] := by
  obtain ⟨l⟩ := A
  match l, h with
  | [x0, x1, x2, x3, x4, x5], _ => rfl
theorem bs3 {P : Program} {t e : TypeId} {bytes : Nat} {z : Value} (hT : ElT P t e 2 bytes z) {a0 a1 b0 b1 c0 c1 : Value} (w : World) {K : Value → World → Prop}
    (hk : ∀ w', w' = w.alloc (.cells #[a0, a1, b0, b1, c0, c1] e) → K (.slice (some ⟨w.heap.size, 0, none⟩) 3 3) w') : ∃ v : Value, ∃ w' : World, (Instr.buildSlice t 3 #[(0, .agg #[a0, a1]), (1, .agg #[b0, b1]), (2, .agg #[c0, c1])]).run P w = .ok v w' ∧ K v w' := by
  obtain ⟨i, hi, hz, hsize, hby⟩ := hT.info
  refine ⟨_, _, ?_, hk _ rfl⟩
  have hs : (sizeOf e).run P w = .ok 2 w := by simp [sizeOf, typeInfo, hi, hsize]
  have hzr : (zeroValue e).run P w = .ok z w := by simp [zeroValue, typeInfo, hi, hz]
  simp only [Instr.buildSlice, Sem.run_bind, underlying_run hT.und, Result.andThen_ok, hs]
  rw [if_neg (by omega), if_neg (by omega)]
  have hf := fill_three (A := (Array.range (3 * 2)).map fun j => z.cells[j % z.cells.size]!) (by simp) (a0 := a0) (a1 := a1) (b0 := b0) (b1 := b1) (c0 := c0) (c1 := c1)
  simp only [Sem.run_bind, hzr, Result.andThen_ok, Sem.run_pure, hf, newRow, run_newObj]
  rfl
theorem awake7_val : okR [1, 1, 1, 1, 1, 1] [(0, [1, 2]), (0, [1, 3]), (0, [2, 3])] = true ∧ blksL [1, 1, 1, 1, 1, 1] [(0, [1, 2]), (0, [1, 3]), (0, [2, 3])] = [0, 0, 2] := by decide +kernel
theorem awake7_c {w : World} : Calls Tryz.prog 16 #[] w (Ret w (.bool true)) := by
  refine f16_calls ?_
  intro w1 hw1 w2 hw2
  have g1 := alloc_grow hw1
  have g2 := alloc_grow hw2
  have hs := slI_lit (xs := [1, 1, 1, 1, 1, 1]) hw1 rfl (by simp)
  have h1 := slI_lit (xs := [1, 2]) hw2 rfl (by simp)
  refine ⟨SlI.one h1, fun w3 hw3 => ?_⟩
  have g3 := alloc_grow hw3
  have h2 := slI_lit (xs := [1, 3]) hw3 rfl (by simp)
  refine ⟨SlI.one h2, fun w4 hw4 => ?_⟩
  have g4 := alloc_grow hw4
  have h3 := slI_lit (xs := [2, 3]) hw4 rfl (by simp)
  refine ⟨SlI.one h3, bs3 el_fact w4 fun w5 hw5 => ?_⟩
  have g5 := alloc_grow hw5
  have hl : SlA w5 (.slice (some ⟨w4.heap.size, 0, none⟩) 3 3) [(0, [1, 2]), (0, [1, 3]), (0, [2, 3])] := by
    have h := Own.lit (B := w4.heap.size) (n := 3) (sz := 2) hw5 (Nat.le_refl _) (by omega) (by simp)
    have := SlX.of_cells (k := 2) (rep := repA) (w := w5) (v := .slice (some ⟨w4.heap.size, 0, none⟩) 3 3) (ps := [([.int .i64 0, .slice (some ⟨w1.heap.size, 0, none⟩) 2 2], (0, [1, 2])), ([.int .i64 0, .slice (some ⟨w2.heap.size, 0, none⟩) 2 2], (0, [1, 3])), ([.int .i64 0, .slice (some ⟨w3.heap.size, 0, none⟩) 2 2], (0, [2, 3]))]) (fun p hp => by
      simp only [List.mem_cons, List.not_mem_nil, or_false] at hp
      rcases hp with rfl | rfl | rfl
      · exact ⟨rfl, _, rfl, SlI.grow h1 ((g3.trans g4).trans g5)⟩
      · exact ⟨rfl, _, rfl, SlI.grow h2 (g4.trans g5)⟩
      · exact ⟨rfl, _, rfl, SlI.grow h3 g5⟩) (by simpa using h.slC)
    simpa using this
  have g05 := (((g1.trans g2).trans g3).trans g4).trans g5
  refine (blocks_c (SlI.grow hs (((g2.trans g3).trans g4).trans g5)) hl).mono ?_
  rintro e w7 ⟨v, rfl, hv, g7⟩
  rw [if_pos awake7_val.1, awake7_val.2] at hv
  refine ⟨_, _, rfl, cT (by rw [if_pos awake7_val.1]; rfl) fun w11 hw11 => ?_⟩
  have g11 := alloc_grow hw11
  have hr := slI_lit (xs := [0, 0, 2]) hw11 rfl (by simp)
  refine (equal_c (hv.grow g11) hr).mono ?_
  rintro e w12 ⟨rfl, g12⟩
  exact ⟨_, rfl, by simp, ((g05.trans g7).trans g11).trans g12⟩
section
variable {w : World} {sv fv hv bv : Value} {s h : List Int} {b L : List Atm}
end
end Go.Proofs.YtmjpnfapjcfejaaGreatDoor

/- Contracts: why a question has no answer, in the statements. No condition. -/
namespace Go.Proofs.YtmjpnfapjcfejaaGreatDoor
open Go Go.RowKit VC
set_option linter.unusedSimpArgs false
set_option linter.unusedVariables false

theorem askE_tr (q : Bool) (s h : List Int) (b L : List Atm) : askE q (s.take 9) (h.take 9) (trB b) (trF L) = askE q s h b L := by
  unfold askE
  rw [okR_tr, askO_tr]
  have : decide (0 < (h.take 9).length) = decide (0 < h.length) := decide_eq_decide.2 (by rw [List.length_take]; omega)
  rw [this]
theorem askE_ok {q : Bool} {s h : List Int} {b L : List Atm} (h0 : askE q s h b L = 0) : okR s L = true ∧ (askO h b L).1 = 0 ∧ okQ h b = true ∧ s.take 9 = s ∧ h.take 9 = h ∧ trB b = b ∧ trF L = L ∧ (q = true → h = []) := by
  unfold askE at h0
  split at h0
  · rename_i hc
    rw [Bool.and_eq_true, Bool.not_eq_true', Bool.and_eq_false_iff, decide_eq_false_iff_not] at hc
    have hq := (askO_ok h0).1
    refine ⟨hc.1, h0, hq, (okR_trF hc.1).2, (trB_of hq).2, (trB_of hq).1, (okR_trF hc.1).1, fun e => ?_⟩
    rcases hc.2 with h1 | h1
    · rw [e] at h1; cases h1
    · exact List.length_eq_zero_iff.1 (by omega)
  · cases h0
theorem askE_cases (q : Bool) (s h : List Int) (b L : List Atm) : askE q s h b L = 0 ∨ askE q s h b L = 2 ∨ askE q s h b L = 3 := by
  unfold askE
  split
  · exact askO_cases h b L
  · exact .inr (.inl rfl)
section
variable {w : World} {sv fv hv bv : Value} {s h : List Int} {b L : List Atm}
end
end Go.Proofs.YtmjpnfapjcfejaaGreatDoor
