/-
 Contracts: the lists over a range of numbers, one after the other, as the program yields them. No condition.
-/
import Derived.Test.YtompijgfpeibnaaGreatDoorCG18
import Derived.Test.YtompijgfpeibnaaGreatDoorCG17
import Derived.Test.YtompijgfpeibnaaGreatDoorCK4
import Derived.Test.YtompijgfpeibnaaGreatDoorCB8
import Derived.Test.YtompijgfpeibnaaGreatDoorCG14
import Derived.Test.YtompijgfpeibnaaGreatDoorCG16
namespace Go.Proofs.YtompijgfpeibnaaGreatDoor.Ax
open Go Go.RowKit
set_option linter.unusedSimpArgs false
def lowTo (low : Int) (l : List Int) (j : Nat) : List Int := l.take j ++ List.replicate (l.length - j) low
theorem lowTo_len {low : Int} {l : List Int} {j : Nat} (h : j ≤ l.length) : (lowTo low l j).length = l.length := by simp [lowTo]; omega
theorem lowTo_set {low v : Int} {l : List Int} {j : Nat} (h : j < l.length) : ((lowTo low l (j + 1)).map int).set j (.v (.int .i64 v)) = (l.take j ++ v :: List.replicate (l.length - (j + 1)) low).map int := by
 have hi : (AV.v (.int .i64 v)) = int v := rfl
 rw [hi, ← List.map_set]
 congr 1
 unfold lowTo
 rw [List.take_succ_eq_append_getElem h, List.append_assoc, List.set_append_right _ _ (by simp; omega)]
 simp [Nat.min_eq_left (Nat.le_of_lt h)]
theorem lowTo_low {low : Int} {l : List Int} {j : Nat} (h : j < l.length) : lowTo low l j = l.take j ++ low :: List.replicate (l.length - (j + 1)) low := by
 unfold lowTo
 rw [show l.length - j = l.length - (j + 1) + 1 by omega, List.replicate_succ]
theorem lowTo_get {low : Int} {l : List Int} {j : Nat} (h : j < l.length) (h' : j < (lowTo low l (j + 1)).length) : (lowTo low l (j + 1))[j] = l[j] := by
 simp only [lowTo, List.getElem_append]
 rw [dif_pos (by simp; omega)]
 simp
theorem lists1_ok (low high : Int) (n : Nat) (h : low ≤ high) (hn : n ≤ 1000) (hl : -1000 ≤ low) (hh : high ≤ 1000) :
  IterOk Tryz.prog 364 [.fp (int low) 0, .fp (int (n : Int)) 0, .fp (int high) 0] ((allL low high n).map fun l => .sl false 1 (l.map int)) := by
 have hG : FnsOk Tryz.prog [(165, mRepeatI)] := (.cons repeatI_ok .nil)
 refine iterOk_of_ty (dt := [(3, ⟨[], [], []⟩)]) Tryz.func364 rfl (by kernel_rfl) rfl (by kernel_rfl) fun w F0 B0 l J hJ hyield => ?_
 have hr := mRepeatI_at false low n hn
 have hhead := allL_head h n
 have hpos : 0 < (allL low high n).length := (List.getElem?_eq_some_iff.1 hhead).1
 refine ty_seq (ty_awp (ctx_ok eqOk hG) mixed hJ (live := [true, true, true, true, false, true, true, false, false, false, false, false, false, true, false, false, false, false, false, false, false, false, false, false, false, true, false, false, false, false, false, false, false, true]) fun X A w1 => ?_)
 simp [Tryz.f364, List.range, List.range.loop, ints, intss, int, bool, row, frac, fracs, ← List.map_take, ← List.map_drop, hr, thenY_normal, yv]
 refine ty_block (ty_loop (α := {k : Nat // k < (allL low high n).length}) (fun k => ⟨[.v (.func (.yield l) #[] #[]), .fp (int low) 0, .fp (int (n : Int)) 0, .fp (int high) 0, .junk, .ref 0 [] 0 n, .junk, .junk, .junk, .junk, .junk, .junk, .junk, .junk, .junk, .junk, .junk, .junk, .junk, .junk, .junk, .junk, .junk, .junk, .junk, .junk, .junk, .junk, .junk, .junk, .junk, .junk, .junk, .junk, .junk, .junk, .junk, .junk, .junk, .junk], [⟨true, .sl false 1 (((allL low high n)[k.1]'k.2).map int)⟩]⟩) (fun k => (true, k.1)) (fun k => (allL low high n).length - k.1) ⟨0, hpos⟩ ?_ ?_)
 ·refine ⟨?_, rfl⟩
  have h0 : (allL low high n)[0] = List.replicate n low := by rw [List.getElem?_eq_getElem hpos] at hhead; exact Option.some.inj hhead
  simp [sub, slotsLe, clean, keep, refsL, refs, once, place, renL, ren, List.replicate, int, bool, h0]
 rintro ⟨k, hk⟩
 obtain ⟨hlen, hmem⟩ := allL_mem (List.getElem_mem hk)
 have hnext := allL_ch h n k _ (List.getElem?_eq_getElem hk)
 generalize hl0 : (allL low high n)[k] = l0 at hlen hmem hnext
 simp only [hl0]
 refine ty_seq (ty_seq (ty_yield (ctx_ok eqOk hG) hJ hyield (pre := [_, _]) rfl rfl rfl rfl (by rfl) (by rfl) (x := .sl false 1 (l0.map int)) ?_ ?_ ?_ ?_))
 ·simp [List.range, List.range.loop, ints, intss, int, bool, row, frac, fracs, ← List.map_take, ← List.map_drop, hlen, List.take_of_length_le (Nat.le_of_eq hlen)]
 ·rw [List.getElem?_map, List.getElem?_eq_getElem hk, hl0]; rfl
 ·simp only [thenY_normal]
  refine ty_awp (ctx_ok eqOk hG) mixed hJ (live := [true, true, true, true, false, true, true, false, false, false, false, false, false, true, false, false, false, false, false, false, false, false, false, false, false, true, false, false, false, false, false, false, false, true]) fun X A w1 => ?_
  simp [List.range, List.range.loop, ints, intss, int, bool, row, frac, fracs, ← List.map_take, ← List.map_drop, thenY_normal]
  refine ty_awp (ctx_ok eqOk hG) mixed hJ (live := [true, true, true, true, false, true, true, false, false, false, false, false, false, true, false, false, false, false, false, false, false, false, false, false, false, true, false, false, false, false, false, false, false, true]) fun X A w1 => ?_
  simp [List.range, List.range.loop, ints, intss, int, bool, row, frac, fracs, ← List.map_take, ← List.map_drop, thenY_normal, inB_normal]
  have hwn : IntKind.i64.wrap ((n : Int) - 1) = (n : Int) - 1 := wrapI (by omega) (by omega)
  have htk : l0.take n = l0 := List.take_of_length_le (by omega)
  refine awp_loop_of (live := [true, true, true, true, false, true, true, false, false, false, false, false, false, true, false, false, false, false, false, false, false, false, false, false, false, true, false, false, false, false, false, false, false, true]) (ctx_ok eqOk hG) mixed [true, true, true, true, false, true, true] (α := {j : Nat // j ≤ n ∧ l0.drop j = List.replicate (n - j) high}) (fun j => ⟨[yv l, .fp (int low) 0, .fp (int (n : Int)) 0, .fp (int high) 0, .junk, .ref 0 [] 0 n, int ((j.1 : Int) - 1), .junk, .junk, .junk, .junk, .junk, .junk, .junk, .junk, .junk, .junk, .junk, .junk, .junk, .junk, .junk, .junk, .junk, .junk, .junk, .junk, .junk, .junk, .junk, .junk, .junk, .junk, .junk, .junk, .junk, .junk, .junk, .junk, .junk], [⟨true, .sl false 1 ((lowTo low l0 j.1).map int)⟩]⟩) (fun j => j.1) ⟨n, Nat.le_refl _, by simp [← hlen]⟩ (by simp [sub, slotsLe, clean, keep, refsL, refs, once, place, renL, ren, List.replicate, int, bool, yv, lowTo, hlen, hl0, hwn, htk]) ?_
  rintro ⟨j, hj, hd⟩
  have hll := lowTo_len (low := low) (l := l0) (j := j) (by omega)
  rw [hlen] at hll
  cases j with
  | zero =>
   have hl1 : l0 = List.replicate n high := by simpa using hd
   rw [hl1, next_last] at hnext
   have hk1 : k + 1 = (allL low high n).length := by have := List.getElem?_eq_none_iff.1 hnext; omega
   simp (config := {contextual := true}) [List.range, List.range.loop, ints, intss, int, bool, row, frac, fracs, ← List.map_take, ← List.map_drop, thenY_ret, inBY_ret, yv, hll, hk1]
  | succ j =>
   have hjl : j < l0.length := by omega
   have e1 : (((j + 1 : Nat) : Int) - 1) = (j : Int) := by omega
   have hget : (lowTo low l0 (j + 1))[j]? = some l0[j] := by
    rw [List.getElem?_eq_getElem (by omega), lowTo_get hjl]
   have hx := hmem _ (List.getElem_mem hjl)
   have hwj : IntKind.i64.wrap ((j : Int) - 1) = (j : Int) - 1 := wrapI (by omega) (by omega)
   have hj0 : ¬ ((j : Int) < 0) := by omega
   have hjn : j < n := by omega
   simp only [e1]
   simp (config := {contextual := true}) [List.range, List.range.loop, ints, intss, int, bool, row, frac, fracs, ← List.map_take, ← List.map_drop, thenY_normal, yv, hll, hjn, hget, hwj, hj0]
   rw [lowTo_get hjl (by omega)]
   refine ⟨fun hc => ⟨⟨j, by omega, ?_⟩, ?_, by simp⟩, fun hc => ?_⟩
   ·rw [List.drop_eq_getElem_cons hjl, hd, hc, show n - j = n - (j + 1) + 1 by omega, List.replicate_succ]
   ·rw [lowTo_set hjl, ← lowTo_low hjl]
    simp [sub, slotsLe, clean, keep, refsL, refs, once, place, renL, ren, List.replicate, int, bool]
   ·have hna := next_at (low := low) (high := high) hjl (by omega) (by rw [hd, hlen])
    rw [hna] at hnext
    obtain ⟨hk1, hk2⟩ := List.getElem?_eq_some_iff.1 hnext
    refine ⟨⟨k + 1, hk1⟩, ?_, rfl, by simp only []; omega⟩
    rw [wrapI (by omega) (by omega), lowTo_set hjl, ← hk2]
    simp [sub, slotsLe, clean, keep, refsL, refs, once, place, renL, ren, List.replicate, int, bool]
 ·simp only [thenY_normal]
  refine ty_awp (ctx_ok eqOk hG) mixed hJ (live := [true, true, true, true, false, true, true, false, false, false, false, false, false, true, false, false, false, false, false, false, false, false, false, false, false, true, false, false, false, false, false, false, false, true]) fun X A w1 => ?_
  simp [List.range, List.range.loop, ints, intss, int, bool, row, frac, fracs, ← List.map_take, ← List.map_drop, thenY_normal, thenY_exit, inBY_exit, inBY_normal]
open Go Go.RowKit
def comb (W : List Int → Int) : Option (List Int) → Option (List Int) → Option (List Int)
 | none, b => b
 | some a, none => some a
 | some a, some b => if W b > W a then some b else some a
theorem comb_none {W : List Int → Int} {a : Option (List Int)} : comb W a none = a := by cases a <;> rfl
theorem comb_assoc {W : List Int → Int} (a b c : Option (List Int)) : comb W (comb W a b) c = comb W a (comb W b c) := by
 cases a with
 | none => rfl
 | some a => cases b with
  | none => rfl
  | some b => cases c with
   | none => simp only [comb_none]
   | some c =>
    simp only [comb]
    by_cases h1 : W b > W a <;> by_cases h2 : W c > W b <;> by_cases h3 : W c > W a <;> simp [h1, h2, h3] <;> omega
def bestO (W : List Int → Int) (ok : List Int → Bool) : List (List Int) → Option (List Int)
 | [] => none
 | l :: L => comb W (if ok l = true then some l else none) (bestO W ok L)
theorem bestO_app {W : List Int → Int} {ok : List Int → Bool} : ∀ {A B : List (List Int)}, bestO W ok (A ++ B) = comb W (bestO W ok A) (bestO W ok B)
 | [], B => rfl
 | l :: A, B => by simp only [List.cons_append, bestO, bestO_app, comb_assoc]
def pick1 (W : List Int → Int) (ok : List Int → Bool) (o : Option (List Int)) (l : List Int) : Option (List Int) := comb W o (if ok l = true then some l else none)
theorem bestO_take {W : List Int → Int} {ok : List Int → Bool} {L : List (List Int)} {k : Nat} (h : k < L.length) : bestO W ok (L.take (k + 1)) = pick1 W ok (bestO W ok (L.take k)) L[k] := by
 rw [List.take_succ_eq_append_getElem h, bestO_app]
 simp only [bestO, pick1, comb_none]
theorem bestO_mem {W : List Int → Int} {ok : List Int → Bool} : ∀ {L : List (List Int)} {l : List Int}, bestO W ok L = some l → l ∈ L ∧ ok l = true
 | [], l, h => by simp [bestO] at h
 | x :: L, l, h => by
  simp only [bestO] at h
  have key : ∀ {a b : Option (List Int)}, comb W a b = some l → a = some l ∨ b = some l := by
   intro a b
   cases a with
   | none => exact .inr
   | some a => cases b with
    | none => exact .inl
    | some b =>
     simp only [comb]
     split
     ·exact .inr
     ·exact .inl
  rcases key h with h | h
  ·split at h
   ·simp only [Option.some.injEq] at h; subst h; exact ⟨by simp, by assumption⟩
   ·simp at h
  ·obtain ⟨h1, h2⟩ := bestO_mem h; exact ⟨by simp [h1], h2⟩
theorem bestO_none {W : List Int → Int} {ok : List Int → Bool} : ∀ {L : List (List Int)}, (∀ l ∈ L, ok l = false) → bestO W ok L = none
 | [], _ => rfl
 | x :: L, h => by
  simp only [bestO, h x (by simp), Bool.false_eq_true, if_false]
  rw [bestO_none fun l hl => h l (by simp [hl])]; rfl
def bestS (W : List Int → Int) (sk : List Int → Int → Bool) (low : Int) (m : Nat) : Nat → List Int → Option (List Int)
 | 0, l => some l
 | r + 1, l => (List.range m).foldl (fun o (i : Nat) => if sk l (low + i) = true then o else comb W o (bestS W sk low m r (l ++ [low + i]))) none
theorem foldl_comb {W : List Int → Int} {f : Nat → Option (List Int)} {g : Option (List Int) → Nat → Option (List Int)} (hg : ∀ o i, g o i = comb W o (f i)) : ∀ {l : List Nat} {o : Option (List Int)}, l.foldl g o = comb W o (l.foldl g none)
 | [], o => by simp [comb_none]
 | i :: l, o => by
  simp only [List.foldl_cons, hg]
  rw [foldl_comb hg (l := l) (o := comb W o (f i)), foldl_comb hg (l := l) (o := comb W none (f i)), comb_assoc]; rfl
theorem bestS_eq {W : List Int → Int} {ok : List Int → Bool} {sk : List Int → Int → Bool} {low high : Int} {n : Nat} (hlh : low ≤ high + 1) (hsk : ∀ l x m, ok l = true → l.length < n → sk l x = true → ok (l ++ x :: m) = false) (hkp : ∀ l x, ok l = true → l.length < n → sk l x = false → ok (l ++ [x]) = true) :
  ∀ (r : Nat) (l : List Int), ok l = true → l.length + r = n → bestS W sk low (high + 1 - low).toNat r l = bestO W ok ((allL low high r).map (l ++ ·))
 | 0, l, hl, _ => by simp [bestS, allL, bestO, hl, comb]
 | r + 1, l, hl, hn => by
  have ih := bestS_eq (W := W) hlh hsk hkp r
  simp only [bestS, allL]
  -- the blocks, from number i on
  have key : ∀ (m i : Nat), ((List.range' i m).foldl (fun o (i : Nat) => if sk l (low + i) = true then o else comb W o (bestS W sk low (high + 1 - low).toNat r (l ++ [low + i]))) none) = bestO W ok ((blocks (allL low high r) (low + i) m).map (l ++ ·)) := by
   intro m
   induction m with
   | zero => intro i; simp [blocks, bestO]
   | succ m im =>
    intro i
    rw [List.range'_succ, List.foldl_cons, foldl_comb (W := W) (f := fun i => if sk l (low + i) = true then none else bestS W sk low (high + 1 - low).toNat r (l ++ [low + i])) (fun o i => by split <;> simp [comb_none])]
    rw [im (i + 1), blocks, List.map_append, bestO_app]
    congr 1
    ·rw [List.map_map]
     have e : ((l ++ ·) ∘ ((low + (i : Int)) :: ·)) = fun l' => l ++ (low + (i : Int)) :: l' := rfl
     rw [e]
     by_cases hs : sk l (low + i) = true
     ·rw [if_pos hs, bestO_none]
      intro l' hl'
      obtain ⟨l0, _, rfl⟩ := List.mem_map.1 hl'
      exact hsk l _ l0 hl (by omega) hs
     ·rw [if_neg hs]
      have hs' : sk l (low + i) = false := by simpa using hs
      have : comb W none (bestS W sk low (high + 1 - low).toNat r (l ++ [low + (i : Int)])) = bestS W sk low (high + 1 - low).toNat r (l ++ [low + (i : Int)]) := rfl
      rw [this, ih (l ++ [low + (i : Int)]) (hkp l _ hl (by omega) hs') (by simp; omega)]
      congr 1
      exact List.map_congr_left fun l' _ => by simp
    ·congr 3; push_cast; omega
  have := key (high + 1 - low).toNat 0
  rw [← List.range_eq_range'] at this
  rw [this]
  congr 2
  simp
def okP (wo : Int) (l : List Int) : Bool := isAwd l && !(decide (0 ≤ wo) && decide (wo < l.length) && decide (0 ≤ l.getD wo.toNat 0))
def skP (wo : Int) (l : List Int) (x : Int) : Bool := decide (0 ≤ x) && (decide (0 ≤ pos l x) || decide ((l.length : Int) = wo))
theorem getD_app {l m : List Int} {i : Nat} (h : i < l.length) : (l ++ m).getD i 0 = l.getD i 0 := by
 rw [List.getD_eq_getElem?_getD, List.getD_eq_getElem?_getD, List.getElem?_append_left h]
theorem awAt_app {l m : List Int} {i : Nat} (h : i < l.length) : awAt (l ++ m) i = awAt l i := by
 unfold awAt
 rw [getD_app h, List.take_append_of_le_length (by omega)]
theorem awAt_last {l : List Int} {x : Int} {m : List Int} : awAt (l ++ x :: m) l.length = !(decide (0 ≤ x) && decide (0 ≤ pos l x)) := by
 unfold awAt
 rw [List.take_append_of_le_length (Nat.le_refl _), List.take_length]
 simp [List.getD_eq_getElem?_getD]
theorem isAwd_app {l : List Int} {x : Int} : isAwd (l ++ [x]) = (isAwd l && !(decide (0 ≤ x) && decide (0 ≤ pos l x))) := by
 unfold isAwd allR
 rw [List.length_append, List.length_singleton, List.range_succ, List.all_append]
 congr 1
 ·rw [Bool.eq_iff_iff, List.all_eq_true, List.all_eq_true]
  exact ⟨fun h i hi => by rw [← awAt_app (m := [x]) (by simpa using hi)]; exact h i hi, fun h i hi => by rw [awAt_app (by simpa using hi)]; exact h i hi⟩
 ·simp [awAt_last]
theorem okP_nil {wo : Int} : okP wo [] = true := by
 simp only [okP, Bool.and_eq_true, Bool.not_eq_true']
 refine ⟨rfl, ?_⟩
 simp only [List.length_nil, Bool.and_eq_false_iff, decide_eq_false_iff_not]
 omega
theorem okP_keep {wo : Int} {l : List Int} {x : Int} (h : okP wo l = true) (hs : skP wo l x = false) : okP wo (l ++ [x]) = true := by
 simp only [okP, skP, isAwd_app, Bool.and_eq_true, Bool.not_eq_true', Bool.and_eq_false_iff, Bool.or_eq_false_iff, decide_eq_false_iff_not, List.length_append, List.length_singleton] at h hs ⊢
 obtain ⟨h1, h2⟩ := h
 refine ⟨⟨h1, ?_⟩, ?_⟩
 ·rcases hs with hs | ⟨hs, _⟩
  ·exact .inl hs
  ·exact .inr hs
 ·by_cases h0 : 0 ≤ wo
  ·by_cases hw : wo < l.length
   ·rw [getD_app (by omega)]
    rcases h2 with (h2 | h2) | h2
    ·exact (h2 h0).elim
    ·exact (h2 hw).elim
    ·exact .inr h2
   ·by_cases he : wo = l.length
    ·right
     subst he
     rcases hs with hs | ⟨_, hs⟩
     ·simp [List.getD_eq_getElem?_getD]; omega
     ·exact (hs rfl).elim
    ·left; right; push_cast; omega
  ·exact .inl (.inl h0)
theorem okP_skip {wo : Int} {l : List Int} {x : Int} {m : List Int} (hs : skP wo l x = true) : okP wo (l ++ x :: m) = false := by
 simp only [skP, Bool.and_eq_true, Bool.or_eq_true, decide_eq_true_eq] at hs
 obtain ⟨hx, hs⟩ := hs
 simp only [okP, Bool.and_eq_false_iff, Bool.not_eq_false', Bool.and_eq_true, decide_eq_true_eq]
 rcases hs with hs | hs
 ·left
  exact allR_no (k := l.length) (by simp) (by rw [awAt_last]; simp [hx, hs])
 ·right
  subst hs
  refine ⟨⟨by omega, by simp; omega⟩, ?_⟩
  simp [List.getD_eq_getElem?_getD, hx]
open Go Go.RowKit
set_option linter.unusedSimpArgs false
noncomputable def mClone : List AV → Option AV := mk (fun p => p.2.length ≤ 1000000) (fun (p : (Bool) × (List Int)) => [ints p.1 p.2]) (fun p => ints p.1 p.2)
theorem mClone_at (nl : Bool) (xs : List Int) (hpre : xs.length ≤ 1000000) : mClone [.sl nl 1 (xs.map int)] = some (.sl nl 1 ((xs).map int)) :=
 mk_eq (enc := fun (p : (Bool) × (List Int)) => [ints p.1 p.2]) (x := (nl, xs)) (by rintro ⟨a0, a1⟩ ⟨b0, b1⟩ h; simp [ints, intss, int, bool, row, frac, fracs, map_int_inj, map_row_inj, frac_inj, map_frac_inj] at h; simp [h]) hpre
theorem clone_ok : FnOk Tryz.prog 38 mClone := by
 refine mk_ok fun ⟨nl, xs⟩ hn => ?_
 simp only at hn
 have hG : FnsOk Tryz.prog [] := .nil
 refine callOk_awp (ctx_ok eqOk hG) mixed (live := [true, false, true, false, true]) (dt := []) Tryz.func38 rfl (by kernel_rfl) (by kernel_rfl) fun w0 hlens => ?_
 have hnil := (lens_ints.1 hlens.1).2
 clear hlens
 have h1 : xs.length ≤ 4611686018427387904 := by omega
 have h2 : xs.length * 8 ≤ 140737488355328 := by omega
 cases nl with
 | true =>
  have : xs = [] := hnil rfl
  subst this
  simp (config := {contextual := true}) [Tryz.f38, List.range, List.range.loop, ints, intss, int, bool, row, frac, fracs, ← List.map_take, ← List.map_drop, h1, h2]
 | false => simp (config := {contextual := true}) [Tryz.f38, List.range, List.range.loop, ints, intss, int, bool, row, frac, fracs, ← List.map_take, ← List.map_drop, h1, h2]
noncomputable def mLists : List AV → Option AV := mk (fun _ => True) (fun (p : Nat × Int × Int) => [int (p.1 : Int), int p.2.1, int p.2.2]) (fun p => .fn 364 [.fp (int p.2.1) 0, .fp (int (p.1 : Int)) 0, .fp (int p.2.2) 0])
theorem mLists_at (n : Nat) (low high : Int) : mLists [.v (.int .i64 (n : Int)), .v (.int .i64 low), .v (.int .i64 high)] = some (.fn 364 [.fp (.v (.int .i64 low)) 0, .fp (.v (.int .i64 (n : Int))) 0, .fp (.v (.int .i64 high)) 0]) :=
 mk_eq (enc := fun (p : Nat × Int × Int) => [int (p.1 : Int), int p.2.1, int p.2.2]) (x := (n, low, high)) (by rintro ⟨a, b, c⟩ ⟨d, e, f⟩ h; simp [int] at h; obtain ⟨h, rfl, rfl⟩ := h; exact (by omega : a = d) ▸ rfl) trivial
theorem lists_ok : FnFrz Tryz.prog 306 true mLists := by
 refine mk_frz fun ⟨n, low, high⟩ _ => ?_
 have hG : FnsOk Tryz.prog [] := .nil
 refine frzOk_awp (ctx_ok eqOk hG) mixed (live := [true, true, true, true, true, true, true]) (dt := []) Tryz.func306 rfl (by kernel_rfl) (by kernel_rfl) fun A w0 hlens => ?_
 clear hlens
 simp (config := {contextual := true}) [Tryz.f306, List.range, List.range.loop, ints, intss, int, bool, row, frac, fracs, ← List.map_take, ← List.map_drop, List.all]
open Go Go.RowKit
set_option linter.unusedSimpArgs false
def cmI (x y : Int) : Int := if x < y then -1 else if y < x then 1 else 0
def cmL : List Int → List Int → Int
 | [], [] => 0
 | [], _ :: _ => -1
 | _ :: _, [] => 1
 | x :: a, y :: b => if cmI x y = 0 then cmL a b else cmI x y
noncomputable def mCmI : List AV → Option AV := mk (fun _ => True) (fun (p : (Int) × (Int)) => [int p.1, int p.2]) (fun p => int (cmI p.1 p.2))
theorem mCmI_at (x : Int) (y : Int) : mCmI [.v (.int .i64 x), .v (.int .i64 y)] = some (.v (.int .i64 (cmI x y))) :=
 mk_eq (enc := fun (p : (Int) × (Int)) => [int p.1, int p.2]) (x := (x, y)) (by rintro ⟨a0, a1⟩ ⟨b0, b1⟩ h; simp [ints, intss, int, bool, row, frac, fracs, map_int_inj, map_row_inj, frac_inj, map_frac_inj] at h; simp [h]) trivial
noncomputable def mNaNI : List AV → Option AV := mk (fun _ => True) (fun (p : (Int)) => [int p]) (fun _ => bool false)
theorem mNaNI_at (x : Int) : mNaNI [.v (.int .i64 x)] = some (.v (.bool false)) :=
 mk_eq (enc := fun (p : (Int)) => [int p]) (x := (x)) (by rintro a0 b0 h; simp [ints, intss, int, bool, row, frac, fracs, map_int_inj, map_row_inj, frac_inj, map_frac_inj] at h; simp [h]) trivial
theorem isNaNI_ok : (FnOk Tryz.prog 338 mNaNI) := by
 refine mk_ok fun x _ => ?_
 have hG : FnsOk Tryz.prog [] := .nil
 refine callOk_awp (ctx_ok eqOk hG) mixed (live := [true, false, true]) (dt := []) Tryz.func338 rfl (by kernel_rfl) (by kernel_rfl) fun w0 hlens => ?_
 simp [Tryz.f338, List.range, List.range.loop, ints, intss, int, bool, row, frac, fracs, ← List.map_take, ← List.map_drop]
theorem cmI_ok : (FnOk Tryz.prog 276 mCmI) := by
 refine mk_ok fun ⟨x, y⟩ _ => ?_
 have hG : FnsOk Tryz.prog [(338, mNaNI)] := (.cons isNaNI_ok .nil)
 refine callOk_awp (ctx_ok eqOk hG) mixed (live := [true, true, false, false, true, true, true, false, false, false, false, true, true, true, false, false, true, false, false, true]) (dt := []) Tryz.func276 rfl (by kernel_rfl) (by kernel_rfl) fun w0 hlens => ?_
 by_cases h1 : x < y
 ·simp [Tryz.f276, List.range, List.range.loop, ints, intss, int, bool, row, frac, fracs, ← List.map_take, ← List.map_drop, mNaNI_at, h1, cmI]
 ·by_cases h2 : y < x <;> simp [Tryz.f276, List.range, List.range.loop, ints, intss, int, bool, row, frac, fracs, ← List.map_take, ← List.map_drop, mNaNI_at, h1, h2, cmI]
noncomputable def mCmL : List AV → Option AV := mk (fun p => p.2.1.length = p.2.2.2.length) (fun (p : (Bool) × (List Int) × (Bool) × (List Int)) => [ints p.1 p.2.1, ints p.2.2.1 p.2.2.2]) (fun p => int (cmL p.2.1 p.2.2.2))
theorem mCmL_at (nl : Bool) (a : List Int) (nl' : Bool) (b : List Int) (hpre : a.length = b.length) : mCmL [.sl nl 1 (a.map int), .sl nl' 1 (b.map int)] = some (.v (.int .i64 (cmL a b))) :=
 mk_eq (enc := fun (p : (Bool) × (List Int) × (Bool) × (List Int)) => [ints p.1 p.2.1, ints p.2.2.1 p.2.2.2]) (x := (nl, a, nl', b)) (by rintro ⟨a0, a1, a2, a3⟩ ⟨b0, b1, b2, b3⟩ h; simp [ints, intss, int, bool, row, frac, fracs, map_int_inj, map_row_inj, frac_inj, map_frac_inj] at h; simp [h]) hpre
theorem cmL_ok : FnOk Tryz.prog 307 mCmL := by
 refine mk_ok fun ⟨nl, a, nl', b⟩ hp => ?_
 simp only at hp
 have hG : FnsOk Tryz.prog [(276, mCmI)] := (.cons cmI_ok .nil)
 refine callOk_awp (ctx_ok eqOk hG) mixed (live := [true, true, false, false, true, true, true, true, true, true, true, true, true, false, false, false, false, false, false, true, false, false, false, false, false, false, false, false, true, false, false, false, false, false, false, true]) (dt := []) Tryz.func307 rfl (by kernel_rfl) (by kernel_rfl) fun w0 hlens => ?_
 have hl : a.length ≤ 9223372036854775807 := (lens_ints.1 hlens.1).1
 clear hlens
 generalize hr : cmL a b = r
 simp [Tryz.f307, List.range, List.range.loop, ints, intss, int, bool, row, frac, fracs, ← List.map_take, ← List.map_drop]
 refine awp_range (live := [true, true, false, false, true, true, true, true, true, true, true, true, true, false, false, false, false, false, false, true, false, false, false, false, false, false, false, false, true, false, false, false, false, false, false, true]) (ctx_ok eqOk hG) mixed [true, true, false, false, false, false, false, false, false, true, true, true] (a.length) (fun k => cmL (a.drop k) (b.drop k) = r) (fun k => ⟨[ints nl a, ints nl' b, .junk, .junk, .junk, .junk, .junk, .junk, .junk, ints nl a, int a.length, int k, .junk, .junk, .junk, .junk, .junk, .junk, .junk, .junk, .junk, .junk, .junk, .junk, .junk, .junk, .junk, .junk, .junk, .junk, .junk, .junk, .junk, .junk, .junk, .junk], []⟩) ?_ (by simp [sub, slotsLe, clean, keep, refsL, refs, once, place, renL, ren, List.replicate, int, bool, ints]) ?_ ?_ ?_
 ·exact hl
 ·simpa using hr
 ·intro k hk hq hwk
  have hkb : k < b.length := by omega
  have h1 : ¬ (b.length : Int) ≤ k := by omega
  have h2 : ¬ b.length ≤ k := by omega
  rw [List.drop_eq_getElem_cons hk, List.drop_eq_getElem_cons hkb, cmL] at hq
  by_cases e : cmI a[k] b[k] = 0
  ·rw [if_pos e] at hq
   simp [List.range, List.range.loop, ints, intss, int, bool, row, frac, fracs, ← List.map_take, ← List.map_drop, hk, hkb, hwk, h1, h2, mCmI_at, e, hq]
  ·rw [if_neg e] at hq
   subst hq
   have e' : (cmI a[k] b[k] != 0) = true := by simpa using e
   simp [List.range, List.range.loop, ints, intss, int, bool, row, frac, fracs, ← List.map_take, ← List.map_drop, hk, hkb, hwk, h1, h2, mCmI_at, e, e']
 ·intro hq
  have hab : ¬ a.length < b.length := by omega
  have hab2 : ¬ (a.length : Int) < b.length := by omega
  have : r = 0 := by
   rw [← hq, List.drop_of_length_le (Nat.le_refl _), List.drop_of_length_le (by omega)]; rfl
  subst this
  simp [List.range, List.range.loop, ints, intss, int, bool, row, frac, fracs, ← List.map_take, ← List.map_drop, hab, hab2]
theorem cmL_pair {a b c d : Int} : (0 < cmL [a, b] [c, d]) ↔ prGt (a, b) (c, d) = true := by
 simp only [cmL, cmI, prGt, Bool.or_eq_true, Bool.and_eq_true, decide_eq_true_eq]
 split <;> split <;> try split
 all_goals (try split) <;> omega
theorem tyFI : tyOf Tryz.prog 81 = some (⟨.func #[27] #[27] false, 1, 8, .nilFunc⟩ : TI) := by kernel_rfl
theorem tyFB : tyOf Tryz.prog 110 = some (⟨.func #[27] #[4] false, 1, 8, .nilFunc⟩ : TI) := by kernel_rfl
def bestV : Option (List Int) → AV
 | none => .sl true 1 []
 | some l => .sl false 1 (l.map int)
def mostV (xss : List (Bool × List Int)) : Option (List Int) → AV
 | none => .sl true 1 []
 | some l => .sl false 1 [int (prA xss l).1, int (prA xss l).2]
def allocs (xss : List (Bool × List Int)) : List (List Int) := allL 0 ((xss.length : Int) - 1) (wid xss)
theorem allocs_len {xss : List (Bool × List Int)} {l : List Int} (h : l ∈ allocs xss) : l.length = wid xss := (allL_mem h).1
noncomputable def mBestAl : List AV → Option AV := mk (fun p => rectB p.2 3 6 100 = true) (fun (p : Bool × List (Bool × List Int)) => [intss p.1 p.2, .fn 221 [.fp (intss p.1 p.2) 0]])
 (fun p => .tup [bestV (bestP p.2 (allocs p.2)), .v (.bool true)])
theorem mBestAl_at (nl : Bool) (xss : List (Bool × List Int)) (h : rectB xss 3 6 100 = true) : mBestAl [.sl nl 1 (xss.map row), .fn 221 [.fp (.sl nl 1 (xss.map row)) 0]] = some (.tup [bestV (bestP xss (allocs xss)), .v (.bool true)]) :=
 mk_eq (enc := fun (p : Bool × List (Bool × List Int)) => [intss p.1 p.2, .fn 221 [.fp (intss p.1 p.2) 0]]) (x := (nl, xss)) (by rintro ⟨a, b⟩ ⟨c, d⟩ h; simp [intss, map_row_inj] at h; simp [h]) h
set_option maxHeartbeats 1000000 in
theorem bestAl_ok : FnOk Tryz.prog 220 mBestAl := by
 refine mk_ok fun ⟨nl, xss⟩ h1 => ?_
 simp only at h1
 have hG : FnsOk Tryz.prog [(128, (mGrid 3 6 100)), (307, mCmL), (38, mClone), (221, mProdC)] := (.cons implValuesOk_ok (.cons cmL_ok (.cons clone_ok (.cons mostProduct1_ok .nil))))
 have hM : FnsMut Tryz.prog [] := .nil
 have hV : FnsMov Tryz.prog [] := .nil
 have hK : FnsFrz Tryz.prog [(306, true, mLists)] := (.cons lists_ok .nil)
 refine callOk_awp (ctxH_ok eqOk hG hM hV hK) mixed (live := [true, true, false, true, true, true, true, true, true, true, false, false, true, false, false, false, false, false, false, false, true, true, false, false, false, false, false, false, false, false, false, false, true]) (dt := []) Tryz.func220 rfl (by kernel_rfl) (by kernel_rfl) fun w0 hlens => ?_
 clear hlens
 have h0 := rect_pos h1
 have hw := wid_eq h0
 have hl := rect_len h1
 have hs : IntKind.i64.wrap ((xss.length : Int) - 1) = (xss.length : Int) - 1 := wrapI (by omega) (by omega)
 have hls := mLists_at (wid xss) 0 ((xss.length : Int) - 1)
 simp (config := {contextual := true}) [Tryz.f220, List.range, List.range.loop, ints, intss, int, bool, row, frac, fracs, ← List.map_take, ← List.map_drop, List.all, tyFI, mGrid_at, h1, h0, hw, hs, hls]
 refine tr_rangeFunc (live := [true, true, false, true, true, true, true, true, true, true, false, false, true, false, false, false, false, false, false, false, true, true, false, false, false, false, false, false, false, false, false, false, true]) (lv := [false, false, false, true, false, false, true, true, false, false, false, false, false, false, false, false, false, false, false, false, true]) (S0 := [.junk, .junk, .junk, .fp (.fn 221 [.fp (.sl nl 1 (xss.map row)) 0]) 0, .junk, .junk, .ptr 0 [] 0 0, .ptr 1 [] 0 0, .junk, .junk, .junk, .junk, .junk, .junk, .junk, .junk, .junk, .junk, .junk, .junk, .fn 364 [.fp (int 0) 0, .fp (int (wid xss : Int)) 0, .fp (int ((xss.length : Int) - 1)) 0], .junk, .junk, .junk, .junk, .junk, .junk, .junk, .junk, .junk, .junk, .junk, .junk, .junk, .junk, .junk, .junk])
  (I := fun k => [⟨true, .sl false 1 [bestV (bestP xss ((allocs xss).take k))]⟩, ⟨true, .sl false 1 [mostV xss (bestP xss ((allocs xss).take k))]⟩]) [3, 6, 7, 20]
  (ctxH_ok eqOk hG hM hV hK) mixed (lists1_ok 0 ((xss.length : Int) - 1) (wid xss) (by omega) (by omega) (by omega) (by omega)) rfl rfl ?_ rfl rfl (by simp) (by decide) (chkS_all rfl) ?_ ⟨by kernel_rfl, by kernel_rfl⟩ ?_ ?_
 ·refine (le_freeze [0]).trans ((le_clean [false, false, false, true, false, false, true, true, false, false, false, false, false, false, false, false, false, false, false, false, true]).trans (le_sub ?_))
  simp [freeze, frzA, frzAL, res, getAt, sets, bestP, bestV, mostV, sub, slotsLe, clean, keep, refsL, refs, once, place, renL, ren, List.replicate, int, bool]
 ·intro k _ t tk ht
  match t with
  | 0 => simp at ht; subst ht; exact .inr rfl
  | 1 => simp at ht; subst ht; exact .inr rfl
  | t + 2 => simp at ht
 ·intro k x hx pin l US w1
  rw [List.getElem?_map, Option.map_eq_some_iff] at hx
  obtain ⟨l0, hl0, rfl⟩ := hx
  obtain ⟨hk, hl0'⟩ := List.getElem?_eq_some_iff.1 hl0
  have hmem : l0 ∈ allocs xss := List.mem_of_getElem? hl0
  have hlen := allocs_len hmem
  have htake := bestP_take (xss := xss) (L := allocs xss) hk
  rw [show (allocs xss)[k]'hk = l0 from hl0'] at htake
  have hbm : ∀ b, bestP xss ((allocs xss).take k) = some b → b.length = wid xss := fun b hb => by
   rcases bestP_mem (o := none) b hb with h | h
   ·exact allocs_len (List.mem_of_mem_take h)
   ·cases h
  generalize bestP xss ((allocs xss).take k) = o at htake hbm
  simp [List.range, List.range.loop, ints, intss, int, bool, row, frac, fracs, ← List.map_take, ← List.map_drop]
  simp only [asgF_normal]
  intro US' w1'
  have hpc := mProdC_at false l0 nl xss ⟨h1, by omega⟩
  have hcl := mClone_at false l0 (by omega)
  cases o with
  | none =>
   simp only [pickP] at htake
   simp (config := {contextual := true}) [List.range, List.range.loop, ints, intss, int, bool, row, frac, fracs, ← List.map_take, ← List.map_drop, List.all, tyFI, rngF_normal, bestV, mostV, hpc, hcl, htake]
   done
  | some b =>
   have hb := hbm b rfl
   have hcm := mCmL_at false [(prA xss l0).1, (prA xss l0).2] false [(prA xss b).1, (prA xss b).2] rfl
   have hgt := cmL_pair (a := (prA xss l0).1) (b := (prA xss l0).2) (c := (prA xss b).1) (d := (prA xss b).2)
   simp only [List.map_cons, List.map_nil, int] at hcm
   simp only [pickP] at htake
   by_cases hlt : prGt (prA xss l0) (prA xss b) = true
   ·rw [if_pos hlt] at htake
    have hc := hgt.2 hlt
    simp (config := {contextual := true}) [List.range, List.range.loop, ints, intss, int, bool, row, frac, fracs, ← List.map_take, ← List.map_drop, List.all, tyFI, rngF_normal, bestV, mostV, hpc, hcl, hcm, hc, htake]
    done
   ·rw [if_neg hlt] at htake
    have hc : ¬ 0 < cmL [(prA xss l0).1, (prA xss l0).2] [(prA xss b).1, (prA xss b).2] := fun h => hlt (hgt.1 h)
    simp (config := {contextual := true}) [List.range, List.range.loop, ints, intss, int, bool, row, frac, fracs, ← List.map_take, ← List.map_drop, List.all, tyFI, rngF_normal, bestV, mostV, hpc, hcl, hcm, hc, htake]
    done
 ·simp only [List.length_map]
  have e : (allocs xss).take (allL 0 ((xss.length : Int) - 1) (wid xss)).length = allocs xss := List.take_length
  rw [e]
  generalize bestP xss (allocs xss) = o
  cases o <;> simp (config := {contextual := true}) [List.range, List.range.loop, ints, intss, int, bool, row, frac, fracs, ← List.map_take, ← List.map_drop, List.all, bestV, mostV]
open Go Go.RowKit
set_option linter.unusedSimpArgs false
noncomputable def mCntAl : List AV → Option AV := mk (fun p => rectB p.2 3 6 100 = true) (fun (p : Bool × List (Bool × List Int)) => [intss p.1 p.2, .fn 224 [.fp (intss p.1 p.2) 0]])
 (fun p => int (cntF p.2 (allocs p.2)))
theorem mCntAl_at (nl : Bool) (xss : List (Bool × List Int)) (h : rectB xss 3 6 100 = true) : mCntAl [.sl nl 1 (xss.map row), .fn 224 [.fp (.sl nl 1 (xss.map row)) 0]] = some (.v (.int .i64 (cntF xss (allocs xss)))) :=
 mk_eq (enc := fun (p : Bool × List (Bool × List Int)) => [intss p.1 p.2, .fn 224 [.fp (intss p.1 p.2) 0]]) (x := (nl, xss)) (by rintro ⟨a, b⟩ ⟨c, d⟩ h; simp [intss, map_row_inj] at h; simp [h]) h
theorem pow729 {n w : Nat} (hn : n ≤ 3) (hw : w ≤ 6) : n ^ w ≤ 729 := Nat.le_trans (Nat.pow_le_pow_left hn w) (Nat.le_trans (Nat.pow_le_pow_right (by omega) hw) (by decide))
theorem allocs_all {xss : List (Bool × List Int)} (h : rectB xss 3 6 100 = true) : (allocs xss).length ≤ 729 := by
 have hl := rect_len h
 unfold allocs; rw [allL_len]; exact pow729 (by omega) (by omega)
set_option maxHeartbeats 1000000 in
theorem cntAl_ok : FnOk Tryz.prog 223 mCntAl := by
 refine mk_ok fun ⟨nl, xss⟩ h1 => ?_
 simp only at h1
 have hG : FnsOk Tryz.prog [(128, (mGrid 3 6 100)), (224, mFreeC)] := (.cons implValuesOk_ok (.cons countFree1_ok .nil))
 have hM : FnsMut Tryz.prog [] := .nil
 have hV : FnsMov Tryz.prog [] := .nil
 have hK : FnsFrz Tryz.prog [(306, true, mLists)] := (.cons lists_ok .nil)
 refine callOk_awp (ctxH_ok eqOk hG hM hV hK) mixed (live := [true, true, false, true, true, true, true, false, false, true, false, false, false, false, false, false, false, true, true, false, false, true]) (dt := []) Tryz.func223 rfl (by kernel_rfl) (by kernel_rfl) fun w0 hlens => ?_
 clear hlens
 have h0 := rect_pos h1
 have hw := wid_eq h0
 have hl := rect_len h1
 have hs : IntKind.i64.wrap ((xss.length : Int) - 1) = (xss.length : Int) - 1 := wrapI (by omega) (by omega)
 have hls := mLists_at (wid xss) 0 ((xss.length : Int) - 1)
 have h729 := allocs_all h1
 simp (config := {contextual := true}) [Tryz.f223, List.range, List.range.loop, ints, intss, int, bool, row, frac, fracs, ← List.map_take, ← List.map_drop, List.all, tyFB, mGrid_at, h1, h0, hw, hs, hls]
 refine tr_rangeFunc (live := [true, true, false, true, true, true, true, false, false, true, false, false, false, false, false, false, false, true, true, false, false, true]) (lv := [false, false, false, true, false, true, false, false, false, false, false, false, false, false, false, false, false, true]) (S0 := [.junk, .junk, .junk, .fp (.fn 224 [.fp (.sl nl 1 (xss.map row)) 0]) 0, .junk, .ptr 0 [] 0 0, .junk, .junk, .junk, .junk, .junk, .junk, .junk, .junk, .junk, .junk, .junk, .fn 364 [.fp (int 0) 0, .fp (int (wid xss : Int)) 0, .fp (int ((xss.length : Int) - 1)) 0], .junk, .junk, .junk, .junk, .junk, .junk, .junk])
  (I := fun k => [⟨true, .sl false 1 [int (cntF xss ((allocs xss).take k))]⟩]) [3, 5, 17]
  (ctxH_ok eqOk hG hM hV hK) mixed (lists1_ok 0 ((xss.length : Int) - 1) (wid xss) (by omega) (by omega) (by omega) (by omega)) rfl rfl ?_ rfl rfl (by simp) (by decide) (chkS_all rfl) ?_ ⟨by kernel_rfl, by kernel_rfl⟩ ?_ ?_
 ·refine (le_freeze [0]).trans ((le_clean [false, false, false, true, false, true, false, false, false, false, false, false, false, false, false, false, false, true]).trans (le_sub ?_))
  simp [freeze, frzA, frzAL, res, getAt, sets, cntF, sub, slotsLe, clean, keep, refsL, refs, once, place, renL, ren, List.replicate, int, bool]
 ·intro k _ t tk ht
  match t with
  | 0 => simp at ht; subst ht; exact .inr rfl
  | t + 1 => simp at ht
 ·intro k x hx pin l US w1
  rw [List.getElem?_map, Option.map_eq_some_iff] at hx
  obtain ⟨l0, hl0, rfl⟩ := hx
  obtain ⟨hk, hl0'⟩ := List.getElem?_eq_some_iff.1 hl0
  have hmem : l0 ∈ allocs xss := List.mem_of_getElem? hl0
  have hlen := allocs_len hmem
  have htake := cntF_take (xss := xss) (L := allocs xss) hk
  rw [show (allocs xss)[k]'hk = l0 from hl0'] at htake
  have hle := cntF_le (xss := xss) (L := (allocs xss).take k)
  rw [List.length_take] at hle
  have hwc : IntKind.i64.wrap ((cntF xss ((allocs xss).take k) : Int) + 1) = (cntF xss ((allocs xss).take k) : Int) + 1 := wrapI (by omega) (by omega)
  simp [List.range, List.range.loop, ints, intss, int, bool, row, frac, fracs, ← List.map_take, ← List.map_drop]
  simp only [asgF_normal]
  intro US' w1'
  have hpc := mFreeC_at false l0 nl xss ⟨h1, by omega⟩
  cases hf : frB xss l0 with
  | true =>
   rw [hf, if_pos rfl] at htake
   simp (config := {contextual := true}) [List.range, List.range.loop, ints, intss, int, bool, row, frac, fracs, ← List.map_take, ← List.map_drop, List.all, tyFB, rngF_normal, hpc, hf, htake, hwc]
   done
  | false =>
   rw [hf, if_neg (by simp), Nat.add_zero] at htake
   simp (config := {contextual := true}) [List.range, List.range.loop, ints, intss, int, bool, row, frac, fracs, ← List.map_take, ← List.map_drop, List.all, tyFB, rngF_normal, hpc, hf, htake]
   done
 ·simp only [List.length_map]
  have e : (allocs xss).take (allL 0 ((xss.length : Int) - 1) (wid xss)).length = allocs xss := List.take_length
  rw [e]
  simp (config := {contextual := true}) [List.range, List.range.loop, ints, intss, int, bool, row, frac, fracs, ← List.map_take, ← List.map_drop, List.all]
noncomputable def mMost : List AV → Option AV := mk (fun p => rectB p.2 3 6 100 = true) (fun (p : Bool × List (Bool × List Int)) => [intss p.1 p.2]) (fun p => .tup [bestV (bestP p.2 (allocs p.2)), .v (.bool true)])
theorem mMost_at (nl : Bool) (xss : List (Bool × List Int)) (h : rectB xss 3 6 100 = true) : mMost [.sl nl 1 (xss.map row)] = some (.tup [bestV (bestP xss (allocs xss)), .v (.bool true)]) :=
 mk_eq (enc := fun (p : Bool × List (Bool × List Int)) => [intss p.1 p.2]) (x := (nl, xss)) (by rintro ⟨a, b⟩ ⟨c, d⟩ h; simp [intss, map_row_inj] at h; simp [h]) h
noncomputable def mCntF : List AV → Option AV := mk (fun p => rectB p.2 3 6 100 = true) (fun (p : (Bool) × (List (Bool × List Int))) => [intss p.1 p.2]) (fun p => int (cntF p.2 (allocs p.2)))
theorem mCntF_at (nl : Bool) (xss : List (Bool × List Int)) (hpre : rectB xss 3 6 100 = true) : mCntF [.sl nl 1 (xss.map row)] = some (.v (.int .i64 (cntF xss (allocs xss)))) :=
 mk_eq (enc := fun (p : (Bool) × (List (Bool × List Int))) => [intss p.1 p.2]) (x := (nl, xss)) (by rintro ⟨a0, a1⟩ ⟨b0, b1⟩ h; simp [ints, intss, int, bool, row, frac, fracs, map_int_inj, map_row_inj, frac_inj, map_frac_inj] at h; simp [h]) hpre
theorem implMost_ok : FnOk Tryz.prog 131 mMost := by
 refine mk_ok fun ⟨nl, xss⟩ h => ?_
 simp only at h
 have hG : FnsOk Tryz.prog [(220, mBestAl)] := (.cons bestAl_ok .nil)
 refine callOk_awp (ctx_ok eqOk hG) mixed (live := [true, true, true, true]) (dt := []) Tryz.func131 rfl (by kernel_rfl) (by kernel_rfl) fun w0 hlens => ?_
 clear hlens
 have hb := mBestAl_at nl xss h
 generalize bestP xss (allocs xss) = o at *
 cases o <;> simp [Tryz.f131, List.range, List.range.loop, ints, intss, int, bool, row, frac, fracs, ← List.map_take, ← List.map_drop, hb, bestV] at hb ⊢ <;> simp [Tryz.f131, List.range, List.range.loop, ints, intss, int, bool, row, frac, fracs, ← List.map_take, ← List.map_drop, hb]
theorem implCntF_ok : FnOk Tryz.prog 132 mCntF := by
 refine mk_ok fun ⟨nl, xss⟩ h => ?_
 simp only at h
 have hG : FnsOk Tryz.prog [(223, mCntAl)] := (.cons cntAl_ok .nil)
 refine callOk_awp (ctx_ok eqOk hG) mixed (live := [true, true, true]) (dt := []) Tryz.func132 rfl (by kernel_rfl) (by kernel_rfl) fun w0 hlens => ?_
 clear hlens
 have hb := mCntAl_at nl xss h
 simp [Tryz.f132, List.range, List.range.loop, ints, intss, int, bool, row, frac, fracs, ← List.map_take, ← List.map_drop, hb]
open Go Go.RowKit
noncomputable def c_most : Fact := ⟨131, [.sl false 1 [.sl false 1 [i 5, i 3, i 2], .sl false 1 [i 1, i 4, i 4]]], .tup [.sl false 1 [i 0, i 1, i 1], bo true]⟩
theorem k_most : CallOk Tryz.prog c_most.f c_most.args c_most.r := by
 have h := implMost_ok _ _ (mMost_at false [(false, [5, 3, 2]), (false, [1, 4, 4])] (by kernel_rfl))
 rw [show (AV.tup [bestV (bestP [(false, [5, 3, 2]), (false, [1, 4, 4])] (allocs [(false, [5, 3, 2]), (false, [1, 4, 4])])), .v (.bool true)]) = c_most.r from by kernel_rfl] at h
 exact h
end Go.Proofs.YtompijgfpeibnaaGreatDoor.Ax
