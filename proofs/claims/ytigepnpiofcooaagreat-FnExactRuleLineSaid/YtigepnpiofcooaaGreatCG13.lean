/-
  Candidates that are eliminated one after the other: what the two programs find is the same. No condition.
-/
import Derived.Test.YtigepnpiofcooaaGreatCG12
namespace Go.Proofs.YtigepnpiofcooaaGreat.Ax
open Go Go.RowKit
def lfO (s : Nat) (out : List Int) : List Int := selTo (fun a => !decide ((a : Int) ∈ out)) s
def pkI (W : Int → Int) (l : List Int) : Nat → Nat
  | 0 => 0
  | i + 1 => if W (at0 l i) ≤ W (at0 l (pkI W l i)) then i else pkI W l i
def elp (W : Int → Int) (l : List Int) : Int := at0 l (pkI W l l.length)
def pkS (W : Int → Int) (q : Nat → Bool) : Nat → Int
  | 0 => -1
  | a + 1 => if q a = true ∧ (pkS W q a < 0 ∨ W a ≤ W (pkS W q a)) then (a : Int) else pkS W q a
def elT (W : List Int → Int → Int) (s : Nat) : Nat → List Int
  | 0 => []
  | k + 1 => elT W s k ++ [elp (W (lfO s (elT W s k))) (lfO s (elT W s k))]
theorem pkI_lt {W : Int → Int} {l : List Int} (h : 0 < l.length) : ∀ {i : Nat}, i ≤ l.length → pkI W l i < l.length
  | 0, _ => h
  | i + 1, hi => by
    unfold pkI
    split
    · omega
    · exact pkI_lt h (by omega)
theorem at0_app {l r : List Int} {i : Nat} (h : i < l.length) : at0 (l ++ r) i = at0 l i := by
  unfold at0
  rw [List.getD_eq_getElem?_getD, List.getD_eq_getElem?_getD, List.getElem?_append_left h]
theorem at0_end {l : List Int} {x : Int} : at0 (l ++ [x]) l.length = x := by
  unfold at0
  rw [List.getD_eq_getElem?_getD, List.getElem?_append_right (Nat.le_refl _)]; simp
theorem pkI_app {W : Int → Int} {l r : List Int} (h : 0 < l.length) : ∀ {i : Nat}, i ≤ l.length → pkI W (l ++ r) i = pkI W l i
  | 0, _ => rfl
  | i + 1, hi => by
    have ih := pkI_app (W := W) (r := r) h (i := i) (by omega)
    unfold pkI
    rw [ih, at0_app (by omega), at0_app (pkI_lt h (by omega))]
theorem elp_mem {W : Int → Int} {l : List Int} (h : 0 < l.length) : elp W l ∈ l := by
  unfold elp
  have := pkI_lt (W := W) h (Nat.le_refl _)
  rw [at0_eq this]
  exact List.getElem_mem this
theorem pkS_eq {W : Int → Int} {q : Nat → Bool} : ∀ n : Nat, pkS W q n = if selTo q n = [] then -1 else elp W (selTo q n)
  | 0 => by simp [pkS, selTo_zero]
  | n + 1 => by
    have ih := pkS_eq (W := W) (q := q) n
    unfold pkS
    cases hq : q n with
    | false =>
      rw [selTo_no hq, if_neg (by simp), ih]
    | true =>
      rw [selTo_yes hq, if_neg (show ¬ selTo q n ++ [(n : Int)] = [] by simp)]
      by_cases hl : selTo q n = []
      · rw [if_pos hl] at ih
        rw [ih, if_pos ⟨rfl, .inl (by omega)⟩, hl]
        simp [elp, pkI, at0]
      · rw [if_neg hl] at ih
        have h0 : 0 < (selTo q n).length := List.length_pos_iff.2 hl
        have hm := elp_mem (W := W) h0
        obtain ⟨i, hi, _⟩ := selTo_mem hm
        have hlt := pkI_lt (W := W) h0 (Nat.le_refl _)
        have e : elp W (selTo q n ++ [(n : Int)]) = if W n ≤ W (elp W (selTo q n)) then (n : Int) else elp W (selTo q n) := by
          have e1 : (selTo q n ++ [(n : Int)]).length = (selTo q n).length + 1 := by simp
          have e2 : pkI W (selTo q n ++ [(n : Int)]) ((selTo q n).length + 1) = if W (at0 (selTo q n ++ [(n : Int)]) (selTo q n).length) ≤ W (at0 (selTo q n ++ [(n : Int)]) (pkI W (selTo q n ++ [(n : Int)]) (selTo q n).length)) then (selTo q n).length else pkI W (selTo q n ++ [(n : Int)]) (selTo q n).length := rfl
          unfold elp
          rw [e1, e2, pkI_app h0 (Nat.le_refl _), at0_end, at0_app hlt]
          split
          · rw [at0_end]
          · rw [at0_app hlt]
        rw [e, ih]
        by_cases hw : W n ≤ W (elp W (selTo q n))
        · rw [if_pos ⟨rfl, .inr hw⟩, if_pos hw]
        · rw [if_neg (by rintro ⟨_, h | h⟩; omega; exact hw h), if_neg hw]
theorem lfO_nil {s : Nat} : lfO s [] = idx s := by
  unfold lfO selTo idx
  rw [List.filter_eq_self.2 (by simp)]
theorem lfO_mem {s : Nat} {out : List Int} {x : Int} : x ∈ lfO s out ↔ ∃ i : Nat, x = i ∧ i < s ∧ (i : Int) ∉ out := by
  constructor
  · intro h
    obtain ⟨i, h1, h2, h3⟩ := selTo_mem h
    exact ⟨i, h1, h2, by simpa using h3⟩
  · rintro ⟨i, rfl, h2, h3⟩
    simp only [lfO, selTo, List.mem_map, List.mem_filter, List.mem_range]
    exact ⟨i, ⟨h2, by simp [h3]⟩, rfl⟩
theorem lfO_del {s : Nat} {out : List Int} {a : Nat} (ha : a < (lfO s out).length) : (lfO s out).take a ++ (lfO s out).drop (a + 1) = lfO s (out ++ [at0 (lfO s out) a]) := by
  have := sel_del (q := fun a => !decide ((a : Int) ∈ out)) (n := s) ha
  rw [at0_eq ha]
  unfold lfO at *
  rw [this]
  refine selTo_congr fun i _ => ?_
  generalize (selTo (fun a => !decide ((a : Int) ∈ out)) s)[a] = x
  by_cases h1 : (i : Int) ∈ out
  · simp [h1]
  · simp [h1]
theorem lfO_lenS {s : Nat} {out : List Int} {a : Nat} (ha : a < (lfO s out).length) : (lfO s (out ++ [at0 (lfO s out) a])).length + 1 = (lfO s out).length := by
  rw [← lfO_del ha]
  simp
  omega
theorem elT_facts {W : List Int → Int → Int} {s : Nat} : ∀ {k : Nat}, k ≤ s → (elT W s k).length = k ∧ (lfO s (elT W s k)).length + k = s ∧ ∀ x ∈ elT W s k, ∃ i : Nat, x = i ∧ i < s
  | 0, _ => ⟨rfl, by simp [elT, lfO_nil, idx_len], by simp [elT]⟩
  | k + 1, hk => by
    obtain ⟨h1, h2, h3⟩ := elT_facts (W := W) (s := s) (k := k) (by omega)
    have h0 : 0 < (lfO s (elT W s k)).length := by omega
    rw [show elT W s (k + 1) = elT W s k ++ [elp (W (lfO s (elT W s k))) (lfO s (elT W s k))] from rfl]
    refine ⟨by simp [h1], ?_, fun x hx => ?_⟩
    · have := lfO_lenS (s := s) (out := elT W s k) (pkI_lt (W := W (lfO s (elT W s k))) h0 (Nat.le_refl _))
      unfold elp
      omega
    · rcases List.mem_append.1 hx with hx | hx
      · exact h3 x hx
      · rw [List.mem_singleton] at hx
        obtain ⟨i, h1, h2, _⟩ := lfO_mem.1 (elp_mem (W := W (lfO s (elT W s k))) h0)
        exact ⟨i, by rw [hx]; exact h1, h2⟩
def w0T (vs : List Vt) (left : List Int) (a : Int) : Int := vtrs (fun l => !(left.any fun b => pfB l b a)) vs
def w1T (vs : List Vt) (left : List Int) (a : Int) : Int := -vtrs (fun l => !(left.any fun b => pfB l a b)) vs
def w2T (vs : List Vt) (left : List Int) (a : Int) : Int := (left.map fun b => prT vs a b).sum
def wkT (vs : List Vt) (k : Nat) : List Int → Int → Int := if k = 0 then w0T vs else if k = 1 then w1T vs else w2T vs
theorem vtrs_congr {p q : List Int → Bool} {vs : List Vt} (h : ∀ v ∈ vs, p v.1.2 = q v.1.2) : vtrs p vs = vtrs q vs := by
  unfold vtrs
  rw [List.filter_congr h]
theorem prT_self {vs : List Vt} {a : Int} : prT vs a a = 0 := by
  unfold prT vtrs
  have : vs.filter (fun v => pfB v.1.2 a a) = [] := List.filter_eq_nil_iff.2 fun v _ => by simp [pfB_self]
  rw [this]; rfl
def fdT (l out : List Int) (a : Int) (last : Bool) : Nat → Bool
  | 0 => true
  | b + 1 => fdT l out a last b && (decide ((b : Int) = a) || decide ((b : Int) ∈ out) || (pfB l a b != last))
theorem fdT_iff {l out : List Int} {a : Int} {last : Bool} : ∀ {b : Nat}, fdT l out a last b = true ↔ ∀ i : Nat, i < b → (i : Int) = a ∨ (i : Int) ∈ out ∨ (pfB l a i != last) = true
  | 0 => by simp [fdT]
  | b + 1 => by
    unfold fdT
    rw [Bool.and_eq_true, fdT_iff, Bool.or_eq_true, Bool.or_eq_true, decide_eq_true_eq, decide_eq_true_eq]
    constructor
    · rintro ⟨h1, h2⟩ i hi
      by_cases e : i = b
      · subst e
        rcases h2 with (h2 | h2) | h2
        · exact .inl h2
        · exact .inr (.inl h2)
        · exact .inr (.inr h2)
      · exact h1 i (by omega)
    · intro h
      refine ⟨fun i hi => h i (by omega), ?_⟩
      rcases h b (by omega) with h | h | h
      · exact .inl (.inl h)
      · exact .inl (.inr h)
      · exact .inr h
theorem rank_in' {s : Nat} {l : List Int} (h : rankB (s : Int) l = true) {i : Nat} (hi : i < s) : (i : Int) ∈ l := by
  obtain ⟨k, hk, e⟩ := rank_all h (i := i) (by omega)
  rw [← e]; exact List.getElem_mem hk
theorem fdT_eq {s : Nat} {l out : List Int} {a : Nat} {last : Bool} (h : rankB (s : Int) l = true) (ha : a < s) : fdT l out a last s = !((lfO s out).any fun b => if last = true then pfB l a b else pfB l b a) := by
  rw [Bool.eq_iff_iff, fdT_iff, Bool.not_eq_true', List.any_eq_false]
  have key : ∀ i : Nat, i < s → i ≠ a → ((pfB l a i != last) = true ↔ ¬ (if last = true then pfB l a i else pfB l i a) = true) := fun i hi hne => by
    have := pfB_op (rank_in' h ha) (rank_in' h hi) (fun e => hne (by omega))
    cases last
    · simp [this]
    · simp
  constructor
  · intro hf x hx
    obtain ⟨i, rfl, hi, hno⟩ := lfO_mem.1 hx
    by_cases e : i = a
    · subst e; cases last <;> simp [pfB_self]
    · rcases hf i hi with h1 | h1 | h1
      · exact (e (by omega)).elim
      · exact (hno h1).elim
      · exact (key i hi e).1 h1
  · intro hf i hi
    by_cases e : i = a
    · subst e; exact .inl rfl
    · by_cases ho : (i : Int) ∈ out
      · exact .inr (.inl ho)
      · exact .inr (.inr ((key i hi e).2 (hf i (lfO_mem.2 ⟨i, rfl, hi, ho⟩))))
def smT (vs : List Vt) (out : List Int) (a : Int) : Nat → Int
  | 0 => 0
  | b + 1 => smT vs out a b + if (b : Int) ≠ a ∧ (b : Int) ∉ out then prT vs a b else 0
theorem smT_eq {vs : List Vt} {out : List Int} {a : Int} : ∀ s : Nat, smT vs out a s = w2T vs (lfO s out) a
  | 0 => rfl
  | b + 1 => by
    unfold smT
    rw [smT_eq b]
    unfold w2T lfO
    by_cases h : (b : Int) ∈ out
    · rw [selTo_no (by simp [h]), if_neg (fun hh => hh.2 h)]; omega
    · rw [selTo_yes (by simp [h]), List.map_append, List.sum_append]
      by_cases e : (b : Int) = a
      · rw [if_neg (fun hh => hh.1 e), e]
        simp [prT_self]
      · rw [if_pos ⟨e, h⟩]; simp
theorem sum_in {c : Int} {l : List Int} {f : Int → Int} (h : ∀ x, 0 ≤ f x ∧ f x ≤ c) : 0 ≤ (l.map f).sum ∧ (l.map f).sum ≤ c * l.length := by
  have := sum_bd (c := c) (l := l.map f) fun x hx => by
    obtain ⟨y, _, rfl⟩ := List.mem_map.1 hx
    exact h y
  rwa [List.length_map] at this
end Go.Proofs.YtigepnpiofcooaaGreat.Ax
namespace Go.Proofs.YtigepnpiofcooaaGreat.Ax
open Go Go.RowKit
set_option linter.unusedSimpArgs false
theorem firstOf11 (nl : Bool) (l : List Int) (a x : Int) : CallOk Tryz.prog 123 (.v (.int .i64 x) :: [.fp (row (nl, l)) 0, .fp (int a) 0]) (.v (.bool (pfB l x a))) := by
  have hG : FnsOk Tryz.prog [(118, mPref)] := (.cons implPref_ok .nil)
  refine callOk_awp (ctx_ok eqOk hG) mixed (live := [true, true, true, false, true]) (dt := []) Tryz.func123 rfl (by kernel_rfl) (by kernel_rfl) fun w0 hlens => ?_
  clear hlens
  have h := mPref_at nl l x a
  simp [Tryz.f123, List.range, List.range.loop, ints, intss, int, bool, row, frac, fracs, ← List.map_take, ← List.map_drop, h]
theorem firstOf1 (nl : Bool) (l : List Int) (nq : Bool) (left : List Int) (a : Int) : CallOk Tryz.prog 121 (row (nl, l) :: [.fp (ints nq left) 0, .fp (int a) 0]) (.v (.bool (!(left.any fun x => pfB l x a)))) := by
  have hc := containsInts (g := 123) (pure_fp (a := row (nl, l)) (j := 0) (pure_fp (a := int a) (j := 0) pure_nil)) (fun x => pfB l x a) nq left (fun x _ => firstOf11 nl l a x)
  obtain ⟨m, hm, hz⟩ := as_model hc
  have hG : FnsOk Tryz.prog [(122, m)] := (.cons hm .nil)
  refine callOk_awpZ [0] (ctx_ok eqOk hG) mixed (live := [true, true, true, true, true]) (dt := []) Tryz.func121 rfl (by kernel_rfl) (by kernel_rfl) fun w0 hlens => ?_
  clear hlens
  simp only [row, ints, int] at hz
  simp [Tryz.f121, List.range, List.range.loop, ints, intss, int, bool, row, frac, fracs, ← List.map_take, ← List.map_drop, andThen_n, freeze, frzA, frzAL, sets, hz]
theorem lastOf11 (nl : Bool) (l : List Int) (a x : Int) : CallOk Tryz.prog 125 (.v (.int .i64 x) :: [.fp (row (nl, l)) 0, .fp (int a) 0]) (.v (.bool (pfB l a x))) := by
  have hG : FnsOk Tryz.prog [(118, mPref)] := (.cons implPref_ok .nil)
  refine callOk_awp (ctx_ok eqOk hG) mixed (live := [true, true, true, false, true]) (dt := []) Tryz.func125 rfl (by kernel_rfl) (by kernel_rfl) fun w0 hlens => ?_
  clear hlens
  have h := mPref_at nl l a x
  simp [Tryz.f125, List.range, List.range.loop, ints, intss, int, bool, row, frac, fracs, ← List.map_take, ← List.map_drop, h]
theorem lastOf1 (nl : Bool) (l : List Int) (nq : Bool) (left : List Int) (a : Int) : CallOk Tryz.prog 124 (row (nl, l) :: [.fp (ints nq left) 0, .fp (int a) 0]) (.v (.bool (!(left.any fun x => pfB l a x)))) := by
  have hc := containsInts (g := 125) (pure_fp (a := row (nl, l)) (j := 0) (pure_fp (a := int a) (j := 0) pure_nil)) (fun x => pfB l a x) nq left (fun x _ => lastOf11 nl l a x)
  obtain ⟨m, hm, hz⟩ := as_model hc
  have hG : FnsOk Tryz.prog [(122, m)] := (.cons hm .nil)
  refine callOk_awpZ [0] (ctx_ok eqOk hG) mixed (live := [true, true, true, true, true]) (dt := []) Tryz.func124 rfl (by kernel_rfl) (by kernel_rfl) fun w0 hlens => ?_
  clear hlens
  simp only [row, ints, int] at hz
  simp [Tryz.f124, List.range, List.range.loop, ints, intss, int, bool, row, frac, fracs, ← List.map_take, ← List.map_drop, andThen_n, freeze, frzA, frzAL, sets, hz]
noncomputable def mFst : List AV → Option AV := mk (fun p => profB p.1 p.2.2.1 = true) (fun (p : Int × Bool × List Vt × Bool × List Int × Int) => [prof p.1 p.2.1 p.2.2.1, ints p.2.2.2.1 p.2.2.2.2.1, int p.2.2.2.2.2]) (fun p => int (vtrs (fun l => !(p.2.2.2.2.1.any fun x => (fun a => pfB l x a) p.2.2.2.2.2)) p.2.2.1))
theorem mFst_at (s : Int) (nl : Bool) (vs : List Vt) (nq : Bool) (left : List Int) (a : Int) (h : profB s vs = true) : mFst [.agg [.v (.int .i64 s), .sl nl 2 (vs.map vote)], .sl nq 1 (left.map int), .v (.int .i64 a)] = some (.v (.int .i64 (vtrs (fun l => !(left.any fun x => pfB l x a)) vs))) :=
  mk_eq (enc := fun (p : Int × Bool × List Vt × Bool × List Int × Int) => [prof p.1 p.2.1 p.2.2.1, ints p.2.2.2.1 p.2.2.2.2.1, int p.2.2.2.2.2]) (f := fun p => int (vtrs (fun l => !(p.2.2.2.2.1.any fun x => (fun a => pfB l x a) p.2.2.2.2.2)) p.2.2.1)) (x := (s, nl, vs, nq, left, a)) (by
    rintro ⟨a1, a2, a3, a4, a5, a6⟩ ⟨b1, b2, b3, b4, b5, b6⟩ h
    simp [prof, ints, int, map_vote_inj, map_int_inj] at h
    simp [h]) h
set_option maxHeartbeats 1000000 in
theorem firstOf_ok : FnOk Tryz.prog 76 mFst := by
  refine mk_ok fun ⟨s, nl, vs, nq, left, a⟩ hp => ?_
  simp only at hp
  have hc := voters_gen (g := 121) (pure_fp (a := ints nq left) (j := 0) (pure_fp (a := int a) (j := 0) pure_nil)) (fun l => !(left.any fun x => pfB l x a)) s nl vs hp (fun v _ => firstOf1 v.1.1 v.1.2 nq left a)
  obtain ⟨m, hm, hz⟩ := as_model hc
  have hG : FnsOk Tryz.prog [(115, m)] := (.cons hm .nil)
  refine callOk_awpZ [0, 1, 2] (ctx_ok eqOk hG) mixed (live := [true, true, true, true, true, true, true]) (dt := []) Tryz.func76 rfl (by kernel_rfl) (by kernel_rfl) fun w0 hlens => ?_
  clear hlens
  simp only [prof, ints, int] at hz
  simp [Tryz.f76, List.range, List.range.loop, ints, intss, int, bool, row, frac, fracs, ← List.map_take, ← List.map_drop, andThen_n, freeze, frzA, frzAL, sets, prof, hz]
noncomputable def mLst : List AV → Option AV := mk (fun p => profB p.1 p.2.2.1 = true) (fun (p : Int × Bool × List Vt × Bool × List Int × Int) => [prof p.1 p.2.1 p.2.2.1, ints p.2.2.2.1 p.2.2.2.2.1, int p.2.2.2.2.2]) (fun p => int (vtrs (fun l => !(p.2.2.2.2.1.any fun x => (fun a => pfB l a x) p.2.2.2.2.2)) p.2.2.1))
theorem mLst_at (s : Int) (nl : Bool) (vs : List Vt) (nq : Bool) (left : List Int) (a : Int) (h : profB s vs = true) : mLst [.agg [.v (.int .i64 s), .sl nl 2 (vs.map vote)], .sl nq 1 (left.map int), .v (.int .i64 a)] = some (.v (.int .i64 (vtrs (fun l => !(left.any fun x => pfB l a x)) vs))) :=
  mk_eq (enc := fun (p : Int × Bool × List Vt × Bool × List Int × Int) => [prof p.1 p.2.1 p.2.2.1, ints p.2.2.2.1 p.2.2.2.2.1, int p.2.2.2.2.2]) (f := fun p => int (vtrs (fun l => !(p.2.2.2.2.1.any fun x => (fun a => pfB l a x) p.2.2.2.2.2)) p.2.2.1)) (x := (s, nl, vs, nq, left, a)) (by
    rintro ⟨a1, a2, a3, a4, a5, a6⟩ ⟨b1, b2, b3, b4, b5, b6⟩ h
    simp [prof, ints, int, map_vote_inj, map_int_inj] at h
    simp [h]) h
set_option maxHeartbeats 1000000 in
theorem lastOf_ok : FnOk Tryz.prog 78 mLst := by
  refine mk_ok fun ⟨s, nl, vs, nq, left, a⟩ hp => ?_
  simp only at hp
  have hc := voters_gen (g := 124) (pure_fp (a := ints nq left) (j := 0) (pure_fp (a := int a) (j := 0) pure_nil)) (fun l => !(left.any fun x => pfB l a x)) s nl vs hp (fun v _ => lastOf1 v.1.1 v.1.2 nq left a)
  obtain ⟨m, hm, hz⟩ := as_model hc
  have hG : FnsOk Tryz.prog [(115, m)] := (.cons hm .nil)
  refine callOk_awpZ [0, 1, 2] (ctx_ok eqOk hG) mixed (live := [true, true, true, true, true, true, true]) (dt := []) Tryz.func78 rfl (by kernel_rfl) (by kernel_rfl) fun w0 hlens => ?_
  clear hlens
  simp only [prof, ints, int] at hz
  simp [Tryz.f78, List.range, List.range.loop, ints, intss, int, bool, row, frac, fracs, ← List.map_take, ← List.map_drop, andThen_n, freeze, frzA, frzAL, sets, prof, hz]
end Go.Proofs.YtigepnpiofcooaaGreat.Ax
namespace Go.Proofs.YtigepnpiofcooaaGreat.Ax
open Go Go.RowKit
set_option linter.unusedSimpArgs false
theorem inst1 (left : List Int) (a : Int) (s : Int) (nl : Bool) (vs : List Vt) (hp : profB s vs = true) : CallOk Tryz.prog 75 (.sl false 1 (left.map int) :: .v (.int .i64 a) :: [.fp (prof s nl vs) 0]) (.v (.int .i64 (wkT vs 0 left a))) := by
  have hG : FnsOk Tryz.prog [(76, mFst)] := (.cons firstOf_ok .nil)
  refine callOk_awp (ctx_ok eqOk hG) mixed (live := [true, true, true, false, false, true]) (dt := []) Tryz.func75 rfl (by kernel_rfl) (by kernel_rfl) fun w0 hlens => ?_
  clear hlens
  have h := mFst_at s nl vs false left a hp
  simp [Tryz.f75, List.range, List.range.loop, ints, intss, int, bool, row, frac, fracs, ← List.map_take, ← List.map_drop, prof, h, wkT, w0T]
theorem coom1 (left : List Int) (a : Int) (s : Int) (nl : Bool) (vs : List Vt) (hp : profB s vs = true) : CallOk Tryz.prog 77 (.sl false 1 (left.map int) :: .v (.int .i64 a) :: [.fp (prof s nl vs) 0]) (.v (.int .i64 (wkT vs 1 left a))) := by
  obtain ⟨_, h2, h3⟩ := prof_facts hp
  have hb := vtrs_bd (p := fun l => !(left.any fun x => pfB l a x)) fun v hv => (h3 v hv).2
  have hG : FnsOk Tryz.prog [(78, mLst)] := (.cons lastOf_ok .nil)
  refine callOk_awp (ctx_ok eqOk hG) mixed (live := [true, true, true, false, false, true]) (dt := []) Tryz.func77 rfl (by kernel_rfl) (by kernel_rfl) fun w0 hlens => ?_
  clear hlens
  have h := mLst_at s nl vs false left a hp
  have hw : IntKind.i64.wrap (0 - vtrs (fun l => !(left.any fun x => pfB l a x)) vs) = - vtrs (fun l => !(left.any fun x => pfB l a x)) vs := by rw [wrapI (by omega) (by omega)]; omega
  simp only [Int.zero_sub] at hw
  simp [Tryz.f77, List.range, List.range.loop, ints, intss, int, bool, row, frac, fracs, ← List.map_take, ← List.map_drop, prof, h, wkT, w1T, hw]
set_option maxHeartbeats 1000000 in
theorem bald1 (left : List Int) (hl : left.length ≤ 5) (a : Int) (s : Int) (nl : Bool) (vs : List Vt) (hp : profB s vs = true) : CallOk Tryz.prog 79 (.sl false 1 (left.map int) :: .v (.int .i64 a) :: [.fp (prof s nl vs) 0]) (.v (.int .i64 (wkT vs 2 left a))) := by
  have hG : FnsOk Tryz.prog [(71, mPair)] := (.cons pair_ok .nil)
  refine callOk_awp (ctx_ok eqOk hG) mixed (live := [true, true, true, false, false, true, true, false, true, true, true, true, true]) (dt := []) Tryz.func79 rfl (by kernel_rfl) (by kernel_rfl) fun w0 hlens => ?_
  clear hlens
  have z0 : w2T vs [] a = 0 := rfl
  simp [Tryz.f79, List.range, List.range.loop, ints, intss, int, bool, row, frac, fracs, ← List.map_take, ← List.map_drop, prof]
  refine awp_range (live := [true, true, true, false, false, true, true, false, true, true, true, true, true]) (ctx_ok eqOk hG) mixed [false, true, true, false, false, false, true, false, false, true, true, true] (left.length) (fun k => True) (fun k => ⟨[.junk, int a, .fp (prof s nl vs) 0, .junk, .junk, .junk, int (w2T vs (left.take k) a), .junk, .junk, ints false left, int left.length, int k, .junk, .junk, .junk, .junk, .junk, .junk, .junk, .junk, .junk, .junk, .junk], []⟩) ?_ (by simp [sub, slotsLe, clean, keep, refsL, refs, once, place, renL, ren, List.replicate, int, bool, prof, ints, z0]) ?_ ?_ ?_
  · omega
  · trivial
  · intro k hk _ hwk
    have hs : w2T vs (left.take (k + 1)) a = w2T vs (left.take k) a + prT vs a left[k] := by
      unfold w2T
      rw [List.take_succ_eq_append_getElem hk, List.map_append, List.sum_append]; simp
    have hb := sum_in (c := 24000) (l := left.take k) (f := fun b => prT vs a b) fun b => prT_bd hp a b
    have hpb := prT_bd hp a left[k]
    rw [List.length_take] at hb
    change 0 ≤ w2T vs (left.take k) a ∧ w2T vs (left.take k) a ≤ _ at hb
    have hm := mPair_at s nl vs a left[k] hp
    have hw : IntKind.i64.wrap (w2T vs (left.take k) a + prT vs a left[k]) = w2T vs (left.take k) a + prT vs a left[k] := wrapI (by omega) (by omega)
    generalize w2T vs (left.take (k + 1)) a = B at *
    generalize w2T vs (left.take k) a = A at *
    subst hs
    simp [List.range, List.range.loop, ints, intss, int, bool, row, frac, fracs, ← List.map_take, ← List.map_drop, prof, hk, hwk, hm, hw]
  · intro _
    rw [List.take_length]
    simp [List.range, List.range.loop, ints, intss, int, bool, row, frac, fracs, ← List.map_take, ← List.map_drop, prof, wkT]
set_option maxRecDepth 8000 in
set_option maxHeartbeats 8000000 in
theorem elim_gen {g : FuncId} {caps : List AV} (hc : Pure caps) (W : List Int → Int → Int) (s : Nat) (nl : Bool) (vs : List Vt) (hp : profB (s : Int) vs = true) (hgn : ¬ g = 19) (hgn2 : ¬ g = 86) (hgn3 : ¬ 92 = g)
    (hg : ∀ (left : List Int) (a : Int), left.length ≤ 5 → CallOk Tryz.prog g (.sl false 1 (left.map int) :: .v (.int .i64 a) :: caps) (.v (.int .i64 (W left a)))) :
    CallOk Tryz.prog 74 [prof (s : Int) nl vs, .fn g caps] (.sl false 1 ((elT W s s).map int)) := by
  have hGg : FnOk Tryz.prog g (mk (fun p => p.1.length ≤ 5) (fun p : List Int × Int => .sl false 1 (p.1.map int) :: .v (.int .i64 p.2) :: caps) (fun p => .v (.int .i64 (W p.1 p.2)))) := mk_ok fun p hp => hg p.1 p.2 hp
  have hat : ∀ (left : List Int) (a : Int), left.length ≤ 5 → mk (fun p => p.1.length ≤ 5) (fun p : List Int × Int => .sl false 1 (p.1.map int) :: .v (.int .i64 p.2) :: caps) (fun p => AV.v (.int .i64 (W p.1 p.2))) (.sl false 1 (left.map int) :: .v (.int .i64 a) :: caps) = some (.v (.int .i64 (W left a))) := fun left a hl =>
    mk_eq (enc := fun p : List Int × Int => .sl false 1 (p.1.map int) :: .v (.int .i64 p.2) :: caps) (f := fun p => AV.v (.int .i64 (W p.1 p.2))) (x := (left, a)) (by
      rintro ⟨x, x'⟩ ⟨y, y'⟩ h
      simp [map_int_inj] at h
      simp [h]) hl
  generalize mk (fun p => p.1.length ≤ 5) (fun p : List Int × Int => .sl false 1 (p.1.map int) :: .v (.int .i64 p.2) :: caps) (fun p => AV.v (.int .i64 (W p.1 p.2))) = md at hGg hat
  have hG : FnsOk Tryz.prog [(19, mProf), (86, mIdx), (g, md)] := .cons implProf_ok (.cons indices_ok (.cons hGg .nil))
  have hM : FnsMut Tryz.prog [] := .nil
  have hV : FnsMov Tryz.prog [(92, mDel)] := .cons delete_ok .nil
  obtain ⟨h1, h2, h3⟩ := prof_facts hp
  have hpp := mProf_at (s : Int) nl vs
  rw [hp] at hpp
  have hix := mIdx_at s (by omega)
  refine callOk_awpZ [0] (ctxV_ok eqOk hG hM hV) mixed (live := [true, true, true, false, true, true, true, true, true, true, false, false, true, false, false, false, false, false, true, true, true, true, true, false, false, false, false, false, false, false, false, false, false, false, false, false, false, true]) (dt := [(10, ⟨[], [], []⟩)]) Tryz.func74 rfl (by kernel_rfl) (by kernel_rfl) fun w0 hlens => ?_
  clear hlens
  have z0 : elT W s 0 = [] := rfl
  have z1 := lfO_nil (s := s)
  have hil := idx_len (n := s)
  simp [Tryz.f74, List.range, List.range.loop, ints, intss, int, bool, row, frac, fracs, ← List.map_take, ← List.map_drop, List.all, andThen_n, freeze, frzA, frzAL, sets, prof, hpp, hix, hil, hc.res, hc.refs, hc.ren, hc.killN, hc.killL, frzAL_pure hc]
  refine awp_loop_of (live := [true, true, true, false, true, true, true, true, true, true, false, false, true, false, false, false, false, false, true, true, true, true, true, false, false, false, false, false, false, false, false, false, false, false, false, false, false, true]) (ctxV_ok eqOk hG hM hV) mixed [false, true, false, false, false, true, true] (α := {k : Nat // k ≤ s}) (fun k => ⟨[.junk, .fn g caps, .junk, .junk, .junk, liA 0 (elT W s k.1), .ref (liI 0 (elT W s k.1)) [] 0 (s - k.1), .junk, .junk, .junk, .junk, .junk, .junk, .junk, .junk, .junk, .junk, .junk, .junk, .junk, .junk, .junk, .junk, .junk, .junk, .junk, .junk, .junk, .junk, .junk, .junk, .junk, .junk, .junk, .junk, .junk, .junk, .junk, .junk, .junk, .junk, .junk, .junk, .junk, .junk, .junk, .junk, .junk, .junk, .junk, .junk, .junk, .junk], liT (elT W s k.1) ++ [⟨true, .sl false 1 ((lfO s (elT W s k.1)).map int)⟩]⟩) (fun k => s - k.1) ⟨0, Nat.zero_le _⟩ (by simp [sub, slotsLe, clean, keep, refsL, refs, once, place, renL, ren, List.replicate, int, bool, prof, z0, z1, hil, liA, liT, liI, hc.refs, hc.ren, hc.killN, hc.killL]) ?_
  rintro ⟨k, hk⟩
  obtain ⟨f1, f2, f3⟩ := elT_facts (W := W) (s := s) hk
  have hnx : elT W s (k + 1) = elT W s k ++ [elp (W (lfO s (elT W s k))) (lfO s (elT W s k))] := rfl
  have hdl := fun a => lfO_del (s := s) (out := elT W s k) (a := a)
  simp only
  by_cases hks : k < s
  · generalize elT W s k = out at *
    generalize hLe : lfO s out = left at *
    have hn : s - k = left.length := by omega
    have h0 : 0 < left.length := by omega
    have hl5 : left.length ≤ 5 := by omega
    have htk : left.take left.length = left := List.take_length
    have hnI : (0 : Int) < (left.length : Int) := by omega
    rw [hn]
    have hpl := pkI_lt (W := W left) h0 (Nat.le_refl _)
    have hdz := hdl _ hpl
    have hdm := mDel_at left (pkI (W left) left left.length) (pkI (W left) left left.length + 1) ⟨by omega, by omega⟩
    change left.take _ ++ left.drop _ = lfO s (out ++ [elp (W left) left]) at hdz
    rw [hdz] at hdm
    push_cast at hdm
    have hdlen : (lfO s (out ++ [elp (W left) left])).length = left.length - 1 := by rw [← hdz]; simp; omega
    have e9 : s - (k + 1) = left.length - 1 := by omega
    have hel : left[pkI (W left) left left.length]'hpl = elp (W left) left := (at0_eq hpl).symm
    have hwp : IntKind.i64.wrap ((pkI (W left) left left.length : Int) + 1) = (pkI (W left) left left.length : Int) + 1 := wrapI (by omega) (by omega)
    have zp : pkI (W left) left 0 = 0 := rfl
    have hbb : (out.length + 1) * 8 ≤ 140737488355328 ∧ out.length + 1 ≤ 4611686018427387904 := by omega
    cases out with
    | nil =>
      simp only [List.length_cons, List.length_nil] at hbb
      simp [List.range, List.range.loop, ints, intss, int, bool, row, frac, fracs, ← List.map_take, ← List.map_drop, List.all, prof, liA, liT, liI, hnI, h0, hc.res, hc.refs, hc.ren, hc.killN, hc.killL]
      refine awp_range (live := [true, true, true, false, true, true, true, true, true, true, false, false, true, false, false, false, false, false, true, true, true, true, true, false, false, false, false, false, false, false, false, false, false, false, false, false, false, true]) (ctxV_ok eqOk hG hM hV) mixed [false, true, false, false, false, true, true, true, false, false, false, false, false, false, false, false, false, false, false, true, true, true] (left.length) (fun j => True) (fun j => ⟨[.junk, .fn g caps, .junk, .junk, .junk, .sl true 1 [], .ref 0 [] 0 left.length, int (pkI (W left) left j : Int), .junk, .junk, .junk, .junk, .junk, .junk, .junk, .junk, .junk, .junk, .junk, .ref 0 [] 0 left.length, int left.length, int j, .junk, .junk, .junk, .junk, .junk, .junk, .junk, .junk, .junk, .junk, .junk, .junk, .junk, .junk, .junk, .junk, .junk, .junk, .junk, .junk, .junk, .junk, .junk, .junk, .junk, .junk, .junk, .junk, .junk, .junk, .junk], [] ++ [⟨true, .sl false 1 (left.map int)⟩]⟩) ?_ (by simp [sub, slotsLe, clean, keep, refsL, refs, once, place, renL, ren, List.replicate, int, bool, prof, zp, liA, liT, liI, hc.refs, hc.ren, hc.killN, hc.killL]) ?_ ?_ ?_
      · omega
      · trivial
      · intro j hj _ hwj
        have hjl := pkI_lt (W := W left) h0 (i := j) (by omega)
        have hjI : (j : Int) < (left.length : Int) := by omega
        have hsj : pkI (W left) left (j + 1) = if W left (at0 left j) ≤ W left (at0 left (pkI (W left) left j)) then j else pkI (W left) left j := rfl
        have e1 : left[j] = at0 left j := (at0_eq hj).symm
        have e2 : left[pkI (W left) left j] = at0 left (pkI (W left) left j) := (at0_eq hjl).symm
        have c1 := hat left (at0 left j) hl5
        have c2 := hat left (at0 left (pkI (W left) left j)) hl5
        by_cases hw : W left (at0 left j) ≤ W left (at0 left (pkI (W left) left j))
        · rw [if_pos hw] at hsj
          simp [List.range, List.range.loop, ints, intss, int, bool, row, frac, fracs, ← List.map_take, ← List.map_drop, List.all, prof, hj, hjI, hjl, hwj, e1, e2, hgn, hgn2, htk, c1, c2, hw, hsj, hc.res, hc.refs, hc.ren, hc.killN, hc.killL]
        · rw [if_neg hw] at hsj
          simp [List.range, List.range.loop, ints, intss, int, bool, row, frac, fracs, ← List.map_take, ← List.map_drop, List.all, prof, hj, hjI, hjl, hwj, e1, e2, hgn, hgn2, htk, c1, c2, hw, hsj, hc.res, hc.refs, hc.ren, hc.killN, hc.killL]
      · intro _
        simp [List.range, List.range.loop, ints, intss, int, bool, row, frac, fracs, ← List.map_take, ← List.map_drop, List.all, prof, liA, liT, liI, hpl, hel, hbb, htk, hwp, hdm, hgn3, hc.res, hc.refs, hc.ren, hc.killN, hc.killL]
        refine ⟨⟨k + 1, by omega⟩, ?_, by simp; omega⟩
        simp only [List.nil_append, List.cons_append] at hdlen
        simp [sub, slotsLe, clean, keep, refsL, refs, once, place, renL, ren, List.replicate, int, bool, prof, liA, liT, liI, e9, hdlen, hnx, hc.refs, hc.ren, hc.killN, hc.killL]
    | cons o A =>
      simp only [List.length_cons, List.length_nil] at hbb
      simp [List.range, List.range.loop, ints, intss, int, bool, row, frac, fracs, ← List.map_take, ← List.map_drop, List.all, prof, liA, liT, liI, hnI, h0, hc.res, hc.refs, hc.ren, hc.killN, hc.killL]
      refine awp_range (live := [true, true, true, false, true, true, true, true, true, true, false, false, true, false, false, false, false, false, true, true, true, true, true, false, false, false, false, false, false, false, false, false, false, false, false, false, false, true]) (ctxV_ok eqOk hG hM hV) mixed [false, true, false, false, false, true, true, true, false, false, false, false, false, false, false, false, false, false, false, true, true, true] (left.length) (fun j => True) (fun j => ⟨[.junk, .fn g caps, .junk, .junk, .junk, .ref 0 [] 0 (A.length + 1), .ref 1 [] 0 left.length, int (pkI (W left) left j : Int), .junk, .junk, .junk, .junk, .junk, .junk, .junk, .junk, .junk, .junk, .junk, .ref 1 [] 0 left.length, int left.length, int j, .junk, .junk, .junk, .junk, .junk, .junk, .junk, .junk, .junk, .junk, .junk, .junk, .junk, .junk, .junk, .junk, .junk, .junk, .junk, .junk, .junk, .junk, .junk, .junk, .junk, .junk, .junk, .junk, .junk, .junk, .junk], [⟨true,.sl false 1 ((o :: A).map int)⟩] ++ [⟨true, .sl false 1 (left.map int)⟩]⟩) ?_ (by simp [sub, slotsLe, clean, keep, refsL, refs, once, place, renL, ren, List.replicate, int, bool, prof, zp, liA, liT, liI, hc.refs, hc.ren, hc.killN, hc.killL]) ?_ ?_ ?_
      · omega
      · trivial
      · intro j hj _ hwj
        have hjl := pkI_lt (W := W left) h0 (i := j) (by omega)
        have hjI : (j : Int) < (left.length : Int) := by omega
        have hsj : pkI (W left) left (j + 1) = if W left (at0 left j) ≤ W left (at0 left (pkI (W left) left j)) then j else pkI (W left) left j := rfl
        have e1 : left[j] = at0 left j := (at0_eq hj).symm
        have e2 : left[pkI (W left) left j] = at0 left (pkI (W left) left j) := (at0_eq hjl).symm
        have c1 := hat left (at0 left j) hl5
        have c2 := hat left (at0 left (pkI (W left) left j)) hl5
        by_cases hw : W left (at0 left j) ≤ W left (at0 left (pkI (W left) left j))
        · rw [if_pos hw] at hsj
          simp [List.range, List.range.loop, ints, intss, int, bool, row, frac, fracs, ← List.map_take, ← List.map_drop, List.all, prof, hj, hjI, hjl, hwj, e1, e2, hgn, hgn2, htk, c1, c2, hw, hsj, hc.res, hc.refs, hc.ren, hc.killN, hc.killL]
        · rw [if_neg hw] at hsj
          simp [List.range, List.range.loop, ints, intss, int, bool, row, frac, fracs, ← List.map_take, ← List.map_drop, List.all, prof, hj, hjI, hjl, hwj, e1, e2, hgn, hgn2, htk, c1, c2, hw, hsj, hc.res, hc.refs, hc.ren, hc.killN, hc.killL]
      · intro _
        simp [List.range, List.range.loop, ints, intss, int, bool, row, frac, fracs, ← List.map_take, ← List.map_drop, List.all, prof, liA, liT, liI, hpl, hel, hbb, htk, hwp, hdm, hgn3, hc.res, hc.refs, hc.ren, hc.killN, hc.killL]
        refine ⟨⟨k + 1, by omega⟩, ?_, by simp; omega⟩
        simp only [List.nil_append, List.cons_append] at hdlen
        simp [sub, slotsLe, clean, keep, refsL, refs, once, place, renL, ren, List.replicate, int, bool, prof, liA, liT, liI, e9, hdlen, hnx, hc.refs, hc.ren, hc.killN, hc.killL]
  · obtain rfl : k = s := by omega
    generalize elT W k k = out at *
    have hl0 : lfO k out = [] := List.length_eq_zero_iff.1 (by omega)
    rw [hl0]
    cases out with
    | nil => simp at f1; omega
    | cons o A =>
      simp only [List.length_cons] at f1
      simp [List.range, List.range.loop, ints, intss, int, bool, row, frac, fracs, ← List.map_take, ← List.map_drop, List.all, prof, liA, liT, liI, hc.res, hc.refs, hc.ren, hc.killN, hc.killL]
end Go.Proofs.YtigepnpiofcooaaGreat.Ax
