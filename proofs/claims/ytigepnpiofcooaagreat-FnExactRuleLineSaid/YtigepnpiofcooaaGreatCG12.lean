/-
  Contracts: the winner of a runoff (both programs). No condition.
-/
import Derived.Test.YtigepnpiofcooaaGreatCG11
import Derived.Test.YtigepnpiofcooaaGreatCG6
import Derived.Ground.SlgnProg
import Derived.Shelf.SlicesE.Delete
import Derived.Test.YtigepnpiofcooaaGreatCG2
namespace Go.Proofs.YtigepnpiofcooaaGreat.Ax
open Go Go.RowKit
set_option linter.unusedSimpArgs false
def ruT (vs : List Vt) (s : Nat) : Int :=
  if s = 1 then 0 else
    if btB vs (max (at0 (ordH (scV (plW s) s vs)) 0) (at0 (ordH (scV (plW s) s vs)) 1)) (min (at0 (ordH (scV (plW s) s vs)) 0) (at0 (ordH (scV (plW s) s vs)) 1)) = true then max (at0 (ordH (scV (plW s) s vs)) 0) (at0 (ordH (scV (plW s) s vs)) 1) else min (at0 (ordH (scV (plW s) s vs)) 0) (at0 (ordH (scV (plW s) s vs)) 1)
noncomputable def mRun : List AV → Option AV := mk (fun p => profB (p.1 : Int) p.2.2 = true) (fun (p : PrN) => [prof (p.1 : Int) p.2.1 p.2.2]) (fun p => int (ruT p.2.2 p.1))
theorem mRun_at (s : Nat) (nl : Bool) (vs : List Vt) (h : profB (s : Int) vs = true) : mRun [.agg [.v (.int .i64 (s : Int)), .sl nl 2 (vs.map vote)]] = some (.v (.int .i64 (ruT vs s))) :=
  mk_eq (enc := fun (p : PrN) => [prof (p.1 : Int) p.2.1 p.2.2]) (x := (s, nl, vs)) (fun x y h => by rw [PrN_inj h]) h
theorem ordH_bd {rs : List Int} {i : Nat} (h : i < rs.length) : 0 ≤ at0 (ordH rs) i ∧ at0 (ordH rs) i < rs.length := by
  have hl := ordH_len (rs := rs)
  rw [at0_eq (by omega)]
  obtain ⟨j, h1, h2⟩ := ordH_mem.1 (List.getElem_mem (show i < (ordH rs).length by omega))
  omega
theorem ruT_bd {vs : List Vt} {s : Nat} (h : 1 ≤ s) : 0 ≤ ruT vs s ∧ ruT vs s < s := by
  unfold ruT
  split
  · omega
  · have hl := scV_len (ws := plW s) (s := s) (vs := vs)
    have b0 := ordH_bd (rs := scV (plW s) s vs) (i := 0) (by omega)
    have b1 := ordH_bd (rs := scV (plW s) s vs) (i := 1) (by omega)
    split <;> omega
set_option maxHeartbeats 2000000 in
theorem implRun_ok : FnOk Tryz.prog 27 mRun := by
  refine mk_ok fun ⟨S, nl, vs⟩ hp => ?_
  simp only at hp
  obtain ⟨h1, h2, h3⟩ := prof_facts hp
  have hpp := mProf_at (S : Int) nl vs
  rw [hp] at hpp
  have hpl := mPlW_at S (by omega)
  have hwt := ((wtB_ok S (by omega)).resolve_left (by omega)).1
  have hsr := mSrk_at S nl vs false (plW S) ⟨hp, hwt⟩
  have hb := fun a b => mBeats_at (S : Int) nl vs a b hp
  have hl := scV_len (ws := plW S) (s := S) (vs := vs)
  have hol := ordH_len (rs := scV (plW S) S vs)
  have hwl := (wt_facts hwt).2.2.1
  have hbd := fun i (hi : i < S) => ordH_bd (rs := scV (plW S) S vs) (i := i) (by omega)
  have hG : FnsOk Tryz.prog [(19, mProf), (21, mPlW), (72, mSrk), (73, mBeats)] := (.cons implProf_ok (.cons implPlurality_ok (.cons implSrk_ok (.cons beats_ok .nil))))
  refine callOk_awpZ [0] (ctx_ok eqOk hG) mixed (live := [true, true, true, true, true, true, false, false, true, false, false, true, false, false, false, false, false, false, false, false, false, false, false, false, false, false, false, false, false, false, false, false, false, false, true]) (dt := [(5, ⟨[], [0, 0, 0, 1, 1], []⟩), (6, ⟨[], [], []⟩)]) Tryz.func27 rfl (by kernel_rfl) (by kernel_rfl) fun w0 hlens => ?_
  clear hlens
  unfold ruT
  generalize ordH (scV (plW S) S vs) = O at *
  generalize plW S = P at *
  have ht : O.take S = O := List.take_of_length_le (by omega)
  have hPt : P.take S = P := List.take_of_length_le (by omega)
  by_cases hS : S = 1
  · subst hS
    rw [show ((1 : Nat) : Int) = 1 from rfl] at hpp hpl hsr
    simp [Tryz.f27, List.range, List.range.loop, ints, intss, int, bool, row, frac, fracs, ← List.map_take, ← List.map_drop, andThen_n, freeze, frzA, frzAL, sets, prof, hpp, hpl, hsr, hl, hol, hwl, ht, hPt]
  · have i0 : 0 < O.length := by omega
    have i1 : 1 < O.length := by omega
    have hSI : ¬ (S : Int) = 1 := by omega
    have hS0 : 0 < S ∧ 1 < S := by omega
    have e0 : O[0] = at0 O 0 := (at0_eq i0).symm
    have e1 : O[1] = at0 O 1 := (at0_eq i1).symm
    have hz := hb (max (at0 O 0) (at0 O 1)) (min (at0 O 0) (at0 O 1))
    cases hc : btB vs (max (at0 O 0) (at0 O 1)) (min (at0 O 0) (at0 O 1)) <;> rw [hc] at hz <;> simp [Tryz.f27, List.range, List.range.loop, ints, intss, int, bool, row, frac, fracs, ← List.map_take, ← List.map_drop, andThen_n, freeze, frzA, frzAL, sets, prof, hpp, hpl, hsr, hl, hol, hwl, ht, hPt, hS, hSI, hS0, i0, i1, e0, e1, hz]
set_option maxHeartbeats 2000000 in
theorem specRun_ok : FnOk Tryz.prog 47 mRun := by
  refine mk_ok fun ⟨S, nl, vs⟩ hp => ?_
  simp only at hp
  obtain ⟨h1, h2, h3⟩ := prof_facts hp
  have hpp := mProf_at (S : Int) nl vs
  rw [hp] at hpp
  have hpl := mPlW_at S (by omega)
  have hwt := ((wtB_ok S (by omega)).resolve_left (by omega)).1
  have hsr := mSrk_at S nl vs false (plW S) ⟨hp, hwt⟩
  have hb := fun a b => mBeats_at (S : Int) nl vs a b hp
  have hl := scV_len (ws := plW S) (s := S) (vs := vs)
  have hol := ordH_len (rs := scV (plW S) S vs)
  have hwl := (wt_facts hwt).2.2.1
  have hbd := fun i (hi : i < S) => ordH_bd (rs := scV (plW S) S vs) (i := i) (by omega)
  have hG : FnsOk Tryz.prog [(16, mProf), (41, mPlW), (102, mSrk), (103, mBeats)] := (.cons specProf_ok (.cons specPlurality_ok (.cons specSrk_ok (.cons l06Beats_ok .nil))))
  refine callOk_awpZ [0] (ctx_ok eqOk hG) mixed (live := [true, true, true, true, true, true, false, false, true, false, false, false, false, false, false, false, true, false, false, false, false, false, false, false, false, false, false, false, false, false, false, false, false, false, true]) (dt := [(3, ⟨[], [0, 0, 0, 1, 1], []⟩), (6, ⟨[], [], []⟩), (7, ⟨[], [], []⟩)]) Tryz.func47 rfl (by kernel_rfl) (by kernel_rfl) fun w0 hlens => ?_
  clear hlens
  unfold ruT
  generalize ordH (scV (plW S) S vs) = O at *
  generalize plW S = P at *
  have ht : O.take S = O := List.take_of_length_le (by omega)
  have hPt : P.take S = P := List.take_of_length_le (by omega)
  by_cases hS : S = 1
  · subst hS
    rw [show ((1 : Nat) : Int) = 1 from rfl] at hpp hpl hsr
    simp [Tryz.f47, List.range, List.range.loop, ints, intss, int, bool, row, frac, fracs, ← List.map_take, ← List.map_drop, andThen_n, freeze, frzA, frzAL, sets, prof, hpp, hpl, hsr, hl, hol, hwl, ht, hPt]
  · have i0 : 0 < O.length := by omega
    have i1 : 1 < O.length := by omega
    have hSI : ¬ (S : Int) = 1 := by omega
    have hS0 : 0 < S ∧ 1 < S := by omega
    have e0 : O[0] = at0 O 0 := (at0_eq i0).symm
    have e1 : O[1] = at0 O 1 := (at0_eq i1).symm
    have hz := hb (max (at0 O 0) (at0 O 1)) (min (at0 O 0) (at0 O 1))
    cases hc : btB vs (max (at0 O 0) (at0 O 1)) (min (at0 O 0) (at0 O 1)) <;> rw [hc] at hz <;> simp [Tryz.f47, List.range, List.range.loop, ints, intss, int, bool, row, frac, fracs, ← List.map_take, ← List.map_drop, andThen_n, freeze, frzA, frzAL, sets, prof, hpp, hpl, hsr, hl, hol, hwl, ht, hPt, hS, hSI, hS0, i0, i1, e0, e1, hz]
end Go.Proofs.YtigepnpiofcooaaGreat.Ax
namespace Go.Proofs
open Go.Shelf
def Tryz.laysDel_ren : Go.Shelf.Ren := ⟨fun | 45 => 92 | n => n, fun | 22 => 34 | 23 => 3 | 3 => 3 | 4 => 4 | 0 => 0 | n => n, fun | n => n⟩
theorem Tryz.laysDel : Go.Proofs.SlLaysE.n45 Tryz.prog Tryz.laysDel_ren := {
  mixed := by kernel_rfl
  f45 := ⟨Tryz.f92.name, by decide, Tryz.func92.trans (congrArg some (by kernel_rfl))⟩
  t0 := Tryz.underlying0
  a0 := Tryz.isAgg0
  z0 := Tryz.sizeOf0
  v0 := Tryz.zeroValue0
  t3 := Tryz.underlying3
  a3 := Tryz.isAgg3
  z3 := Tryz.sizeOf3
  v3 := Tryz.zeroValue3
  t4 := Tryz.underlying4
  a4 := Tryz.isAgg4
  z4 := Tryz.sizeOf4
  v4 := Tryz.zeroValue4
  t22 := Tryz.underlying34
  a22 := Tryz.isAgg34
  z22 := Tryz.sizeOf34
  v22 := Tryz.zeroValue34
  a23 := Tryz.isAgg3
  z23 := Tryz.sizeOf3 }
end Go.Proofs
namespace Go.Proofs.YtigepnpiofcooaaGreat.Ax
open Go Go.RowKit Go.Sort
set_option linter.unusedSimpArgs false
theorem frozen_cells {w : World} {b : Nat} {cs : Array Value} {T : TypeId} (h : w.heap[b]? = some (.cells cs T (0, 0))) (o : Nat) : w.frozen? ⟨b, o, none⟩ = false := by
  simp [World.frozen?, h]
theorem ownRow_ints {w : World} {d : Bool} {F S : Nat → Prop} {b : Nat} : ∀ {xs : List Int} {o : Nat}, OwnRow w d F S b 1 o (xs.map int) → ∀ (j : Nat) (x : Int), xs[j]? = some x → w.cell? ⟨b, o + j, none⟩ = some (.int .i64 x)
  | xs, o, h, j, x, hj => by
    obtain ⟨y, h1, h2, _, h4⟩ := OwnRow.get h j (int x) (by rw [List.getElem?_map, hj]; rfl)
    simp only [Own, int] at h1
    obtain ⟨rfl, _⟩ := h1
    have := h4 0 (.int .i64 x) (by rfl)
    simpa using this
theorem ownRow_mk {w : World} {d : Bool} {F S : Nat → Prop} {b : Nat} : ∀ {xs : List Int} {o : Nat}, (∀ (j : Nat) (x : Int), xs[j]? = some x → w.cell? ⟨b, o + j, none⟩ = some (.int .i64 x)) → OwnRow w d F S b 1 o (xs.map int)
  | [], o, h => by simp [OwnRow]
  | x :: xs, o, h => by
    simp only [List.map_cons, OwnRow]
    refine ⟨.int .i64 x, fun _ => False, fun _ => False, fun _ h => h.elim, fun _ h => h.elim, fun _ h => h.elim, by simp [Own, int, Value.oneCell'], rfl, rfl, fun j y hj => ?_, ownRow_mk fun j y hj => ?_⟩
    · cases j with
      | zero => simp [Value.cells] at hj; subst hj; exact h 0 x rfl
      | succ j => simp [Value.cells] at hj
    · have := h (j + 1) y (by simpa using hj)
      rw [show o + (j + 1) = o + 1 + j by omega] at this; exact this
theorem holds_of {w : World} {F S : Nat → Prop} {b o : Nat} {cs : Array Value} {T : TypeId} {xs : List Int} (hh : w.heap[b]? = some (.cells cs T (0, 0))) (hrow : OwnRow w true F S b 1 o (xs.map int)) : Holds (Value.int .i64) w b o xs.toArray := fun j hj => by
  have hj' : j < xs.length := by simpa using hj
  refine ⟨?_, frozen_cells hh _⟩
  rw [ownRow_ints hrow j xs[j] (List.getElem?_eq_getElem hj')]
  rw [getElem!_pos _ j hj]
  simp
theorem putRow_heap {w : World} {q b o : Nat} {d : Array Int} {k : Nat} (h : k ≠ b) : (putRow (Value.int .i64) (Sort.ahead w q) b o d).heap[k]? = w.heap[k]? := by
  simp only [putRow, mapBlock, Sort.ahead, Array.getElem?_modify]
  rw [if_neg (fun e => h e.symm)]
theorem putRow_own {w : World} {q b o : Nat} {d : Array Int} {cs : Array Value} {T : TypeId} (h : w.heap[b]? = some (.cells cs T (0, 0))) : (putRow (Value.int .i64) (Sort.ahead w q) b o d).heap[b]? = some (.cells (Go.Sort.putCells (Value.int .i64) o d cs) T (0, 0)) := by
  simp only [putRow, mapBlock, Sort.ahead, Array.getElem?_modify, if_true, h, Option.map_some, onCells]
theorem put_mov {w : World} {S : Nat → Prop} {b o cap q : Nat} {cs : Array Value} {T : TypeId} {xs ys zs : List Int} (hSb : S b) (hSl : ∀ b, S b → b < w.heap.size) (hh : w.heap[b]? = some (.cells cs T (0, 0))) (hfit : o + cap * 1 ≤ cs.size) (hH : Holds (Value.int .i64) w b o xs.toArray)
    (hl : ys.length + zs.length = xs.length) (hcap : xs.length ≤ cap) (hcm : cap ≤ maxLen) : ∃ (S' : Nat → Prop), Frm S w (putRow (Value.int .i64) (Sort.ahead w q) b o (ys ++ zs).toArray) ∧ (∀ c, S' c → (S c ∨ w.heap.size ≤ c) ∧ c < (putRow (Value.int .i64) (Sort.ahead w q) b o (ys ++ zs).toArray).heap.size) ∧
      Own (putRow (Value.int .i64) (Sort.ahead w q) b o (ys ++ zs).toArray) true (fun _ => False) S' (.sl false 1 (ys.map int)) (.slice (some ⟨b, o, none⟩) ys.length cap) := by
  have hsz : (putRow (Value.int .i64) (Sort.ahead w q) b o (ys ++ zs).toArray).heap.size = w.heap.size := by rw [size_putRow]; rfl
  have hH' : Holds (Value.int .i64) (Sort.ahead w q) b o xs.toArray := holds_ahead _ w q b o _ hH
  have hH2 := holds_putRow (Value.int .i64) (Sort.ahead w q) b o xs.toArray (ys ++ zs).toArray hH' (by simp; omega)
  refine ⟨S, ⟨rfl, rfl, rfl, by rw [hsz]; exact Nat.le_refl _, fun k _ hk => putRow_heap fun e => hk (e ▸ hSb)⟩, fun c hc => ⟨.inl hc, by rw [hsz]; exact hSl c hc⟩, ?_⟩
  refine Excl.own (S := S) ⟨_, _, cap, rfl, by simp, by omega, hcm, .inr ⟨b, o, _, T, rfl, rfl, hSb, putRow_own hh, by simp only [Go.Sort.putCells, Array.size_mapIdx]; exact hfit, ownRow_mk fun j x hj => ?_⟩⟩
  have hjl := (List.getElem?_eq_some_iff.1 hj).1
  have := (hH2 j (by simp; omega)).1
  rw [this, getElem!_pos _ j (by simp; omega)]
  simp only [List.getElem_toArray]
  rw [List.getElem_append_left hjl]
  rw [(List.getElem?_eq_some_iff.1 hj).2]
noncomputable def mDel : List AV → Option (List Nat × AV) := mkV (fun p => p.2.1 ≤ p.2.2 ∧ p.2.2 ≤ p.1.length) (fun (p : List Int × Nat × Nat) => [ints false p.1, int p.2.1, int p.2.2]) [0] (fun p => ints false (p.1.take p.2.1 ++ p.1.drop p.2.2))
theorem mDel_at (xs : List Int) (i j : Nat) (h : i ≤ j ∧ j ≤ xs.length) : mDel [.sl false 1 (xs.map int), .v (.int .i64 i), .v (.int .i64 j)] = some ([0], .sl false 1 ((xs.take i ++ xs.drop j).map int)) :=
  mkV_eq (enc := fun (p : List Int × Nat × Nat) => [ints false p.1, int p.2.1, int p.2.2]) (x := (xs, i, j)) (by rintro ⟨a, b, c⟩ ⟨d, e, f⟩ h; simp [ints, int, map_int_inj] at h; obtain ⟨rfl, h1, h2⟩ := h; simp only; rw [show b = e by omega, show c = f by omega]) h
set_option maxHeartbeats 1000000 in
theorem delete_ok : FnMov Tryz.prog 92 mDel := by
  refine mkV_ok fun ⟨xs, i, j⟩ ⟨hij, hj⟩ => ?_
  simp only at hij hj
  refine ⟨⟨_, Tryz.func92, by kernel_rfl, by kernel_rfl⟩, fun w F S vals hF hS hlen hargs hown => ?_⟩
  have h1 := hargs 1 _ (by simp) rfl
  have h2 := hargs 2 _ (by simp) rfl
  obtain ⟨y1, e1, h1⟩ := h1
  obtain ⟨y2, e2, h2⟩ := h2
  simp only [Rep, int] at h1 h2
  obtain ⟨rfl, _⟩ := h1
  obtain ⟨rfl, _⟩ := h2
  simp only [List.map_cons, List.map_nil, OwnL, List.getD_cons_zero] at hown
  obtain ⟨y0, ys0, S1, S2, e0, hS1, _, _, hown, _⟩ := hown
  have e0' : vals.getD 0 undef = y0 := by
    have := congrArg (fun l : List Value => l.head?) e0
    simpa using this
  obtain ⟨ad, len, cap, hy, l1, l2, l3, l4⟩ := Excl.of_own hown
  rcases l4 with ⟨_, hnl, _⟩ | ⟨b, o, cs, T, rfl, _, hb, hh, hfit, hrow⟩
  · simp at hnl
  have hlx : len = xs.length := by simpa using l1
  subst hlx
  have hvals : vals = #[.slice (some ⟨b, o, none⟩) xs.toArray.size cap, .int .i64 i, .int .i64 j] := by
    apply Array.ext'
    have hsz : vals.toList.length = 3 := by simpa using hlen
    match hv : vals.toList, hsz with
    | [a0, a1, a2], _ =>
      have g0 : vals[0]? = some a0 := by rw [← Array.getElem?_toList, hv]; rfl
      have g1 : vals[1]? = some a1 := by rw [← Array.getElem?_toList, hv]; rfl
      have g2 : vals[2]? = some a2 := by rw [← Array.getElem?_toList, hv]; rfl
      rw [g1] at e1; obtain rfl := Option.some.inj e1
      rw [g2] at e2; obtain rfl := Option.some.inj e2
      rw [Array.getD_eq_getD_getElem?, g0] at e0'
      simp only [Option.getD_some] at e0'
      rw [e0', hy]; simp
  subst hvals
  have hH := holds_of hh hrow
  refine (AnyE.slices_Delete Tryz.laysDel (Value.int .i64) (fun _ => rfl) 0 (fun w => by kernel_rfl) ((Tryz.prog.info? 3).get (by kernel_rfl)) (by kernel_rfl) (by kernel_rfl) b o cap i j xs.toArray w hH (by simpa using l2) (by simpa [maxLen] using l3) hij (by simpa using hj)).mono fun e w' h => ?_
  obtain ⟨rfl, q, rfl⟩ := h
  have hl : (xs.take i ++ xs.drop j).length = xs.toArray.size - (j - i) := by simp; omega
  have := put_mov (S := S) (q := q) (ys := xs.take i ++ xs.drop j) (zs := List.replicate (j - i) 0) (hS1 b hb) (fun c hc => (hS c hc).1) hh (by simpa using hfit) hH (by simp; omega) (by simpa using l2) l3
  obtain ⟨S', k1, k2, k3⟩ := this
  refine ⟨_, S', rfl, k1, k2, ?_⟩
  rw [hl] at k3
  exact k3
end Go.Proofs.YtigepnpiofcooaaGreat.Ax
namespace Go.Proofs.YtigepnpiofcooaaGreat.Ax
open Go Go.RowKit
set_option linter.unusedSimpArgs false
def pre (xss : List (Bool × List Int)) (i : Nat) : Nat → Int
  | 0 => 0
  | m + 1 => pre xss i m + ent xss i m
end Go.Proofs.YtigepnpiofcooaaGreat.Ax
namespace Go.Proofs.YtigepnpiofcooaaGreat.Ax
open Go Go.RowKit
set_option linter.unusedSimpArgs false
def lf (dn : List Bool) : List Int := selTo (fun i => !dn.getD i true) dn.length
theorem selTo_split {q : Nat → Bool} {k : Nat} (hq : q k = true) : ∀ {n : Nat}, k < n → ∃ r, selTo q n = selTo q k ++ (k : Int) :: r
  | 0, h => by omega
  | n + 1, h => by
    by_cases e : k = n
    · subst e; exact ⟨[], selTo_yes hq⟩
    · obtain ⟨r, hr⟩ := selTo_split hq (n := n) (by omega)
      cases hn : q n with
      | true => exact ⟨r ++ [(n : Int)], by rw [selTo_yes hn, hr]; simp⟩
      | false => exact ⟨r, by rw [selTo_no hn, hr]⟩
theorem first_sel {q : Nat → Bool} {p : Int → Bool} {n k : Nat} (hk : k < n) (hq : q k = true) (hp : p k = true) (hno : ∀ j, j < k → q j = true → p j = false) :
    idxOf p (selTo q n) = (selTo q k).length ∧ (selTo q n).getD (selTo q k).length 0 = k := by
  obtain ⟨r, hr⟩ := selTo_split hq hk
  have hlt : (selTo q k).length < (selTo q n).length := by rw [hr]; simp
  refine ⟨idxOf_found hlt (fun j hj hjk => ?_) ?_, ?_⟩
  · have : (selTo q n)[j] = (selTo q k)[j] := by simp only [hr]; rw [List.getElem_append_left hjk]
    rw [this]
    obtain ⟨i, e, h1, h2⟩ := selTo_mem (List.getElem_mem hjk)
    rw [e]; exact hno i h1 h2
  · have : (selTo q n)[(selTo q k).length] = (k : Int) := by simp only [hr]; rw [List.getElem_append_right (Nat.le_refl _)]; simp
    rw [this]; exact hp
  · rw [hr, List.getD_eq_getElem?_getD, List.getElem?_append_right (Nat.le_refl _)]; simp
theorem selTo_congr {q q' : Nat → Bool} {n : Nat} (h : ∀ i, i < n → q i = q' i) : selTo q n = selTo q' n := by
  unfold selTo
  congr 1
  exact List.filter_congr fun i hi => h i (by simpa using hi)
theorem sel_del {q : Nat → Bool} {n a : Nat} (ha : a < (selTo q n).length) : (selTo q n).take a ++ (selTo q n).drop (a + 1) = selTo (fun i => q i && decide ((i : Int) ≠ (selTo q n)[a])) n := by
  obtain ⟨k, e, hk, hq⟩ := selTo_mem (List.getElem_mem ha)
  simp only [e]
  induction n with
  | zero => simp [selTo] at ha
  | succ n ih =>
    by_cases hkn : k = n
    · subst hkn
      have hs := selTo_yes hq
      have hal : a = (selTo q k).length := by
        rcases Nat.lt_or_ge a (selTo q k).length with h | h
        · exfalso
          have : (selTo q (k + 1))[a] = (selTo q k)[a] := by simp only [hs]; rw [List.getElem_append_left h]
          rw [this] at e
          obtain ⟨i, e2, h2, _⟩ := selTo_mem (List.getElem_mem h)
          rw [e2] at e
          omega
        · rw [hs] at ha; simp at ha; omega
      have hno : selTo (fun i => q i && decide ((i : Int) ≠ (k : Int))) (k + 1) = selTo (fun i => q i && decide ((i : Int) ≠ (k : Int))) k := selTo_no (by simp)
      rw [hno, hs, hal]
      rw [show (selTo q k).length + 1 = (selTo q k ++ [(k : Int)]).length by simp, List.drop_length, List.append_nil, List.take_left]
      exact selTo_congr fun i hi => by
        have : ¬ ((i : Int) = (k : Int)) := by omega
        simp [this]
    · have hkn' : k < n := by omega
      cases hn : q n with
      | true =>
        have hs := selTo_yes hn
        have han : a < (selTo q n).length := by
          rcases Nat.lt_or_ge a (selTo q n).length with h | h
          · exact h
          · exfalso
            rw [hs] at ha; simp at ha
            have hal : a = (selTo q n).length := by omega
            subst hal
            have : (selTo q (n + 1))[(selTo q n).length]'(by rw [hs]; simp) = (n : Int) := by simp only [hs]; rw [List.getElem_append_right (Nat.le_refl _)]; simp
            rw [this] at e
            omega
        have e' : (selTo q n)[a] = (k : Int) := by rw [← e]; simp only [hs]; rw [List.getElem_append_left han]
        have := ih han e' hkn'
        rw [selTo_yes (p := fun i => q i && decide ((i : Int) ≠ (k : Int))) (by simp [hn]; omega), ← this, hs, List.take_append_of_le_length (by omega), List.drop_append_of_le_length (by omega)]
        simp
      | false =>
        have hs := selTo_no hn
        have han : a < (selTo q n).length := by rw [← hs]; exact ha
        have e' : (selTo q n)[a] = (k : Int) := by rw [← e]; simp only [hs]
        have := ih han e' hkn'
        rw [selTo_no (p := fun i => q i && decide ((i : Int) ≠ (k : Int))) (by simp [hn]), ← this, hs]
end Go.Proofs.YtigepnpiofcooaaGreat.Ax
