/-
  Contracts: MixOf (both programs). No condition.
-/
import Derived.Test.YtkfmhpgnhkdebaaGreatDoorCG15
import Derived.Test.YtkfmhpgnhkdebaaGreatDoorCG3
import Derived.Test.YtkfmhpgnhkdebaaGreatDoorCG2
import Derived.Test.YtkfmhpgnhkdebaaGreatDoorCG13
import Derived.Test.YtkfmhpgnhkdebaaGreatDoorCK4
namespace Go.Proofs.YtkfmhpgnhkdebaaGreatDoor.Ax
open Go Go.RowKit
set_option linter.unusedSimpArgs false
noncomputable def mMix : List AV → Option AV := mk (fun _ => True) (fun (p : Bool × List Tk × Int) => [tks p.1 p.2.1, int p.2.2]) (fun p => .tup [.sl (!mixB p.2.1 p.2.2) 1 ((mixT p.2.1 p.2.2).map frow), .v (.bool (mixB p.2.1 p.2.2))])
theorem mMix_at (nl : Bool) (ts : List Tk) (n : Int) : mMix [.sl nl 3 (ts.map tick), .v (.int .i64 n)] = some (.tup [.sl (!mixB ts n) 1 ((mixT ts n).map frow), .v (.bool (mixB ts n))]) :=
  mk_eq (enc := fun (p : Bool × List Tk × Int) => [tks p.1 p.2.1, int p.2.2]) (x := (nl, ts, n)) (by rintro ⟨a, b, c⟩ ⟨d, e, f⟩ h; simp [tks, int, map_tick_inj] at h; obtain ⟨⟨rfl, rfl⟩, rfl⟩ := h; rfl) trivial
theorem mix_no {ts : List Tk} {n : Int} (h : mixB ts n = false) : AV.tup [.sl (!mixB ts n) 1 ((mixT ts n).map frow), .v (.bool (mixB ts n))] = .tup [.sl true 1 [], .v (.bool false)] := by simp [mixT, h]
theorem mix_yes {ts : List Tk} {N : Nat} (h : mixB ts N = true) : AV.tup [.sl (!mixB ts N) 1 ((mixT ts N).map frow), .v (.bool (mixB ts N))] = .tup [.sl false 1 ((mixA ts N).map frow), .v (.bool true)] := by simp [mixT, h]
theorem callOk_nilArg {P : Program} {f : FuncId} {a b : Nat} {r : AV} (h : CallOk P f [.sl true a []] r) : CallOk P f [.sl true b []] r :=
  ⟨h.1, fun w F vals hF hv => h.2 w F vals hF (by simpa [RepL, Rep] using hv)⟩
open Classical in
noncomputable def mSumW (args : List AV) : Option AV := if args = [.sl true 1 []] then some (.tup [.agg [.v (.int .i64 0), .v (.int .i64 1)], .v (.bool true)]) else mSumF args
theorem mSumW_nil : mSumW [.sl true 1 []] = some (.tup [.agg [.v (.int .i64 0), .v (.int .i64 1)], .v (.bool true)]) := if_pos rfl
theorem mSumW_at (fs : List (Int × Int)) : mSumW [.sl false 2 (fs.map frac)] = some (.tup [.agg [.v (.int .i64 (sumF fs).1.1), .v (.int .i64 (sumF fs).1.2)], .v (.bool (sumF fs).2)]) :=
  (if_neg (by simp)).trans (mSumF_at false fs)
def wfA : List (Int × Int) → AV
  | [] => .sl true 1 []
  | _ :: l => .ref 1 [] 0 (l.length + 1)
def wfT : List (Int × Int) → List Tok
  | [] => []
  | a :: l => [⟨true, .sl false 2 ((a :: l).map frac)⟩]
def rowA (ts : List Tk) (N i : Nat) : List (Int × Int) := rowK ts N ts.length 0 i
def mixR (ts : List Tk) (N i x : Nat) : List AV := (List.range N).map fun j => if j < i then frow (false, rowA ts N j) else if j = i ∧ 0 < x then frow (false, (rowA ts N j).take x) else .sl true 1 []
theorem mixR_len {ts : List Tk} {N i x : Nat} : (mixR ts N i x).length = N := by simp [mixR]
theorem mixR_zero {ts : List Tk} {N : Nat} : mixR ts N 0 0 = List.replicate N (.sl true 1 []) := by
  apply List.ext_getElem
  · simp [mixR]
  · intro j h1 h2; simp [mixR]
theorem mixR_next {ts : List Tk} {N i : Nat} (h : 0 < N) : mixR ts N i N = mixR ts N (i + 1) 0 := by
  apply List.ext_getElem
  · simp [mixR]
  · intro j h1 h2
    have hr : (rowA ts N j).take N = rowA ts N j := List.take_of_length_le (by simp [rowA, rowK_len])
    simp only [mixR, List.getElem_map, List.getElem_range, hr, Nat.lt_irrefl, and_false, if_false]
    by_cases e : j < i
    · rw [if_pos e, if_pos (by omega)]
    · rw [if_neg e]
      by_cases e2 : j = i
      · rw [if_pos ⟨e2, h⟩, if_pos (by omega)]
      · rw [if_neg (fun hc => e2 hc.1), if_neg (by omega)]
theorem mixR_all {ts : List Tk} {N : Nat} : mixR ts N N 0 = (mixA ts N).map frow := by
  apply List.ext_getElem
  · simp [mixR, mixA, mixK]
  · intro j h1 h2
    have hj : j < N := by simpa [mixR] using h1
    simp [mixR, mixA, mixK, rowA, hj]
theorem mixR_at0 {ts : List Tk} {N i : Nat} (h : i < (mixR ts N i 0).length) : (mixR ts N i 0)[i] = .sl true 1 [] := by simp [mixR]
theorem mixR_at {ts : List Tk} {N i x : Nat} (h : i < (mixR ts N i (x + 1)).length) : (mixR ts N i (x + 1))[i] = .sl false 2 (((rowA ts N i).take (x + 1)).map frac) := by simp [mixR, frow]
theorem mixR_set {ts : List Tk} {N i x : Nat} (_hi : i < N) : (mixR ts N i x).set i (.sl false 2 (((rowA ts N i).take (x + 1)).map frac)) = mixR ts N i (x + 1) := by
  apply List.ext_getElem
  · simp [mixR]
  · intro j h1 h2
    rw [List.getElem_set]
    by_cases e : i = j
    · subst e; simp [mixR, frow]
    · rw [if_neg e]
      have e1 : ¬ (j = i ∧ 0 < x) := fun hc => e hc.1.symm
      have e2 : ¬ (j = i ∧ 0 < x + 1) := fun hc => e hc.1.symm
      simp only [mixR, List.getElem_map, List.getElem_range, e1, e2, if_false]
theorem rowA_succ {ts : List Tk} {N i x : Nat} (h : x < N) : ((rowA ts N i).take x).map frac ++ [.agg [.v (.int .i64 (cel ts ts.length i x).1.1), .v (.int .i64 (cel ts ts.length i x).1.2)]] = ((rowA ts N i).take (x + 1)).map frac := by
  have hl : x < (rowA ts N i).length := by simpa [rowA, rowK_len] using h
  rw [List.take_succ_eq_append_getElem hl, List.map_append]
  congr 1
  simp only [rowA, rowK_get, List.map_cons, List.map_nil]
  rw [show kk ts.length 0 i = ts.length by simp [kk]]
  rfl
theorem rowA_take {ts : List Tk} {N i x : Nat} (h : x ≤ N) : ((rowA ts N i).take x).length = x := by simp [rowA, rowK_len]; omega
def tkTo (n : Int) (ts : List Tk) (k : Nat) : Prop := ∀ j (h : j < ts.length), j < k → tkB n ts[j] = true
theorem tkTo_succ {n : Int} {ts : List Tk} {k : Nat} (h : tkTo n ts k) (hk : k < ts.length) (hb : tkB n ts[k] = true) : tkTo n ts (k + 1) := fun j hj hjk => by
  by_cases e : j = k
  · subst e; exact hb
  · exact h j hj (by omega)
theorem tk_bad {n : Int} {ts : List Tk} {k : Nat} (hk : k < ts.length) (hb : tkB n ts[k] = false) : mixB ts n = false := by
  have : ts.all (tkB n) = false := by
    rw [List.all_eq_false]
    exact ⟨ts[k], List.getElem_mem hk, by simp [hb]⟩
  simp [mixB, this]
theorem sumW_ok : FnOk Tryz.prog 112 mSumW := fun args r hr => by
  unfold mSumW at hr
  split at hr
  · rename_i e
    simp only [Option.some.injEq] at hr; subst hr; subst e
    have := implSumF_ok [.sl true 2 []] _ (mSumF_at true [])
    rw [sumF_nil] at this
    exact callOk_nilArg this
  · exact implSumF_ok _ _ hr
set_option maxRecDepth 16000 in
set_option maxHeartbeats 4000000 in
theorem implMix_ok : FnOk Tryz.prog 33 mMix := by
  refine mk_ok fun ⟨nl, ts, n⟩ _ => ?_
  simp only
  have hno := mix_no (ts := ts) (n := n)
  have hyes := fun (N : Nat) => mix_yes (ts := ts) (N := N)
  have hbad := fun (k : Nat) => tk_bad (n := n) (ts := ts) (k := k)
  have hG : FnsOk Tryz.prog [(99, mWithin), (110, mRank), (111, mFracOk), (112, mSumW), (30, mLot)] := (.cons within_ok (.cons implRankingOk_ok (.cons implFractionOk_ok (.cons sumW_ok (.cons implLot_ok .nil)))))
  generalize hR : AV.tup [.sl (!mixB ts n) 1 ((mixT ts n).map frow), .v (.bool (mixB ts n))] = R at *
  refine callOk_awp (ctx_ok eqOk hG) mixed (live := [true, true, false, false, true, true, false, true, true, true, true, true, false, true, true, false, false, false, false, false, false, false, false, false, true, true, true, true, true, false, false, false, false, false, false, false, false, false, false, false, false, false, false, false, false, false, false, true, false, false, false, false, true, true, true, false, true, true, true, false, true, true, true, true, false, false, false, false, false, false, false, false, true, false, false, false, false, false, false, false, false, false, false, false, false, false, false, false, false, false, false, false, false, false, false, false, false, false, true]) (dt := [(24, ⟨[(4, 7), (5, 7)], [0, 0, 0, 0, 0, 0, 0, 1, 2], []⟩)]) Tryz.func33 rfl (by kernel_rfl) (by kernel_rfl) fun w0 hlens => ?_
  clear hlens
  cases h1 : inR 1 4 n with
  | false =>
    obtain rfl := hno (by simp [mixB, h1])
    simp (config := {contextual := true}) [Tryz.f33, List.range, List.range.loop, ints, intss, int, bool, row, frac, fracs, ← List.map_take, ← List.map_drop, tks, mWithin_in, h1]
  | true =>
  cases h2 : inR 1 30 ts.length with
  | false =>
    obtain rfl := hno (by simp [mixB, h2])
    simp (config := {contextual := true}) [Tryz.f33, List.range, List.range.loop, ints, intss, int, bool, row, frac, fracs, ← List.map_take, ← List.map_drop, tks, mWithin_in, h1, h2]
  | true =>
  have hn := h1
  have hm := h2
  simp only [inR, Bool.and_eq_true, decide_eq_true_eq] at hn hm
  simp (config := {contextual := true}) [Tryz.f33, List.range, List.range.loop, ints, intss, int, bool, row, frac, fracs, ← List.map_take, ← List.map_drop, tks, mWithin_in, h1, h2]
  refine awp_range (live := [true, true, false, false, true, true, false, true, true, true, true, true, false, true, true, false, false, false, false, false, false, false, false, false, true, true, true, true, true, false, false, false, false, false, false, false, false, false, false, false, false, false, false, false, false, false, false, true, false, false, false, false, true, true, true, false, true, true, true, false, true, true, true, true, false, false, false, false, false, false, false, false, true, false, false, false, false, false, false, false, false, false, false, false, false, false, false, false, false, false, false, false, false, false, false, false, false, false, true]) (ctx_ok eqOk hG) mixed [true, true, false, false, false, false, false, false, false, false, false, false, false, false, false, false, false, false, false, false, false, false, false, false, false, true, true, true] (ts.length) (fun k => tkTo n ts k) (fun k => ⟨[tks nl ts, int n, .junk, .junk, .junk, .junk, .junk, .junk, .junk, .junk, .junk, .junk, .junk, .junk, .junk, .junk, .junk, .junk, .junk, .junk, .junk, .junk, .junk, .junk, .junk, tks nl ts, int ts.length, int k, .junk, .junk, .junk, .junk, .junk, .junk, .junk, .junk, .junk, .junk, .junk, .junk, .junk, .junk, .junk, .junk, .junk, .junk, .junk, .junk, .junk, .junk, .junk, .junk, .junk, .junk, .junk, .junk, .junk, .junk, .junk, .junk, .junk, .junk, .junk, .junk, .junk, .junk, .junk, .junk, .junk, .junk, .junk, .junk, .junk, .junk, .junk, .junk, .junk, .junk, .junk, .junk, .junk, .junk, .junk, .junk, .junk, .junk, .junk, .junk, .junk, .junk, .junk, .junk, .junk, .junk, .junk, .junk, .junk, .junk, .junk, .junk], []⟩) ?_ (by simp [sub, slotsLe, clean, keep, refsL, refs, once, place, renL, ren, List.replicate, int, bool, tks]) ?_ ?_ ?_
  · omega
  · intro j _ h; omega
  · intro k hk hp hwk
    have hb := hbad k hk
    have hnx := tkTo_succ hp hk
    have hr := mRank_at n ts[k].2.1 ts[k].2.2
    have hf := mFracOk_at ts[k].1.1 ts[k].1.2
    simp only [tkB] at hb hnx
    generalize rankB n ts[k].2.2 = b1 at *
    generalize fracOk (ts[k].1.1, ts[k].1.2) = b2 at *
    cases b1 with
    | false =>
      obtain rfl := hno (hb rfl)
      simp (config := {contextual := true}) [List.range, List.range.loop, ints, intss, int, bool, row, frac, fracs, ← List.map_take, ← List.map_drop, tks, tick, hk, hwk, hr]
      done
    | true =>
    cases b2 with
    | false =>
      obtain rfl := hno (hb rfl)
      simp (config := {contextual := true}) [List.range, List.range.loop, ints, intss, int, bool, row, frac, fracs, ← List.map_take, ← List.map_drop, tks, tick, hk, hwk, hr, hf]
      done
    | true =>
    by_cases h0 : 0 ≤ ts[k].1.1
    · have hn := hnx (by simp [h0])
      have h0' : ¬ ts[k].1.1 < 0 := by omega
      simp (config := {contextual := true}) [List.range, List.range.loop, ints, intss, int, bool, row, frac, fracs, ← List.map_take, ← List.map_drop, tks, tick, hk, hwk, hr, hf, h0', hn]
      done
    · obtain rfl := hno (hb (by simp [h0]))
      have h0' : ts[k].1.1 < 0 := by omega
      simp (config := {contextual := true}) [List.range, List.range.loop, ints, intss, int, bool, row, frac, fracs, ← List.map_take, ← List.map_drop, tks, tick, hk, hwk, hr, hf, h0']
      done
  · intro hp
    obtain ⟨N, rfl⟩ : ∃ N : Nat, n = N := ⟨n.toNat, by omega⟩
    have hb : 24 * N ≤ 281474976710656 ∧ N ≤ 4611686018427387904 ∧ N ≤ 281474976710656 ∧ 8 * N ≤ 281474976710656 := by omega
    have hz := mixR_zero (ts := ts) (N := N)
    simp (config := {contextual := true}) [List.range, List.range.loop, ints, intss, int, bool, row, frac, fracs, ← List.map_take, ← List.map_drop, tks, hb]
    refine awp_range (live := [true, true, false, false, true, true, false, true, true, true, true, true, false, true, true, false, false, false, false, false, false, false, false, false, true, true, true, true, true, false, false, false, false, false, false, false, false, false, false, false, false, false, false, false, false, false, false, true, false, false, false, false, true, true, true, false, true, true, true, false, true, true, true, true, false, false, false, false, false, false, false, false, true, false, false, false, false, false, false, false, false, false, false, false, false, false, false, false, false, false, false, false, false, false, false, false, false, false, true]) (ctx_ok eqOk hG) mixed [true, true, false, false, false, false, false, false, true, false, false, false, false, false, false, false, false, false, false, false, false, false, false, false, false, false, false, false, false, false, false, false, false, false, false, false, false, false, false, false, false, false, false, false, false, false, false, false, false, false, false, false, true, true] (N) (fun i => True) (fun i => ⟨[tks nl ts, int (N : Int), .junk, .junk, .junk, .junk, .junk, .junk, .ref 0 [] 0 N, .junk, .junk, .junk, .junk, .junk, .junk, .junk, .junk, .junk, .junk, .junk, .junk, .junk, .junk, .junk, .junk, .junk, .junk, .junk, .junk, .junk, .junk, .junk, .junk, .junk, .junk, .junk, .junk, .junk, .junk, .junk, .junk, .junk, .junk, .junk, .junk, .junk, .junk, .junk, .junk, .junk, .junk, .junk, int (N : Int), int i, .junk, .junk, .junk, .junk, .junk, .junk, .junk, .junk, .junk, .junk, .junk, .junk, .junk, .junk, .junk, .junk, .junk, .junk, .junk, .junk, .junk, .junk, .junk, .junk, .junk, .junk, .junk, .junk, .junk, .junk, .junk, .junk, .junk, .junk, .junk, .junk, .junk, .junk, .junk, .junk, .junk, .junk, .junk, .junk, .junk, .junk], [⟨true, .sl false 1 (mixR ts N i 0)⟩]⟩) ?_ (by simp [sub, slotsLe, clean, keep, refsL, refs, once, place, renL, ren, List.replicate, int, bool, tks, ← hz]) ?_ ?_ ?_
    · omega
    · trivial
    · intro i hi _ hwi
      simp (config := {contextual := true}) [List.range, List.range.loop, ints, intss, int, bool, row, frac, fracs, ← List.map_take, ← List.map_drop, tks, hi]
      refine awp_range (live := [true, true, false, false, true, true, false, true, true, true, true, true, false, true, true, false, false, false, false, false, false, false, false, false, true, true, true, true, true, false, false, false, false, false, false, false, false, false, false, false, false, false, false, false, false, false, false, true, false, false, false, false, true, true, true, false, true, true, true, false, true, true, true, true, false, false, false, false, false, false, false, false, true, false, false, false, false, false, false, false, false, false, false, false, false, false, false, false, false, false, false, false, false, false, false, false, false, false, true]) (ctx_ok eqOk hG) mixed [true, true, false, false, false, false, false, false, true, true, false, false, false, false, false, false, false, false, false, false, false, false, false, false, false, false, false, false, false, false, false, false, false, false, false, false, false, false, false, false, false, false, false, false, false, false, false, false, false, false, false, false, true, true, false, false, true, true] (N) (fun x => True) (fun x => ⟨[tks nl ts, int (N : Int), .junk, .junk, .junk, .junk, .junk, .junk, .ref 0 [] 0 N, int (i : Int), .junk, .junk, .junk, .junk, .junk, .junk, .junk, .junk, .junk, .junk, .junk, .junk, .junk, .junk, .junk, .junk, .junk, .junk, .junk, .junk, .junk, .junk, .junk, .junk, .junk, .junk, .junk, .junk, .junk, .junk, .junk, .junk, .junk, .junk, .junk, .junk, .junk, .junk, .junk, .junk, .junk, .junk, int (N : Int), int (i : Int), .junk, .junk, int (N : Int), int x, .junk, .junk, .junk, .junk, .junk, .junk, .junk, .junk, .junk, .junk, .junk, .junk, .junk, .junk, .junk, .junk, .junk, .junk, .junk, .junk, .junk, .junk, .junk, .junk, .junk, .junk, .junk, .junk, .junk, .junk, .junk, .junk, .junk, .junk, .junk, .junk, .junk, .junk, .junk, .junk, .junk, .junk], [⟨true, .sl false 1 (mixR ts N i x)⟩]⟩) ?_ (by simp [sub, slotsLe, clean, keep, refsL, refs, once, place, renL, ren, List.replicate, int, bool, tks]) ?_ ?_ ?_
      · omega
      · trivial
      · intro x hx _ hwx
        simp (config := {contextual := true}) [List.range, List.range.loop, ints, intss, int, bool, row, frac, fracs, ← List.map_take, ← List.map_drop, tks, hx]
        refine awp_range (live := [true, true, false, false, true, true, false, true, true, true, true, true, false, true, true, false, false, false, false, false, false, false, false, false, true, true, true, true, true, false, false, false, false, false, false, false, false, false, false, false, false, false, false, false, false, false, false, true, false, false, false, false, true, true, true, false, true, true, true, false, true, true, true, true, false, false, false, false, false, false, false, false, true, false, false, false, false, false, false, false, false, false, false, false, false, false, false, false, false, false, false, false, false, false, false, false, false, false, true]) (ctx_ok eqOk hG) mixed [true, true, false, false, false, false, false, false, true, true, true, true, false, false, false, false, false, false, false, false, false, false, false, false, false, false, false, false, false, false, false, false, false, false, false, false, false, false, false, false, false, false, false, false, false, false, false, false, false, false, false, false, true, true, false, false, true, true, false, false, true, true, true] (ts.length) (fun k => True) (fun k => ⟨[tks nl ts, int (N : Int), .junk, .junk, .junk, .junk, .junk, .junk, .ref 0 [] 0 N, int (i : Int), int (x : Int), wfA (ws ts i x k), .junk, .junk, .junk, .junk, .junk, .junk, .junk, .junk, .junk, .junk, .junk, .junk, .junk, .junk, .junk, .junk, .junk, .junk, .junk, .junk, .junk, .junk, .junk, .junk, .junk, .junk, .junk, .junk, .junk, .junk, .junk, .junk, .junk, .junk, .junk, .junk, .junk, .junk, .junk, .junk, int (N : Int), int (i : Int), .junk, .junk, int (N : Int), int (x : Int), .junk, .junk, tks nl ts, int ts.length, int k, .junk, .junk, .junk, .junk, .junk, .junk, .junk, .junk, .junk, .junk, .junk, .junk, .junk, .junk, .junk, .junk, .junk, .junk, .junk, .junk, .junk, .junk, .junk, .junk, .junk, .junk, .junk, .junk, .junk, .junk, .junk, .junk, .junk, .junk, .junk, .junk, .junk], ⟨true, .sl false 1 (mixR ts N i x)⟩ :: wfT (ws ts i x k)⟩) ?_ (by simp [sub, slotsLe, clean, keep, refsL, refs, once, place, renL, ren, List.replicate, int, bool, tks, ws_zero, wfA, wfT]) ?_ ?_ ?_
        · omega
        · trivial
        · intro k hk _ hwk
          have hr := hp k hk hk
          simp only [tkB, Bool.and_eq_true] at hr
          have hrl := (rank_facts hr.1).2.2.1
          have hil : i < ts[k].2.2.length := by omega
          have hat : at0 ts[k].2.2 i = ts[k].2.2[i] := by simp [at0, List.getD_eq_getElem?_getD, hil]
          have hwl := ws_len (ts := ts) (i := i) (x := (x : Int)) (k := k)
          by_cases e : ts[k].2.2[i] = (x : Int)
          · have hw := ws_yes hk (hat.trans e)
            rw [hw]
            generalize ws ts i x k = W at *
            cases W with
            | nil =>
              simp (config := {contextual := true}) [List.range, List.range.loop, ints, intss, int, bool, row, frac, fracs, ← List.map_take, ← List.map_drop, tks, tick, hk, hwk, hil, e, wfA, wfT, frac]
              done
            | cons a W =>
              simp only [List.length_cons] at hwl
              have q : W.length + 1 + 1 ≤ 4611686018427387904 ∧ (W.length + 1 + 1) * 16 ≤ 140737488355328 := by omega
              simp (config := {contextual := true}) [List.range, List.range.loop, ints, intss, int, bool, row, frac, fracs, ← List.map_take, ← List.map_drop, tks, tick, hk, hwk, hil, e, wfA, wfT, frac, q]
              done
          · have hw := ws_no hk (fun h => e (hat.symm.trans h))
            rw [hw]
            generalize ws ts i x k = W at *
            cases W with
            | nil =>
              simp (config := {contextual := true}) [List.range, List.range.loop, ints, intss, int, bool, row, frac, fracs, ← List.map_take, ← List.map_drop, tks, tick, hk, hwk, hil, e, wfA, wfT, frac]
              done
            | cons a W =>
              simp (config := {contextual := true}) [List.range, List.range.loop, ints, intss, int, bool, row, frac, fracs, ← List.map_take, ← List.map_drop, tks, tick, hk, hwk, hil, e, wfA, wfT, frac]
              done
        · intro _
          have hrs := rowA_succ (ts := ts) (N := N) (i := i) (x := x) hx
          have hset := mixR_set (ts := ts) (N := N) (i := i) (x := x) hi
          have hml := mixR_len (ts := ts) (N := N) (i := i) (x := x)
          have hrt := rowA_take (ts := ts) (N := N) (i := i) (x := x) (by omega)
          have q : x + 1 ≤ 4611686018427387904 ∧ (x + 1) * 16 ≤ 140737488355328 := by omega
          unfold cel at hrs
          have hw1 : IntKind.i64.wrap 1 = 1 := by decide
          have hsw := mSumW_at (ws ts i x ts.length)
          generalize ws ts i x ts.length = W at *
          cases W with
          | nil =>
            rw [sumF_nil] at hrs
            cases x with
            | zero =>
              have h0 := mixR_at0 (ts := ts) (N := N) (i := i) (by omega)
              rw [List.take_zero, List.map_nil, List.nil_append] at hrs
              rw [← hrs] at hset
              simp (config := {contextual := true}) [List.range, List.range.loop, ints, intss, int, bool, row, frac, fracs, ← List.map_take, ← List.map_drop, tks, wfA, wfT, mSumW_nil, hi, hml, h0, hset, hwx, hw1, q]
              done
            | succ x =>
              have h0 := mixR_at (ts := ts) (N := N) (i := i) (x := x) (by omega)
              have hw2 : IntKind.i64.wrap ((x : Int) + 1 + 1) = (x : Int) + 1 + 1 := wrapI (by omega) (by omega)
              have hrt2 := rowA_take (ts := ts) (N := N) (i := i) (x := x + 1 + 1) (by omega)
              generalize (rowA ts N i).take (x + 1 + 1) = R2 at *
              generalize (rowA ts N i).take (x + 1) = R1 at *
              simp (config := {contextual := true}) [List.range, List.range.loop, ints, intss, int, bool, row, frac, fracs, ← List.map_take, ← List.map_drop, tks, wfA, wfT, mSumW_nil, hi, hml, h0, hrs, hrt, hrt2, hset, hwx, q]
              exact hw2
          | cons a W =>
            have hwt : W.length + 1 = (a :: W).length := rfl
            cases x with
            | zero =>
              have h0 := mixR_at0 (ts := ts) (N := N) (i := i) (by omega)
              rw [List.take_zero, List.map_nil, List.nil_append] at hrs
              rw [← hrs] at hset
              simp [frac] at hsw
              simp (config := {contextual := true}) [List.range, List.range.loop, ints, intss, int, bool, row, frac, fracs, ← List.map_take, ← List.map_drop, tks, wfA, wfT, hsw, hi, hml, h0, hset, hwx, hw1, q]
              done
            | succ x =>
              have h0 := mixR_at (ts := ts) (N := N) (i := i) (x := x) (by omega)
              have hw2 : IntKind.i64.wrap ((x : Int) + 1 + 1) = (x : Int) + 1 + 1 := wrapI (by omega) (by omega)
              have hrt2 := rowA_take (ts := ts) (N := N) (i := i) (x := x + 1 + 1) (by omega)
              generalize (rowA ts N i).take (x + 1 + 1) = R2 at *
              generalize (rowA ts N i).take (x + 1) = R1 at *
              simp [frac] at hsw
              simp (config := {contextual := true}) [List.range, List.range.loop, ints, intss, int, bool, row, frac, fracs, ← List.map_take, ← List.map_drop, tks, wfA, wfT, hsw, hi, hml, h0, hrs, hrt, hrt2, hset, hwx, q]
              exact hw2
      · intro _
        have hnx := mixR_next (ts := ts) (N := N) (i := i) (by omega)
        simp (config := {contextual := true}) [List.range, List.range.loop, ints, intss, int, bool, row, frac, fracs, ← List.map_take, ← List.map_drop, tks, hnx, hwi]
        done
    · intro _
      have hall := mixR_all (ts := ts) (N := N)
      have hml : (mixA ts N).length = N := by simp [mixA, mixK_len]
      have htk : (mixA ts N).take N = mixA ts N := List.take_of_length_le (by omega)
      have hlot := mLot_at false (mixA ts N)
      have hB : mixB ts N = lotB (mixA ts N) := by
        have : ts.all (tkB (N : Int)) = true := List.all_eq_true.2 fun t ht => by obtain ⟨j, hj, rfl⟩ := List.getElem_of_mem ht; exact hp j hj hj
        simp [mixB, h1, h2, this]
      rw [← hB] at hlot
      cases hb : mixB ts N with
      | false =>
        obtain rfl := hno hb
        rw [hb] at hlot
        simp (config := {contextual := true}) [List.range, List.range.loop, ints, intss, int, bool, row, frac, fracs, ← List.map_take, ← List.map_drop, tks, hall, hml, htk, hlot]
        done
      | true =>
        have hR' := hR.symm.trans (hyes N hb)
        subst hR'
        rw [hb] at hlot
        simp (config := {contextual := true}) [List.range, List.range.loop, ints, intss, int, bool, row, frac, fracs, ← List.map_take, ← List.map_drop, tks, hall, hml, htk, hlot]
        done
end Go.Proofs.YtkfmhpgnhkdebaaGreatDoor.Ax
namespace Go.Proofs.YtkfmhpgnhkdebaaGreatDoor.Ax
open Go Go.RowKit
set_option linter.unusedSimpArgs false
end Go.Proofs.YtkfmhpgnhkdebaaGreatDoor.Ax
namespace Go.Proofs.YtkfmhpgnhkdebaaGreatDoor.Ax
open Go Go.RowKit
set_option linter.unusedSimpArgs false
end Go.Proofs.YtkfmhpgnhkdebaaGreatDoor.Ax
namespace Go.Proofs.YtkfmhpgnhkdebaaGreatDoor.Ax
open Go Go.RowKit
set_option linter.unusedSimpArgs false
theorem orders_all : ∀ n, n ≤ 5 → FnOk Tryz.prog 165 (mOrd n)
  | 0, _ => orders_zero
  | n + 1, h => orders_succ (by omega) (orders_all n (by omega))
def l03L (m : Nat) : Nat → List Int → List (Bool × List Int)
  | 0, l => [(false, l)]
  | r + 1, l => (List.range m).flatMap fun (i : Nat) => if pos l (i : Int) < 0 then l03L m r (l ++ [(i : Int)]) else []
theorem rankings_eq : ∀ m, m ≤ 5 → 1 ≤ m → ordR m (idx m) = l03L m m []
  | 1, _, _ => by decide +kernel
  | 2, _, _ => by decide +kernel
  | 3, _, _ => by decide +kernel
  | 4, _, _ => by decide +kernel
  | 5, _, _ => by decide +kernel
  | 0, _, h => by omega
  | m + 6, h, _ => by omega
end Go.Proofs.YtkfmhpgnhkdebaaGreatDoor.Ax
