/-
  Contracts: all rankings, the best choice of rooms (both programs). No condition.
-/
import Derived.Test.YtkfmhpgnhkdebaaGreatDoorCG16
import Derived.Test.YtkfmhpgnhkdebaaGreatDoorCG15
namespace Go.Proofs.YtkfmhpgnhkdebaaGreatDoor.Ax
open Go Go.RowKit
set_option linter.unusedSimpArgs false
def allRk (m : Int) : List (Bool × List Int) := if inR 1 5 m = true then l03L m.toNat m.toNat [] else []
noncomputable def mOrdA : List AV → Option AV := mk (fun p => 1 ≤ p.length ∧ p.length ≤ 5) (fun p => [ints false p]) (fun p => .sl false 1 ((ordR p.length p).map row))
theorem mOrdA_at (l : List Int) (h : 1 ≤ l.length ∧ l.length ≤ 5) : mOrdA [.sl false 1 (l.map int)] = some (.sl false 1 ((ordR l.length l).map row)) :=
  mk_eq (enc := fun (p : List Int) => [ints false p]) (x := l) (by intro a b h; simp [ints, map_int_inj] at h; rw [h]) h
theorem ordersA_ok : FnOk Tryz.prog 165 mOrdA := by
  refine mk_ok fun l h => ?_
  exact orders_all l.length h.2 _ _ (mOrd_at l.length false l ⟨rfl, h.2, fun h => by simp at h⟩)
noncomputable def mAllRk : List AV → Option AV := mk (fun _ => True) (fun (p : (Int)) => [int p]) (fun p => .sl (!inR 1 5 p) 1 ((allRk p).map row))
theorem mAllRk_at (m : Int) : mAllRk [.v (.int .i64 m)] = some (.sl (!inR 1 5 m) 1 ((allRk m).map row)) :=
  mk_eq (enc := fun (p : (Int)) => [int p]) (x := (m)) (by rintro a0 b0 h; simp [ints, intss, int, bool, row, frac, fracs, map_int_inj, map_row_inj, frac_inj, map_frac_inj] at h; simp [h]) trivial
theorem implAllRankings_ok : FnOk Tryz.prog 92 mAllRk := by
  refine mk_ok fun m _ => ?_
  have hG : FnsOk Tryz.prog [(99, mWithin), (166, mIdx), (165, mOrdA)] := (.cons within_ok (.cons indices_ok (.cons ordersA_ok .nil)))
  refine callOk_awp (ctx_ok eqOk hG) mixed (live := [true, false, true, false, false, true]) (dt := []) Tryz.func92 rfl (by kernel_rfl) (by kernel_rfl) fun w0 hlens => ?_
  clear hlens
  cases h : inR 1 5 m with
  | false => simp (config := {contextual := true}) [Tryz.f92, List.range, List.range.loop, ints, intss, int, bool, row, frac, fracs, ← List.map_take, ← List.map_drop, mWithin_in, h, allRk]
  | true =>
    have h2 : 1 ≤ m ∧ m ≤ 5 := by simpa [inR] using h
    obtain ⟨n, rfl⟩ : ∃ n : Nat, m = (n : Int) := ⟨m.toNat, by omega⟩
    have hi := mIdx_at n (by omega)
    have ho := mOrdA_at (idx n) (by rw [idx_len]; omega)
    rw [idx_len, rankings_eq n (by omega) (by omega)] at ho
    have htk : List.take n ((idx n).map int) = (idx n).map int := List.take_of_length_le (by simp [idx_len])
    simp (config := {contextual := true}) [Tryz.f92, List.range, List.range.loop, ints, intss, int, bool, row, frac, fracs, ← List.map_take, ← List.map_drop, mWithin_in, h, allRk, hi, ho, idx_len, htk]
end Go.Proofs.YtkfmhpgnhkdebaaGreatDoor.Ax
namespace Go.Proofs.YtkfmhpgnhkdebaaGreatDoor.Ax
open Go Go.RowKit
def tkA (t : Nat) : List Tk → AV
  | [] => .sl true 1 []
  | _ :: l => .ref t [] 0 (l.length + 1)
def tkT : List Tk → List Tok
  | [] => []
  | x :: l => [⟨true, .sl false 3 ((x :: l).map tick)⟩]
def tkI (t : Nat) : List Tk → Nat
  | [] => t
  | _ :: _ => t + 1
theorem tkI_ne {t : Nat} {L : List Tk} (h : L ≠ []) : tkI t L = t + 1 := by cases L with | nil => exact (h rfl).elim | cons _ _ => rfl
theorem tkA_ne {t : Nat} {L : List Tk} (h : L ≠ []) : tkA t L = .ref t [] 0 L.length := by cases L with | nil => exact (h rfl).elim | cons _ _ => rfl
theorem tkT_ne {L : List Tk} (h : L ≠ []) : tkT L = [⟨true, .sl false 3 (L.map tick)⟩] := by cases L with | nil => exact (h rfl).elim | cons _ _ => rfl
end Go.Proofs.YtkfmhpgnhkdebaaGreatDoor.Ax
namespace Go.Proofs.YtkfmhpgnhkdebaaGreatDoor.Ax
open Go Go.RowKit
set_option linter.unusedSimpArgs false
def rsK (xss : List (Bool × List Int)) (L : Nat) (os : List (Bool × List Int)) : List Tk := os.map fun o => ((1, (L : Int)), false, (scT xss o.2 o.2.length).2)
def rserA (xss : List (Bool × List Int)) : Bool := housesB xss && decide (xss.length ≠ 5)
def rserK (xss : List (Bool × List Int)) : List Tk := rsK xss (allRk xss.length).length (allRk xss.length)
def rserB (xss : List (Bool × List Int)) : Bool := rserA xss && mixB (rserK xss) xss.length
def rserT (xss : List (Bool × List Int)) : List (Bool × List (Int × Int)) := if rserA xss = true then mixT (rserK xss) xss.length else []
noncomputable def mRser : List AV → Option AV := mk (fun _ => True) (fun (p : (Bool) × (List (Bool × List Int))) => [intss p.1 p.2]) (fun p => .tup [.sl (!rserB p.2) 1 ((rserT p.2).map frow), .v (.bool (rserB p.2))])
theorem mRser_at (nl : Bool) (xss : List (Bool × List Int)) : mRser [.sl nl 1 (xss.map row)] = some (.tup [.sl (!rserB xss) 1 ((rserT xss).map frow), .v (.bool (rserB xss))]) :=
  mk_eq (enc := fun (p : (Bool) × (List (Bool × List Int))) => [intss p.1 p.2]) (x := (nl, xss)) (by rintro ⟨a0, a1⟩ ⟨b0, b1⟩ h; simp [ints, intss, int, bool, row, frac, fracs, map_int_inj, map_row_inj, frac_inj, map_frac_inj] at h; simp [h]) trivial
theorem allRk_facts {n : Nat} (h1 : 1 ≤ n) (h4 : n ≤ 4) : (1 ≤ (allRk n).length ∧ (allRk n).length ≤ 24) ∧ redF 1 (allRk n).length = ((1, ((allRk n).length : Int)), true) ∧ ∀ o ∈ allRk n, o.1 = false ∧ rankB n o.2 = true ∧ o.2.length = n := by
  have h : n = 1 ∨ n = 2 ∨ n = 3 ∨ n = 4 := by omega
  rcases h with rfl | rfl | rfl | rfl <;> decide +kernel
theorem rsK_len {xss : List (Bool × List Int)} {L : Nat} {os : List (Bool × List Int)} : (rsK xss L os).length = os.length := by simp [rsK]
theorem rsK_succ {xss : List (Bool × List Int)} {L k : Nat} {os : List (Bool × List Int)} (h : k < os.length) : (rsK xss L (os.take k)).map tick ++ [.agg [.v (.int .i64 1), .v (.int .i64 L), .sl false 1 ((scT xss os[k].2 os[k].2.length).2.map int)]] = (rsK xss L (os.take (k + 1))).map tick := by
  rw [List.take_succ_eq_append_getElem h]
  simp only [rsK, List.map_append, List.map_cons, List.map_nil, tick]
set_option maxRecDepth 16000 in
set_option maxHeartbeats 4000000 in
theorem implRser_ok : FnOk Tryz.prog 27 mRser := by
  refine mk_ok fun ⟨nl, xss⟩ _ => ?_
  simp only
  have hB : rserA xss = true → rserB xss = mixB (rserK xss) xss.length ∧ rserT xss = mixT (rserK xss) xss.length := fun h => by simp [rserB, rserT, h]
  have hN : rserA xss = false → rserB xss = false ∧ rserT xss = [] := fun h => by simp [rserB, rserT, h]
  generalize rserB xss = gb at *
  generalize rserT xss = gt at *
  have hG : FnsOk Tryz.prog [(91, mHouses), (92, mAllRk), (93, mRed), (94, mSer), (33, mMix)] := (.cons implHouses_ok (.cons implAllRankings_ok (.cons reduced_ok (.cons implSerial_ok (.cons implMix_ok .nil)))))
  refine callOk_awp (ctx_ok eqOk hG) mixed (live := [true, false, true, true, true, true, false, true, false, true, false, false, false, false, false, false, false, true, false, false, false, false, false, false, false, false, false, true, true, true, true]) (dt := [(9, ⟨[], [0, 0, 0, 0, 1, 0, 1, 1], []⟩)]) Tryz.func27 rfl (by kernel_rfl) (by kernel_rfl) fun w0 hlens => ?_
  clear hlens
  cases hh : housesB xss with
  | false =>
    obtain ⟨rfl, rfl⟩ := hN (by simp [rserA, hh])
    simp (config := {contextual := true}) [Tryz.f27, List.range, List.range.loop, ints, intss, int, bool, row, frac, fracs, ← List.map_take, ← List.map_drop, mHouses_at, hh]
  | true =>
  by_cases h5 : xss.length = 5
  · obtain ⟨rfl, rfl⟩ := hN (by simp [rserA, h5])
    simp (config := {contextual := true}) [Tryz.f27, List.range, List.range.loop, ints, intss, int, bool, row, frac, fracs, ← List.map_take, ← List.map_drop, mHouses_at, hh, h5]
  obtain ⟨rfl, rfl⟩ := hB (by simp [rserA, h5, hh])
  have h := hs_of hh h5
  have hn4 := h.n4
  have hn1 := h.n1
  obtain ⟨⟨hf1, hf2⟩, hf3, hf4⟩ := allRk_facts hn1 hn4
  have hin : inR 1 5 (xss.length : Int) = true := by simp [inR]; omega
  have h5' : ¬ (xss.length : Int) = 5 := by omega
  have hK : rserK xss = rsK xss (allRk xss.length).length (allRk xss.length) := rfl
  have hz : ∀ L, rsK xss L [] = [] := fun _ => rfl
  have ww1 : IntKind.i64.wrap 1 = 1 := by decide
  have hrd := mRed_at 1 ((allRk xss.length).length : Int) (by omega)
  rw [hf3] at hrd
  generalize hos : allRk (xss.length : Int) = os at *
  simp (config := {contextual := true}) [Tryz.f27, List.range, List.range.loop, ints, intss, int, bool, row, frac, fracs, ← List.map_take, ← List.map_drop, mHouses_at, mAllRk_at, hh, h5', hin, hos, hrd]
  refine awp_range (live := [true, false, true, true, true, true, false, true, false, true, false, false, false, false, false, false, false, true, false, false, false, false, false, false, false, false, false, true, true, true, true]) (ctx_ok eqOk hG) mixed [true, false, false, false, false, true, false, true, false, false, false, false, false, false, false, false, false, false, false, false, false, false, false, false, false, false, false, true, true, true] (os.length) (fun k => True) (fun k => ⟨[intss nl xss, .junk, .junk, .junk, .junk, .ptr 0 [] 0 0, .junk, tkA 1 (rsK xss os.length (os.take k)), .junk, .junk, .junk, .junk, .junk, .junk, .junk, .junk, .junk, .junk, .junk, .junk, .junk, .junk, .junk, .junk, .junk, .junk, .junk, .ref (tkI 1 (rsK xss os.length (os.take k))) [] 0 os.length, int os.length, int k, .junk, .junk, .junk, .junk, .junk, .junk, .junk, .junk, .junk, .junk, .junk, .junk, .junk, .junk, .junk, .junk, .junk, .junk], [⟨true, .sl false 2 [frac (1, (os.length : Int))]⟩] ++ tkT (rsK xss os.length (os.take k)) ++ [⟨true, .sl false 1 (os.map row)⟩]⟩) ?_ (by simp [sub, slotsLe, clean, keep, refsL, refs, once, place, renL, ren, List.replicate, int, bool, hz, intss, frac, tkA, tkT, tkI]) ?_ ?_ ?_
  · omega
  · trivial
  · intro k hk _ hwk
    obtain ⟨o1, o2, o3⟩ := hf4 _ (List.getElem_mem hk)
    have hs := rsK_succ (xss := xss) (L := os.length) hk
    have hser := fun nl' => mSer_at nl xss nl' os[k].2 ⟨hh, h5, by simpa using o2⟩
    have hl := rsK_len (xss := xss) (L := os.length) (os := os.take k)
    have hl2 := rsK_len (xss := xss) (L := os.length) (os := os.take (k + 1))
    rw [List.length_take] at hl hl2
    rw [Nat.min_eq_left (by omega)] at hl hl2
    generalize rsK xss os.length (os.take k) = T at *
    generalize rsK xss os.length (os.take (k + 1)) = T' at *
    have hT' : T' ≠ [] := fun e => by rw [e] at hl2; simp at hl2
    rw [tkA_ne hT', tkT_ne hT', tkI_ne hT', ← hs, hl2]
    have q : k + 1 ≤ 4611686018427387904 ∧ (k + 1) * 40 ≤ 140737488355328 := by omega
    cases T with
    | nil =>
      obtain rfl : 0 = k := hl
      simp (config := {contextual := true}) [List.range, List.range.loop, ints, intss, int, bool, row, frac, fracs, ← List.map_take, ← List.map_drop, hk, hwk, hser, frac, row, q, o1, tkA, tkT, tkI, ww1]
      done
    | cons t T =>
      have hT0 : t :: T ≠ [] := by simp
      rw [tkA_ne hT0, tkT_ne hT0, tkI_ne hT0, hl]
      generalize t :: T = T0 at *
      simp (config := {contextual := true}) [List.range, List.range.loop, ints, intss, int, bool, row, frac, fracs, ← List.map_take, ← List.map_drop, hk, hwk, hser, frac, row, hl, hl2, q, o1]
      done
  · intro _
    have hm := mMix_at false (rserK xss) xss.length
    rw [hK] at hm ⊢
    have hl := rsK_len (xss := xss) (L := os.length) (os := os)
    rw [List.take_length]
    generalize rsK xss os.length os = T at *
    have htk : List.take os.length T = T := List.take_of_length_le (by omega)
    have hT0 : T ≠ [] := fun e => by rw [e] at hl; simp at hl; omega
    rw [tkA_ne hT0, tkT_ne hT0, tkI_ne hT0, hl]
    simp (config := {contextual := true}) [List.range, List.range.loop, ints, intss, int, bool, row, frac, fracs, ← List.map_take, ← List.map_drop, hm, htk, hl]
    done
end Go.Proofs.YtkfmhpgnhkdebaaGreatDoor.Ax
