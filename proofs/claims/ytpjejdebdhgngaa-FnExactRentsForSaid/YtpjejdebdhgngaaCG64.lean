/-
  Contracts: the best choice of rooms (the reference), BestRooms (both programs). No condition.
-/
import Derived.Test.YtpjejdebdhgngaaCG63
namespace Go.Proofs.Ytpjejdebdhgngaa.Ax
open Go Go.RowKit
set_option linter.unusedSimpArgs false

set_option maxHeartbeats 2000000 in
theorem l25Best_ok : FnOk Try.prog 98 mL25Best := by
  refine mk_ok fun ⟨nl, xss⟩ h1 => ?_
  simp only at h1
  have hG : FnsOk Try.prog [(76, mAllRk), (134, mRoomV)] := (.cons specAllRankings_ok (.cons l25Value_ok .nil))
  refine callOk_awp (ctx_ok eqOk hG) mixed (live := [true, false, true, true, true, true, false, true, false, false, false, true, true, true, true, false, false, false, false, false, false, false, false, false, false, false, false, false, true, false, false, false, false, false, false, false, true]) (dt := []) Try.func98 rfl (by kernel_rfl) (by kernel_rfl) fun w0 hlens => ?_
  clear hlens
  obtain ⟨r1, r2, _⟩ := rent_facts h1
  obtain ⟨q1, q2, q3⟩ := best_facts h1
  have hin : inR 1 5 (xss.length : Int) = true := by simp [inR]; omega
  have hall := mAllRk_at (xss.length : Int)
  rw [hin] at hall
  have hbR : bR xss = brOf (allRk xss.length) (bstTo (wK xss (allRk xss.length)) (allRk xss.length).length) := by simp [bR, h1]
  generalize allRk xss.length = L at *
  have hfac := fun (k : Nat) => bstTo_facts (W := wK xss L) (k := k)
  simp (config := {contextual := true}) [Try.f98, List.range, List.range.loop, ints, intss, int, bool, row, frac, fracs, ← List.map_take, ← List.map_drop, mRent_at, h1, hall]
  refine awp_range (live := [true, false, true, true, true, true, false, true, false, false, false, true, true, true, true, false, false, false, false, false, false, false, false, false, false, false, false, false, true, false, false, false, false, false, false, false, true]) (ctx_ok eqOk hG) mixed [true, false, false, false, true, true, false, false, false, false, false, true, true, true] (L.length) (fun k => True) (fun k => ⟨[intss nl xss, .junk, .junk, .junk, apQ xss.length (bstTo (wK xss L) k), apN (bstTo (wK xss L) k), .junk, .junk, .junk, .junk, .junk, apR L.length (bstTo (wK xss L) k), int L.length, int k, .junk, .junk, .junk, .junk, .junk, .junk, .junk, .junk, .junk, .junk, .junk, .junk, .junk, .junk, .junk, .junk, .junk, .junk, .junk, .junk, .junk, .junk, .junk, .junk, .junk, .junk, .junk, .junk], apQt L (bstTo (wK xss L) k)⟩) ?_ (by simp [sub, slotsLe, clean, keep, refsL, refs, once, place, renL, ren, List.replicate, int, bool, apQ, apR, apQt, apN, bstTo, intss]) ?_ ?_ ?_
  · omega
  · trivial
  · intro k hk _ hwk
    have hr := q3 _ (List.getElem_mem hk)
    have hrl := hr.1
    have hv := mRoomV_at nl xss false L[k].2 (rent_rm h1 hr.2)
    have hvw : awTo xss L[k].2 L[k].2.length = wK xss L k := by rw [wK, nth_at hk]; rfl
    have hlk := rank_len hr.2
    have hlk' : L[k].2.length = xss.length := by omega
    rw [hvw] at hv
    have htk : List.take xss.length (L[k].2.map int) = L[k].2.map int := List.take_of_length_le (by simp; omega)
    have hx0 : ¬ xss.length = 0 := by omega
    have hw1 : IntKind.i64.wrap 1 = 1 := by decide
    have hs := bstTo_succ (W := wK xss L) (k := k)
    rcases hfac k with ⟨_, h0⟩ | ⟨i, n, h0, hn1, hn2, hi⟩
    · simp only [h0, bstep] at hs
      simp (config := {contextual := true}) [List.range, List.range.loop, ints, intss, int, bool, row, frac, fracs, ← List.map_take, ← List.map_drop, hk, hwk, h0, hs, apQ, apR, apQt, apN, hrl, hv, hlk', htk, hx0, hw1]
      done
    · have hiL : i < L.length := by omega
      have hri := q3 _ (List.getElem_mem hiL)
      have hril := hri.1
      have hvb := mRoomV_at nl xss false L[i].2 (rent_rm h1 hri.2)
      have hvw : awTo xss L[i].2 L[i].2.length = wK xss L i := by rw [wK, nth_at hiL]; rfl
      have hli := rank_len hri.2
      have hli' : L[i].2.length = xss.length := by omega
      have htki : List.take xss.length (L[i].2.map int) = L[i].2.map int := List.take_of_length_le (by simp; omega)
      rw [hvw] at hvb
      have hwn : IntKind.i64.wrap (n + 1) = n + 1 := wrapI (by omega) (by omega)
      simp only [h0, bstep] at hs
      by_cases e1 : wK xss L i < wK xss L k
      · rw [if_pos e1] at hs
        simp (config := {contextual := true}) [List.range, List.range.loop, ints, intss, int, bool, row, frac, fracs, ← List.map_take, ← List.map_drop, hk, hwk, h0, hs, apQ, apR, apQt, apN, hrl, hv, hvb, e1, hlk', htk, hli', htki, hiL, hril, hx0, hw1]
        done
      · rw [if_neg e1] at hs
        by_cases e2 : wK xss L k = wK xss L i
        · rw [if_pos e2] at hs
          simp (config := {contextual := true}) [List.range, List.range.loop, ints, intss, int, bool, row, frac, fracs, ← List.map_take, ← List.map_drop, hk, hwk, h0, hs, apQ, apR, apQt, apN, hrl, hv, hvb, e1, e2, hwn, hlk', htk, hli', htki, hiL, hril, hx0, hw1]
          done
        · rw [if_neg e2] at hs
          simp (config := {contextual := true}) [List.range, List.range.loop, ints, intss, int, bool, row, frac, fracs, ← List.map_take, ← List.map_drop, hk, hwk, h0, hs, apQ, apR, apQt, apN, hrl, hv, hvb, e1, e2, hlk', htk, hli', htki, hiL, hril, hx0, hw1]
          done
  · intro _
    rcases hfac L.length with ⟨hz, _⟩ | ⟨i, n, h0, _, _, hi⟩
    · omega
    simp only [h0, brOf, nth_at hi] at hbR
    have hri := q3 _ (List.getElem_mem hi)
    have hril := hri.1
    have hli := rank_len hri.2
    have hli' : L[i].2.length = xss.length := by omega
    have htki : List.take xss.length (L[i].2.map int) = L[i].2.map int := List.take_of_length_le (by simp; omega)
    simp (config := {contextual := true}) [List.range, List.range.loop, ints, intss, int, bool, row, frac, fracs, ← List.map_take, ← List.map_drop, h0, hbR, apQ, apR, apQt, apN, hi, hril, hli', htki]
    done

theorem implBestRooms_ok : FnOk Try.prog 52 mBestRooms := by
  refine mk_ok fun ⟨nl, xss⟩ _ => ?_
  have hG : FnsOk Try.prog [(101, mBestRms)] := (.cons implBestRms_ok .nil)
  refine callOk_awp (ctx_ok eqOk hG) mixed (live := [true, false, true, true]) (dt := []) Try.func52 rfl (by kernel_rfl) (by kernel_rfl) fun w0 hlens => ?_
  clear hlens
  simp (config := {contextual := true}) [Try.f52, List.range, List.range.loop, ints, intss, int, bool, row, frac, fracs, ← List.map_take, ← List.map_drop, mBestRms_at]
  done

theorem specBestRooms_ok : FnOk Try.prog 45 mBestRooms := by
  refine mk_ok fun ⟨nl, xss⟩ _ => ?_
  have hG : FnsOk Try.prog [(42, mRent), (98, mL25Best)] := (.cons specRentOk_ok (.cons l25Best_ok .nil))
  refine callOk_awp (ctx_ok eqOk hG) mixed (live := [true, false, true, true, false, false, false, true]) (dt := []) Try.func45 rfl (by kernel_rfl) (by kernel_rfl) fun w0 hlens => ?_
  clear hlens
  cases h1 : rentB xss with
  | false => simp (config := {contextual := true}) [Try.f45, List.range, List.range.loop, ints, intss, int, bool, row, frac, fracs, ← List.map_take, ← List.map_drop, mRent_at, h1, bR]
  | true =>
    have hb := mL25Best_at nl xss h1
    rw [h1] at hb
    simp (config := {contextual := true}) [Try.f45, List.range, List.range.loop, ints, intss, int, bool, row, frac, fracs, ← List.map_take, ← List.map_drop, mRent_at, h1, hb]
    done

theorem bR_len {xss : List (Bool × List Int)} : (bR xss).1.length ≤ 4 := by
  cases h1 : rentB xss with
  | false => simp [bR, h1]
  | true =>
    obtain ⟨r1, r2, _⟩ := rent_facts h1
    obtain ⟨q1, q2, q3⟩ := best_facts h1
    simp only [bR, h1, if_true]
    rcases bstTo_facts (W := wK xss (allRk xss.length)) (k := (allRk xss.length).length) with ⟨_, h0⟩ | ⟨i, n, h0, _, _, hi⟩
    · rw [h0]; simp [brOf]
    · rw [h0]
      simp only [brOf, nth_at hi]
      have := rank_len (q3 _ (List.getElem_mem hi)).2
      omega
def brP (xss : List (Bool × List Int)) : Bool × List Int := (!rentB xss, (bR xss).1)
theorem brP_at (nl : Bool) (xss : List (Bool × List Int)) : mBestRooms [.sl nl 1 (xss.map row)] = some (.sl (brP xss).1 1 ((brP xss).2.map int)) := mBestRooms_at nl xss
theorem brP_len {xss : List (Bool × List Int)} : (brP xss).2.length ≤ 2 ^ 40 := by have := bR_len (xss := xss); simp only [brP]; omega

end Go.Proofs.Ytpjejdebdhgngaa.Ax
