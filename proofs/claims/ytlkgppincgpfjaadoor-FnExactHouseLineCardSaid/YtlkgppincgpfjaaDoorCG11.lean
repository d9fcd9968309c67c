/-
  Contracts: DeleteFunc with the closure of TopCycles; TopCycles of the program (its result is only read). No condition.
-/
import Derived.Test.YtlkgppincgpfjaaDoorCG10
import Derived.Shelf.SlicesE.Index
namespace Go.Proofs
open Go.Shelf
def Tryd.laysHas_ren : Go.Shelf.Ren := ⟨fun | 31 => 82 | 29 => 115 | n => n, fun | 22 => 44 | 23 => 3 | 4 => 4 | 3 => 3 | 0 => 0 | n => n, fun | n => n⟩
theorem Tryd.laysHas : Go.Proofs.SlLaysE.n31 Tryd.prog Tryd.laysHas_ren := {
  mixed := by kernel_rfl
  f29 := ⟨Tryd.f115.name, by decide, Tryd.func115.trans (congrArg some (by kernel_rfl))⟩
  f31 := ⟨Tryd.f82.name, by decide, Tryd.func82.trans (congrArg some (by kernel_rfl))⟩
  t0 := Tryd.underlying0
  a0 := Tryd.isAgg0
  z0 := Tryd.sizeOf0
  v0 := Tryd.zeroValue0
  t3 := Tryd.underlying3
  a3 := Tryd.isAgg3
  z3 := Tryd.sizeOf3
  v3 := Tryd.zeroValue3
  t4 := Tryd.underlying4
  a4 := Tryd.isAgg4
  z4 := Tryd.sizeOf4
  v4 := Tryd.zeroValue4
  t22 := Tryd.underlying44
  a22 := Tryd.isAgg44
  z22 := Tryd.sizeOf44
  v22 := Tryd.zeroValue44
  a23 := Tryd.isAgg3
  z23 := Tryd.sizeOf3 }
end Go.Proofs
namespace Go.Proofs.YtlkgppincgpfjaaDoor.Ax
open Go Go.RowKit Go.Sort
set_option linter.unusedSimpArgs false
set_option linter.unusedVariables false

/-- Who has gone, as the variable holds it. -/
def gnA (l : List Int) : AV := if l = [] then .sl true 1 [] else .sl false 1 (l.map int)
theorem gnA_inj {a b : List Int} (h : gnA a = gnA b) : a = b := by
  unfold gnA at h
  split at h <;> split at h
  · simp_all
  · simp at h
  · simp at h
  · simp only [AV.sl.injEq, true_and] at h; exact map_int_inj.1 h
def capG (l : List Int) : List AV := [.fp (gnA l) 0]
theorem any_pos {l : List Int} {x : Int} : (l.any fun y => x == y) = decide (0 ≤ pos l x) := by
  rw [Bool.eq_iff_iff, List.any_eq_true, decide_eq_true_eq, pos_iff]
  simp only [beq_iff_eq]
  exact ⟨fun ⟨y, h1, h2⟩ => h2 ▸ h1, fun h => ⟨x, h, rfl⟩⟩

set_option maxRecDepth 32000 in
set_option maxHeartbeats 4000000 in
theorem gone1_says (l : List Int) (hl : l.length ≤ 1000) : SaysOf 81 (capG l) (fun x => decide (0 ≤ pos l x)) := by
  intro w F cv x hF hcv
  simp only [capG, RepL, Rep] at hcv
  obtain ⟨y1, ys1, e1, ⟨b1, o1, z1, rfl, hz, hF1, hat1, hz1⟩, rfl⟩ := hcv
  have hcv : cv = #[.pointer (some ⟨b1, o1 + 0, none⟩)] := by
    apply Array.ext'
    rw [e1]
  subst hcv
  unfold gnA at hz hz1
  by_cases hn : l = []
  · subst hn
    rw [if_pos rfl] at hz
    simp only [Rep] at hz
    obtain ⟨a, len, cap, rfl, hlen, _, _, hrow⟩ := hz
    have hlen : len = 0 := by simpa using hlen
    subst hlen
    have hc1 : w.cell? ⟨b1, o1, none⟩ = some (.slice a 0 cap) := hat1 0 _ (by simp [Value.cells])
    show FnGives _ _ _ _ (.bool (decide (0 ≤ pos [] x))) w
    rw [show decide (0 ≤ pos [] x) = false from rfl]
    clear hrow hat1 hz1 hF1 e1 hF hl hlen
    unfold FnGives
    show Calls Tryd.prog 81 #[.int .i64 x, .pointer (some ⟨b1, o1, none⟩)] w _
    go_enter Tryd.func81, Tryd.ntmps81
    go_wp2_with (go_at_call 82; refine (AnyE.slices_Contains_empty Tryd.laysHas a cap (.int .i64 x) _).mono ?_; rintro e w' ⟨rfl, rfl⟩)
    go_ret
    exact ⟨rfl, 0, rfl⟩
  · rw [if_neg hn] at hz
    simp only [Rep] at hz
    obtain ⟨a, len, cap, rfl, hlen, _, _, hrow⟩ := hz
    have hlen : len = l.length := by simpa using hlen
    subst hlen
    have hc1 : w.cell? ⟨b1, o1, none⟩ = some (.slice a l.length cap) := hat1 0 _ (by simp [Value.cells])
    rcases hrow with ⟨_, h, _⟩ | ⟨b, o, rfl, _, hrow⟩ | ⟨_, _, h⟩
    · simp at h
    · have hcs : ∀ j, j < l.length → w.cell? ⟨b, o + j, none⟩ = some (Value.int .i64 l[j]!) := fun j hj => by
        obtain ⟨z, h1, _, _, hFb, h4⟩ := RepRow.get hrow j (int l[j]) (by rw [List.getElem?_map, List.getElem?_eq_getElem hj]; rfl)
        simp only [Rep, int] at h1
        obtain ⟨rfl, _⟩ := h1
        rw [getElem!_pos l j hj]
        simpa using h4 0 (.int .i64 l[j]) (by simp [Value.cells])
      have hany := any_pos (l := l) (x := x)
      show FnGives _ _ _ _ (.bool (decide (0 ≤ pos l x))) w
      rw [← hany]
      clear hany hrow hat1 hz1 hF1 e1 hF hlen
      have hbig : l.length ≤ 9223372036854775807 := by omega
      generalize hL : l.length = L at *
      have hzl : L ≤ l.length := by omega
      clear hl
      unfold FnGives
      show Calls Tryd.prog 81 #[.int .i64 x, .pointer (some ⟨b1, o1, none⟩)] w _
      go_enter Tryd.func81, Tryd.ntmps81
      go_wp2_with (go_at_call 82; refine (AnyE.slices_Contains Tryd.laysHas (Value.int .i64) (fun x y => x == y) (EqlAt.int _ _ _) b o L cap l x _ hzl hbig (hL ▸ hcs)).mono ?_; rintro e w' ⟨rfl, rfl⟩)
      go_ret
      rw [← hL, List.take_length]
      exact ⟨rfl, 0, rfl⟩
    · simp only [List.map_eq_nil_iff] at h
      exact absurd h hn

noncomputable def mDelG : List AV → Option (List Nat × AV) := mkV (fun p => p.2.length ≤ 1000) (fun (p : List Int × List Int) => [ints false p.1, .fn 81 (capG p.2)]) [0] (fun p => ints false (p.1.filter fun x => !decide (0 ≤ pos p.2 x)))
theorem mDelG_at (xs l : List Int) (h : l.length ≤ 1000) : mDelG [.sl false 1 (xs.map int), .fn 81 [.fp (gnA l) 0]] = some ([0], .sl false 1 ((xs.filter fun x => !decide (0 ≤ pos l x)).map int)) := by
  have := mkV_eq (pre := fun p : List Int × List Int => p.2.length ≤ 1000) (enc := fun (p : List Int × List Int) => [ints false p.1, .fn 81 (capG p.2)]) (mv := [0]) (f := fun p => ints false (p.1.filter fun x => !decide (0 ≤ pos p.2 x))) (x := (xs, l)) (by
    rintro ⟨a, b⟩ ⟨d, e⟩ h
    simp only [ints, capG, List.cons.injEq, AV.sl.injEq, AV.fn.injEq, AV.fp.injEq, true_and, and_true, map_int_inj] at h
    obtain ⟨rfl, h⟩ := h
    rw [gnA_inj h]) h
  exact this
theorem delG_ok : FnMov Tryd.prog 80 mDelG := by
  refine mkV_ok fun ⟨xs, l⟩ h => ?_
  exact delF_ok (g := 81) (caps := capG l) (fun x => decide (0 ≤ pos l x)) (enters_of Tryd.func81 (by kernel_rfl) rfl) (gone1_says l h) xs

theorem lvs_knock {bs : List Bool} {l : List Int} (h : ∀ x ∈ l, 0 ≤ x) : (lvs bs).filter (fun x => !decide (0 ≤ pos l x)) = lvs (knock bs l) := by
  unfold lvs lvN
  rw [List.filter_map, List.filter_filter, knock_len]
  congr 1
  apply List.filter_congr
  intro i _
  rw [knock_get h]
  simp only [Function.comp_apply, pos_iff]
  rw [Bool.and_comm]

/-- The rows of the cycles. -/
def tcR (cs : List (List Int)) : List (Bool × List Int) := cs.map fun c => (false, c)
def tpA (cs : List (List Int)) (t : Nat) : AV := if cs = [] then .sl true 1 [] else .ref t [] 0 cs.length
def tpT (cs : List (List Int)) : List Tok := if cs = [] then [] else [⟨false, .sl false 1 ((tcR cs).map row)⟩]
def tpN (cs : List (List Int)) : Nat := if cs = [] then 1 else 2
theorem cyI_head {f : Int → Int} {i : Int} : ∀ {k : Nat} {pre : List Int} {cur : Int} {r : List Int}, cyI f i k pre cur = some r → (pre ++ [cur]).head? = some i → r.head? = some i
  | 0, _, _, _, h, _ => by simp [cyI] at h
  | k + 1, pre, cur, r, h, h1 => by
    unfold cyI at h
    split at h
    · cases h
    · split at h
      · cases h; exact h1
      · refine cyI_head h ?_
        rw [List.head?_append, h1]; rfl
theorem cyI_len {f : Int → Int} {i : Int} : ∀ {k : Nat} {pre : List Int} {cur : Int} {r : List Int}, cyI f i k pre cur = some r → r.length ≤ pre.length + k
  | 0, _, _, _, h => by simp [cyI] at h
  | k + 1, pre, cur, r, h => by
    unfold cyI at h
    split at h
    · cases h
    · split at h
      · cases h; simp
      · have := cyI_len h
        simp at this; omega

/-- The program's test of a cycle. -/
theorem cyc1_of {xss : List (Bool × List Int)} {bs : List Bool} {i : Nat} : cyc1 xss bs i = match cyI (nxL xss (lvs bs)) (i : Int) (xss.length + 1) [] (i : Int) with
    | none => none
    | some r => if mn r = (i : Int) then some r else none := by
  have h1 := cy_link (f := nx xss bs) (i := (i : Int)) (k := xss.length + 1) (pre := []) (cur := (i : Int)) (by simp) (by simp)
  have h2 : cyc1 xss bs i = cyS (nx xss bs) (i : Int) (xss.length + 1) [] (i : Int) := rfl
  have h3 : cyI (nx xss bs) (i : Int) (xss.length + 1) [] (i : Int) = cyI (nxL xss (lvs bs)) (i : Int) (xss.length + 1) [] (i : Int) := rfl
  rw [h2, h1, h3]
  cases hc : cyI (nxL xss (lvs bs)) (i : Int) (xss.length + 1) [] (i : Int) with
  | none => rfl
  | some r =>
    have h4 := mn_head (cyI_head hc rfl)
    rw [Option.filter_some, ← h4]
    by_cases e : mn r = (i : Int)
    · rw [if_pos (decide_eq_true e)]; simp only [if_pos e]
    · rw [if_neg (by simpa using e)]; simp only [if_neg e]
theorem cycs_snoc {xss : List (Bool × List Int)} {bs : List Bool} {l : List Nat} {k : Nat} (h : k < l.length) : cycs xss bs (l.take (k + 1)) = cycs xss bs (l.take k) ++ (match cyc1 xss bs l[k] with | none => [] | some r => [r]) := by
  unfold cycs
  rw [List.take_succ_eq_append_getElem h, List.filterMap_append]
  congr 1
  cases hc : cyc1 xss bs l[k] <;> simp [hc]

theorem take_in {α : Type} {l : List α} {k : Nat} {x : α} (h : x ∈ l.take k) : x ∈ l := List.mem_of_mem_take h

noncomputable def mTc : List AV → Option AV := mk (fun p => housesB p.2 = true) (fun (p : (Bool) × (List (Bool × List Int))) => [intss p.1 p.2]) (fun p => .sl false 1 ((tcR (tcA p.2)).map row))
theorem mTc_at (nl : Bool) (xss : List (Bool × List Int)) (hpre : housesB xss = true) : mTc [.sl nl 1 (xss.map row)] = some (.sl false 1 ((tcR (tcA xss)).map row)) :=
  mk_eq (enc := fun (p : (Bool) × (List (Bool × List Int))) => [intss p.1 p.2]) (x := (nl, xss)) (by rintro ⟨a0, a1⟩ ⟨b0, b1⟩ h; simp [ints, intss, int, bool, row, frac, fracs, map_int_inj, map_row_inj, frac_inj, map_frac_inj] at h; simp [h]) hpre

set_option maxRecDepth 16000 in
set_option maxHeartbeats 8000000 in
theorem implTop_ok : FnFrz Tryd.prog 45 true mTc := by
  refine mk_frz fun ⟨nl, xss⟩ hh => ?_
  simp only at hh
  have h := h5_of hh
  have hn1 := h.n1
  have hn5 := h.n5
  have hid := mIdx_at xss.length (by omega)
  have hz1 : idx xss.length = lvs (tcT xss 0).1 := by
    unfold idx lvs lvN
    rw [show (tcT xss 0).1 = List.replicate xss.length true from rfl, List.length_replicate, List.filter_eq_self.2]
    intro i hi
    have : i < xss.length := by simpa using hi
    simp [List.getD_eq_getElem?_getD, this]
  have hil : (lvs (tcT xss 0).1).length = xss.length := by rw [← hz1]; simp [idx]
  rw [hz1] at hid
  have hil' : (lvs (List.replicate xss.length true)).length = xss.length := hil
  have hG : FnsOk Tryd.prog [(43, mHouses), (77, mIdx), (79, mMin)] := (.cons implHouses_ok (.cons indices_ok (.cons min_ok .nil)))
  have hM : FnsMut Tryd.prog [] := .nil
  have hV : FnsMov Tryd.prog [(80, mDelG)] := (.cons delG_ok .nil)
  have hK : FnsFrz Tryd.prog [(78, false, mPtC)] := (.cons (FnOk.frz pointing_ok) .nil)
  refine frzOk_awp (ctxH_ok eqOk hG hM hV hK) mixed (live := [true, false, true, true, true, true, false, true, true, false, false, true, false, false, false, false, false, true, true, true, true, true, false, false, false, false, false, false, false, false, false, false, false, false, false, true]) (dt := []) Tryd.func45 rfl (by kernel_rfl) (by kernel_rfl) fun A w0 hlens => ?_
  clear hlens
  simp (config := {contextual := true}) [Tryd.f45, List.range, List.range.loop, ints, intss, int, bool, row, frac, fracs, ← List.map_take, ← List.map_drop, List.all, mHouses_at, hh, hid, hil]
  refine awp_loop_of (live := [true, false, true, true, true, true, false, true, true, false, false, true, false, false, false, false, false, true, true, true, true, true, false, false, false, false, false, false, false, false, false, false, false, false, false, true]) (ctxH_ok eqOk hG hM hV hK) mixed [true, false, false, true, true] (α := {r : Nat // r ≤ xss.length}) (fun r => ⟨[intss nl xss, .junk, .junk, .ref 0 [] 0 (lvs (tcT xss r.1).1).length, tpA (tcT xss r.1).2 1, .junk, .junk, .junk, .junk, .junk, .junk, .junk, .junk, .junk, .junk, .junk, .junk, .junk, .junk, .junk, .junk, .junk, .junk, .junk, .junk, .junk, .junk, .junk, .junk, .junk, .junk, .junk, .junk, .junk, .junk, .junk, .junk, .junk, .junk, .junk, .junk, .junk, .junk, .junk, .junk, .junk, .junk, .junk], ⟨true, .sl false 1 ((lvs (tcT xss r.1).1).map int)⟩ :: tpT (tcT xss r.1).2⟩) (fun r => xss.length - r.1) ⟨0, by omega⟩ (by simp [sub, slotsLe, clean, keep, refsL, refs, once, place, renL, ren, List.replicate, int, bool, intss, tpA, tpT, hil', tcT]) ?_
  rintro ⟨r, hr⟩
  simp only
  have hs := tcT_ok h (r := r)
  by_cases h0 : (tcT xss r).1.count true = 0
  · have hcs := tcT_end h hr h0
    have hl0 : (lvs (tcT xss r).1).length = 0 := by simp [lvs, none_left h0]
    have hne : ¬ tcA xss = [] := fun e => by
      have := hs.cnt
      rw [hcs, e, h0] at this
      simp at this; omega
    have hlr : (tcR (tcA xss)).length = (tcA xss).length := by simp [tcR]
    have htk : List.take (tcA xss).length (tcR (tcA xss)) = tcR (tcA xss) := List.take_of_length_le (by omega)
    rw [hcs]
    simp (config := {contextual := true}) [List.range, List.range.loop, ints, intss, int, bool, row, frac, fracs, ← List.map_take, ← List.map_drop, List.all, tpA, tpT, hl0, hne, hlr, htk]
    done
  have hrn : r < xss.length := by
    rcases tcT_cnt h hr with h1 | h1
    · omega
    · exact absurd h1 h0
  have hnext : tcT xss (r + 1) = tcS xss (tcT xss r) := by
    have e : tcT xss (r + 1) = if (tcT xss r).1.count true = 0 then tcT xss r else tcS xss (tcT xss r) := rfl
    rw [e, if_neg h0]
  generalize htt : tcT xss r = s at hs h0 hnext ⊢
  obtain ⟨bs, cs⟩ := s
  simp only at h0 ⊢
  have hbl := hs.bl
  simp only at hbl
  have hex := some_left h0
  have hlp : 0 < (lvs bs).length := by
    obtain ⟨j, hj⟩ := hex
    exact List.length_pos_of_mem (lvs_mem.2 ⟨j, rfl, hj⟩)
  have hlb := lvs_len (bs := bs)
  have hnl : ¬ (lvs bs).length = 0 := by omega
  have hc0 : cycs xss bs [] = [] := rfl
  have hcsl : cs.length ≤ 5 := by
    have := hs.one; have := hs.cnt
    simp only at *; omega
  have hgoR : ∀ c (hc : c < xss.length), ∃ a : Nat, a < xss.length ∧ fstI (fun h => decide (0 ≤ pos (lvs bs) h)) xss[c].2 = some (a : Int) := fun c hc => by
    obtain ⟨a, h1, h2, _⟩ := nx_at h hbl hex hc
    exact ⟨a, h1, h2⟩
  have hflat : ∀ k, (cycs xss bs ((lvN bs).take k)).flatten.length ≤ xss.length := fun k => by
    have hin := cycs_in h hbl (l := (lvN bs).take k) fun _ h => List.mem_of_mem_take h
    refine way_len (cycs_nodup (List.Nodup.sublist (List.take_sublist _ _) lvN_nodup)) fun x hx => ?_
    obtain ⟨c, hc, hx⟩ := List.mem_flatten.1 hx
    obtain ⟨i, rfl, e⟩ := lvs_mem.1 ((hin c hc).2 x hx)
    have := lvN_lt (lvN_mem.2 e)
    omega
  have hlen : ∀ k, (cycs xss bs ((lvN bs).take k)).length ≤ xss.length := fun k => by
    have hin := cycs_in h hbl (l := (lvN bs).take k) fun _ h => List.mem_of_mem_take h
    have := flat_ge fun c hc => (hin c hc).1
    have := hflat k
    omega
  have hfne : ∀ k, (cycs xss bs ((lvN bs).take k)).flatten = [] ↔ cycs xss bs ((lvN bs).take k) = [] := fun k => by
    have hin := cycs_in h hbl (l := (lvN bs).take k) fun _ h => List.mem_of_mem_take h
    have := flat_ge fun c hc => (hin c hc).1
    constructor
    · intro e; rw [e] at this
      exact List.length_eq_zero_iff.1 (by simpa using this)
    · intro e; rw [e]; rfl
  by_cases hce : cs = []
  · simp (config := {contextual := true}) [List.range, List.range.loop, ints, intss, int, bool, row, frac, fracs, ← List.map_take, ← List.map_drop, List.all, hlp, hce, tpA, tpT]
    refine awp_range (live := [true, false, true, true, true, true, false, true, true, false, false, true, false, false, false, false, false, true, true, true, true, true, false, false, false, false, false, false, false, false, false, false, false, false, false, true]) (ctxH_ok eqOk hG hM hV hK) mixed [true, false, false, true, true, true, false, false, false, false, false, false, false, false, false, false, false, false, true, true, true] ((lvs bs).length) (fun j => True) (fun j => ⟨[intss nl xss, .junk, .junk, .ref 0 [] 0 (lvs bs).length, tpA (cs ++ cycs xss bs ((lvN bs).take j)) 1, .ptr (tpN (cs ++ cycs xss bs ((lvN bs).take j))) [] 0 0, .junk, .junk, .junk, .junk, .junk, .junk, .junk, .junk, .junk, .junk, .junk, .junk, .ref 0 [] 0 (lvs bs).length, int (lvs bs).length, int j, .junk, .junk, .junk, .junk, .junk, .junk, .junk, .junk, .junk, .junk, .junk, .junk, .junk, .junk, .junk, .junk, .junk, .junk, .junk, .junk, .junk, .junk, .junk, .junk, .junk, .junk, .junk], ⟨true, .sl false 1 ((lvs bs).map int)⟩ :: (tpT (cs ++ cycs xss bs ((lvN bs).take j)) ++ [⟨true, .sl false 1 [gnA (cycs xss bs ((lvN bs).take j)).flatten]⟩])⟩) ?_ (by simp [sub, slotsLe, clean, keep, refsL, refs, once, place, renL, ren, List.replicate, int, bool, intss, tpA, tpT, tpN, gnA, hc0, hce]) ?_ ?_ ?_
    · omega
    · trivial
    · intro j hj _ hwj
      have hjN : j < (lvN bs).length := by simpa [lvs] using hj
      obtain ⟨i, hi⟩ : ∃ i, (lvN bs)[j] = i := ⟨_, rfl⟩
      have him : i ∈ lvN bs := hi ▸ List.getElem_mem hjN
      have hin : i < xss.length := by have := lvN_lt him; omega
      have hget : (lvs bs)[j] = (i : Int) := by simp [lvs, hi]
      have hpt := mPtC_at nl xss false (lvs bs) (i : Int) ⟨hn5, hgoR, by omega, by omega⟩
      have hsn := cycs_snoc (xss := xss) (bs := bs) hjN
      rw [hi, cyc1_of] at hsn
      have hcl := hlen j
      have hgl := hflat j
      have hfn := hfne j
      generalize cycs xss bs ((lvN bs).take j) = Cj at *
      have hrl : (tcR (cs ++ Cj)).length = cs.length + Cj.length := by simp [tcR]
      have hbb : cs.length + Cj.length + 1 ≤ 4611686018427387904 ∧ (cs.length + Cj.length + 1) * 24 ≤ 140737488355328 := by omega
      have htk : List.take (cs.length + Cj.length) (tcR (cs ++ Cj)) = tcR (cs ++ Cj) := List.take_of_length_le (by omega)
      cases hcy : cyI (nxL xss (lvs bs)) (i : Int) (xss.length + 1) [] (i : Int) with
      | none =>
        rw [hcy] at hpt hsn
        simp only [cyAV, List.append_nil] at hpt hsn
        rw [hsn]
        by_cases hre : cs ++ Cj = []
        · obtain ⟨h1, h2⟩ := List.append_eq_nil_iff.1 hre
          simp (config := {contextual := true}) [List.range, List.range.loop, ints, intss, int, bool, row, frac, fracs, ← List.map_take, ← List.map_drop, List.all, tpA, tpT, tpN, gnA, h1, h2, hj, hget, hpt, hwj]
          done
        · simp (config := {contextual := true}) [List.range, List.range.loop, ints, intss, int, bool, row, frac, fracs, ← List.map_take, ← List.map_drop, List.all, tpA, tpT, tpN, hre, hj, hget, hpt, hwj]
          done
      | some q =>
        have hql := cyI_len hcy
        have hq0 : 0 < q.length := by
          have := cyI_head hcy rfl
          cases q with
          | nil => simp at this
          | cons a l => simp
        have hqn : ¬ q = [] := fun e => by rw [e] at hq0; simp at hq0
        have hmn := mMin_at false q ⟨hq0, by simp at hql; omega⟩
        rw [hcy] at hpt hsn
        simp only [cyAV] at hpt hsn
        by_cases hm : mn q = (i : Int)
        · rw [if_pos hm] at hsn
          simp only at hsn
          rw [hsn]
          have hfl : (Cj ++ [q]).flatten = Cj.flatten ++ q := by simp
          have hql' : q.length ≤ 6 := by simp at hql; omega
          rw [← List.append_assoc, hfl]
          generalize Cj.flatten = G at *
          have hgb : G.length + q.length ≤ 4611686018427387904 ∧ (G.length + q.length) * 8 ≤ 140737488355328 := by omega
          have hqb : q.length ≤ 4611686018427387904 ∧ q.length * 8 ≤ 140737488355328 := by omega
          have hsc : q.all (scal ∘ int) = true := List.all_eq_true.2 fun _ _ => rfl
          have hsc2 : G.all (scal ∘ int) = true := List.all_eq_true.2 fun _ _ => rfl
          have hqe : q.isEmpty = false := by simp [hqn]
          have htg : List.take G.length G = G := List.take_of_length_le (Nat.le_refl _)
          have htq : List.take q.length q = q := List.take_of_length_le (Nat.le_refl _)
          have hrs : (tcR (cs ++ Cj ++ [q])).map row = (tcR (cs ++ Cj)).map row ++ [.sl false 1 (q.map int)] := by simp [tcR, row, ints]
          have hr1 : (tcR [q]).map row = [.sl false 1 (q.map int)] := by simp [tcR, row, ints]
          by_cases hre : cs ++ Cj = []
          · obtain ⟨h1, h2⟩ := List.append_eq_nil_iff.1 hre
            have h3 : G = [] := hfn.2 h2
            simp (config := {contextual := true}) [List.range, List.range.loop, ints, intss, int, bool, row, frac, fracs, ← List.map_take, ← List.map_drop, List.all, tpA, tpT, tpN, gnA, h1, h2, h3, hj, hget, hpt, hwj, hqn, hmn, hm, hqb, hsc, hqe, htq, hr1]
            done
          · by_cases hge : G = []
            · simp (config := {contextual := true}) [List.range, List.range.loop, ints, intss, int, bool, row, frac, fracs, ← List.map_take, ← List.map_drop, List.all, tpA, tpT, tpN, gnA, hre, hge, hj, hget, hpt, hwj, hqn, hmn, hm, hqb, hsc, hqe, htk, htq, hrl, hbb, hrs]
              exact ⟨by rw [← List.append_assoc]; exact hrs, by omega⟩
            · simp (config := {contextual := true}) [List.range, List.range.loop, ints, intss, int, bool, row, frac, fracs, ← List.map_take, ← List.map_drop, List.all, tpA, tpT, tpN, gnA, hre, hge, hj, hget, hpt, hwj, hqn, hmn, hm, hgb, hsc, hsc2, htk, htg, htq, hrl, hbb, hrs]
              exact ⟨by rw [← List.append_assoc]; exact hrs, by omega⟩
        · rw [if_neg hm] at hsn
          simp only [List.append_nil] at hsn
          rw [hsn]
          by_cases hre : cs ++ Cj = []
          · obtain ⟨h1, h2⟩ := List.append_eq_nil_iff.1 hre
            simp (config := {contextual := true}) [List.range, List.range.loop, ints, intss, int, bool, row, frac, fracs, ← List.map_take, ← List.map_drop, List.all, tpA, tpT, tpN, gnA, h1, h2, hj, hget, hpt, hwj, hqn, hmn, hm]
            done
          · simp (config := {contextual := true}) [List.range, List.range.loop, ints, intss, int, bool, row, frac, fracs, ← List.map_take, ← List.map_drop, List.all, tpA, tpT, tpN, hre, hj, hget, hpt, hwj, hqn, hmn, hm]
            done
    · intro _
      have hall : (lvN bs).take (lvs bs).length = lvN bs := List.take_of_length_le (by simp [lvs])
      have hgl := hflat (lvs bs).length
      have hdl := mDelG_at (lvs bs) (cycs xss bs ((lvN bs).take (lvs bs).length)).flatten (by omega)
      rw [hall] at hdl hgl ⊢
      have hin := cycs_in h hbl (l := lvN bs) fun _ h => h
      rw [lvs_knock fun x hx => by
        obtain ⟨c, hc, hx⟩ := List.mem_flatten.1 hx
        obtain ⟨i, rfl, _⟩ := lvs_mem.1 ((hin c hc).2 x hx)
        omega] at hdl
      have htl : List.take (lvs bs).length (lvs bs) = lvs bs := List.take_of_length_le (Nat.le_refl _)
      have hn1 : (tcT xss (r + 1)).1 = knock bs (cycs xss bs (lvN bs)).flatten := by rw [hnext]; rfl
      have hn2 : (tcT xss (r + 1)).2 = cs ++ cycs xss bs (lvN bs) := by rw [hnext]; rfl
      generalize (cycs xss bs (lvN bs)).flatten = G at *
      have hsub : ∀ Cs, tcT xss (r + 1) = (knock bs G, Cs) → Cs = cs ++ cycs xss bs (lvN bs) → True := fun _ _ _ => trivial
      by_cases hre : cs ++ cycs xss bs (lvN bs) = []
      · simp (config := {contextual := true}) [List.range, List.range.loop, ints, intss, int, bool, row, frac, fracs, ← List.map_take, ← List.map_drop, List.all, tpA, tpT, tpN, hre, hdl, htl]
        exact ⟨⟨r + 1, by omega⟩, by simp [sub, slotsLe, clean, keep, refsL, refs, once, place, renL, ren, List.replicate, int, bool, hn1, hn2, hre, intss, tpA, tpT], by simp; omega⟩
      · simp (config := {contextual := true}) [List.range, List.range.loop, ints, intss, int, bool, row, frac, fracs, ← List.map_take, ← List.map_drop, List.all, tpA, tpT, tpN, hre, hdl, htl]
        exact ⟨⟨r + 1, by omega⟩, by simp [sub, slotsLe, clean, keep, refsL, refs, once, place, renL, ren, List.replicate, int, bool, hn1, hn2, hre, intss, tpA, tpT], by simp; omega⟩
  · simp (config := {contextual := true}) [List.range, List.range.loop, ints, intss, int, bool, row, frac, fracs, ← List.map_take, ← List.map_drop, List.all, hlp, hce, tpA, tpT]
    refine awp_range (live := [true, false, true, true, true, true, false, true, true, false, false, true, false, false, false, false, false, true, true, true, true, true, false, false, false, false, false, false, false, false, false, false, false, false, false, true]) (ctxH_ok eqOk hG hM hV hK) mixed [true, false, false, true, true, true, false, false, false, false, false, false, false, false, false, false, false, false, true, true, true] ((lvs bs).length) (fun j => True) (fun j => ⟨[intss nl xss, .junk, .junk, .ref 0 [] 0 (lvs bs).length, tpA (cs ++ cycs xss bs ((lvN bs).take j)) 1, .ptr (tpN (cs ++ cycs xss bs ((lvN bs).take j))) [] 0 0, .junk, .junk, .junk, .junk, .junk, .junk, .junk, .junk, .junk, .junk, .junk, .junk, .ref 0 [] 0 (lvs bs).length, int (lvs bs).length, int j, .junk, .junk, .junk, .junk, .junk, .junk, .junk, .junk, .junk, .junk, .junk, .junk, .junk, .junk, .junk, .junk, .junk, .junk, .junk, .junk, .junk, .junk, .junk, .junk, .junk, .junk, .junk], ⟨true, .sl false 1 ((lvs bs).map int)⟩ :: (tpT (cs ++ cycs xss bs ((lvN bs).take j)) ++ [⟨true, .sl false 1 [gnA (cycs xss bs ((lvN bs).take j)).flatten]⟩])⟩) ?_ (by simp [sub, slotsLe, clean, keep, refsL, refs, once, place, renL, ren, List.replicate, int, bool, intss, tpA, tpT, tpN, gnA, hc0, hce]) ?_ ?_ ?_
    · omega
    · trivial
    · intro j hj _ hwj
      have hjN : j < (lvN bs).length := by simpa [lvs] using hj
      obtain ⟨i, hi⟩ : ∃ i, (lvN bs)[j] = i := ⟨_, rfl⟩
      have him : i ∈ lvN bs := hi ▸ List.getElem_mem hjN
      have hin : i < xss.length := by have := lvN_lt him; omega
      have hget : (lvs bs)[j] = (i : Int) := by simp [lvs, hi]
      have hpt := mPtC_at nl xss false (lvs bs) (i : Int) ⟨hn5, hgoR, by omega, by omega⟩
      have hsn := cycs_snoc (xss := xss) (bs := bs) hjN
      rw [hi, cyc1_of] at hsn
      have hcl := hlen j
      have hgl := hflat j
      have hfn := hfne j
      generalize cycs xss bs ((lvN bs).take j) = Cj at *
      have hrl : (tcR (cs ++ Cj)).length = cs.length + Cj.length := by simp [tcR]
      have hbb : cs.length + Cj.length + 1 ≤ 4611686018427387904 ∧ (cs.length + Cj.length + 1) * 24 ≤ 140737488355328 := by omega
      have htk : List.take (cs.length + Cj.length) (tcR (cs ++ Cj)) = tcR (cs ++ Cj) := List.take_of_length_le (by omega)
      cases hcy : cyI (nxL xss (lvs bs)) (i : Int) (xss.length + 1) [] (i : Int) with
      | none =>
        rw [hcy] at hpt hsn
        simp only [cyAV, List.append_nil] at hpt hsn
        rw [hsn]
        by_cases hre : cs ++ Cj = []
        · obtain ⟨h1, h2⟩ := List.append_eq_nil_iff.1 hre
          simp (config := {contextual := true}) [List.range, List.range.loop, ints, intss, int, bool, row, frac, fracs, ← List.map_take, ← List.map_drop, List.all, tpA, tpT, tpN, gnA, h1, h2, hj, hget, hpt, hwj]
          done
        · simp (config := {contextual := true}) [List.range, List.range.loop, ints, intss, int, bool, row, frac, fracs, ← List.map_take, ← List.map_drop, List.all, tpA, tpT, tpN, hre, hj, hget, hpt, hwj]
          done
      | some q =>
        have hql := cyI_len hcy
        have hq0 : 0 < q.length := by
          have := cyI_head hcy rfl
          cases q with
          | nil => simp at this
          | cons a l => simp
        have hqn : ¬ q = [] := fun e => by rw [e] at hq0; simp at hq0
        have hmn := mMin_at false q ⟨hq0, by simp at hql; omega⟩
        rw [hcy] at hpt hsn
        simp only [cyAV] at hpt hsn
        by_cases hm : mn q = (i : Int)
        · rw [if_pos hm] at hsn
          simp only at hsn
          rw [hsn]
          have hfl : (Cj ++ [q]).flatten = Cj.flatten ++ q := by simp
          have hql' : q.length ≤ 6 := by simp at hql; omega
          rw [← List.append_assoc, hfl]
          generalize Cj.flatten = G at *
          have hgb : G.length + q.length ≤ 4611686018427387904 ∧ (G.length + q.length) * 8 ≤ 140737488355328 := by omega
          have hqb : q.length ≤ 4611686018427387904 ∧ q.length * 8 ≤ 140737488355328 := by omega
          have hsc : q.all (scal ∘ int) = true := List.all_eq_true.2 fun _ _ => rfl
          have hsc2 : G.all (scal ∘ int) = true := List.all_eq_true.2 fun _ _ => rfl
          have hqe : q.isEmpty = false := by simp [hqn]
          have htg : List.take G.length G = G := List.take_of_length_le (Nat.le_refl _)
          have htq : List.take q.length q = q := List.take_of_length_le (Nat.le_refl _)
          have hrs : (tcR (cs ++ Cj ++ [q])).map row = (tcR (cs ++ Cj)).map row ++ [.sl false 1 (q.map int)] := by simp [tcR, row, ints]
          have hr1 : (tcR [q]).map row = [.sl false 1 (q.map int)] := by simp [tcR, row, ints]
          by_cases hre : cs ++ Cj = []
          · obtain ⟨h1, h2⟩ := List.append_eq_nil_iff.1 hre
            have h3 : G = [] := hfn.2 h2
            simp (config := {contextual := true}) [List.range, List.range.loop, ints, intss, int, bool, row, frac, fracs, ← List.map_take, ← List.map_drop, List.all, tpA, tpT, tpN, gnA, h1, h2, h3, hj, hget, hpt, hwj, hqn, hmn, hm, hqb, hsc, hqe, htq, hr1]
            done
          · by_cases hge : G = []
            · simp (config := {contextual := true}) [List.range, List.range.loop, ints, intss, int, bool, row, frac, fracs, ← List.map_take, ← List.map_drop, List.all, tpA, tpT, tpN, gnA, hre, hge, hj, hget, hpt, hwj, hqn, hmn, hm, hqb, hsc, hqe, htk, htq, hrl, hbb, hrs]
              exact ⟨by rw [← List.append_assoc]; exact hrs, by omega⟩
            · simp (config := {contextual := true}) [List.range, List.range.loop, ints, intss, int, bool, row, frac, fracs, ← List.map_take, ← List.map_drop, List.all, tpA, tpT, tpN, gnA, hre, hge, hj, hget, hpt, hwj, hqn, hmn, hm, hgb, hsc, hsc2, htk, htg, htq, hrl, hbb, hrs]
              exact ⟨by rw [← List.append_assoc]; exact hrs, by omega⟩
        · rw [if_neg hm] at hsn
          simp only [List.append_nil] at hsn
          rw [hsn]
          by_cases hre : cs ++ Cj = []
          · obtain ⟨h1, h2⟩ := List.append_eq_nil_iff.1 hre
            simp (config := {contextual := true}) [List.range, List.range.loop, ints, intss, int, bool, row, frac, fracs, ← List.map_take, ← List.map_drop, List.all, tpA, tpT, tpN, gnA, h1, h2, hj, hget, hpt, hwj, hqn, hmn, hm]
            done
          · simp (config := {contextual := true}) [List.range, List.range.loop, ints, intss, int, bool, row, frac, fracs, ← List.map_take, ← List.map_drop, List.all, tpA, tpT, tpN, hre, hj, hget, hpt, hwj, hqn, hmn, hm]
            done
    · intro _
      have hall : (lvN bs).take (lvs bs).length = lvN bs := List.take_of_length_le (by simp [lvs])
      have hgl := hflat (lvs bs).length
      have hdl := mDelG_at (lvs bs) (cycs xss bs ((lvN bs).take (lvs bs).length)).flatten (by omega)
      rw [hall] at hdl hgl ⊢
      have hin := cycs_in h hbl (l := lvN bs) fun _ h => h
      rw [lvs_knock fun x hx => by
        obtain ⟨c, hc, hx⟩ := List.mem_flatten.1 hx
        obtain ⟨i, rfl, _⟩ := lvs_mem.1 ((hin c hc).2 x hx)
        omega] at hdl
      have htl : List.take (lvs bs).length (lvs bs) = lvs bs := List.take_of_length_le (Nat.le_refl _)
      have hn1 : (tcT xss (r + 1)).1 = knock bs (cycs xss bs (lvN bs)).flatten := by rw [hnext]; rfl
      have hn2 : (tcT xss (r + 1)).2 = cs ++ cycs xss bs (lvN bs) := by rw [hnext]; rfl
      generalize (cycs xss bs (lvN bs)).flatten = G at *
      have hsub : ∀ Cs, tcT xss (r + 1) = (knock bs G, Cs) → Cs = cs ++ cycs xss bs (lvN bs) → True := fun _ _ _ => trivial
      by_cases hre : cs ++ cycs xss bs (lvN bs) = []
      · simp (config := {contextual := true}) [List.range, List.range.loop, ints, intss, int, bool, row, frac, fracs, ← List.map_take, ← List.map_drop, List.all, tpA, tpT, tpN, hre, hdl, htl]
        exact ⟨⟨r + 1, by omega⟩, by simp [sub, slotsLe, clean, keep, refsL, refs, once, place, renL, ren, List.replicate, int, bool, hn1, hn2, hre, intss, tpA, tpT], by simp; omega⟩
      · simp (config := {contextual := true}) [List.range, List.range.loop, ints, intss, int, bool, row, frac, fracs, ← List.map_take, ← List.map_drop, List.all, tpA, tpT, tpN, hre, hdl, htl]
        exact ⟨⟨r + 1, by omega⟩, by simp [sub, slotsLe, clean, keep, refsL, refs, once, place, renL, ren, List.replicate, int, bool, hn1, hn2, hre, intss, tpA, tpT], by simp; omega⟩

end Go.Proofs.YtlkgppincgpfjaaDoor.Ax
