/-
  Contract: ParseProfile (the reference's), at the text of a valid profile; its result is only read. No condition.
-/
import Derived.Test.YtigepnpiofcooaaGreatDoorCG10
import Derived.Test.YtigepnpiofcooaaGreatDoorCK4
import Derived.Test.YtigepnpiofcooaaGreatDoorCG9
namespace Go.Proofs.YtigepnpiofcooaaGreatDoor.Ax
open Go Go.RowKit
set_option linter.unusedSimpArgs false
def rwL (vs : List Vt) (ys : List Value) : List AV := (List.range ys.length).map fun i => .agg [.v (ys.getD i undef), .v (.int .i64 (vs.getD i ((true, []), 0)).2)]
theorem rwL_nil {vs : List Vt} : rwL vs [] = [] := rfl
theorem rwL_len {vs : List Vt} {ys : List Value} : (rwL vs ys).length = ys.length := by simp [rwL]
theorem rwL_snoc {vs : List Vt} {ys : List Value} {y : Value} (h : ys.length < vs.length) : rwL vs (ys ++ [y]) = rwL vs ys ++ [.agg [.v y, .v (.int .i64 vs[ys.length].2)]] := by
  unfold rwL
  rw [List.length_append, List.length_singleton, List.range_succ, List.map_append]
  congr 1
  · refine List.map_congr_left fun i hi => ?_
    rw [List.mem_range] at hi
    simp [List.getD_eq_getElem?_getD, List.getElem?_append_left hi]
  · simp [List.getD_eq_getElem?_getD, h]
def rwR (s : Int) (vs : List Vt) (ys : List Value) : AV := if ys = [] then .agg [.v (.int .i64 0), .sl true 1 []] else .agg [.v (.int .i64 s), .sl false 2 (rwL vs ys)]
def rwG (U : Ld) (w0 : World) (vs : List Vt) (V : Ld) (v0 : World) (ys : List Value) : Prop :=
  Ext U w0 V v0 ∧ ys.length ≤ vs.length ∧ ∀ i (h : i < ys.length) (h' : i < vs.length), Fac U w0 V v0 (.sl false 1 (vs[i].1.2.map int)) ys[i] ∧ ∃ b cap, ys[i] = .slice b vs[i].1.2.length cap
theorem fpr_45 {s : Int} {vs : List Vt} (h : profB s vs = true) (hne : vs ≠ []) : 0 < (fprS vs).size ∧ (45 : UInt8) ∉ bl (fprS vs) := by
  obtain ⟨_, _, hall⟩ := prof_facts h
  refine ⟨?_, join_mem (by decide) fun w hw => ?_⟩
  · have hv1 : ∀ v : Vt, 1 ≤ (vtS v).size := fun v => by
      have e : (⟨#[42]⟩ : ByteArray).size = 1 := rfl
      unfold vtS
      rw [ByteArray.size_append, ByteArray.size_append, e]; omega
    unfold fprS
    match vs, hne with
    | [v], _ => rw [List.map_cons, List.map_nil, joinS_one]; exact hv1 v
    | v :: w :: l, _ =>
      rw [List.map_cons, List.map_cons, joinS_cons, ByteArray.size_append, ByteArray.size_append]
      have := hv1 v; omega
  · obtain ⟨v, hv, rfl⟩ := List.mem_map.1 hw
    exact (vt_bytes (s := s) (by have := hall v hv; simp [vtB, inR]; exact this)).2.2
def okS (K : Nat) : AV → Bool
  | .ptr _ [] _ _ => true
  | x => !(refs x).contains K
theorem okS_ok {K : Nat} {x : AV} (h : okS K x = true) : K ∉ refs x ∨ ∃ i j, x = .ptr K [] i j := by
  by_cases hk : K ∈ refs x
  · right
    unfold okS at h
    split at h
    · rename_i t i j
      simp [refs] at hk
      subst hk
      exact ⟨i, j, rfl⟩
    · simp [hk] at h
  · exact .inl hk
theorem okS_all {K : Nat} {l : List AV} (h : l.all (okS K) = true) (i : Nat) (x : AV) (hx : l[i]? = some x) : K ∉ refs x ∨ ∃ i j, x = .ptr K [] i j := okS_ok (List.all_eq_true.1 h x (List.mem_of_getElem? hx))
theorem rw_facts {U : Ld} {w0 w : World} {E : Env} {V : Ld} {v0 : World} {vs : List Vt} {ys : List Value}
    (h : ∀ i (h : i < ys.length) (h' : i < vs.length), ∃ F : Nat → Prop, Rep w F (.sl false 1 (vs[i].1.2.map int)) ys[i] ∧ (∀ b, F b → b < w.heap.size ∧ (∀ t, ¬ E.S t b) ∧ (U.A b ∨ U.U b ∨ w0.heap.size ≤ b)) ∧ ∀ b, F b → V.A b ∨ V.U b ∨ v0.heap.size ≤ b) :
    ∃ F : Nat → Prop, (∀ i (h : i < ys.length) (h' : i < vs.length), Rep w F (.sl false 1 (vs[i].1.2.map int)) ys[i]) ∧ ∀ b, F b → b < w.heap.size ∧ (∀ t, ¬ E.S t b) ∧ (U.A b ∨ U.U b ∨ w0.heap.size ≤ b) := by
  refine ⟨fun b => ∃ i, ∃ (h1 : i < ys.length) (h2 : i < vs.length), Classical.choose (h i h1 h2) b, fun i h1 h2 => ?_, fun b hb => ?_⟩
  · exact (Classical.choose_spec (h i h1 h2)).1.weak (fun b hb => ⟨i, h1, h2, hb⟩) (Agree.refl _ _)
  · obtain ⟨i, h1, h2, hb⟩ := hb
    exact (Classical.choose_spec (h i h1 h2)).2.1 b hb
theorem ThL_of {w : World} {F : Nat → Prop} : ∀ {cs ds : List AV}, cs.length = ds.length → (∀ i (h : i < cs.length) (h' : i < ds.length), Th w F cs[i] ds[i]) → ThL w F cs ds
  | [], [], _, _ => by simp [ThL]
  | c :: cs, d :: ds, hl, h => by
    simp only [ThL]
    exact ⟨h 0 (by simp) (by simp), ThL_of (by simpa using hl) fun i h1 h2 => h (i + 1) (by simp; omega) (by simp; omega)⟩
  | [], _ :: _, hl, _ => by simp at hl
  | _ :: _, [], hl, _ => by simp at hl
theorem rw_th {w : World} {F : Nat → Prop} {s : Int} {vs : List Vt} {ys : List Value} (hl : ys.length = vs.length) (hfl : ∀ v ∈ vs, v.1.1 = false) (h : ∀ i (h : i < ys.length) (h' : i < vs.length), Rep w F (.sl false 1 (vs[i].1.2.map int)) ys[i]) :
    Th w F (.sl false 2 [.agg [.v (.int .i64 s), .sl false 2 (rwL vs ys)]]) (.sl false 2 [.agg [.v (.int .i64 s), .sl false 2 (vs.map vote)]]) := by
  simp only [Th, ThL, true_and, and_true]
  refine ThL_of (by rw [rwL_len, List.length_map, hl]) fun i h1 h2 => ?_
  rw [rwL_len] at h1
  rw [List.length_map] at h2
  have e1 : (rwL vs ys)[i]'(by rw [rwL_len]; exact h1) = .agg [.v ys[i], .v (.int .i64 vs[i].2)] := by simp [rwL, List.getD_eq_getElem?_getD, h1, h2]
  have e2 : (vs.map vote)[i]'(by simpa using h2) = .agg [.sl false 1 (vs[i].1.2.map int), .v (.int .i64 vs[i].2)] := by simp [vote, hfl _ (List.getElem_mem h2)]
  rw [e1, e2]
  simp only [Th, ThL, true_and, and_true]
  exact h i h1 h2
noncomputable def mVtx (s : Int) : List AV → Option AV := mk (fun t => ∃ v : Vt, vtB s v = true ∧ v.1.1 = false ∧ vtS v = t) (fun t : ByteArray => [str t]) (fun t => .tup [vote ((false, prkL (cutT t 42).2.1), (pI (cutT t 42).1).1), .v (.bool true)])
theorem vtx_val {s : Int} {v : Vt} (h : vtB s v = true) (hf : v.1.1 = false) : vote ((false, prkL (cutT (vtS v) 42).2.1), (pI (cutT (vtS v) 42).1).1) = vote v := by
  obtain ⟨hr, hi, _⟩ := vt_of h
  rw [vt_cut h]
  simp only [(prk_frk hr).1, pI_of hi]
  rw [← hf]
theorem mVtx_at {s : Int} {v : Vt} (h : vtB s v = true) (hf : v.1.1 = false) : mVtx s [.v (.string (vtS v))] = some (.tup [vote v, .v (.bool true)]) := by
  have := mk_eq (pre := fun t => ∃ v : Vt, vtB s v = true ∧ v.1.1 = false ∧ vtS v = t) (enc := fun t : ByteArray => [str t]) (f := fun t => .tup [vote ((false, prkL (cutT t 42).2.1), (pI (cutT t 42).1).1), .v (.bool true)]) (x := vtS v) (fun a b h => by rw [str_inj h]) ⟨v, h, hf, rfl⟩
  rw [vtx_val h hf] at this
  exact this
theorem vtx_ok (s : Int) : FnOk Tryz.prog 16 (mVtx s) := by
  refine mk_ok fun t ⟨v, h1, h2, h3⟩ => ?_
  subst h3
  rw [vtx_val h1 h2]
  exact specVt h1 h2
set_option maxRecDepth 8000 in
set_option maxHeartbeats 4000000 in
theorem specPpr (s : Int) (vs : List Vt) (h : profB s vs = true) (hne : vs ≠ []) (hfl : ∀ v ∈ vs, v.1.1 = false) : FrzOk Tryz.prog 9 [str (fprS vs)] true (.tup [prof s false vs, .v (.bool true)]) := by
  obtain ⟨_, h24, hall⟩ := prof_facts h
  have hT : fprT s vs = fprS vs := by unfold fprT; rw [if_pos h, if_neg hne]
  have hsz := fpr_size h
  have hdash := fpr_dash h
  have hsp := fpr_split h hne
  have hsa := mSpa_at (fprS vs) 32 (by omega)
  rw [hsp] at hsa
  have hpp := mProf_at s false vs
  rw [h] at hpp
  have hfp := mFpr_at s false vs
  rw [hT] at hfp
  have hvt : ∀ v ∈ vs, vtB s v = true := fun v hv => by have := hall v hv; simp [vtB, inR]; exact this
  -- the first byte
  obtain ⟨hpos, h45⟩ := fpr_45 h hne
  generalize fprS vs = t at *
  have hvx := vtx_ok s
  have hva := fun v (hv : v ∈ vs) => mVtx_at (hvt v hv) (hfl v hv)
  generalize mVtx s = mv at *
  have hG : FnsOk Tryz.prog [(14, mPI), (16, mv), (17, mProf), (18, mFpr)] := (.cons specPI_ok (.cons hvx (.cons specProf_ok (.cons specFpr_ok .nil))))
  have hM : FnsMut Tryz.prog [] := .nil
  have hV : FnsMov Tryz.prog [] := .nil
  have hK : FnsFrz Tryz.prog [(15, false, mSpa)] := (.cons (FnOk.frz specSpa_ok) .nil)
  refine frzOk_of_tr (C := _) (ctxH_ok eqOk hG hM hV hK) (dt := []) Tryz.func9 rfl (by kernel_rfl) (by kernel_rfl) fun A w0 => ?_
  refine tr_seq (tr_awp (live := [true, false, true, true, true, true, false, false, true, true, true, false, false, false, false, false, false, false, true, false, false, false, false, false, false, false, false, false, true, true, true, true, false, false, false, false, false, false, false, false, true, false, false, false, false, false, false, false, false, false, false, false, false, false, false, false, false, false, false, false, false, true]) (ctxH_ok eqOk hG hM hV hK) mixed _ _ _ ?_)
  simp [Tryz.f9, List.range, List.range.loop, ints, intss, int, bool, row, frac, fracs, ← List.map_take, ← List.map_drop, List.all, andThen, str]
  refine tr_seq (tr_awp (live := [true, false, true, true, true, true, false, false, true, true, true, false, false, false, false, false, false, false, true, false, false, false, false, false, false, false, false, false, true, true, true, true, false, false, false, false, false, false, false, false, true, false, false, false, false, false, false, false, false, false, false, false, false, false, false, false, false, false, false, false, false, true]) (ctxH_ok eqOk hG hM hV hK) mixed _ _ _ ?_)
  simp [List.range, List.range.loop, ints, intss, int, bool, row, frac, fracs, ← List.map_take, ← List.map_drop, List.all, andThen, str]
  have htne : ¬ t.toList = [] := fun e => by
    rw [ByteArray.toList_eq] at e
    have : (bl t).length = 0 := by unfold bl; rw [e]; rfl
    rw [bl_size] at this; omega
  have hie : t.toList.isEmpty = false := by
    cases hsl : t.toList with
    | nil => exact absurd hsl htne
    | cons _ _ => rfl
  have ht0 : ¬ ((t[0]'hpos).toNat : Int) = 45 := fun e => by
    have : (t[0]'hpos) = 45 := UInt8.toNat_inj.1 (by have e2 : (45 : UInt8).toNat = 45 := rfl; omega)
    exact h45 (this ▸ (by unfold bl; exact Array.getElem_mem_toList (xs := t.data) hpos))
  refine tr_seq (tr_seq (tr_awp (live := [true, false, true, true, true, true, false, false, true, true, true, false, false, false, false, false, false, false, true, false, false, false, false, false, false, false, false, false, true, true, true, true, false, false, false, false, false, false, false, false, true, false, false, false, false, false, false, false, false, false, false, false, false, false, false, false, false, false, false, false, false, true]) (ctxH_ok eqOk hG hM hV hK) mixed _ _ _ ?_))
  simp [List.range, List.range.loop, ints, intss, int, bool, row, frac, fracs, ← List.map_take, ← List.map_drop, List.all, andThen, str, htne, hie, hpos, ht0]
  refine tr_cond (t := false) (by simp [ev]; exact ht0) (fun h => by cases h) (fun _ => ?_)
  refine tr_seq (tr_awp (live := [true, false, true, true, true, true, false, false, true, true, true, false, false, false, false, false, false, false, true, false, false, false, false, false, false, false, false, false, true, true, true, true, false, false, false, false, false, false, false, false, true, false, false, false, false, false, false, false, false, false, false, false, false, false, false, false, false, false, false, false, false, true]) (ctxH_ok eqOk hG hM hV hK) mixed _ _ _ ?_)
  simp [List.range, List.range.loop, ints, intss, int, bool, row, frac, fracs, ← List.map_take, ← List.map_drop, List.all, andThen, str, hsa]
  refine tr_block (tr_of_sem fun K hKq => ?_)
  refine sem_loop (α := List Value) vs.length (rwG (frzLd A []) w0 vs) (fun ys => ⟨[str t, .junk, .ptr 0 [] 0 0, .junk, .ptr 1 [] 0 0, .junk, .junk, .junk, .junk, .junk, .junk, .junk, .junk, .junk, .junk, .junk, .junk, .junk, .junk, .junk, .junk, .junk, .junk, .junk, .junk, .junk, .junk, .junk, .sl false 1 ((vs.map vtS).map str), int vs.length, int ys.length, .junk, .junk, .junk, .junk, .junk, .junk, .junk, .junk, .junk, .junk, .junk, .junk, .junk, .junk, .junk, .junk, .junk, .junk, .junk, .junk, .junk, .junk, .junk, .junk, .junk, .junk, .junk, .junk, .junk, .junk, .junk, .junk, .junk], [⟨true, .sl false 2 [.agg [.v (.int .i64 0), .sl true 1 []]]⟩, ⟨true, .sl false 2 [rwR s vs ys]⟩]⟩) List.length [] rfl ⟨Ext.refl rfl rfl, by simp, fun i h => by simp at h⟩ rfl ?_ (fun V' v0' x hg => ⟨hg.1.dt, hg.1.idx, hg.1.ro⟩) ?_ ?_
  · refine (le_clean [true, false, true, false, true, false, false, false, false, false, false, false, false, false, false, false, false, false, false, false, false, false, false, false, false, false, false, false, true, true, true]).trans (le_sub ?_)
    simp [sub, slotsLe, clean, keep, refsL, refs, once, place, renL, ren, List.replicate, int, bool, rwR, str]
  · intro V v0 ys hg hlt M hMn
    obtain ⟨hE, hle, hfac⟩ := hg
    have hvm := List.getElem_mem hlt
    have hv1 := hva _ hvm
    have hf1 := hfl _ hvm
    refine sem_seqT (tr_awp (live := [true, false, true, true, true, true, false, false, true, true, true, false, false, false, false, false, false, false, true, false, false, false, false, false, false, false, false, false, true, true, true, true, false, false, false, false, false, false, false, false, true, false, false, false, false, false, false, false, false, false, false, false, false, false, false, false, false, false, false, false, false, true]) (ctxH_ok eqOk hG hM hV hK) mixed _ _ _ ?_)
    simp [List.range, List.range.loop, ints, intss, int, bool, row, frac, fracs, ← List.map_take, ← List.map_drop, List.all, andThen, str, hlt]
    refine sem_seqT (tr_awp (live := [true, false, true, true, true, true, false, false, true, true, true, false, false, false, false, false, false, false, true, false, false, false, false, false, false, false, false, false, true, true, true, true, false, false, false, false, false, false, false, false, true, false, false, false, false, false, false, false, false, false, false, false, false, false, false, false, false, false, false, false, false, true]) (ctxH_ok eqOk hG hM hV hK) mixed _ _ _ ?_)
    simp [List.range, List.range.loop, ints, intss, int, bool, row, frac, fracs, ← List.map_take, ← List.map_drop, List.all, andThen, str, hlt]
    refine sem_seq fun hcy => sem_block ?_
    refine sem_seqT (tr_awp (live := [true, false, true, true, true, true, false, false, true, true, true, false, false, false, false, false, false, false, true, false, false, false, false, false, false, false, false, false, true, true, true, true, false, false, false, false, false, false, false, false, true, false, false, false, false, false, false, false, false, false, false, false, false, false, false, false, false, false, false, false, false, true]) (ctxH_ok eqOk hG hM hV hK) mixed _ _ _ ?_)
    simp [List.range, List.range.loop, ints, intss, int, bool, row, frac, fracs, ← List.map_take, ← List.map_drop, List.all, andThen, str, hlt]
    have hvo : vote vs[ys.length] = .agg [.sl false 1 (vs[ys.length].1.2.map int), .v (.int .i64 vs[ys.length].2)] := by unfold vote; rw [hf1]
    rw [hvo] at hv1
    refine sem_seqT (tr_awp (live := [true, false, true, true, true, true, false, false, true, true, true, false, false, false, false, false, false, false, true, false, false, false, false, false, false, false, false, false, true, true, true, true, false, false, false, false, false, false, false, false, true, false, false, false, false, false, false, false, false, false, false, false, false, false, false, false, false, false, false, false, false, true]) (ctxH_ok eqOk hG hM hV hK) mixed _ _ _ ?_)
    simp [List.range, List.range.loop, ints, intss, int, bool, row, frac, fracs, ← List.map_take, ← List.map_drop, List.all, andThen, str, hv1]
    refine sem_seqT (tr_awp (live := [true, false, true, true, true, true, false, false, true, true, true, false, false, false, false, false, false, false, true, false, false, false, false, false, false, false, false, false, true, true, true, true, false, false, false, false, false, false, false, false, true, false, false, false, false, false, false, false, false, false, false, false, false, false, false, false, false, false, false, false, false, true]) (ctxH_ok eqOk hG hM hV hK) mixed _ _ _ ?_)
    simp [List.range, List.range.loop, ints, intss, int, bool, row, frac, fracs, ← List.map_take, ← List.map_drop, List.all, andThen, str]
    refine sem_ghost fun E a w hs => ?_
    obtain ⟨E1, hs1⟩ := le_freeze [2] E a w hs
    simp [freeze, frzA, frzAL, sets] at hs1
    obtain ⟨y, ⟨b, cap, hy⟩, hrep, hs2⟩ := hs1.hdr 9 (nl := false) (sz := 1) (es := vs[ys.length].1.2.map int) (cs := [.v (.int .i64 vs[ys.length].2)]) rfl
    have hE1 := hE.base hs1
    have hfn : Fac (frzLd A []) w0 (ldM V v0 E1) w (.sl false 1 (vs[ys.length].1.2.map int)) y := Fac.mk hE hs1 hrep
    have hold := fun i h h' => (hfac i h h').1.next hs1
    refine ⟨ldM V v0 E1, w, _, E1, hs2.base hE.nm, rfl, hE.idx.symm, rfl, ?_⟩
    clear hs hs1 hs2 hrep
    generalize ldM V v0 E1 = V1 at *
    have hsn := rwL_snoc (vs := vs) (ys := ys) (y := y) hlt
    have hrn : rwR s vs (ys ++ [y]) = .agg [.v (.int .i64 s), .sl false 2 (rwL vs ys ++ [.agg [.v y, .v (.int .i64 vs[ys.length].2)]])] := by
      unfold rwR
      rw [if_neg (by simp), hsn]
    have hlr : ((vs[ys.length].1.2.length : Nat) : Int) = s := (vt_of (hvt _ hvm)).2.2
    have hw1 : IntKind.i64.wrap ((ys.length : Int) + 1) = (ys.length : Int) + 1 := wrapI (by omega) (by omega)
    have hln := rwL_len (vs := vs) (ys := ys)
    have hbb : ys.length + 1 ≤ 4611686018427387904 ∧ (ys.length + 1) * 32 ≤ 140737488355328 := by omega
    have hone : y.oneCell' = true := by rw [hy]; rfl
    have hG2 : rwG (frzLd A []) w0 vs V1 w (ys ++ [y]) := by
      refine ⟨hE1, by simp; omega, fun i h h' => ?_⟩
      by_cases hi : i < ys.length
      · rw [List.getElem_append_left hi]
        exact ⟨hold i hi h', (hfac i hi h').2⟩
      · have e : i = ys.length := by simp at h; omega
        subst e
        rw [List.getElem_append_right (by omega)]
        simp only [Nat.sub_self, List.getElem_cons_zero]
        exact ⟨hfn, b, cap, by rw [hy]; simp⟩
    by_cases hy0 : ys = []
    · subst hy0
      simp only [List.length_nil] at *
      have hrn0 : rwR s vs [y] = .agg [.v (.int .i64 s), .sl false 2 [.agg [.v y, .v (.int .i64 vs[0].2)]]] := by simpa [rwL_nil] using hrn
      have hw0 : IntKind.i64.wrap 1 = 1 := wrapI (by omega) (by omega)
      refine sem_seqT (tr_awp (live := [true, false, true, true, true, true, false, false, true, true, true, false, false, false, false, false, false, false, true, false, false, false, false, false, false, false, false, false, true, true, true, true, false, false, false, false, false, false, false, false, true, false, false, false, false, false, false, false, false, false, false, false, false, false, false, false, false, false, false, false, false, true]) (ctxH_ok eqOk hG hM hV hK) mixed _ _ _ ?_)
      simp [List.range, List.range.loop, ints, intss, int, bool, row, frac, fracs, ← List.map_take, ← List.map_drop, List.all, andThen, rwR]
      refine sem_ghost fun E a w2 hs => ?_
      obtain ⟨F, hr, hF, hF2⟩ := hfn.at hs
      obtain ⟨E2, hs2⟩ := hs.unhdr 9 (nl := false) (sz := 1) rfl hr (fun b hb => ⟨(hF b hb).1, (hF b hb).2.1, hF2 b hb⟩)
      refine ⟨V1, w, _, E2, hs2, rfl, rfl, rfl, ?_⟩
      clear hs hs2 hr hF hF2
      simp only [List.set]
      refine sem_tr (tr_awp (live := [true, false, true, true, true, true, false, false, true, true, true, false, false, false, false, false, false, false, true, false, false, false, false, false, false, false, false, false, true, true, true, true, false, false, false, false, false, false, false, false, true, false, false, false, false, false, false, false, false, false, false, false, false, false, false, false, false, false, false, false, false, true]) (ctxH_ok eqOk hG hM hV hK) mixed _ _ _ ?_)
      simp [List.range, List.range.loop, ints, intss, int, bool, row, frac, fracs, ← List.map_take, ← List.map_drop, List.all, hlr]
      refine then_normal (hE1.ro.trans hE.ro.symm) (by rw [hE1.dt, hE1.idx, ← hE.dt, ← hE.idx]; exact hcy) (sem_tr (tr_awp (live := [true, false, true, true, true, true, false, false, true, true, true, false, false, false, false, false, false, false, true, false, false, false, false, false, false, false, false, false, true, true, true, true, false, false, false, false, false, false, false, false, true, false, false, false, false, false, false, false, false, false, false, false, false, false, false, false, false, false, false, false, false, true]) (ctxH_ok eqOk hG hM hV hK) mixed _ _ _ ?_))
      simp [List.range, List.range.loop, ints, intss, int, bool, row, frac, fracs, ← List.map_take, ← List.map_drop, List.all, hlr]
      intro E a w4 hs4
      obtain ⟨E5, hs5⟩ := ((le_clean [true, false, true, false, true, false, false, false, false, false, false, false, false, false, false, false, false, false, false, false, false, false, false, false, false, false, false, false, true, true, true]).trans (le_sub (s' := ⟨[str t, .junk, .ptr 0 [] 0 0, .junk, .ptr 1 [] 0 0, .junk, .junk, .junk, .junk, .junk, .junk, .junk, .junk, .junk, .junk, .junk, .junk, .junk, .junk, .junk, .junk, .junk, .junk, .junk, .junk, .junk, .junk, .junk, .sl false 1 ((vs.map vtS).map str), int vs.length, int (([] : List Value) ++ [y]).length, .junk, .junk, .junk, .junk, .junk, .junk, .junk, .junk, .junk, .junk, .junk, .junk, .junk, .junk, .junk, .junk, .junk, .junk, .junk, .junk, .junk, .junk, .junk, .junk, .junk, .junk, .junk, .junk, .junk, .junk, .junk, .junk, .junk], [⟨true, .sl false 2 [.agg [.v (.int .i64 0), .sl true 1 []]]⟩, ⟨true, .sl false 2 [rwR s vs (([] : List Value) ++ [y])]⟩]⟩) (by simp [sub, slotsLe, clean, keep, refsL, refs, once, place, renL, ren, List.replicate, int, bool, str, hrn0, hw0, hlr]))) E a w4 hs4
      exact hMn V1 w (([] : List Value) ++ [y]) hG2 (by simp) E5 a w4 hs5
    · refine sem_seqT (tr_awp (live := [true, false, true, true, true, true, false, false, true, true, true, false, false, false, false, false, false, false, true, false, false, false, false, false, false, false, false, false, true, true, true, true, false, false, false, false, false, false, false, false, true, false, false, false, false, false, false, false, false, false, false, false, false, false, false, false, false, false, false, false, false, true]) (ctxH_ok eqOk hG hM hV hK) mixed _ _ _ ?_)
      simp [List.range, List.range.loop, ints, intss, int, bool, row, frac, fracs, ← List.map_take, ← List.map_drop, List.all, andThen, rwR, hy0, hln, hbb]
      refine sem_ghost fun E a w2 hs => ?_
      obtain ⟨F, hr, hF, hF2⟩ := hfn.at hs
      obtain ⟨E2, hs2⟩ := hs.unhdr 9 (nl := false) (sz := 1) rfl hr (fun b hb => ⟨(hF b hb).1, (hF b hb).2.1, hF2 b hb⟩)
      refine ⟨V1, w, _, E2, hs2, rfl, rfl, rfl, ?_⟩
      clear hs hs2 hr hF hF2
      simp only [List.set]
      refine sem_tr (tr_awp (live := [true, false, true, true, true, true, false, false, true, true, true, false, false, false, false, false, false, false, true, false, false, false, false, false, false, false, false, false, true, true, true, true, false, false, false, false, false, false, false, false, true, false, false, false, false, false, false, false, false, false, false, false, false, false, false, false, false, false, false, false, false, true]) (ctxH_ok eqOk hG hM hV hK) mixed _ _ _ ?_)
      simp [List.range, List.range.loop, ints, intss, int, bool, row, frac, fracs, ← List.map_take, ← List.map_drop, List.all, hlr, hw1]
      refine then_normal (hE1.ro.trans hE.ro.symm) (by rw [hE1.dt, hE1.idx, ← hE.dt, ← hE.idx]; exact hcy) (sem_tr (tr_awp (live := [true, false, true, true, true, true, false, false, true, true, true, false, false, false, false, false, false, false, true, false, false, false, false, false, false, false, false, false, true, true, true, true, false, false, false, false, false, false, false, false, true, false, false, false, false, false, false, false, false, false, false, false, false, false, false, false, false, false, false, false, false, true]) (ctxH_ok eqOk hG hM hV hK) mixed _ _ _ ?_))
      simp [List.range, List.range.loop, ints, intss, int, bool, row, frac, fracs, ← List.map_take, ← List.map_drop, List.all, hlr, hw1]
      intro E a w4 hs4
      obtain ⟨E5, hs5⟩ := ((le_clean [true, false, true, false, true, false, false, false, false, false, false, false, false, false, false, false, false, false, false, false, false, false, false, false, false, false, false, false, true, true, true]).trans (le_sub (s' := ⟨[str t, .junk, .ptr 0 [] 0 0, .junk, .ptr 1 [] 0 0, .junk, .junk, .junk, .junk, .junk, .junk, .junk, .junk, .junk, .junk, .junk, .junk, .junk, .junk, .junk, .junk, .junk, .junk, .junk, .junk, .junk, .junk, .junk, .sl false 1 ((vs.map vtS).map str), int vs.length, int (ys ++ [y]).length, .junk, .junk, .junk, .junk, .junk, .junk, .junk, .junk, .junk, .junk, .junk, .junk, .junk, .junk, .junk, .junk, .junk, .junk, .junk, .junk, .junk, .junk, .junk, .junk, .junk, .junk, .junk, .junk, .junk, .junk, .junk, .junk, .junk], [⟨true, .sl false 2 [.agg [.v (.int .i64 0), .sl true 1 []]]⟩, ⟨true, .sl false 2 [rwR s vs (ys ++ [y])]⟩]⟩) (by simp [sub, slotsLe, clean, keep, refsL, refs, once, place, renL, ren, List.replicate, int, bool, str, hrn, hlr, hw1]))) E a w4 hs4
      exact hMn V1 w (ys ++ [y]) hG2 (by simp) E5 a w4 hs5
  · intro V v0 ys hg hlen M
    obtain ⟨hE, hle, hfac⟩ := hg
    have hy0 : ys ≠ [] := by intro e; subst e; simp at hlen; exact hne (List.length_eq_zero_iff.1 hlen.symm)
    refine sem_seqT (tr_awp (live := [true, false, true, true, true, true, false, false, true, true, true, false, false, false, false, false, false, false, true, false, false, false, false, false, false, false, false, false, true, true, true, true, false, false, false, false, false, false, false, false, true, false, false, false, false, false, false, false, false, false, false, false, false, false, false, false, false, false, false, false, false, true]) (ctxH_ok eqOk hG hM hV hK) mixed _ _ _ ?_)
    simp [List.range, List.range.loop, ints, intss, int, bool, row, frac, fracs, ← List.map_take, ← List.map_drop, List.all, andThen, str, hlen]
    refine sem_seqT (tr_awp (live := [true, false, true, true, true, true, false, false, true, true, true, false, false, false, false, false, false, false, true, false, false, false, false, false, false, false, false, false, true, true, true, true, false, false, false, false, false, false, false, false, true, false, false, false, false, false, false, false, false, false, false, false, false, false, false, false, false, false, false, false, false, true]) (ctxH_ok eqOk hG hM hV hK) mixed _ _ _ ?_)
    simp [List.range, List.range.loop, ints, intss, int, bool, row, frac, fracs, ← List.map_take, ← List.map_drop, List.all, andThen, str, hlen, rwR, hy0]
    intro E a w hs
    obtain ⟨F, hF1, hF2⟩ := rw_facts (fun i h h' => (hfac i h h').1.at hs)
    obtain ⟨E', hs'⟩ := (hE.back _ _ _ _ hs).thaw (K := 1) (row' := .sl false 2 [.agg [.v (.int .i64 s), .sl false 2 (vs.map vote)]]) rfl (rw_th hlen hfl hF1) hF2 (okS_all (by simp [okS, refs]))
    refine hKq (.exit 0) _ E' a w ?_ hs'
    simp [inBlock, andThen]
    refine tr_seq (tr_awp (live := [true, false, true, true, true, true, false, false, true, true, true, false, false, false, false, false, false, false, true, false, false, false, false, false, false, false, false, false, true, true, true, true, false, false, false, false, false, false, false, false, true, false, false, false, false, false, false, false, false, false, false, false, false, false, false, false, false, false, false, false, false, true]) (ctxH_ok eqOk hG hM hV hK) mixed _ _ _ ?_)
    simp [List.range, List.range.loop, ints, intss, int, bool, row, frac, fracs, ← List.map_take, ← List.map_drop, List.all, andThen, prof, str, hpp, hfp]
    refine Tr.pre (tr_awp (live := [true, false, true, true, true, true, false, false, true, true, true, false, false, false, false, false, false, false, true, false, false, false, false, false, false, false, false, false, true, true, true, true, false, false, false, false, false, false, false, false, true, false, false, false, false, false, false, false, false, false, false, false, false, false, false, false, false, false, false, false, false, true]) (ctxH_ok eqOk hG hM hV hK) mixed _ _ _ ?_) (le_freeze [1])
    simp [List.range, List.range.loop, ints, intss, int, bool, row, frac, fracs, ← List.map_take, ← List.map_drop, List.all, freeze, frzA, frzAL, sets, prof]
    done
end Go.Proofs.YtigepnpiofcooaaGreatDoor.Ax
namespace Go.Proofs.YtigepnpiofcooaaGreatDoor.Ax
open Go Go.RowKit
set_option linter.unusedSimpArgs false
def spT (c : UInt8) (r : ByteArray) : List Tok := [⟨true, .sl false 1 [str ⟨#[c]⟩]⟩, ⟨true, .sl false 1 [str r]⟩, ⟨true, .sl false 1 [int 0]⟩]
def spT0 (c : UInt8) (r : ByteArray) : List Tok := [⟨true, .sl false 1 [str r]⟩, ⟨true, .sl false 1 [str ⟨#[c]⟩]⟩, ⟨true, .sl false 1 [int 0]⟩]
set_option maxHeartbeats 2000000 in
set_option maxRecDepth 100000 in
theorem splitSeq1_at {s : ByteArray} {c : UInt8} (hsz : s.size ≤ 4611686018427387904) {w : World} {cv : Array Value} {Bi : Nat → Prop} (hlen : cv.size = 3) (hBi : ∀ b, Bi b → b < w.heap.size)
    (hcaps : ∀ (W1 : World) (F : Nat → Prop), Frm (fun _ => False) w W1 → ∃ E : Env, E.F = F ∧ (∀ t b, E.S t b → Bi b) ∧ SRepL W1 E (spT0 c s) [.ptr 1 [] 0 0, .ptr 0 [] 0 0, .ptr 2 [] 0 0] cv.toList ∧ (∀ t tk, (spT0 c s)[t]? = some tk → TokOk W1 E t tk) ∧ (∀ t t' b, t ≠ t' → E.S t b → ¬ E.S t' b)) :
    IterAt Tryz.prog 55 cv w Bi ((splitS s c).map str) := by
  have hG : FnsOk Tryz.prog [(57, mIxb)] := (.cons index_ok .nil)
  refine iterAt_of_ty (dt := []) (caps := [.ptr 1 [] 0 0, .ptr 0 [] 0 0, .ptr 2 [] 0 0]) Tryz.func55 rfl (by kernel_rfl) rfl (by kernel_rfl) hlen hBi hcaps fun w F0 B0 l J hJ hyield => ?_
  have c1 : (⟨#[c]⟩ : ByteArray).size = 1 := rfl
  refine ty_seq (ty_awp (ctx_ok eqOk hG) mixed hJ (live := [true, true, true, true, false, false, true, true, true, false, false, true, false, false, true, false, false, false, false, false, false, false, false, false, false, true, false, false, false, false, false, false, false, true, false, false, false, false, false, false, false, false, true]) fun X A w1 => ?_)
  simp [Tryz.f55, List.range, List.range.loop, ints, intss, int, bool, row, frac, fracs, ← List.map_take, ← List.map_drop, thenY_normal, yv, spT0, str, c1]
  refine ty_seq (ty_block (ty_loop (α := {p : Nat × ByteArray // (splitS s c).drop p.1 = splitS p.2 c ∧ p.2.size ≤ s.size}) (fun p => ⟨[.v (.func (.yield l) #[] #[]), .ptr 0 [] 0 0, .ptr 1 [] 0 0, .ptr 2 [] 0 0, .junk, .junk, .junk, .junk, .junk, .junk, .junk, .junk, .junk, .junk, .junk, .junk, .junk, .junk, .junk, .junk, .junk, .junk, .junk, .junk, .junk, .junk, .junk, .junk, .junk, .junk, .junk, .junk, .junk, .junk, .junk, .junk, .junk, .junk, .junk, .junk, .junk, .junk, .junk, .junk, .junk, .junk, .junk, .junk, .junk, .junk, .junk, .junk], spT c p.1.2⟩) (fun p => (true, p.1.1)) (fun p => p.1.2.size) ⟨(0, s), rfl, Nat.le_refl _⟩ ?_ ?_))
  · refine ⟨?_, rfl⟩
    simp [sub, slotsLe, clean, keep, refsL, refs, once, place, renL, ren, List.replicate, int, bool, spT, spT0, str]
  rintro ⟨⟨k, r⟩, hk, hrs⟩
  simp only at hk hrs
  have hi := mIxb_at r c
  refine ty_block ?_
  rcases split_idx (s := r) (c := c) with ⟨e1, e2⟩ | ⟨j, e1, e2, e3⟩
  · rw [e1] at hi
    refine ty_awp (ctx_ok eqOk hG) mixed hJ (live := [true, true, true, true, false, false, true, true, true, false, false, true, false, false, true, false, false, false, false, false, false, false, false, false, false, true, false, false, false, false, false, false, false, true, false, false, false, false, false, false, false, false, true]) fun X A w1 => ?_
    simp [List.range, List.range.loop, ints, intss, int, bool, row, frac, fracs, ← List.map_take, ← List.map_drop, spT, str, hi, thenY_normal, thenY_exit, inBY_exit, inBY_normal]
    rw [e2] at hk
    have hkl : k < (splitS s c).length := by
      have := congrArg List.length hk
      simp at this; omega
    have hkn : k + 1 = (splitS s c).length := by
      have := congrArg List.length hk
      simp at this; omega
    have hkg : (splitS s c)[k]? = some r := by
      have := congrArg (fun l => l[0]?) hk
      simpa using this
    refine ty_yield (ctx_ok eqOk hG) hJ hyield (pre := [_, _]) (slots := [.v (.func (.yield l) #[] #[]), .ptr 0 [] 0 0, .ptr 1 [] 0 0, .ptr 2 [] 0 0, .junk, .junk, .junk, .v (.int .i64 (-1)), .junk, .junk, .junk, .junk, .junk, .junk, .junk, .junk, .junk, .junk, .junk, .junk, .junk, .junk, .junk, .junk, .junk, .junk, .junk, .junk, .junk, .junk, .junk, .junk, .junk, .v (.bool true), .junk, .junk, .junk, .junk, .junk, .junk, .junk, .junk, .junk, .junk, .junk, .junk, .junk, .junk, .junk, .v (.func (.yield l) #[] #[]), .v (.string r), .junk]) (toks := spT c r) rfl rfl rfl rfl (by simp [List.range, List.range.loop, ints, intss, int, bool, row, frac, fracs, ← List.map_take, ← List.map_drop, spT, str]) (by rfl) (x := str r) ?_ ?_ ?_ ?_
    · simp [str, ev, res]
    · rw [List.getElem?_map, hkg]; rfl
    · exact ⟨.inl rfl, .inl (by rw [hkn])⟩
    · exact ⟨.inl rfl, .inr rfl⟩
  · rw [e1] at hi
    rw [e3] at hk
    have hkg : (splitS s c)[k]? = some (r.extract 0 j) := by
      have := congrArg (fun l => l[0]?) hk
      simpa using this
    have hkd : (splitS s c).drop (k + 1) = splitS (r.extract (j + 1) r.size) c := by
      have := congrArg (List.drop 1) hk
      rw [List.drop_drop] at this
      simpa using this
    have hj0 : ¬ ((j : Int) < 0) := by omega
    have hrsz : (r.extract (j + 1) r.size).size = r.size - (j + 1) := by rw [ByteArray.size_extract]; omega
    have v1 : IntKind.i64.wrap (j : Int) = j := wrapI (by omega) (by omega)
    have v2 : IntKind.i64.wrap ((j : Int) + 1) = (j : Int) + 1 := wrapI (by omega) (by omega)
    have hjr : j ≤ r.size := by omega
    have hjr1 : j + 1 ≤ r.size := by omega
    refine ty_seq (ty_awp (ctx_ok eqOk hG) mixed hJ (live := [true, true, true, true, false, false, true, true, true, false, false, true, false, false, true, false, false, false, false, false, false, false, false, false, false, true, false, false, false, false, false, false, false, true, false, false, false, false, false, false, false, false, true]) fun X A w1 => ?_)
    simp [List.range, List.range.loop, ints, intss, int, bool, row, frac, fracs, ← List.map_take, ← List.map_drop, spT, str, hi, thenY_normal, hj0]
    refine ty_seq (ty_awp (ctx_ok eqOk hG) mixed hJ (live := [true, true, true, true, false, false, true, true, true, false, false, true, false, false, true, false, false, false, false, false, false, false, false, false, false, true, false, false, false, false, false, false, false, true, false, false, false, false, false, false, false, false, true]) fun X A w1 => ?_)
    simp [List.range, List.range.loop, ints, intss, int, bool, row, frac, fracs, ← List.map_take, ← List.map_drop, spT, str, hi, thenY_normal, hj0, c1, v1, v2, hjr, hjr1]
    refine ty_seq (ty_awp (ctx_ok eqOk hG) mixed hJ (live := [true, true, true, true, false, false, true, true, true, false, false, true, false, false, true, false, false, false, false, false, false, false, false, false, false, true, false, false, false, false, false, false, false, true, false, false, false, false, false, false, false, false, true]) fun X A w1 => ?_)
    simp [List.range, List.range.loop, ints, intss, int, bool, row, frac, fracs, ← List.map_take, ← List.map_drop, spT, str, hi, thenY_normal, hj0, c1, v1, v2, hjr, hjr1]
    refine ty_seq (ty_seq (ty_yieldP (ctx_ok eqOk hG) hJ hyield (pre := [_, _]) (post := [_]) (slots := [.v (.func (.yield l) #[] #[]), .ptr 0 [] 0 0, .ptr 1 [] 0 0, .ptr 2 [] 0 0, .junk, .junk, .junk, .v (.int .i64 j), .v (.string (r.extract 0 j)), .junk, .junk, .junk, .junk, .junk, .junk, .junk, .junk, .junk, .junk, .junk, .junk, .junk, .junk, .junk, .junk, .junk, .junk, .junk, .junk, .junk, .junk, .junk, .junk, .v (.bool false), .junk, .junk, .junk, .junk, .junk, .v (.func (.yield l) #[] #[]), .v (.string (r.extract 0 j)), .junk, .junk, .junk, .junk, .junk, .junk, .junk, .junk, .junk, .junk, .junk]) (toks := spT c r) rfl rfl rfl rfl (by simp [List.range, List.range.loop, ints, intss, int, bool, row, frac, fracs, ← List.map_take, ← List.map_drop, spT, str]) (by rfl) (x := str (r.extract 0 j)) ?_ ?_
      (sT := ⟨[.v (.func (.yield l) #[] #[]), .ptr 0 [] 0 0, .ptr 1 [] 0 0, .ptr 2 [] 0 0, .junk, .junk, .junk, .v (.int .i64 j), .v (.string (r.extract 0 j)), .junk, .junk, .junk, .junk, .junk, .junk, .junk, .junk, .junk, .junk, .junk, .junk, .junk, .junk, .junk, .junk, .junk, .junk, .junk, .junk, .junk, .junk, .junk, .junk, .v (.bool false), .junk, .junk, .junk, .junk, .junk, .v (.func (.yield l) #[] #[]), .v (.string (r.extract 0 j)), .v (.bool true), .v (.bool false), .junk, .junk, .junk, .junk, .junk, .junk, .junk, .junk, .junk], spT c r⟩) (sF := ⟨[.v (.func (.yield l) #[] #[]), .ptr 0 [] 0 0, .ptr 1 [] 0 0, .ptr 2 [] 0 0, .junk, .junk, .junk, .v (.int .i64 j), .v (.string (r.extract 0 j)), .junk, .junk, .junk, .junk, .junk, .junk, .junk, .junk, .junk, .junk, .junk, .junk, .junk, .junk, .junk, .junk, .junk, .junk, .junk, .junk, .junk, .junk, .junk, .junk, .v (.bool false), .junk, .junk, .junk, .junk, .junk, .v (.func (.yield l) #[] #[]), .v (.string (r.extract 0 j)), .v (.bool false), .v (.bool true), .junk, .junk, .junk, .junk, .junk, .junk, .junk, .junk, .junk], spT c r⟩) (by simp [List.range, List.range.loop, ints, intss, int, bool, row, frac, fracs, ← List.map_take, ← List.map_drop, spT, str]) (by simp [List.range, List.range.loop, ints, intss, int, bool, row, frac, fracs, ← List.map_take, ← List.map_drop, spT, str]) ?_ ?_))
    · simp [str, ev, res]
    · rw [List.getElem?_map, hkg]; rfl
    · simp only [thenY_normal]
      refine ty_awp (ctx_ok eqOk hG) mixed hJ (live := [true, true, true, true, false, false, true, true, true, false, false, true, false, false, true, false, false, false, false, false, false, false, false, false, false, true, false, false, false, false, false, false, false, true, false, false, false, false, false, false, false, false, true]) fun X A w1 => ?_
      simp [List.range, List.range.loop, ints, intss, int, bool, row, frac, fracs, ← List.map_take, ← List.map_drop, thenY_normal]
      refine ty_awp (ctx_ok eqOk hG) mixed hJ (live := [true, true, true, true, false, false, true, true, true, false, false, true, false, false, true, false, false, false, false, false, false, false, false, false, false, true, false, false, false, false, false, false, false, true, false, false, false, false, false, false, false, false, true]) fun X A w1 => ?_
      simp [List.range, List.range.loop, ints, intss, int, bool, row, frac, fracs, ← List.map_take, ← List.map_drop, spT, str, thenY_normal, inBY_normal, c1, v1, v2, hjr, hjr1]
      refine ⟨⟨(k + 1, r.extract (j + 1) r.size), hkd, by rw [hrsz]; omega⟩, ?_, rfl, ?_⟩
      · simp [sub, slotsLe, clean, keep, refsL, refs, once, place, renL, ren, List.replicate, int, bool]
      · show (r.extract (j + 1) r.size).size < r.size
        rw [hrsz]; omega
    · simp only [thenY_normal]
      refine ty_awp (ctx_ok eqOk hG) mixed hJ (live := [true, true, true, true, false, false, true, true, true, false, false, true, false, false, true, false, false, false, false, false, false, false, false, false, false, true, false, false, false, false, false, false, false, true, false, false, false, false, false, false, false, false, true]) fun X A w1 => ?_
      simp [List.range, List.range.loop, ints, intss, int, bool, row, frac, fracs, ← List.map_take, ← List.map_drop, thenY_normal, thenY_ret, inBY_ret]
theorem splitSeq_ok {s : ByteArray} {c : UInt8} (hsz : s.size ≤ 4611686018427387904) : SeqOk Tryz.prog 40 [str s, str ⟨#[c]⟩, int 0] ((splitS s c).map str) := by
  have hG : FnsOk Tryz.prog [] := .nil
  refine seqOk_of_awp (gf := 55) (caps := [.ptr 1 [] 0 0, .ptr 0 [] 0 0, .ptr 2 [] 0 0]) (T0 := spT0 c s) (dt := []) (live := [true, true, true, true, true, true, true]) (ctx_ok eqOk hG) mixed Tryz.func40 rfl (by kernel_rfl) (by kernel_rfl) rfl (by simp) (fun t tk ht => .inr (by match t, ht with | 0, ht => simp [spT0] at ht; subst ht; rfl | 1, ht => simp [spT0] at ht; subst ht; rfl | 2, ht => simp [spT0] at ht; subst ht; rfl | _ + 3, ht => simp [spT0] at ht)) (fun _ _ _ hlen hBi hcaps => splitSeq1_at hsz hlen hBi hcaps) fun A w0 => ?_
  simp [Tryz.f40, List.range, List.range.loop, ints, intss, int, bool, row, frac, fracs, ← List.map_take, ← List.map_drop, str, spT0]
end Go.Proofs.YtigepnpiofcooaaGreatDoor.Ax
