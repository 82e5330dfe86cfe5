/- The contracts of the program's functions that tell target types. -/
import Derived.Test.YtpamfjbgnpmmoaaGreatDoorOrder
import Derived.Test.YtpamfjbgnpmmoaaGreatDoorName
namespace Go.Proofs.YtpamfjbgnpmmoaaGreatDoor
open Go.RowKit

theorem unk_no {s : ByteArray} (h : ¬ s.data.toList.head? = some 97) : unkI s.data.toList = false := by
  cases hl : s.data.toList with
  | nil => rfl
  | cons c r =>
    rw [hl] at h
    simp at h
    unfold unkI
    split
    · rename_i heq; simp only [List.cons.injEq] at heq; exact absurd heq.1 h
    · rfl

theorem unk_yes {s : ByteArray} (h : s.data.toList.head? = some 97) : unkI s.data.toList = (digsB (s.extract 1 s.size).data.toList && (decide ((s.extract 1 s.size).data.toList = [48]) || (decide ((s.extract 1 s.size).data.toList ≠ []) && decide ((s.extract 1 s.size).data.toList.head? ≠ some 48)))) := by
  rw [Lib.extract_to_end]
  cases hl : s.data.toList with
  | nil => simp [hl] at h
  | cons c r => rw [hl] at h; simp at h; subst h; rfl

theorem take1_a (s : ByteArray) : ((s.extract 0 1).toList == [97]) = decide (s.data.toList.head? = some 97) := by
  rw [Lib.extract_toList]
  cases s.data.toList with
  | nil => simp
  | cons c l => rw [Bool.eq_iff_iff]; simp

set_option maxRecDepth 100000 in
set_option maxHeartbeats 400000 in
theorem cutPrefix_yes (s : ByteArray) (w : World) (h : s.data.toList.head? = some 97) :
    Calls Tryz.prog 70 #[.string s, .string ⟨#[97]⟩] w fun e w' => e = .returned (.tuple #[.string (s.extract 1 s.size), .bool true]) ∧ w = w' := by
  have h1 : (1 : Int) ≤ (s.size : Int) := by rw [Lib.size_eq]; cases hl : s.data.toList with
    | nil => simp [hl] at h
    | cons c r => simp only [List.length_cons]; omega
  have ht : ((s.extract 0 1).toList == [97]) = true := by rw [take1_a]; simpa using h
  clear h
  go_enter Tryz.func70, Tryz.ntmps70
  go_wp2
  go_ret2
  exact ⟨rfl, rfl⟩

set_option maxRecDepth 100000 in
set_option maxHeartbeats 400000 in
theorem cutPrefix_no (s : ByteArray) (w : World) (h : ¬ s.data.toList.head? = some 97) :
    Calls Tryz.prog 70 #[.string s, .string ⟨#[97]⟩] w fun e w' => e = .returned (.tuple #[.string s, .bool false]) ∧ w = w' := by
  have ht : ((s.extract 0 1).toList == [97]) = false := by rw [take1_a]; simpa using h
  clear h
  by_cases h1 : (1 : Int) ≤ (s.size : Int)
  · go_enter Tryz.func70, Tryz.ntmps70
    go_wp2
    go_ret2
    exact ⟨rfl, rfl⟩
  · go_enter Tryz.func70, Tryz.ntmps70
    go_wp2
    go_ret2
    exact ⟨rfl, rfl⟩

set_option maxRecDepth 100000 in
set_option maxHeartbeats 800000 in
theorem isUnknown_any (s : ByteArray) (w : World) (hs : s.size ≤ 1000000000) :
    Calls Tryz.prog 54 #[.string s] w fun e w' => e = .returned (.bool (unkI s.data.toList)) ∧ w = w' := by
  by_cases h : s.data.toList.head? = some 97
  · have HU := Lib.hid (unk_yes h)
    have HC := Lib.hid (fun W => cutPrefix_yes s W h)
    have hz : (s.extract 1 s.size).size ≤ 1000000000 := by rw [Lib.size_eq, Lib.extract_to_end, List.length_drop, ← Lib.size_eq]; omega
    clear h
    have HD := Lib.hid (fun W => areDigits_any (s.extract 1 s.size) W hz)
    generalize s.extract 1 s.size = d at *
    by_cases he : d.data.toList = []
    · have e0 : d.toList.isEmpty = true := by rw [Lib.toList_data, he]; rfl
      have HF := Lib.hid (show unkI s.data.toList = false from by rw [HU.out, he]; rfl)
      clear he HD
      go_enter Tryz.func54, Tryz.ntmps54
      go_wp2_with (go_at_call 70; refine (HC.out _).mono ?_; rintro e w' ⟨rfl, rfl⟩)
      go_ret
      exact ⟨ret_bool HF.out.symm, rfl⟩
    · have e0 : d.toList.isEmpty = false := by rw [Lib.toList_data]; simpa using he
      have hd0 : 0 < d.size := by rw [Lib.size_eq]; exact List.length_pos_iff.2 he
      have HF := Lib.hid (show unkI s.data.toList = (digsB d.data.toList && ((d.toList == [48]) || ((d[0].toNat : Int) != 48))) from by
        rw [HU.out, head_get d hd0, ne48, Lib.toList_data, Bool.eq_iff_iff]; simp [he])
      clear he
      generalize digsB d.data.toList = b at *
      cases b
      · go_enter Tryz.func54, Tryz.ntmps54
        go_wp2_with (first | (go_at_call 70; refine (HC.out _).mono ?_; rintro e w' ⟨rfl, rfl⟩) | (go_at_call 52; refine (HD.out _).mono ?_; rintro e w' ⟨rfl, rfl⟩))
        go_ret
        exact ⟨ret_bool (by rw [HF.out]; rfl), rfl⟩
      · cases e1 : (d.toList == [48])
        · go_enter Tryz.func54, Tryz.ntmps54
          go_wp2_with (first | (go_at_call 70; refine (HC.out _).mono ?_; rintro e w' ⟨rfl, rfl⟩) | (go_at_call 52; refine (HD.out _).mono ?_; rintro e w' ⟨rfl, rfl⟩))
          go_ret
          exact ⟨ret_bool (by rw [HF.out, e1]; simp), rfl⟩
        · go_enter Tryz.func54, Tryz.ntmps54
          go_wp2_with (first | (go_at_call 70; refine (HC.out _).mono ?_; rintro e w' ⟨rfl, rfl⟩) | (go_at_call 52; refine (HD.out _).mono ?_; rintro e w' ⟨rfl, rfl⟩))
          go_ret
          exact ⟨ret_bool (by rw [HF.out, e1]; rfl), rfl⟩
  · have HU := Lib.hid (unk_no h)
    have HC := Lib.hid (fun W => cutPrefix_no s W h)
    clear h
    go_enter Tryz.func54, Tryz.ntmps54
    go_wp2_with (go_at_call 70; refine (HC.out _).mono ?_; rintro e w' ⟨rfl, rfl⟩)
    go_ret
    exact ⟨ret_bool HU.out.symm, rfl⟩

/-- The function literal that isTarget hands to the library. -/
theorem closure_any (hidden opn : Bool) (q : Tree) (A : Nat → Prop) (HQ : Hid (∀ v w', Rep w' A q v → Calls Tryz.prog 38 #[v, .bool hidden, .bool opn] w' fun e w'' => e = .returned (.bool (q.target unkI hidden opn)) ∧ Below w'.heap.size w' w''))
    (v : Value) (w : World) (hr : Rep w A q v) (b1 b2 : Nat) (h1 : w.cell? ⟨b1, 0, none⟩ = some (.bool hidden)) (h2 : w.cell? ⟨b2, 0, none⟩ = some (.bool opn)) :
    Calls Tryz.prog 56 #[v, .pointer (some ⟨b1, 0, none⟩), .pointer (some ⟨b2, 0, none⟩)] w fun e w' => e = .returned (.bool (!q.target unkI hidden opn)) ∧ Below w.heap.size w w' := by
  obtain ⟨s, ps⟩ := q
  have hr' := hr
  simp only [Rep] at hr
  obtain ⟨o, l, c, rfl, hs, hcap⟩ := hr
  have B0 := boxed0 w (.string s) (.slice o l c) 44
  have hl1 := lt_of_cell h1
  have hl2 := lt_of_cell h2
  generalize (Tree.node s ps).target unkI hidden opn = r at *
  go_enter Tryz.func56, Tryz.ntmps56
  go_wp2_with fail
  refine (HQ.out _ _ (Rep.keep (Keeps.alloc _ _ _) _ _ hr')).mono ?_
  rintro e w1 ⟨rfl, hb1⟩
  have B1 := Below.next B0 hb1; obtain ⟨x1, y1, hB1, hl1⟩ := boxed B1; clear hb1
  go_wp2
  go_ret
  exact ⟨rfl, hB1⟩

theorem targetL_take_all (u : List UInt8 → Bool) (hidden opn : Bool) (ps : List Tree) (h : ∀ (i : Nat) (q : Tree), ps[i]? = some q → q.target u hidden opn = true) : Tree.targetL u hidden opn ps = true := by
  induction ps with
  | nil => simp [Tree.targetL]
  | cons p ps ih =>
    simp only [Tree.targetL, Bool.and_eq_true]
    exact ⟨h 0 p rfl, ih fun i q hq => h (i + 1) q (by simpa using hq)⟩

theorem targetL_no (u : List UInt8 → Bool) (hidden opn : Bool) (ps : List Tree) (i : Nat) (q : Tree) (hq : ps[i]? = some q) (h : q.target u hidden opn = false) : Tree.targetL u hidden opn ps = false := by
  induction ps generalizing i with
  | nil => simp at hq
  | cons p ps ih =>
    simp only [Tree.targetL]
    cases i with
    | zero => simp at hq; subst hq; rw [h]; rfl
    | succ i => rw [ih i (by simpa using hq)]; simp

/-- The place that the library's search hands back. -/
def FoundAt (none_ : Bool) (w : World) (e : Ending) (w' : World) : Prop := ∃ z : Int, e = .returned (.int .i64 z) ∧ (none_ = true → z = -1) ∧ (none_ = false → 0 ≤ z) ∧ Below w.heap.size w w'

set_option maxRecDepth 100000 in
set_option maxHeartbeats 800000 in
theorem indexFunc_target (hidden opn : Bool) (ps : List Tree) (A : Nat → Prop)
    (HQ : Hid (∀ (i : Nat) (q : Tree), ps[i]? = some q → ∀ v w', Rep w' A q v → Calls Tryz.prog 38 #[v, .bool hidden, .bool opn] w' fun e w'' => e = .returned (.bool (q.target unkI hidden opn)) ∧ Below w'.heap.size w' w''))
    (w : World) (o : Option Addr) (c : Nat) (hs : RepS w A ps o ps.length) (b1 b2 : Nat) (h1 : w.cell? ⟨b1, 0, none⟩ = some (.bool hidden)) (h2 : w.cell? ⟨b2, 0, none⟩ = some (.bool opn)) (hln : ps.length ≤ 1000000000) :
    Calls Tryz.prog 71 #[.slice o ps.length c, .func (Fn.func 56) #[] #[.pointer (some ⟨b1, 0, none⟩), .pointer (some ⟨b2, 0, none⟩)]] w
      (FoundAt (Tree.targetL unkI hidden opn ps) w) := by
  go_enter Tryz.func71, Tryz.ntmps71
  go_wp2
  go_loopw [8] (fun i wr => ∃ k : Nat, k ≤ ps.length ∧ i = .int .i64 k ∧ Hid (∀ (j : Nat) (q : Tree), j < k → ps[j]? = some q → q.target unkI hidden opn = true) ∧ Below w.heap.size w wr) (fun i _ => ps.length - (intOf i).toNat)
  case atStart => exact ⟨0, Nat.zero_le _, rfl, fun j q hj => by omega, Below.refl _ _⟩
  case round =>
    obtain ⟨k, hk, rfl, HK, hbr⟩ := hrel
    by_cases hlt : k < ps.length
    · obtain ⟨q, hq⟩ : ∃ q, ps[k]? = some q := ⟨ps[k], by simp [hlt]⟩
      obtain ⟨b, off, o', n', c', rfl, -, hx, hy, hrp⟩ := (RepS.keep (Keeps.below hbr) _ _ _ hs).partAt hq
      have HC := Lib.hid (closure_any hidden opn q A (HQ.out k q hq) _ wr hrp b1 b2 ((hbr.cell (lt_of_cell h1)).trans h1) ((hbr.cell (lt_of_cell h2)).trans h2))
      have HN := Lib.hid hq
      clear hq
      go_wp2_with fail
      refine HC.out.mono ?_
      rintro e w1 ⟨rfl, hb1⟩
      have hB1 := hbr.trans (hb1.mono hbr.size)
      cases hqt : q.target unkI hidden opn
      · have HF := Lib.hid (targetL_no unkI hidden opn ps k q HN.out hqt)
        have HZ := Lib.hid hqt
        clear hqt HC
        go_wp2
        go_ret
        exact ⟨_, rfl, (fun h => by rw [HF.out] at h; cases h), (fun _ => by omega), hB1⟩
      · have HZ := Lib.hid hqt
        clear hqt HC
        go_wp2
        go_roundw
        case rel => exact ⟨k + 1, by omega, by go_num, fun j q' hj hq' => by
          by_cases h : j = k
          · subst h; rw [HN.out] at hq'; cases hq'; exact HZ.out
          · exact HK.out j q' (by omega) hq', hB1⟩
        case measure => simp [intOf]; omega
    · have HF := Lib.hid (targetL_take_all unkI hidden opn ps fun i q hq => HK.out i q (by have := (List.getElem?_eq_some_iff.1 hq).1; omega) hq)
      go_wp2
      go_ret
      exact ⟨_, rfl, (fun _ => rfl), (fun h => by rw [HF.out] at h; cases h), hbr⟩

theorem containsFunc_target (hidden opn : Bool) (ps : List Tree) (A : Nat → Prop)
    (HQ : Hid (∀ (i : Nat) (q : Tree), ps[i]? = some q → ∀ v w', Rep w' A q v → Calls Tryz.prog 38 #[v, .bool hidden, .bool opn] w' fun e w'' => e = .returned (.bool (q.target unkI hidden opn)) ∧ Below w'.heap.size w' w''))
    (w : World) (o : Option Addr) (c : Nat) (hs : RepS w A ps o ps.length) (b1 b2 : Nat) (h1 : w.cell? ⟨b1, 0, none⟩ = some (.bool hidden)) (h2 : w.cell? ⟨b2, 0, none⟩ = some (.bool opn)) (hln : ps.length ≤ 1000000000) :
    Calls Tryz.prog 55 #[.slice o ps.length c, .func (Fn.func 56) #[] #[.pointer (some ⟨b1, 0, none⟩), .pointer (some ⟨b2, 0, none⟩)]] w
      fun e w' => e = .returned (.bool (!Tree.targetL unkI hidden opn ps)) ∧ Below w.heap.size w w' := by
  have HI := Lib.hid (indexFunc_target hidden opn ps A HQ w o c hs b1 b2 h1 h2 hln)
  generalize Tree.targetL unkI hidden opn ps = r at *
  go_enter Tryz.func55, Tryz.ntmps55
  go_wp2_with fail
  refine HI.out.mono ?_
  rintro e w1 ⟨z, rfl, hz1, hz2, hb1⟩
  cases r
  · have hz := hz2 rfl
    clear hz1 hz2
    go_wp2
    go_ret
    exact ⟨ret_bool (by simp), hb1⟩
  · obtain rfl := hz1 rfl
    clear hz1 hz2
    go_wp2
    go_ret
    exact ⟨rfl, hb1⟩

/-- The three boxes of a call of isTarget, asked for in a later world. -/
theorem boxed3 {w wk : World} {x y : Value} {h o : Bool} {ty tb : TypeId} (hk : Below (w.heap.size + 3) (((w.alloc (.cells #[x, y] ty)).alloc (.cells #[.bool h] tb)).alloc (.cells #[.bool o] tb)) wk) :
    wk.cell? ⟨w.heap.size, 0, none⟩ = some x ∧ wk.cell? ⟨w.heap.size, 1, none⟩ = some y ∧ wk.cell? ⟨w.heap.size + 1, 0, none⟩ = some (.bool h) ∧ wk.cell? ⟨w.heap.size + 2, 0, none⟩ = some (.bool o) ∧ Below w.heap.size w wk ∧ w.heap.size < wk.heap.size ∧ w.heap.size + 1 < wk.heap.size ∧ w.heap.size + 2 < wk.heap.size := by
  have h0 := heap_alloc_new w (.cells #[x, y] ty)
  have h1 := heap_alloc_new (w.alloc (.cells #[x, y] ty)) (.cells #[.bool h] tb)
  have h2 := heap_alloc_new ((w.alloc (.cells #[x, y] ty)).alloc (.cells #[.bool h] tb)) (.cells #[.bool o] tb)
  simp only [World.size_alloc] at h1 h2
  have e0 := (hk.block w.heap.size (by omega)).trans ((Below.heap_alloc _ _ _ (by simp; omega)).trans ((Below.heap_alloc _ _ _ (by simp)).trans h0))
  have e1 := (hk.block (w.heap.size + 1) (by omega)).trans ((Below.heap_alloc _ _ _ (by simp)).trans h1)
  have e2 := (hk.block (w.heap.size + 2) (by omega)).trans h2
  have hs := hk.size
  simp only [World.size_alloc] at hs
  refine ⟨?_, ?_, ?_, ?_, (((((Below.refl _ _).alloc (Nat.le_refl _) _).alloc (by simp) _).alloc (by simp; omega) _).trans (hk.mono (by omega))), by omega, by omega, by omega⟩
  · simp only [World.cell?, e0]; rfl
  · simp only [World.cell?, e0]; rfl
  · simp only [World.cell?, e1]; rfl
  · simp only [World.cell?, e2]; rfl

set_option maxRecDepth 100000 in
set_option maxHeartbeats 1600000 in
theorem isTarget_any (opn : Bool) (n : Nat) : ∀ (t : Tree) (hidden : Bool) (A : Nat → Prop) (v : Value) (w : World), t.sz ≤ n → Rep w A t v → t.sz ≤ 1000000000 → (opn = true → Tree.atomsLe 1000000000 t) →
    Calls Tryz.prog 38 #[v, .bool hidden, .bool opn] w fun e w' => e = .returned (.bool (t.target unkI hidden opn)) ∧ Below w.heap.size w w' := by
  induction n with
  | zero => intro t hidden A v w h; cases t; simp [Tree.sz] at h
  | succ n ih =>
    intro t hidden A v w hn hr hb hat
    obtain ⟨s, ps⟩ := t
    have hr' := hr
    simp only [Rep] at hr
    obtain ⟨o, l, c, rfl, hs, hcap⟩ := hr
    obtain rfl := hs.len
    have B0 : Below (w.heap.size + 3) (((w.alloc (.cells #[.string s, .slice o ps.length c] 44)).alloc (.cells #[.bool hidden] 4)).alloc (.cells #[.bool opn] 4)) (((w.alloc (.cells #[.string s, .slice o ps.length c] 44)).alloc (.cells #[.bool hidden] 4)).alloc (.cells #[.bool opn] 4)) := Below.refl _ _
    cases ps with
    | nil =>
      have ht : (Tree.node s []).target unkI hidden opn = ((s.toList == [105]) || (hidden && (s.toList == [118])) || (opn && unkI s.data.toList)) := by
        rw [Lib.toList_data, Bool.eq_iff_iff]; simp [Tree.target]
      have HT := Lib.hid ht
      clear ht
      have HU : opn = true → Hid (∀ W, Calls Tryz.prog 54 #[.string s] W fun e w' => e = .returned (.bool (unkI s.data.toList)) ∧ W = w') := fun h W => isUnknown_any s W (hat h).1
      generalize unkI s.data.toList = u at *
      generalize hti : (Tree.node s []).target unkI hidden opn = tt at *
      go_enter Tryz.func38, Tryz.ntmps38
      go_wp2_with fail
      refine (isAtom_any _ _ _ _ _).mono ?_
      rintro e w1 ⟨rfl, hb1⟩
      have B1 := B0.trans (hb1.mono (by simp))
      obtain ⟨x1, y1, g1, k1, hB1, q1, q2, q3⟩ := boxed3 B1
      clear hb1
      have e0 : decide True = true := rfl
      cases e1 : (s.toList == [105])
      · cases hidden
        · cases opn
          · go_wp2
            go_ret
            exact ⟨ret_bool (by rw [HT.out, e1]; rfl), hB1⟩
          · have HU' := HU rfl
            clear HU hat
            go_wp2_with (go_at_call 54; refine (HU'.out _).mono ?_; rintro e w' ⟨rfl, rfl⟩)
            go_ret
            exact ⟨ret_bool (by rw [HT.out, e1]; rfl), hB1⟩
        · cases e2 : (s.toList == [118])
          · cases opn
            · go_wp2
              go_ret
              exact ⟨ret_bool (by rw [HT.out, e1, e2]; rfl), hB1⟩
            · have HU' := HU rfl
              clear HU hat
              go_wp2_with (go_at_call 54; refine (HU'.out _).mono ?_; rintro e w' ⟨rfl, rfl⟩)
              go_ret
              exact ⟨ret_bool (by rw [HT.out, e1, e2]; rfl), hB1⟩
          · go_wp2
            go_ret
            exact ⟨ret_bool (by rw [HT.out, e1, e2]; rfl), hB1⟩
      · go_wp2
        go_ret
        exact ⟨ret_bool (by rw [HT.out, e1]; rfl), hB1⟩
    | cons p ps =>
      obtain ⟨b, off, rfl, hA, hc⟩ := hs.uncons
      have hlen : (((p :: ps).length : Int) == 0) = false := by simp only [List.length_cons, beq_eq_false_iff_ne, ne_eq]; omega
      have hszp : ∀ (i : Nat) (q : Tree), (p :: ps)[i]? = some q → q.sz ≤ n ∧ q.sz ≤ 1000000000 := fun i q hq => by
        have := Tree.sz_part _ _ _ hq; simp only [Tree.sz] at hn hb; omega
      have hatp : ∀ (i : Nat) (q : Tree), ps[i]? = some q → opn = true → Tree.atomsLe 1000000000 q := fun i q hq h => Tree.atomsLe_part _ _ _ _ (by simpa using hq) ((hat h).2).2
      have hll := Tree.length_le_szL (p :: ps)
      have hls : (p :: ps).length = ps.length + 1 := rfl
      simp only [Tree.sz] at hb
      have HHD : Hid (∀ (v : Value) (w : World), Rep w A (.node s (p :: ps)) v → Calls Tryz.prog 33 #[v] w fun e w' => e = .returned (.string p.atom) ∧ Below w.heap.size w w') := fun v w hr => head_any (.node s (p :: ps)) A v w hr (by simp only [Tree.parts]; omega)
      have ht : (Tree.node s (p :: ps)).target unkI hidden opn = if p.atom.data.toList = [101] then decide (ps.length = 1) && Tree.targetL unkI true opn ps
          else (decide (p.atom.data.toList = [116]) || decide (p.atom.data.toList = [99])) && Tree.targetL unkI hidden opn ps := by simp only [Tree.target]
      have HT := Lib.hid ht
      clear ht
      simp only [List.length_cons] at B0 hcap hlen hr' hll
      clear hls
      go_enter Tryz.func38, Tryz.ntmps38
      go_wp2_with fail
      refine (isAtom_any _ _ _ _ _).mono ?_
      rintro e w1 ⟨rfl, hb1⟩
      have B1 := B0.trans (Below.mono (B' := w.heap.size + 3) hb1 (by simp))
      obtain ⟨x1, y1, g1, k1, hB1, q1, q2, q3⟩ := boxed3 B1
      clear hb1
      go_wp2_with fail
      refine (HHD.out _ _ (Rep.keep (Keeps.below hB1) _ _ hr')).mono ?_
      rintro e w2 ⟨rfl, hb2⟩
      have B2 := B1.trans (hb2.mono (by have := B1.size; simpa using this))
      obtain ⟨x2, y2, g2, k2, hB2, r1, r2, r3⟩ := boxed3 B2
      clear hb2
      have hsps : RepS w2 A ps (some ⟨b, off + 2, none⟩) ps.length := by
        have hc2 := RepC.keep (Keeps.below hB2) hA _ _ hc
        cases ps with
        | nil => exact RepS.nil _ _ _
        | cons p' ps' => simp only [RepC] at hc2; simp only [RepS]; exact ⟨b, off + 2, rfl, by simp, hA, by simp only [RepC]; exact hc2.2⟩
      have HSP := Lib.hid hsps
      clear hsps
      by_cases he : p.atom.data.toList = [101]
      · have e1 : (p.atom.toList == [101]) = true := by rw [Lib.toList_data]; simpa using he
        by_cases hl1 : ps.length = 1
        · obtain ⟨x, rfl⟩ : ∃ x, ps = [x] := by
            match ps, hl1 with
            | [x], _ => exact ⟨x, rfl⟩
          have HT2 := Lib.hid (show (Tree.node s [p, x]).target unkI hidden opn = x.target unkI true opn from by rw [HT.out, if_pos he]; simp [Tree.targetL])
          have HX := Lib.hid (fun v w' hr => ih x true A v w' (hszp 1 x rfl).1 hr (hszp 1 x rfl).2 (hatp 0 x rfl))
          obtain ⟨o1, n1, c1, ca1, cb1, rx⟩ := (RepC.keep (Keeps.below hB2) hA _ _ hc).nth 1 (k := off + 2) rfl rfl
          clear ih hszp hatp hat he HT hl1
          go_wp2_with fail
          have hS : ∀ w' : World, Below w2.heap.size w2 w' → w'.cell? ⟨w.heap.size, 1, none⟩ = some (.slice (some ⟨b, off, none⟩) 2 c) ∧ w'.cell? ⟨b, off + 2, none⟩ = some (.string x.atom) ∧ w'.cell? ⟨b, off + 2 + 1, none⟩ = some (.slice o1 n1 c1) ∧ w'.cell? ⟨w.heap.size + 2, 0, none⟩ = some (.bool opn) ∧ Below w2.heap.size w2 w' :=
            fun w' h => ⟨(h.cell (lt_of_cell y2)).trans y2, (h.cell (lt_of_cell ca1)).trans ca1, (h.cell (lt_of_cell cb1)).trans cb1, (h.cell (lt_of_cell k2)).trans k2, h⟩
          have HS := Lib.hid hS
          clear hS
          go_region_held3 (fun w' => w'.cell? ⟨w.heap.size, 1, none⟩ = some (.slice (some ⟨b, off, none⟩) 2 c) ∧ w'.cell? ⟨b, off + 2, none⟩ = some (.string x.atom) ∧ w'.cell? ⟨b, off + 2 + 1, none⟩ = some (.slice o1 n1 c1) ∧ w'.cell? ⟨w.heap.size + 2, 0, none⟩ = some (.bool opn) ∧ Below w2.heap.size w2 w') (first | exact HS.out _ (by assumption) | exact HS.out _ (Below.refl _ _).drew)
            (first
              | (go_at_call 38; refine (callQ (w1 := w2) ?_ (HX.out _ _ ?_)).mono ?_; (first | assumption | exact (Below.refl _ _).drew); (exact Rep.keep (Keeps.below (by first | assumption | exact (Below.refl _ _).drew)) _ _ rx); rintro e w' ⟨rfl, hb'⟩))
          have hq : ∀ w', Below w2.heap.size w2 w' → Below w.heap.size w w' := fun w' h => hB2.trans (h.mono hB2.size)
          go_wp2
          go_ret
          exact ⟨ret_bool (by rw [HT2.out]), hq _ (by assumption)⟩
        · have hlb : (((ps.length : Int) + 1) == 2) = false := by simp only [beq_eq_false_iff_ne, ne_eq]; omega
          have HT2 := Lib.hid (show (Tree.node s (p :: ps)).target unkI hidden opn = false from by rw [HT.out, if_pos he]; simp [hl1])
          clear ih hszp hatp hat he HT
          go_wp2_with fail
          go_quiet (fail)
          go_wp2
          go_ret
          exact ⟨ret_bool (by rw [HT2.out]), below_drewN hB2 _⟩
      · have e1 : (p.atom.toList == [101]) = false := by rw [Lib.toList_data]; simpa using he
        have HQ : Hid (∀ (i : Nat) (q : Tree), ps[i]? = some q → ∀ v w', Rep w' A q v → Calls Tryz.prog 38 #[v, .bool hidden, .bool opn] w' fun e w'' => e = .returned (.bool (q.target unkI hidden opn)) ∧ Below w'.heap.size w' w'') := fun i q hq v w' hr => ih q hidden A v w' (hszp (i + 1) q (by simpa using hq)).1 hr (hszp (i + 1) q (by simpa using hq)).2 (hatp i q hq)
        clear ih hszp hatp hat
        by_cases hall : p.atom.data.toList = [116]
        · have e2 : (p.atom.toList == [116]) = true := by rw [Lib.toList_data]; simpa using hall
          have HT2 := Lib.hid (show (Tree.node s (p :: ps)).target unkI hidden opn = Tree.targetL unkI hidden opn ps from by rw [HT.out, if_neg he, hall]; simp)
          clear he hall HT
          go_wp2_with fail
          · have hc1 : c = 1 := by first | assumption | omega
            have hps : ps = [] := List.eq_nil_of_length_eq_zero (by omega)
            subst hps
            refine (containsFunc_target hidden opn [] A (fun i q hq => by simp at hq) _ _ _ (RepS.nil _ _ _) _ _ g2 k2 (by simp)).mono ?_
            rintro e w3 ⟨rfl, hb3⟩
            have hB3 := hB2.trans (hb3.mono hB2.size)
            go_wp2
            go_ret
            exact ⟨ret_bool (by rw [HT2.out]; first | done | rfl), hB3⟩
          · refine (containsFunc_target hidden opn ps A HQ _ _ _ HSP.out _ _ g2 k2 (by omega)).mono ?_
            rintro e w3 ⟨rfl, hb3⟩
            have hB3 := hB2.trans (hb3.mono hB2.size)
            generalize Tree.targetL unkI hidden opn ps = r at *
            go_wp2
            go_ret
            exact ⟨ret_bool (by rw [HT2.out]; first | done | simp), hB3⟩
        · have e2 : (p.atom.toList == [116]) = false := by rw [Lib.toList_data]; simpa using hall
          by_cases hcc : p.atom.data.toList = [99]
          · have e3 : (p.atom.toList == [99]) = true := by rw [Lib.toList_data]; simpa using hcc
            have HT2 := Lib.hid (show (Tree.node s (p :: ps)).target unkI hidden opn = Tree.targetL unkI hidden opn ps from by rw [HT.out, if_neg he, hcc]; simp)
            clear he hall hcc HT
            go_wp2_with fail
            · have hc1 : c = 1 := by first | assumption | omega
              have hps : ps = [] := List.eq_nil_of_length_eq_zero (by omega)
              subst hps
              refine (containsFunc_target hidden opn [] A (fun i q hq => by simp at hq) _ _ _ (RepS.nil _ _ _) _ _ g2 k2 (by simp)).mono ?_
              rintro e w3 ⟨rfl, hb3⟩
              have hB3 := hB2.trans (hb3.mono hB2.size)
              go_wp2
              go_ret
              exact ⟨ret_bool (by rw [HT2.out]; first | done | rfl), hB3⟩
            · refine (containsFunc_target hidden opn ps A HQ _ _ _ HSP.out _ _ g2 k2 (by omega)).mono ?_
              rintro e w3 ⟨rfl, hb3⟩
              have hB3 := hB2.trans (hb3.mono hB2.size)
              generalize Tree.targetL unkI hidden opn ps = r at *
              go_wp2
              go_ret
              exact ⟨ret_bool (by rw [HT2.out]; first | done | simp), hB3⟩
          · have e3 : (p.atom.toList == [99]) = false := by rw [Lib.toList_data]; simpa using hcc
            have HT2 := Lib.hid (show (Tree.node s (p :: ps)).target unkI hidden opn = false from by rw [HT.out, if_neg he]; simp [hall, hcc])
            clear he hall hcc HT
            go_wp2
            go_ret
            exact ⟨ret_bool (by rw [HT2.out]), hB2⟩
/-- A text that is a target type. -/
def ptarget (s : List UInt8) : Option Tree := match parse s with | some t => if t.target unkI false false then some t else none | none => none

theorem ptarget_some {s : List UInt8} {t : Tree} : ptarget s = some t ↔ parse s = some t ∧ t.target unkI false false = true := by
  unfold ptarget
  cases h : parse s with
  | none => simp
  | some t' =>
    by_cases ht : t'.target unkI false false = true
    · simp only [ht, if_true, Option.some.injEq]
      constructor
      · rintro rfl; exact ⟨rfl, ht⟩
      · exact fun h => h.1
    · simp only [ht, if_false, Option.some.injEq, Bool.false_eq_true]
      constructor
      · intro h; cases h
      · rintro ⟨rfl, h⟩; exact absurd h ht

theorem ptarget_isSome (s : List UInt8) : (ptarget s).isSome = (match parse s with | some t => t.target unkI false false | none => false) := by
  unfold ptarget
  cases parse s with
  | none => rfl
  | some t => cases h : t.target unkI false false <;> simp [h]

set_option maxRecDepth 100000 in
set_option maxHeartbeats 800000 in
theorem readTarget_any (s : ByteArray) (w : World) (hs : s.size ≤ 1000000000) : Calls Tryz.prog 27 #[.string s] w (ReadP (ptarget s.data.toList) w) := by
  have HC := Lib.hid (fun W => read_any s W hs)
  go_enter Tryz.func27, Tryz.ntmps27
  go_wp2_with fail
  refine (HC.out _).mono ?_
  rintro e w1 ⟨a, o, l, c, ok, t, rfl, hb1, hr, hok, ht⟩
  have hB : Below w.heap.size w w1 := ((Below.refl _ _).alloc (Nat.le_refl _) _).trans (hb1.mono (by simp))
  obtain ⟨hc1, hf1⟩ := bcell hb1; have hz1 := hb1.size; simp only [World.size_alloc] at hc1 hf1 hz1; have hy1_0 : w.heap.size < w1.heap.size := by omega
  cases ok
  · have HN : Hid (ptarget s.data.toList = none) := by
      show _ = _; unfold ptarget
      cases hp : parse s.data.toList with
      | none => rfl
      | some t' => rw [hp] at hok; cases hok
    clear hok ht
    go_wp2
    go_region
    go_wp2
    exact bodyPost_ret (v := .tuple #[.agg #[.string a, .slice o l c], .bool false]) (by simp [results, Tryz.results27, go_sem, hc1, hy1_0]) rfl ⟨_, _, _, _, _, t, rfl, (((hB.setCell (by simp) _).setCell (by simp) _).alloc (by simp; omega) _).drew,
      Rep.weak (fun b (hb : w.heap.size + 1 ≤ b) => by omega) _ _ (Rep.keep ((((Keeps.refl _ _).setCell (fun b hb => by simp at hb ⊢; omega) _).setCell (fun b hb => by simp at hb ⊢; omega) _).alloc' _).drew _ _ (Rep.weak (fun b hb => by simpa using hb) _ _ hr)), by rw [HN.out]; rfl, fun t' ht => by rw [HN.out] at ht; cases ht⟩
  · obtain ⟨t', hp⟩ : ∃ t', parse s.data.toList = some t' := by
      cases hp : parse s.data.toList with
      | none => rw [hp] at hok; cases hok
      | some t' => exact ⟨t', rfl⟩
    obtain rfl := ht _ hp
    have hsz := parse_sz hp
    have HN : Hid ((ptarget s.data.toList).isSome = (t.target unkI false false) ∧ ∀ t', ptarget s.data.toList = some t' → t = t') := by
      refine ⟨?_, fun t' h => ?_⟩
      · unfold ptarget; rw [hp]; cases h : t.target unkI false false <;> simp [h]
      · rw [ptarget_some, hp] at h; exact Option.some.inj h.1
    have hr := Rep.weak (A' := fun b => w.heap.size + 1 ≤ b) (fun b hb => by simpa using hb) _ _ hr
    have HT := Lib.hid (fun v w' (hr : Rep w' (fun b => w.heap.size + 1 ≤ b) t v) => isTarget_any false _ t false _ v w' (Nat.le_refl _) hr (by omega) (fun h => by cases h))
    generalize (t.target unkI false false) = b at HN HT
    clear hok ht hp
    go_wp2_with fail
    obtain ⟨z1, z2⟩ := two_new w1 (.string a) (.slice o l c) 44
    have hr1 := Rep.keep (Keeps.alloc _ w1 (.cells #[.string a, .slice o l c] 44)) _ _ hr
    have hB1 : Below w.heap.size w (w1.alloc (.cells #[.string a, .slice o l c] 44)) := hB.alloc (by omega) _
    have q1 : (w1.alloc (.cells #[.string a, .slice o l c] 44)).cell? ⟨w.heap.size, 0, none⟩ = some (.string ⟨#[]⟩) := (World.cell?_of_block (w := w1) (Below.heap_alloc _ _ _ hy1_0)).trans ((hc1 _ _ (by omega)).trans (two_new w _ _ _).1)
    have q2 : (w1.alloc (.cells #[.string a, .slice o l c] 44)).cell? ⟨w.heap.size, 1, none⟩ = some (.slice none 0 0) := (World.cell?_of_block (w := w1) (Below.heap_alloc _ _ _ hy1_0)).trans ((hc1 _ _ (by omega)).trans (two_new w _ _ _).2)
    have q3 : ∀ j, (w1.alloc (.cells #[.string a, .slice o l c] 44)).frozen? ⟨w.heap.size, j, none⟩ = false := fun j => (World.frozen?_of_block (w := w1) (Below.heap_alloc _ _ _ hy1_0)).trans ((hf1 _ _ (by omega)).trans (frozen_new w _ _ _))
    go_region_with (go_at_call 38; refine (callQ (w1 := (w1.alloc (.cells #[.string a, .slice o l c] 44))) ?_ (HT.out _ _ ?_)).mono ?_; (first | assumption | exact (Below.refl _ _).drew); (exact Rep.keep (Keeps.below (by first | assumption | exact (Below.refl _ _).drew)) _ _ hr1); rintro e w' ⟨rfl, hb'⟩; have g1 := (hb'.cell (lt_of_cell z1)).trans z1; have g2 := (hb'.cell (lt_of_cell z2)).trans z2; have g3 := (hb'.cell (lt_of_cell q1)).trans q1; have g4 := (hb'.cell (lt_of_cell q2)).trans q2; have g5 := (hb'.frozen (lt_of_cell q1)).trans (q3 0); have g6 := (hb'.frozen (lt_of_cell q2)).trans (q3 1); have g7 := Nat.lt_of_lt_of_le (lt_of_cell q1) hb'.size)
    all_goals
      have hB2 := hB1.trans (hb'.mono hB1.size)
      go_wp2
      exact bodyPost_ret (v := .tuple #[.agg #[.string a, .slice o l c], .bool b]) (by simp [results, Tryz.results27, go_sem, g3, g4]) rfl ⟨_, _, _, _, _, t, rfl, (hB2.setCell (by simp) _).setCell (by simp) _,
        Rep.weak (fun b (hb : w.heap.size + 1 ≤ b) => by omega) _ _ (Rep.keep (((Keeps.below hb').setCell (fun b hb => by simp at hb ⊢; omega) _).setCell (fun b hb => by simp at hb ⊢; omega) _) _ _ hr1), HN.out.1.symm, HN.out.2⟩

end Go.Proofs.YtpamfjbgnpmmoaaGreatDoor
