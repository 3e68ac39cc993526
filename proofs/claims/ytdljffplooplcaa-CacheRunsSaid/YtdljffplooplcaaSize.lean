/- Size, Rules, arities of the reference. -/
import Derived.Test.YtdljffplooplcaaLeft
import Derived.Test.YtdljffplooplcaaNums
import Derived.Deep.Onto
namespace Go.Proofs.Ytdljffplooplcaa
open Go.RowKit
set_option linter.unusedVariables false

mutual
def rulesL : T → List Int
  | .node r ts => r :: rulesLL ts
def rulesLL : List T → List Int
  | [] => []
  | t :: ts => rulesL t ++ rulesLL ts
end
mutual
def aritsL : T → List Int
  | .node _ ts => (ts.length : Int) :: aritsLL ts
def aritsLL : List T → List Int
  | [] => []
  | t :: ts => aritsL t ++ aritsLL ts
end
theorem rulesL_eq (t : T) : rulesL t = t.rule :: rulesLL t.args := by cases t; simp [rulesL, T.args, T.rule]
theorem aritsL_eq (t : T) : aritsL t = (t.args.length : Int) :: aritsLL t.args := by cases t; simp [aritsL, T.args]
theorem rulesLL_append (xs ys : List T) : rulesLL (xs ++ ys) = rulesLL xs ++ rulesLL ys := by
  induction xs with
  | nil => simp [rulesLL]
  | cons x xs ih => simp only [List.cons_append, rulesLL, ih, List.append_assoc]
theorem aritsLL_append (xs ys : List T) : aritsLL (xs ++ ys) = aritsLL xs ++ aritsLL ys := by
  induction xs with
  | nil => simp [aritsLL]
  | cons x xs ih => simp only [List.cons_append, aritsLL, ih, List.append_assoc]
theorem rulesLL_take_succ (ts : List T) (k : Nat) (hk : k < ts.length) : rulesLL (ts.take (k + 1)) = rulesLL (ts.take k) ++ rulesL (ts.getD k default) := by
  rw [List.take_succ_eq_append_getElem hk, rulesLL_append]
  simp [rulesLL, List.getD, hk]
theorem aritsLL_take_succ (ts : List T) (k : Nat) (hk : k < ts.length) : aritsLL (ts.take (k + 1)) = aritsLL (ts.take k) ++ aritsL (ts.getD k default) := by
  rw [List.take_succ_eq_append_getElem hk, aritsLL_append]
  simp [aritsLL, List.getD, hk]

/-- A call that hands back a slice of its own with the numbers zs. -/
def Gives (zs : List Int) (w : World) (e : Ending) (w' : World) : Prop :=
  ∃ v, e = .returned v ∧ Own w' w.heap.size v zs ∧ Below w.heap.size w w'
mutual
theorem rulesL_len : ∀ t : T, (rulesL t).length = tsize t
  | .node r ts => by simp only [rulesL, tsize, List.length_cons, rulesLL_len ts]; omega
theorem rulesLL_len : ∀ ts : List T, (rulesLL ts).length = lsize ts
  | [] => rfl
  | t :: ts => by simp only [rulesLL, lsize, List.length_append, rulesL_len t, rulesLL_len ts]
end
mutual
theorem aritsL_len : ∀ t : T, (aritsL t).length = tsize t
  | .node r ts => by simp only [aritsL, tsize, List.length_cons, aritsLL_len ts]; omega
theorem aritsLL_len : ∀ ts : List T, (aritsLL ts).length = lsize ts
  | [] => rfl
  | t :: ts => by simp only [aritsLL, lsize, List.length_append, aritsL_len t, aritsLL_len ts]
end
theorem Below.grownBy {w w' : World} (h : Below w.heap.size w w') : w.grownBy w' none := ⟨h.os, h.tape, h.output, h.size, fun k hk _ => h.block k hk⟩
theorem Own.after {w w2 : World} {base : Nat} {v : Value} {zs : List Int} (h : Own w base v zs) (hb : Below w.heap.size w w2) : Own w2 base v zs := by
  refine h.kept (Below.grownBy hb) ?_
  rcases hv : v.ownBlock with _ | q
  · exact .inl rfl
  · exact .inr (by simp)
theorem Own.sl' {w : World} {base : Nat} {v : Value} {zs : List Int} (h : Own w base v zs) : ∃ a cap, v = .slice a zs.length cap ∧ Sl w a zs.length cap zs ∧ (a = none → cap = 0) := by
  obtain ⟨a, cap, rfl, hs⟩ := h.sl
  refine ⟨a, cap, rfl, hs, fun ha => ?_⟩
  rcases h.2 with ⟨h1, _⟩ | ⟨g, c, cur, h1, _⟩
  · injection h1
  · injection h1 with h2 h3 h4; rw [ha] at h2; cases h2
theorem own_one (w : World) (n : Int) (base g : Nat) (hg : g = w.heap.size) (hb : base ≤ w.heap.size) : Own (w.alloc (.cells #[.int .i64 n] 3)) base (.slice (some ⟨g, 0, none⟩) 1 1) [n] := by
  subst hg
  refine ⟨by simp, .inr ⟨w.heap.size, 1, #[.int .i64 n], rfl, hb, heap_alloc_new _ _, Nat.le_refl _, by unfold maxLen; omega, rfl, rfl⟩⟩
theorem Boxed.grown {w wr w2 : World} {v x : Value} (h : Boxed w v wr) (hg : wr.grownBy w2 x.ownBlock) (hx : ∀ q, x.ownBlock = some q → w.heap.size + 1 ≤ q) : Boxed w v w2 :=
  ⟨h.1.grown hg h.1.size (fun q hq => by have := hx q hq; omega), Nat.lt_of_lt_of_le h.2.1 hg.size, (hg.cell h.2.2 (fun e => by have := hx w.heap.size (by simpa using e.symm); omega))⟩

set_option maxHeartbeats 400000 in
theorem size_any : ∀ (n : Nat) (t : T) (v : Value) (P : Nat → Prop) (w : World), tsize t ≤ n → tsize t ≤ 1000 → Under P w.heap.size → ArgsAt w P v t.args →
    Calls Try.prog 38 #[.agg #[.int .i64 t.rule, v]] w (OneI (tsize t) w) := by
  intro n
  induction n with
  | zero => intro t v P w h; have := tsize_pos t; omega
  | succ n ih =>
    intro t v P w hn h1 hh hA
    have IH := Lib.hid ih
    clear ih
    obtain ⟨a, len, cap, ts, b, off, vs, hlen, hcap, hmax, ha, hr, hv, hs⟩ := hA
    generalize t.rule = r
    have hts := tsize_eq t
    obtain ⟨N, hN⟩ : ∃ N, tsize t = N := ⟨_, rfl⟩
    rw [hN] at hts hn h1 ⊢
    have HN := Lib.hid hts
    have HL := Lib.hid hlen
    have hmx : len ≤ 9223372036854775807 := by unfold maxLen at hmax; omega
    have HR := Lib.hid hr
    have HV := Lib.hid hv
    have HS := Lib.hid hs
    generalize t.args = ts at *
    clear hN hts hlen hr hv hs
    go_enter Try.func38, Try.ntmps38
    go_wp2
    go_loopw [3, 4] (fun c i wr => ∃ k : Nat, k ≤ len ∧ i = .int .i64 k ∧ c = .int .i64 ((1 + lsize (ts.take k) : Nat) : Int) ∧ Boxed w (.slice a len cap) wr) (fun _ i _ => len - (intOf i).toNat)
    case atStart => exact ⟨0, by omega, rfl, rfl, (Below.refl _ _).alloc (Nat.le_refl _) _, by simp, World.cell?_alloc_at _ _ _ _ rfl⟩
    case round =>
      obtain ⟨k, hk, rfl, rfl, hbox⟩ := hrel
      obtain ⟨hbel, hlt0, hcell⟩ := hbox
      have hcb : 1 + lsize (ts.take k) ≤ 1000 := by have := lsize_take_le ts k; have := HN.out; omega
      by_cases hlt : k < len
      · obtain ⟨rfl, hb⟩ := ha (by omega)
        have hkept : Kept P w wr := Below.keptB hbel hh
        have c1 := (hkept.cell (p := ⟨b, off + k * 2, none⟩) hb).trans (HR.out k hlt)
        have c2 := (hkept.cell (p := ⟨b, off + k * 2 + 1, none⟩) hb).trans (HV.out k hlt)
        have hsub := Lib.hid ((HS.out k hlt).kept hkept)
        have hst := Lib.hid (lsize_take_succ ts k (by rw [HL.out]; exact hlt))
        have hle : tsize (ts.getD k default) ≤ n ∧ tsize (ts.getD k default) ≤ 1000 := by
          have := tsize_getD ts k (by rw [HL.out]; exact hlt)
          have := HN.out
          omega
        have HB := Lib.hid (show Boxed w (.slice (some ⟨b, off, none⟩) len cap) wr from ⟨hbel, hlt0, hcell⟩)
        have hhi := Lib.hid (hh.le hbel.size)
        generalize ts.getD k default = u at *
        obtain ⟨cur, hcur⟩ : ∃ cur, 1 + lsize (ts.take k) = cur := ⟨_, rfl⟩
        rw [hcur] at hcb ⊢
        have HC := Lib.hid hcur
        clear hcur hbel hkept
        go_wp2_with fail
        refine (IH.out u (vs k) P wr hle.1 hle.2 hhi.out hsub.out).mono ?_
        rintro e w2 ⟨rfl, hb2⟩
        have hu := hle.2
        generalize hsu : tsize u = su at *
        have HSU := Lib.hid hsu
        clear hsu
        go_wp2
        go_roundw
        case rel =>
          refine ⟨k + 1, by omega, by go_num, ?_, HB.out.next hb2⟩
          rw [hst.out]
          have := HC.out
          have := HSU.out
          congr 1
          omega
        case measure => simp [intOf]; omega
      · have hk' : k = len := by omega
        have he := Lib.hid (show 1 + lsize (ts.take k) = N by rw [hk', List.take_of_length_le (by rw [HL.out]; exact Nat.le_refl _), HN.out])
        have hkl : ¬ (k : Int) < len := by omega
        clear hk'
        rw [he.out]
        go_wp2
        go_ret
        exact ⟨rfl, hbel⟩


set_option maxHeartbeats 800000 in
theorem rules_any : ∀ (n : Nat) (t : T) (v : Value) (P : Nat → Prop) (w : World), tsize t ≤ n → tsize t ≤ 1000 → Under P w.heap.size → ArgsAt w P v t.args →
    Calls Try.prog 40 #[.agg #[.int .i64 t.rule, v]] w (Gives (rulesL t) w) := by
  intro n
  induction n with
  | zero => intro t v P w h; have := tsize_pos t; omega
  | succ n ih =>
    intro t v P w hn h1 hh hA
    have IH := Lib.hid ih
    clear ih
    obtain ⟨a, len, cap, ts, b, off, vs, hlen, hcap, hmax, ha, hr, hv, hs⟩ := hA
    have hts := tsize_eq t
    have hrt := rulesL_eq t
    obtain ⟨N, hN⟩ : ∃ N, tsize t = N := ⟨_, rfl⟩
    obtain ⟨R, hR⟩ : ∃ R, rulesL t = R := ⟨_, rfl⟩
    rw [hN] at hts hn h1
    rw [hR] at hrt ⊢
    have HN := Lib.hid hts
    generalize t.rule = r at *
    generalize t.args = ts at *
    
    have HRT := Lib.hid hrt
    have HL := Lib.hid hlen
    have hmx : len ≤ 9223372036854775807 := by unfold maxLen at hmax; omega
    have HR := Lib.hid hr
    have HV := Lib.hid hv
    have HS := Lib.hid hs
    clear hN hR hts hlen hr hv hs hrt
    go_enter Try.func40, Try.ntmps40
    go_wp2
    go_loopw [3, 4] (fun c i wr => ∃ k : Nat, k ≤ len ∧ i = .int .i64 k ∧ Own wr (w.heap.size + 1) c (r :: rulesLL (ts.take k)) ∧ Boxed w (.slice a len cap) wr) (fun _ i _ => len - (intOf i).toNat)
    case atStart =>
      have e0 : (r :: rulesLL (ts.take 0)) = [r] := by simp [rulesLL]
      have hsz : w.heap.size + 1 ≤ (w.alloc (.cells #[.int .i64 r, .slice a len cap] 36)).heap.size := by simp
      refine ⟨0, by omega, rfl, by rw [e0]; exact own_one (w.alloc (.cells #[.int .i64 r, .slice a len cap] 36)) _ _ _ (by simp) hsz, ((Below.refl _ _).alloc (Nat.le_refl _) _).alloc (by simp) _, by simp; omega, ?_⟩
      exact (World.cell?_alloc_past (w := w.alloc (.cells #[.int .i64 r, .slice a len cap] 36)) _ _ _ (by simp)).trans (World.cell?_alloc_at _ _ _ _ rfl)
    case round =>
      obtain ⟨k, hk, rfl, hown, hbox⟩ := hrel
      obtain ⟨hbel, hlt0, hcell⟩ := hbox
      by_cases hlt : k < len
      · obtain ⟨rfl, hb⟩ := ha (by omega)
        have hkept : Kept P w wr := Below.keptB hbel hh
        have c1 := (hkept.cell (p := ⟨b, off + k * 2, none⟩) hb).trans (HR.out k hlt)
        have c2 := (hkept.cell (p := ⟨b, off + k * 2 + 1, none⟩) hb).trans (HV.out k hlt)
        have hsub := Lib.hid ((HS.out k hlt).kept hkept)
        have hst := Lib.hid (rulesLL_take_succ ts k (by rw [HL.out]; exact hlt))
        have hle : tsize (ts.getD k default) ≤ n ∧ tsize (ts.getD k default) ≤ 1000 := by
          have := tsize_getD ts k (by rw [HL.out]; exact hlt)
          have := HN.out
          omega
        have hcb : (rulesLL (ts.take k)).length ≤ 1000 := by rw [rulesLL_len]; have := lsize_take_le ts k; have := HN.out; omega
        have hub : (rulesL (ts.getD k default)).length ≤ 1000 := by rw [rulesL_len]; exact hle.2
        have HB := Lib.hid (show Boxed w (.slice (some ⟨b, off, none⟩) len cap) wr from ⟨hbel, hlt0, hcell⟩)
        have hhi := Lib.hid (hh.le hbel.size)
        generalize ts.getD k default = u at *
        obtain ⟨cur, hcur⟩ : ∃ cur, rulesLL (ts.take k) = cur := ⟨_, rfl⟩
        rw [hcur] at hcb hown hst
        have HU := Lib.hid hle
        clear hcur hbel hkept hle
        go_wp2_with fail
        refine (IH.out u (vs k) P wr HU.out.1 HU.out.2 hhi.out hsub.out).mono ?_
        rintro e w2 ⟨v2, rfl, hown2, hb2⟩
        obtain ⟨a2, cap2, rfl, hs2, hn2⟩ := hown2.sl'
        have hown1 := hown.after hb2
        have HB2 := Lib.hid (HB.out.next hb2)
        have hbase : w.heap.size + 1 ≤ w2.heap.size := HB2.out.2.1
        obtain ⟨zs, hzs⟩ : ∃ zs, rulesL u = zs := ⟨_, rfl⟩
        rw [hzs] at hs2 hub hst ⊢
        have hlen2 : (r :: cur).length + zs.length ≤ 1000000 := by rw [List.length_cons]; omega
        have HST := Lib.hid hst
        clear hown hown2 hb2 hzs hst hcb hub hsub
        go_wp2_with (at_builtin; go_loud (refine wpList_app rfl (.tmp 15) (.tmp 21) rfl (w.heap.size + 1) _ _ rfl hown1 _ _ _ _ rfl hs2 hn2 hlen2 hbase ?_); intro v' w3 hown3 hg3)
        go_roundw
        case rel =>
          refine ⟨k + 1, by omega, by go_num, ?_, HB2.out.grown hg3 (fun q hq => (hown1.lt q hq).1)⟩
          rw [HST.out]
          exact hown3
        case measure => simp [intOf]; omega
      · have hk' : k = len := by omega
        have he := Lib.hid (show (r :: rulesLL (ts.take k)) = R by rw [hk', List.take_of_length_le (by rw [HL.out]; exact Nat.le_refl _), HRT.out])
        have hkl : ¬ (k : Int) < len := by omega
        clear hk'
        rw [he.out] at hown
        go_wp2
        go_ret
        exact ⟨_, rfl, World.ownsRow.mono hown (by omega), hbel⟩


set_option maxHeartbeats 800000 in
theorem arits_any : ∀ (n : Nat) (t : T) (v : Value) (P : Nat → Prop) (w : World), tsize t ≤ n → tsize t ≤ 1000 → Under P w.heap.size → ArgsAt w P v t.args →
    Calls Try.prog 41 #[.agg #[.int .i64 t.rule, v]] w (Gives (aritsL t) w) := by
  intro n
  induction n with
  | zero => intro t v P w h; have := tsize_pos t; omega
  | succ n ih =>
    intro t v P w hn h1 hh hA
    have IH := Lib.hid ih
    clear ih
    obtain ⟨a, len, cap, ts, b, off, vs, hlen, hcap, hmax, ha, hr, hv, hs⟩ := hA
    have hts := tsize_eq t
    have hrt := aritsL_eq t
    obtain ⟨N, hN⟩ : ∃ N, tsize t = N := ⟨_, rfl⟩
    obtain ⟨R, hR⟩ : ∃ R, aritsL t = R := ⟨_, rfl⟩
    rw [hN] at hts hn h1
    rw [hR] at hrt ⊢
    have HN := Lib.hid hts
    generalize t.rule = r at *
    generalize t.args = ts at *
    rw [hlen] at hrt
    have HRT := Lib.hid hrt
    have HL := Lib.hid hlen
    have hmx : len ≤ 9223372036854775807 := by unfold maxLen at hmax; omega
    have HR := Lib.hid hr
    have HV := Lib.hid hv
    have HS := Lib.hid hs
    clear hN hR hts hlen hr hv hs hrt
    go_enter Try.func41, Try.ntmps41
    go_wp2
    go_loopw [3, 4] (fun c i wr => ∃ k : Nat, k ≤ len ∧ i = .int .i64 k ∧ Own wr (w.heap.size + 1) c ((len : Int) :: aritsLL (ts.take k)) ∧ Boxed w (.slice a len cap) wr) (fun _ i _ => len - (intOf i).toNat)
    case atStart =>
      have e0 : ((len : Int) :: aritsLL (ts.take 0)) = [(len : Int)] := by simp [aritsLL]
      have hsz : w.heap.size + 1 ≤ (w.alloc (.cells #[.int .i64 r, .slice a len cap] 36)).heap.size := by simp
      refine ⟨0, by omega, rfl, by rw [e0]; exact own_one (w.alloc (.cells #[.int .i64 r, .slice a len cap] 36)) _ _ _ (by simp) hsz, ((Below.refl _ _).alloc (Nat.le_refl _) _).alloc (by simp) _, by simp; omega, ?_⟩
      exact (World.cell?_alloc_past (w := w.alloc (.cells #[.int .i64 r, .slice a len cap] 36)) _ _ _ (by simp)).trans (World.cell?_alloc_at _ _ _ _ rfl)
    case round =>
      obtain ⟨k, hk, rfl, hown, hbox⟩ := hrel
      obtain ⟨hbel, hlt0, hcell⟩ := hbox
      by_cases hlt : k < len
      · obtain ⟨rfl, hb⟩ := ha (by omega)
        have hkept : Kept P w wr := Below.keptB hbel hh
        have c1 := (hkept.cell (p := ⟨b, off + k * 2, none⟩) hb).trans (HR.out k hlt)
        have c2 := (hkept.cell (p := ⟨b, off + k * 2 + 1, none⟩) hb).trans (HV.out k hlt)
        have hsub := Lib.hid ((HS.out k hlt).kept hkept)
        have hst := Lib.hid (aritsLL_take_succ ts k (by rw [HL.out]; exact hlt))
        have hle : tsize (ts.getD k default) ≤ n ∧ tsize (ts.getD k default) ≤ 1000 := by
          have := tsize_getD ts k (by rw [HL.out]; exact hlt)
          have := HN.out
          omega
        have hcb : (aritsLL (ts.take k)).length ≤ 1000 := by rw [aritsLL_len]; have := lsize_take_le ts k; have := HN.out; omega
        have hub : (aritsL (ts.getD k default)).length ≤ 1000 := by rw [aritsL_len]; exact hle.2
        have HB := Lib.hid (show Boxed w (.slice (some ⟨b, off, none⟩) len cap) wr from ⟨hbel, hlt0, hcell⟩)
        have hhi := Lib.hid (hh.le hbel.size)
        generalize ts.getD k default = u at *
        obtain ⟨cur, hcur⟩ : ∃ cur, aritsLL (ts.take k) = cur := ⟨_, rfl⟩
        rw [hcur] at hcb hown hst
        have HU := Lib.hid hle
        clear hcur hbel hkept hle
        go_wp2_with fail
        refine (IH.out u (vs k) P wr HU.out.1 HU.out.2 hhi.out hsub.out).mono ?_
        rintro e w2 ⟨v2, rfl, hown2, hb2⟩
        obtain ⟨a2, cap2, rfl, hs2, hn2⟩ := hown2.sl'
        have hown1 := hown.after hb2
        have HB2 := Lib.hid (HB.out.next hb2)
        have hbase : w.heap.size + 1 ≤ w2.heap.size := HB2.out.2.1
        obtain ⟨zs, hzs⟩ : ∃ zs, aritsL u = zs := ⟨_, rfl⟩
        rw [hzs] at hs2 hub hst ⊢
        have hlen2 : ((len : Int) :: cur).length + zs.length ≤ 1000000 := by rw [List.length_cons]; omega
        have HST := Lib.hid hst
        clear hown hown2 hb2 hzs hst hcb hub hsub
        go_wp2_with (at_builtin; go_loud (refine wpList_app rfl (.tmp 16) (.tmp 22) rfl (w.heap.size + 1) _ _ rfl hown1 _ _ _ _ rfl hs2 hn2 hlen2 hbase ?_); intro v' w3 hown3 hg3)
        go_roundw
        case rel =>
          refine ⟨k + 1, by omega, by go_num, ?_, HB2.out.grown hg3 (fun q hq => (hown1.lt q hq).1)⟩
          rw [HST.out]
          exact hown3
        case measure => simp [intOf]; omega
      · have hk' : k = len := by omega
        have he := Lib.hid (show ((len : Int) :: aritsLL (ts.take k)) = R by rw [hk', List.take_of_length_le (by rw [HL.out]; exact Nat.le_refl _), HRT.out])
        have hkl : ¬ (k : Int) < len := by omega
        clear hk'
        rw [he.out] at hown
        go_wp2
        go_ret
        exact ⟨_, rfl, World.ownsRow.mono hown (by omega), hbel⟩

end Go.Proofs.Ytdljffplooplcaa
