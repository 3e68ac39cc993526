/- The reference's state as it lies in memory; appends of whole slices. -/
import Derived.Test.YtdljffplooplcaaBd
import Derived.Test.YtdljffplooplcaaMem
namespace Go.Proofs.Ytdljffplooplcaa
open Go.RowKit
set_option linter.unusedVariables false

/-- The slice value v reads as these strings, whose cells lie in a block with P. -/
structure KeysAt (w : World) (P : Nat → Prop) (a : Option Addr) (len cap b off : Nat) (ks : List ByteArray) : Prop where
  hlen : ks.length = len
  hcap : len ≤ cap
  hmax : cap ≤ maxLen
  hnil : a = none → cap = 0
  ha : 0 < len → a = some ⟨b, off, none⟩ ∧ P b
  hc : ∀ i, i < len → w.cell? ⟨b, off + i, none⟩ = some (.string (ks.getD i ⟨#[]⟩))
theorem KeysAt.kept {w w' : World} {P : Nat → Prop} {a : Option Addr} {len cap b off : Nat} {ks : List ByteArray} (h : KeysAt w P a len cap b off ks) (hk : Kept P w w') : KeysAt w' P a len cap b off ks :=
  ⟨h.hlen, h.hcap, h.hmax, h.hnil, h.ha, fun i hi => (hk.cell (p := ⟨b, off + i, none⟩) (h.ha (by omega)).2).trans (h.hc i hi)⟩
theorem KeysAt.wide {w : World} {P P' : Nat → Prop} {a : Option Addr} {len cap b off : Nat} {ks : List ByteArray} (h : KeysAt w P a len cap b off ks) (hp : ∀ x, P x → P' x) : KeysAt w P' a len cap b off ks :=
  ⟨h.hlen, h.hcap, h.hmax, h.hnil, fun h0 => ⟨(h.ha h0).1, hp _ (h.ha h0).2⟩, h.hc⟩

/-- The state's two slices. -/
structure StAt (w : World) (P : Nat → Prop) (ka : Option Addr) (kl kc : Nat) (ta : Option Addr) (tl tc : Nat) (es : Es) : Prop where
  keys : ∃ b off, KeysAt w P ka kl kc b off (keysE es)
  terms : ArgsAt w P (.slice ta tl tc) (es.map (·.2))
  tnil : ta = none → tc = 0
  small : ∀ p, p ∈ es → tsize p.2 ≤ 1000
theorem StAt.kept {w w' : World} {P : Nat → Prop} {ka ta : Option Addr} {kl kc tl tc : Nat} {es : Es} (h : StAt w P ka kl kc ta tl tc es) (hk : Kept P w w') : StAt w' P ka kl kc ta tl tc es := by
  obtain ⟨⟨b, off, h1⟩, h2, h3, h4⟩ := h
  exact ⟨⟨b, off, h1.kept hk⟩, h2.kept hk, h3, h4⟩
theorem StAt.wide {w : World} {P P' : Nat → Prop} {ka ta : Option Addr} {kl kc tl tc : Nat} {es : Es} (h : StAt w P ka kl kc ta tl tc es) (hp : ∀ x, P x → P' x) : StAt w P' ka kl kc ta tl tc es := by
  obtain ⟨⟨b, off, h1⟩, h2, h3, h4⟩ := h
  exact ⟨⟨b, off, h1.wide hp⟩, h2.wide hp, h3, h4⟩
theorem StAt.lens {w : World} {P : Nat → Prop} {ka ta : Option Addr} {kl kc tl tc : Nat} {es : Es} (h : StAt w P ka kl kc ta tl tc es) : es.length = kl ∧ es.length = tl := by
  obtain ⟨⟨b, off, h1⟩, h2, h3, h4⟩ := h
  have e1 := h1.hlen
  have e2 := h2.len
  simp [keysE] at e1 e2
  exact ⟨e1, e2⟩

/-- append(s, x...), s the call's own -/
theorem step_appR {w : World} {ops : Array Oper} {o : Oper} {a : Act} {K : Act → World → Prop} {Q : Exit → Act → World → Prop} {E : Prop} (hgd : o.guard = none) (s x : Operand) (t : TypeId)
    (ho : o.op = .call { callee := .builtin .append, args := #[s, x], argTypes := #[t, t] })
    (base : Nat) (e : TypeId) (i : TypeInfo) (z : Value) (size bytes : Nat) (ht : Try.prog.underlying t = some (.slice e)) (hi : Try.prog.info? e = some i) (hz : i.zero = some z)
    (hsize : i.size = size) (hby : i.bytes = bytes) (hzs : z.cells.size = size) (hsz : 0 < size)
    (v : Value) (n : Nat) (xs : List Value) (hs : a.eval s = v) (hown : w.ownsRow base e size v n xs)
    (ad : Addr) (m c : Nat) (news : List Value) (hx : a.eval x = .slice (some ad) m c) (hl : news.length = m * size) (hnews : ∀ j u, news[j]? = some u → w.cell? (ad.add j) = some u) (h1 : ∀ u ∈ news, u.oneCell' = true)
    (h63 : n + m ≤ maxLen) (hbytes : (n + m) * bytes ≤ 140737488355328) (hbase : base ≤ w.heap.size)
    (h : ∀ v' w', w'.ownsRow base e size v' (n + m) (xs ++ news) → w.grownBy w' v.ownBlock → K (a.put o.dst v') w') :
    if Region.wanted o (yielded ops a.tmps) = true then Oper.wp Try.prog o a w K Q else E := by
  have hw : Region.wanted o (yielded ops a.tmps) = true := by simp [Region.wanted, hgd]
  rw [if_pos hw]
  exact wp_append_own (P := Try.prog) w s x t ho base e i z size bytes ht hi hz hsize hby hzs hsz v n xs hs hown ad m c news hx hl hnews h1 h63 hbytes hbase fun v' w' g1 g2 _ => h v' w' g1 g2

theorem strs_one (ys : List ByteArray) : ∀ u ∈ strs ys, u.oneCell' = true := fun u hu => by
  obtain ⟨y, _, rfl⟩ := List.mem_map.1 hu; rfl
theorem strs_append (xs ys : List ByteArray) : strs (xs ++ ys) = strs xs ++ strs ys := List.map_append
theorem strs_len (ys : List ByteArray) : (strs ys).length = ys.length := List.length_map _
/-- a part of the keys as the source of an append -/
theorem KeysAt.src {w : World} {P : Nat → Prop} {a : Option Addr} {len cap b off : Nat} {ks : List ByteArray} (h : KeysAt w P a len cap b off ks) (lo n : Nat) (hl : lo + n ≤ len) (o2 : Nat) (ho : 0 < n → o2 = off + lo) :
    ∀ j u, (strs ((ks.drop lo).take n))[j]? = some u → w.cell? ((⟨b, o2, none⟩ : Addr).add j) = some u := by
  intro j u hu
  have hj : j < n := by
    have := (List.getElem?_eq_some_iff.1 hu).1
    rw [strs_len, List.length_take, List.length_drop] at this
    omega
  rw [ho (by omega), Addr.add_lit, Nat.add_assoc, h.hc (lo + j) (by omega)]
  have hl2 := h.hlen
  simp [strs, hj] at hu
  obtain ⟨y, hy, rfl⟩ := hu
  simp [List.getD, hy]
theorem keys_own {w : World} {base : Nat} {v : Value} {n : Nat} {ks : List ByteArray} (h : w.ownsRow base 9 1 v n (strs ks)) (hn : ks.length = n) (hbase : base ≤ w.heap.size) :
    ∃ a cap b off, v = .slice a n cap ∧ KeysAt w (Span base w.heap.size) a n cap b off ks := by
  subst hn
  rcases h.2 with ⟨hv, h0⟩ | ⟨g, cap, cur, hv, hb, hg, hn, hm, hs, ht⟩
  · exact ⟨none, 0, 0, 0, by rw [h0]; exact hv, rfl, by omega, by unfold maxLen; omega, fun _ => rfl, fun h => by omega, fun i hi => by omega⟩
  · refine ⟨_, cap, g, 0, hv, rfl, hn, hm, fun h => (by cases h), fun _ => ⟨rfl, hb, (Array.getElem?_eq_some_iff.1 hg).1⟩, fun i hi => ?_⟩
    have := World.ownsRow.cells h (g := g) (by rw [hv]; rfl) i (.string (ks.getD i ⟨#[]⟩)) (by simp [strs, List.getD, hi])
    rw [Addr.add_lit] at this
    exact this

theorem rowT_app : ∀ (ts us : List T) (vs xs : List Value), vs.length = ts.length → rowT (ts ++ us) (vs ++ xs) = rowT ts vs ++ rowT us xs
  | [], us, [], xs, _ => rfl
  | t :: ts, us, v :: vs, xs, h => by simp only [List.cons_append, rowT]; rw [rowT_app ts us vs xs (by simpa using h)]
  | [], us, v :: vs, xs, h => by simp at h
  | t :: ts, us, [], xs, h => by simp at h
theorem rowT_one : ∀ (ts : List T) (vs : List Value), vs.length = ts.length → (∀ v ∈ vs, v.oneCell' = true) → ∀ u ∈ rowT ts vs, u.oneCell' = true
  | [], [], _, _, u, hu => by simp [rowT] at hu
  | t :: ts, v :: vs, h, hv, u, hu => by
    simp only [rowT, List.mem_cons] at hu
    rcases hu with rfl | rfl | hu
    · rfl
    · exact hv _ (by simp)
    · exact rowT_one ts vs (by simpa using h) (fun x hx => hv x (by simp [hx])) u hu
  | [], v :: vs, h, _, _, _ => by simp at h
  | t :: ts, [], h, _, _, _ => by simp at h
theorem terms_own {w : World} {base : Nat} {v : Value} {n : Nat} {P : Nat → Prop} {ts : List T} {vs : List Value} (h : w.ownsRow base 36 2 v n (rowT ts vs)) (hn : ts.length = n) (hvl : vs.length = ts.length)
    (hsub : ∀ i, i < ts.length → ArgsAt w P (vs.getD i undef) (ts.getD i default).args) :
    ∃ a cap, v = .slice a n cap ∧ (a = none → cap = 0) ∧ ArgsAt w (fun x => P x ∨ Span base w.heap.size x) v ts := by
  subst hn
  rcases h.2 with ⟨hv, h0⟩ | ⟨g, cap, cur, hv, hb, hg, hn, hm, hs, ht⟩
  · refine ⟨none, 0, by rw [h0]; exact hv, fun _ => rfl, ?_⟩
    have : ts = [] := List.eq_nil_of_length_eq_zero h0
    subst this
    rw [hv]
    exact ArgsAt.nil _ _
  · refine ⟨_, cap, hv, fun h => (by cases h), ?_⟩
    have hc : ∀ j u, (rowT ts vs)[j]? = some u → w.cell? ⟨g, 0 + j, none⟩ = some u := by
      intro j u hu
      have := World.ownsRow.cells h (g := g) (by rw [hv]; rfl) j u hu
      rw [Addr.add_lit] at this
      exact this
    rw [hv]
    refine .mk _ ts.length cap ts g 0 (fun i => vs.getD i undef) rfl hn hm (fun _ => ⟨rfl, .inr ⟨hb, (Array.getElem?_eq_some_iff.1 hg).1⟩⟩) ?_ ?_ ?_
    · intro i hi
      exact hc _ _ (rowT_at ts vs hvl i hi).1
    · intro i hi
      rw [Nat.add_assoc]
      exact hc _ _ (rowT_at ts vs hvl i hi).2
    · intro i hi
      exact (hsub i hi).wide fun k hk => .inl hk

/-- a slice of terms that reads, as cells -/
structure TermsAt (w : World) (P : Nat → Prop) (a : Option Addr) (len cap b off : Nat) (ts : List T) (vs : List Value) : Prop where
  hlen : ts.length = len
  hvl : vs.length = len
  hcap : len ≤ cap
  hmax : cap ≤ maxLen
  ha : 0 < len → a = some ⟨b, off, none⟩ ∧ P b
  hr : ∀ i, i < len → w.cell? ⟨b, off + i * 2, none⟩ = some (.int .i64 (ts.getD i default).rule)
  hv : ∀ i, i < len → w.cell? ⟨b, off + i * 2 + 1, none⟩ = some (vs.getD i undef)
  hs : ∀ i, i < len → ArgsAt w P (vs.getD i undef) (ts.getD i default).args
theorem ArgsAt.terms {w : World} {P : Nat → Prop} {a : Option Addr} {len cap : Nat} {ts : List T} (h : ArgsAt w P (.slice a len cap) ts) : ∃ b off vs, TermsAt w P a len cap b off ts vs := by
  cases h with
  | mk _ _ _ _ b off vs hlen hcap hmax ha hr hv hs =>
    have e : ∀ i, i < len → ((List.range len).map vs).getD i undef = vs i := fun i hi => by simp [List.getD, hi]
    exact ⟨b, off, (List.range len).map vs, hlen, by simp, hcap, hmax, ha, hr, fun i hi => by rw [e i hi]; exact hv i hi, fun i hi => by rw [e i hi]; exact hs i hi⟩
theorem TermsAt.kept {w w' : World} {P : Nat → Prop} {a : Option Addr} {len cap b off : Nat} {ts : List T} {vs : List Value} (h : TermsAt w P a len cap b off ts vs) (hk : Kept P w w') : TermsAt w' P a len cap b off ts vs :=
  ⟨h.hlen, h.hvl, h.hcap, h.hmax, h.ha, fun i hi => (hk.cell (p := ⟨b, off + i * 2, none⟩) (h.ha (by omega)).2).trans (h.hr i hi), fun i hi => (hk.cell (p := ⟨b, off + i * 2 + 1, none⟩) (h.ha (by omega)).2).trans (h.hv i hi), fun i hi => (h.hs i hi).kept hk⟩
theorem TermsAt.one {w : World} {P : Nat → Prop} {a : Option Addr} {len cap b off : Nat} {ts : List T} {vs : List Value} (h : TermsAt w P a len cap b off ts vs) : ∀ v ∈ vs, v.oneCell' = true := by
  intro v hv
  obtain ⟨i, hi, rfl⟩ := List.mem_iff_getElem.1 hv
  have := (h.hs i (by rw [← h.hvl]; exact hi)).one
  simpa [List.getD, hi] using this
theorem rowT_get : ∀ (ts : List T) (vs : List Value), vs.length = ts.length → ∀ j u, (rowT ts vs)[j]? = some u → j < ts.length * 2 ∧ ((j % 2 = 0 ∧ u = .int .i64 (ts.getD (j / 2) default).rule) ∨ (j % 2 = 1 ∧ u = vs.getD (j / 2) undef)) := by
  intro ts vs h j u hu
  have hj : j < ts.length * 2 := by have := (List.getElem?_eq_some_iff.1 hu).1; rwa [rowT_len ts vs h] at this
  refine ⟨hj, ?_⟩
  have ha := rowT_at ts vs h (j / 2) (by omega)
  rcases Nat.mod_two_eq_zero_or_one j with e | e
  · have e2 : j / 2 * 2 = j := by omega
    rw [e2] at ha
    rw [ha.1] at hu
    exact .inl ⟨e, (Option.some.inj hu).symm⟩
  · have e2 : j / 2 * 2 + 1 = j := by omega
    rw [e2] at ha
    rw [ha.2] at hu
    exact .inr ⟨e, (Option.some.inj hu).symm⟩
theorem TermsAt.src {w : World} {P : Nat → Prop} {a : Option Addr} {len cap b off : Nat} {ts : List T} {vs : List Value} (h : TermsAt w P a len cap b off ts vs) (lo n : Nat) (hl : lo + n ≤ len) (o2 : Nat) (ho : 0 < n → o2 = off + lo * 2) :
    ∀ j u, (rowT ((ts.drop lo).take n) ((vs.drop lo).take n))[j]? = some u → w.cell? ((⟨b, o2, none⟩ : Addr).add j) = some u := by
  intro j u hu
  have l1 := h.hlen
  have l2 := h.hvl
  obtain ⟨hj, hc⟩ := rowT_get _ _ (by simp; omega) j u hu
  have hlt : ((ts.drop lo).take n).length = n := by simp; omega
  rw [hlt] at hj
  rw [ho (by omega), Addr.add_lit]
  have g1 : ((ts.drop lo).take n).getD (j / 2) default = ts.getD (lo + j / 2) default := by
    simp [List.getD, show j / 2 < n by omega]
  have g2 : ((vs.drop lo).take n).getD (j / 2) undef = vs.getD (lo + j / 2) undef := by
    simp [List.getD, show j / 2 < n by omega]
  rcases hc with ⟨e, rfl⟩ | ⟨e, rfl⟩
  · rw [g1, ← h.hr (lo + j / 2) (by omega)]
    congr 2
    omega
  · rw [g2, ← h.hv (lo + j / 2) (by omega)]
    congr 2
    omega
end Go.Proofs.Ytdljffplooplcaa
