/- Above, Even, Unique, Count of package lists, by the contract of chosen. -/
import Derived.Test.YtecjnenjjedceaaChosen
import Derived.Test.YtecjnenjjedceaaMaps
namespace Go.Proofs.Ytecjnenjjedceaa
open Go.RowKit
set_option linter.unusedVariables false

/-- A call that hands back a slice of its own with the numbers zs. -/
def Gives (zs : List Int) (w : World) (e : Ending) (w' : World) : Prop :=
  ∃ v, e = .returned v ∧ Own w' w.heap.size v zs ∧ Below w.heap.size w w'

theorem pickU (p : Int → Bool) (xs : List Int) : (pickS (S := Unit) (fun _ x => (p x, ())) () xs).1 = xs.filter p := by
  induction xs with
  | nil => rfl
  | cons x xs ih => simp only [pickS, ih]; cases h : p x <;> simp [h]

theorem hcf53 : ∀ args w1, (callFunc 53 args).run Try.prog w1 = .ok (.enter 53 args) w1 := fun _ _ => by kernel_rfl
theorem hcf54 : ∀ args w1, (callFunc 54 args).run Try.prog w1 = .ok (.enter 54 args) w1 := fun _ _ => by kernel_rfl
theorem hcf56 : ∀ args w1, (callFunc 56 args).run Try.prog w1 = .ok (.enter 56 args) w1 := fun _ _ => by kernel_rfl
theorem hcf57 : ∀ args w1, (callFunc 57 args).run Try.prog w1 = .ok (.enter 57 args) w1 := fun _ _ => by kernel_rfl

theorem Touch.none (lo hi : Nat) (w : World) : Touch lo hi w w := ⟨.none, World.grownBy.refl _ _, fun _ h => by cases h⟩

theorem above1 (x n : Int) (p : Addr) (w : World) (hc : w.cell? p = some (.int .i64 n)) :
    Calls Try.prog 53 #[.int .i64 x, .pointer (some p)] w fun e w' => e = .returned (.bool (decide (n < x))) ∧ w = w' := by
  go_enter Try.func53, Try.ntmps53
  go_wp2
  go_ret
  exact ⟨rfl, rfl⟩

theorem count1 (x n : Int) (p : Addr) (w : World) (hc : w.cell? p = some (.int .i64 n)) :
    Calls Try.prog 57 #[.int .i64 x, .pointer (some p)] w fun e w' => e = .returned (.bool (x == n)) ∧ w = w' := by
  go_enter Try.func57, Try.ntmps57
  go_wp2
  go_ret
  exact ⟨rfl, rfl⟩

theorem even1 (x : Int) (w : World) :
    Calls Try.prog 54 #[.int .i64 x] w fun e w' => e = .returned (.bool (x.tmod 2 == 0)) ∧ w = w' := by
  go_enter Try.func54, Try.ntmps54
  go_wp2
  go_ret
  exact ⟨rfl, rfl⟩

/-- the keys of the map seen, each with true -/
def seenM (ks : List Int) : List (Int × Value) := ks.map fun k => (k, Value.bool true)

theorem get_seen (x : Int) : ∀ ks, ((Mp.get x (seenM ks)).getD (.bool false)) = .bool (decide (x ∈ ks))
  | [] => by simp [seenM, Mp.get]
  | k :: ks => by
    have ih := get_seen x ks
    simp only [seenM, List.map_cons, Mp.get] at ih ⊢
    by_cases h : x = k
    · simp [h]
    · rw [if_neg h, ih]; simp [h]

theorem upd_seen (x : Int) : ∀ ks, Mp.upd x (.bool true) (seenM ks) = seenM (if x ∈ ks then ks else ks ++ [x])
  | [] => by simp [seenM, Mp.upd]
  | k :: ks => by
    have ih := upd_seen x ks
    simp only [seenM, List.map_cons, Mp.upd] at ih ⊢
    by_cases h : x = k
    · simp [h]
    · rw [if_neg h, ih]
      by_cases h2 : x ∈ ks <;> simp [h, h2]

def SeenI (p b : Nat) (ks : List Int) (w : World) : Prop := w.cell? ⟨p, 0, none⟩ = some (.map (some b)) ∧ Mp.MapAt w b (Value.int .i64) (seenM ks)
def seenF (ks : List Int) (x : Int) : Bool × List Int := (!decide (x ∈ ks), if x ∈ ks then ks else ks ++ [x])

theorem uniq1 (x : Int) (p b lo hi : Nat) (ks : List Int) (w : World) (h : SeenI p b ks w) (hb : lo ≤ b ∧ b < hi) (hpb : p ≠ b) :
    Calls Try.prog 56 #[.int .i64 x, .pointer (some ⟨p, 0, none⟩)] w fun e w' => e = .returned (.bool (seenF ks x).1) ∧ SeenI p b (seenF ks x).2 w' ∧ Touch lo hi w w' := by
  obtain ⟨hp, hm⟩ := h
  have hz : (zeroValue 4).run Try.prog w = .ok (.bool false) w := by kernel_rfl
  have hl := Mp.run_lookup (Mp.KeyLaw.int Try.underlying2) Try.underlying42 hz hm x false
  rw [get_seen] at hl
  simp only [Bool.false_eq_true, if_false] at hl
  go_enter Try.func56, Try.ntmps56
  go_wp2_with (at_mapUpdate; refine Mp.wpList_upd (Mp.KeyLaw.int Try.underlying2) Try.underlying42 rfl (.tmp 8) (.tmp 9) (.const (.bool true)) rfl rfl hm x rfl ?_; intro w1 hm1 hg1)
  go_ret
  refine ⟨rfl, ⟨hg1.cell hp (fun e => hpb (by simpa using e)), ?_⟩, some b, hg1, fun k hk => by cases hk; exact hb⟩
  show Mp.MapAt w1 b (Value.int .i64) (seenM (if x ∈ ks then ks else ks ++ [x]))
  rw [← upd_seen x ks]
  exact hm1

theorem SeenI.block {p b : Nat} {ks : List Int} {w w' : World} (h : SeenI p b ks w) (hp : w'.heap[p]? = w.heap[p]?) (hb : w'.heap[b]? = w.heap[b]?) : SeenI p b ks w' :=
  ⟨(World.cell?_of_block (w := w) hp).trans h.1, h.2.block hb⟩

theorem chose_gives {S : Type} {I : S → World → Prop} {f : S → Int → Bool × S} {s0 : S} {xs zs : List Int} {W w : World} (hW : W.heap.size ≤ w.heap.size)
    (he : (pickS f s0 xs).1 = zs) : ∀ e w', Chose I f s0 xs W w e w' → Gives zs W e w' := by
  rintro e w' ⟨v, rfl, hown, hb, _⟩
  refine ⟨v, rfl, ?_, hb⟩
  rw [he] at hown
  refine ⟨hown.1, ?_⟩
  rcases hown.2 with h | ⟨g, cap, cur, hv, hbg, rest⟩
  · exact .inl h
  · exact .inr ⟨g, cap, cur, hv, Nat.le_trans hW hbg, rest⟩

theorem even_any (a : Option Addr) (l c : Nat) (xs : List Int) (w : World) (hA : Sl w a l c xs) (hl : l ≤ 1000) :
    Calls Try.prog 16 #[.slice a l c] w (Gives (xs.filter fun x => x.tmod 2 == 0) w) := by
  have h1 := (chosen_any (S := Unit) (fun _ _ => True) (fun _ x => (x.tmod 2 == 0, ())) 54 #[] a l c xs () w w hA hl (Below.refl _ _) trivial (fun _ _ _ _ _ => trivial) hcf54
    (fun s x w1 _ => (even1 x w1).mono fun e w2 ⟨he, hw⟩ => ⟨he, trivial, by subst hw; exact Touch.none _ _ _⟩)).mono (chose_gives (Nat.le_refl _) (pickU _ xs))
  have H1 := Lib.hid h1
  clear h1
  go_enter Try.func16, Try.ntmps16
  go_wp2_with fail
  refine H1.out.mono ?_
  rintro e w' ⟨v, rfl, hown, hb⟩
  go_wp2
  go_ret
  exact ⟨v, rfl, hown, hb⟩

theorem above_any (a : Option Addr) (l c : Nat) (xs : List Int) (n : Int) (w : World) (hA : Sl w a l c xs) (hl : l ≤ 1000) :
    Calls Try.prog 14 #[.slice a l c, .int .i64 n] w (Gives (xs.filter fun x => decide (n < x)) w) := by
  have hbl : Below w.heap.size w (w.alloc (.cells #[.int .i64 n] 2)) := (Below.refl _ _).alloc (Nat.le_refl _) _
  have h1 := (chosen_any (S := Unit) (fun _ w' => w'.cell? ⟨w.heap.size, 0, none⟩ = some (.int .i64 n)) (fun _ x => (decide (n < x), ())) 53 #[.pointer (some ⟨w.heap.size, 0, none⟩)] a l c xs () w (w.alloc (.cells #[.int .i64 n] 2)) hA hl hbl
    (by rw [World.cell?_alloc_at _ _ _ _ rfl]; rfl) (fun _ w1 w2 h hb => (World.cell?_of_block (w := w1) (hb w.heap.size (by simp))).trans h) hcf53
    (fun s x w1 h => (above1 x n _ w1 h).mono fun e w2 ⟨he, hw⟩ => ⟨he, by subst hw; exact h, by subst hw; exact Touch.none _ _ _⟩)).mono (chose_gives (by simp) (pickU _ xs))
  have H1 := Lib.hid h1
  clear h1
  go_enter Try.func14, Try.ntmps14
  go_wp2_with fail
  refine H1.out.mono ?_
  rintro e w' ⟨v, rfl, hown, hb⟩
  go_wp2
  go_ret
  exact ⟨v, rfl, hown, hb⟩

theorem unique_any (a : Option Addr) (l c : Nat) (xs : List Int) (w : World) (hA : Sl w a l c xs) (hl : l ≤ 1000) :
    Calls Try.prog 26 #[.slice a l c] w (Gives (pickS seenF [] xs).1 w) := by
  have hmm := @run_makeMap Try.prog
  have hbl : Below w.heap.size w ((w.alloc (.map #[] 0)).alloc (.cells #[.map (some w.heap.size)] 42)) := ((Below.refl _ _).alloc (Nat.le_refl _) _).alloc (by simp) _
  have hI0 : SeenI (w.heap.size + 1) w.heap.size [] ((w.alloc (.map #[] 0)).alloc (.cells #[.map (some w.heap.size)] 42)) :=
    ⟨by rw [World.cell?_alloc_at _ _ _ _ (by simp)]; rfl, (Mp.MapAt.made w _).block (Below.heap_alloc _ _ _ (by simp))⟩
  have h1 := (chosen_any (S := List Int) (SeenI (w.heap.size + 1) w.heap.size) seenF 56 #[.pointer (some ⟨w.heap.size + 1, 0, none⟩)] a l c xs [] w _ hA hl hbl hI0
    (fun _ w1 w2 h hb => h.block (hb _ (by simp)) (hb _ (by simp; omega))) hcf56
    (fun s x w1 h => uniq1 x (w.heap.size + 1) w.heap.size _ _ s w1 h ⟨Nat.le_refl _, by simp; omega⟩ (by omega))).mono (chose_gives (by simp; omega) rfl)
  have H1 := Lib.hid h1
  clear h1 hI0 hbl
  go_enter Try.func26, Try.ntmps26
  go_wp2_with fail
  refine H1.out.mono ?_
  rintro e w' ⟨v, rfl, hown, hb⟩
  go_wp2
  go_ret
  exact ⟨v, rfl, hown, hb⟩

theorem count_any (a : Option Addr) (l c : Nat) (xs : List Int) (n : Int) (w : World) (hA : Sl w a l c xs) (hl : l ≤ 1000) :
    Calls Try.prog 28 #[.slice a l c, .int .i64 n] w fun e w' => e = .returned (.int .i64 (xs.filter fun x => x == n).length) ∧ Below w.heap.size w w' := by
  have hbl : Below w.heap.size w (w.alloc (.cells #[.int .i64 n] 2)) := (Below.refl _ _).alloc (Nat.le_refl _) _
  have h1 := (chosen_any (S := Unit) (fun _ w' => w'.cell? ⟨w.heap.size, 0, none⟩ = some (.int .i64 n)) (fun _ x => (x == n, ())) 57 #[.pointer (some ⟨w.heap.size, 0, none⟩)] a l c xs () w (w.alloc (.cells #[.int .i64 n] 2)) hA hl hbl
    (by rw [World.cell?_alloc_at _ _ _ _ rfl]; rfl) (fun _ w1 w2 h hb => (World.cell?_of_block (w := w1) (hb w.heap.size (by simp))).trans h) hcf57
    (fun s x w1 h => (count1 x n _ w1 h).mono fun e w2 ⟨he, hw⟩ => ⟨he, by subst hw; exact h, by subst hw; exact Touch.none _ _ _⟩)).mono (chose_gives (by simp) (pickU _ xs))
  have H1 := Lib.hid h1
  clear h1
  go_enter Try.func28, Try.ntmps28
  go_wp2_with fail
  refine H1.out.mono ?_
  rintro e w' ⟨v, rfl, hown, hb⟩
  obtain ⟨a', cap', rfl, hsl⟩ := hown.sl
  go_wp2
  go_ret
  exact ⟨rfl, hb⟩
end Go.Proofs.Ytecjnenjjedceaa
