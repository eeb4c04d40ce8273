/- Appends. -/
import Derived.Test.YtpakfehinfcdoaaAw11
namespace Go.Aw
open Go.RowKit

section
variable {P : Program} {Γ : Tys} {w0 : Base} {w w' : World} {ob : Nat → Prop} {st : St} {a : Act} {η : Env}

/-- a source: a slice whose first cells are told -/
def Src (w : World) (s : Value) (m : Nat) (news : List Value) : Prop :=
  ∃ sa c, s = .slice sa m c ∧ news.length = m ∧ ∀ j u, news[j]? = some u → ∃ b o, sa = some ⟨b, o, none⟩ ∧ w.cell? ⟨b, o + j, none⟩ = some u

theorem Src.own {B e n : Nat} {v : Value} {xs : List Value} (h : w.ownsRow B e 1 v n xs) : Src w v n xs := by
  have hl : xs.length = n := by simpa using h.1
  rcases h.2 with ⟨rfl, rfl⟩ | ⟨g, cap, cur, hv, hg, hh, r⟩
  · have : xs = [] := List.eq_nil_of_length_eq_zero hl
    subst this
    exact ⟨none, 0, rfl, rfl, fun j u hj => by simp at hj⟩
  · refine ⟨some ⟨g, 0, none⟩, cap, hv, hl, fun j u hj => ⟨g, 0, rfl, ?_⟩⟩
    rw [Nat.zero_add]
    exact own_ptr h (by rw [hv]; rfl) hj

theorem Src.ints {bad : Nat → Prop} {k : IntKind} {l : List Int} {v : Value} (h : SInts w bad k l v) : Src w v l.length (l.map (Value.int k)) := by
  obtain ⟨sa, c, hv, _, _, hc⟩ := h
  refine ⟨sa, c, hv, by simp, fun j u hj => ?_⟩
  rw [List.getElem?_map] at hj
  obtain ⟨x, hx, rfl⟩ := Option.map_eq_some_iff.1 hj
  obtain ⟨b, o, h1, _, h2⟩ := hc j x hx
  exact ⟨b, o, h1, h2⟩

theorem run_append_none {t ty e : Nat} {ti : TI} (ht : P.underlying t = some (.slice e)) (he : TyOk P e ti) {sb : Option Addr} {n cap c : Nat} (hnc : n ≤ cap) :
    (Builtin.append_ #[t, t] ty #[.slice sb n cap, .slice none 0 c]).run P w = .ok (.slice sb n cap) w := by
  cases sb with
  | none => simp [Builtin.append_, run_underlying ht, run_size he, Builtin.lenOf, Builtin.firstCells, hnc]
  | some ad => simp [Builtin.append_, run_underlying ht, run_size he, Builtin.lenOf, Builtin.firstCells, hnc, storeCells]

/-- append to an owned row: it stays in its block, or goes over into a new one -/
theorem run_append_fresh {B t ty e : Nat} {ti : TI} {zv : Value} (ht : P.underlying t = some (.slice e)) (he : TyOk P e ti) (hs : ti.size = 1) (hb : ti.bytes ≤ 64) (hz : ti.zero = [zv])
    {v : Value} {n : Nat} {xs : List Value} (hown : w.ownsRow B e 1 v n xs) {s : Value} {m : Nat} {news : List Value} (hsrc : Src w s m news) (h1 : ∀ u, u ∈ news → u.oneCell' = true) (hr : n + m ≤ room) (hB : B ≤ w.heap.size) :
    ∃ v' w', (Builtin.append_ #[t, t] ty #[v, s]).run P w = .ok v' w' ∧ w'.ownsRow B e 1 v' (n + m) (xs ++ news) ∧ (∀ b, b ∈ blk v' → b ∈ blk v ∨ b = w.heap.size) ∧ w.heap.size ≤ w'.heap.size ∧
      (∀ b, b < w.heap.size → b ∉ blk v → w'.heap[b]? = w.heap[b]?) ∧ Below B w w' ∧ (blk v').Nodup := by
  obtain ⟨i, z, g1, g2, g3, g4, g5, g6, g7, g8⟩ := run_typeInfo he
  have hsz : i.size = 1 := by rw [g2, hs]
  have hby : i.bytes ≤ 64 := by rw [g3]; exact hb
  have hzs : z.cells.size = 1 := by rw [g5, hz]; rfl
  obtain ⟨sa, c, rfl, hl, hc⟩ := hsrc
  have hbytes : (n + m) * i.bytes ≤ 140737488355328 := Nat.le_trans (Nat.mul_le_mul hr hby) (by unfold room; omega)
  have hroom' : n + m ≤ 1099511627776 := hr
  have hlen : (xs ++ news).length = (n + m) * 1 := by rw [List.length_append, hown.1, hl]; omega
  cases sa with
  | none =>
    have hn : news = [] := by
      cases news with
      | nil => rfl
      | cons u r => obtain ⟨_, _, h, _⟩ := hc 0 u rfl; cases h
    subst hn
    simp only [List.length_nil] at hl
    subst hl
    rcases hown.2 with ⟨rfl, rfl⟩ | ⟨g, cap, cur, rfl, hg, hh, hnc, hcm, r⟩
    · exact ⟨_, w, run_append_none ht he (Nat.le_refl _), by simpa using hown, fun b hb => .inl hb, Nat.le_refl _, fun _ _ _ => rfl, Below.refl _ _, by simp [blk]⟩
    · exact ⟨_, w, run_append_none ht he hnc, by simpa using hown, fun b hb => .inl hb, Nat.le_refl _, fun _ _ _ => rfl, Below.refl _ _, by simp [blk]⟩
  | some ad =>
    have hnews : ∀ j u, news[j]? = some u → w.cell? (ad.add j) = some u := fun j u hj => by
      obtain ⟨b, o, h, hcell⟩ := hc j u hj
      simp only [Option.some.injEq] at h
      subst h
      rw [Addr.add_lit]; exact hcell
    have hl' : news.length = m * i.size := by rw [hl, hsz]; omega
    -- the new block's owned row
    have grown : ∀ old : Nat, old < n + m →
        (w.drew.alloc (.cells (xs.toArray ++ news.toArray ++ Builtin.zeroCells z.cells (grownCap w (n + m) old e - (n + m))) e)).ownsRow B e 1 (.slice (some ⟨w.heap.size, 0, none⟩) (n + m) (grownCap w (n + m) old e)) (n + m) (xs ++ news) := by
      intro old _
      have hge := grownCap_ge w (n + m) old e
      have hcm : grownCap w (n + m) old e ≤ maxLen := grownCap_le_maxLen w (n + m) old e (by unfold maxLen; omega)
      refine ⟨hlen, .inr ⟨w.heap.size, _, _, rfl, hB, Go.heap_alloc_new w.drew _, hge, hcm, ?_, ?_⟩⟩
      · simp only [Array.size_append, List.size_toArray, size_zeroCells, hzs, hown.1, hl]
        omega
      · simp only [Array.toList_append, List.append_assoc]
        rw [← List.append_assoc, ← hlen]
        exact List.take_left
    have gb : ∀ o, Below B w (w.drew.alloc o) := fun o => ((Below.refl B w).drew).alloc hB o
    have gsz : ∀ o, w.heap.size ≤ (w.drew.alloc o).heap.size := fun o => by simp
    have gsame : ∀ o b, b < w.heap.size → (w.drew.alloc o).heap[b]? = w.heap[b]? := fun o b hb => Below.heap_alloc w.drew o b hb
    rcases hown.2 with ⟨rfl, rfl⟩ | ⟨g, cap, cur, rfl, hg, hh, hnc, hcm, hcs, htk⟩
    · have hx : xs = [] := List.eq_nil_of_length_eq_zero (by simpa using hown.1)
      subst hx
      by_cases hm : m = 0
      · subst hm
        have hn : news = [] := List.eq_nil_of_length_eq_zero (by simpa using hl)
        subst hn
        refine ⟨.slice none 0 0, w, ?_, by simpa using hown, fun b hb => .inl hb, Nat.le_refl _, fun _ _ _ => rfl, Below.refl _ _, by simp [blk]⟩
        simp [Builtin.append_, run_underlying ht, run_size he, Builtin.lenOf, Builtin.firstCells, loadCells, loadCellsFrom]
      · have hrun := run_append_nil (P := P) w t ty e i z ht g1 g4 ad m c news hl' hnews (by omega) (by omega) (by have hb := hbytes; simp only [Nat.zero_add] at hb; omega)
        have hgr := grown 0 (by omega)
        simp only [Nat.zero_add, List.nil_append, Array.empty_append] at hgr ⊢
        exact ⟨_, _, hrun, hgr, fun b hb => .inr (by simpa [blk] using hb), gsz _, fun b hb _ => gsame _ b hb, gb _, by simp [blk]⟩
    · by_cases hroom : n + m ≤ cap
      · have hfit : n * i.size + news.length ≤ cur.size := by rw [hl, hcs, hsz]; omega
        have hrun := run_append_room (P := P) w t ty e i ht g1 g n cap cur hh ad m c news hl' hnews h1 hroom hfit
        refine ⟨_, _, hrun, ⟨hlen, .inr ⟨g, cap, _, rfl, hg, setRow_heap w g cur _ e _ hh, hroom, hcm, ?_, ?_⟩⟩, fun b hb => .inl (by simpa [blk] using hb), by simp [World.setRow],
          fun b _ hnb => setRow_other w g b _ (fun e => hnb (by simp [blk, e])), below_setRow hg _, by simp [blk]⟩
        · simp only [List.size_toArray, List.length_append, List.length_take, List.length_drop, Array.length_toList]
          omega
        · rw [hsz, htk, ← hlen]
          exact List.take_left
      · have holds : ∀ j u, xs[j]? = some u → w.cell? ((⟨g, 0, none⟩ : Addr).add j) = some u := World.ownsRow.cells hown (g := g) rfl
        have hrun := run_append_grow (P := P) w t ty e i z ht g1 g4 ⟨g, 0, none⟩ n cap xs (by rw [hsz]; exact hown.1) holds ad m c news hl' hnews (by omega) (by omega) (growslice_fits (by omega) hbytes)
        exact ⟨_, _, hrun, grown cap (by omega), fun b hb => .inr (by simpa [blk] using hb), gsz _, fun b hb _ => gsame _ b hb, gb _, by simp [blk]⟩

/-- .. of cells of any size -/
def SrcN (w : World) (s : Value) (m sz : Nat) (news : List Value) : Prop :=
  ∃ sa c, s = .slice sa m c ∧ news.length = m * sz ∧ ∀ j u, news[j]? = some u → ∃ b o, sa = some ⟨b, o, none⟩ ∧ w.cell? ⟨b, o + j, none⟩ = some u

theorem SrcN.own {B e n sz : Nat} {v : Value} {xs : List Value} (h : w.ownsRow B e sz v n xs) : SrcN w v n sz xs := by
  have hl : xs.length = n * sz := h.1
  rcases h.2 with ⟨rfl, rfl⟩ | ⟨g, cap, cur, hv, hg, hh, r⟩
  · have : xs = [] := List.eq_nil_of_length_eq_zero (by omega)
    subst this
    exact ⟨none, 0, rfl, hl, fun j u hj => by simp at hj⟩
  · refine ⟨some ⟨g, 0, none⟩, cap, hv, hl, fun j u hj => ⟨g, 0, rfl, ?_⟩⟩
    rw [Nat.zero_add]
    exact own_ptr h (by rw [hv]; rfl) hj

theorem run_append_freshN {B t ty e sz : Nat} {ti : TI} (ht : P.underlying t = some (.slice e)) (he : TyOk P e ti) (hs : ti.size = sz) (hpos : 0 < sz) (hb : ti.bytes ≤ 64) (hz : ti.zero.length = sz)
    {v : Value} {n : Nat} {xs : List Value} (hown : w.ownsRow B e sz v n xs) {s : Value} {m : Nat} {news : List Value} (hsrc : SrcN w s m sz news) (h1 : ∀ u, u ∈ news → u.oneCell' = true) (hr : n + m ≤ room) (hB : B ≤ w.heap.size) :
    ∃ v' w', (Builtin.append_ #[t, t] ty #[v, s]).run P w = .ok v' w' ∧ w'.ownsRow B e sz v' (n + m) (xs ++ news) ∧ (∀ b, b ∈ blk v' → b ∈ blk v ∨ b = w.heap.size) ∧ w.heap.size ≤ w'.heap.size ∧
      (∀ b, b < w.heap.size → b ∉ blk v → w'.heap[b]? = w.heap[b]?) ∧ Below B w w' ∧ (blk v').Nodup := by
  obtain ⟨i, z, g1, g2, g3, g4, g5, g6, g7, g8⟩ := run_typeInfo he
  have hsz : i.size = sz := by rw [g2, hs]
  have hby : i.bytes ≤ 64 := by rw [g3]; exact hb
  have hzs : z.cells.size = sz := by rw [g5]; simpa using hz
  obtain ⟨sa, c, rfl, hl, hc⟩ := hsrc
  have hbytes : (n + m) * i.bytes ≤ 140737488355328 := Nat.le_trans (Nat.mul_le_mul hr hby) (by unfold room; omega)
  have hroom' : n + m ≤ 1099511627776 := hr
  have hlen : (xs ++ news).length = (n + m) * sz := by rw [List.length_append, hown.1, hl, Nat.add_mul]
  cases sa with
  | none =>
    have hn : news = [] := by
      cases news with
      | nil => rfl
      | cons u r => obtain ⟨_, _, h, _⟩ := hc 0 u rfl; cases h
    subst hn
    simp only [List.length_nil] at hl
    have hm0 : m = 0 := by
      rcases Nat.eq_zero_or_pos m with h | h
      · exact h
      · have := Nat.mul_pos h hpos; omega
    subst hm0
    rcases hown.2 with ⟨rfl, rfl⟩ | ⟨g, cap, cur, rfl, hg, hh, hnc, hcm, r⟩
    · exact ⟨_, w, run_append_none ht he (Nat.le_refl _), by simpa using hown, fun b hb => .inl hb, Nat.le_refl _, fun _ _ _ => rfl, Below.refl _ _, by simp [blk]⟩
    · exact ⟨_, w, run_append_none ht he hnc, by simpa using hown, fun b hb => .inl hb, Nat.le_refl _, fun _ _ _ => rfl, Below.refl _ _, by simp [blk]⟩
  | some ad =>
    have hnews : ∀ j u, news[j]? = some u → w.cell? (ad.add j) = some u := fun j u hj => by
      obtain ⟨b, o, h, hcell⟩ := hc j u hj
      simp only [Option.some.injEq] at h
      subst h
      rw [Addr.add_lit]; exact hcell
    have hl' : news.length = m * i.size := by rw [hl, hsz]
    have grown : ∀ old : Nat, old < n + m →
        (w.drew.alloc (.cells (xs.toArray ++ news.toArray ++ Builtin.zeroCells z.cells (grownCap w (n + m) old e - (n + m))) e)).ownsRow B e sz (.slice (some ⟨w.heap.size, 0, none⟩) (n + m) (grownCap w (n + m) old e)) (n + m) (xs ++ news) := by
      intro old _
      have hge := grownCap_ge w (n + m) old e
      have hcm : grownCap w (n + m) old e ≤ maxLen := grownCap_le_maxLen w (n + m) old e (by unfold maxLen; omega)
      refine ⟨hlen, .inr ⟨w.heap.size, _, _, rfl, hB, Go.heap_alloc_new w.drew _, hge, hcm, ?_, ?_⟩⟩
      · simp only [Array.size_append, List.size_toArray, size_zeroCells, hzs, hown.1, hl]
        rw [← Nat.add_mul, ← Nat.add_mul]
        congr 1; omega
      · simp only [Array.toList_append, List.append_assoc]
        rw [← List.append_assoc, ← hlen]
        exact List.take_left
    have gb : ∀ o, Below B w (w.drew.alloc o) := fun o => ((Below.refl B w).drew).alloc hB o
    have gsz : ∀ o, w.heap.size ≤ (w.drew.alloc o).heap.size := fun o => by simp
    have gsame : ∀ o b, b < w.heap.size → (w.drew.alloc o).heap[b]? = w.heap[b]? := fun o b hb => Below.heap_alloc w.drew o b hb
    rcases hown.2 with ⟨rfl, rfl⟩ | ⟨g, cap, cur, rfl, hg, hh, hnc, hcm, hcs, htk⟩
    · have hx : xs = [] := List.eq_nil_of_length_eq_zero (by simpa using hown.1)
      subst hx
      by_cases hm : m = 0
      · subst hm
        have hn : news = [] := List.eq_nil_of_length_eq_zero (by simpa using hl)
        subst hn
        refine ⟨.slice none 0 0, w, ?_, by simpa using hown, fun b hb => .inl hb, Nat.le_refl _, fun _ _ _ => rfl, Below.refl _ _, by simp [blk]⟩
        simp [Builtin.append_, run_underlying ht, run_size he, Builtin.lenOf, Builtin.firstCells, loadCells, loadCellsFrom]
      · have hrun := run_append_nil (P := P) w t ty e i z ht g1 g4 ad m c news hl' hnews (by omega) (by omega) (by have hb := hbytes; simp only [Nat.zero_add] at hb; omega)
        have hgr := grown 0 (by omega)
        simp only [Nat.zero_add, List.nil_append, Array.empty_append] at hgr ⊢
        exact ⟨_, _, hrun, hgr, fun b hb => .inr (by simpa [blk] using hb), gsz _, fun b hb _ => gsame _ b hb, gb _, by simp [blk]⟩
    · by_cases hroom : n + m ≤ cap
      · have hmul : (n + m) * sz ≤ cap * sz := Nat.mul_le_mul_right _ hroom
        have hmul2 : n * sz + m * sz ≤ cap * sz := by rw [← Nat.add_mul]; exact hmul
        have hfit : n * i.size + news.length ≤ cur.size := by rw [hl, hcs, hsz]; exact hmul2
        have hrun := run_append_room (P := P) w t ty e i ht g1 g n cap cur hh ad m c news hl' hnews h1 hroom hfit
        refine ⟨_, _, hrun, ⟨hlen, .inr ⟨g, cap, _, rfl, hg, setRow_heap w g cur _ e _ hh, hroom, hcm, ?_, ?_⟩⟩, fun b hb => .inl (by simpa [blk] using hb), by simp [World.setRow],
          fun b _ hnb => setRow_other w g b _ (fun e => hnb (by simp [blk, e])), below_setRow hg _, by simp [blk]⟩
        · simp only [List.size_toArray, List.length_append, List.length_take, List.length_drop, Array.length_toList]
          omega
        · rw [hsz, htk, ← hlen]
          exact List.take_left
      · have holds : ∀ j u, xs[j]? = some u → w.cell? ((⟨g, 0, none⟩ : Addr).add j) = some u := World.ownsRow.cells hown (g := g) rfl
        have hrun := run_append_grow (P := P) w t ty e i z ht g1 g4 ⟨g, 0, none⟩ n cap xs (by rw [hsz]; exact hown.1) holds ad m c news hl' hnews (by omega) (by omega) (growslice_fits (by omega) hbytes)
        exact ⟨_, _, hrun, grown cap (by omega), fun b hb => .inr (by simpa [blk] using hb), gsz _, fun b hb _ => gsame _ b hb, gb _, by simp [blk]⟩

/-- append to an empty slice that has no room: nothing is made, or a new row -/
theorem run_append_nul {B t ty e : Nat} {ti : TI} {zv : Value} (ht : P.underlying t = some (.slice e)) (he : TyOk P e ti) (hs : ti.size = 1) (hb : ti.bytes ≤ 64) (hz : ti.zero = [zv])
    {ba : Option Addr} {s : Value} {m : Nat} {news : List Value} (hsrc : Src w s m news) (hr : m ≤ room) (hB : B ≤ w.heap.size) :
    (m = 0 → (Builtin.append_ #[t, t] ty #[.slice ba 0 0, s]).run P w = .ok (.slice ba 0 0) w) ∧
    (m ≠ 0 → ∃ c w', (Builtin.append_ #[t, t] ty #[.slice ba 0 0, s]).run P w = .ok (.slice (some ⟨w.heap.size, 0, none⟩) m c) w' ∧ w'.ownsRow B e 1 (.slice (some ⟨w.heap.size, 0, none⟩) m c) m news ∧ Below w.heap.size w w') := by
  obtain ⟨i, z, g1, g2, g3, g4, g5, g6, g7, g8⟩ := run_typeInfo he
  have hsz : i.size = 1 := by rw [g2, hs]
  have hby : i.bytes ≤ 64 := by rw [g3]; exact hb
  have hzs : z.cells.size = 1 := by rw [g5, hz]; rfl
  obtain ⟨sa, c, rfl, hl, hc⟩ := hsrc
  have hbytes : (0 + m) * i.bytes ≤ 140737488355328 := Nat.le_trans (Nat.mul_le_mul (by omega : 0 + m ≤ room) hby) (by unfold room; omega)
  have hroom' : m ≤ 1099511627776 := hr
  refine ⟨fun h0 => ?_, fun h0 => ?_⟩
  · subst h0
    have hn : news = [] := List.eq_nil_of_length_eq_zero hl
    cases ba with
    | none =>
      cases sa with
      | none => exact run_append_none ht he (Nat.le_refl _)
      | some ad => simp [Builtin.append_, run_underlying ht, run_size he, Builtin.lenOf, Builtin.firstCells, loadCells, loadCellsFrom]
    | some bd =>
      cases sa with
      | none => exact run_append_none ht he (Nat.le_refl _)
      | some ad => simp [Builtin.append_, run_underlying ht, run_size he, Builtin.lenOf, Builtin.firstCells, loadCells, loadCellsFrom, storeCells]
  · have hne : ∃ u, news[0]? = some u := ⟨_, List.getElem?_eq_getElem (by omega)⟩
    obtain ⟨u0, hu0⟩ := hne
    obtain ⟨b0, o0, hsa, _⟩ := hc 0 u0 hu0
    subst hsa
    have hnews : ∀ j u, news[j]? = some u → w.cell? ((⟨b0, o0, none⟩ : Addr).add j) = some u := fun j u hj => by
      obtain ⟨b, o, h, hcell⟩ := hc j u hj
      simp only [Option.some.injEq] at h
      rw [h, Addr.add_lit]; exact hcell
    have hl' : news.length = m * i.size := by rw [hl, hsz]; omega
    have hrun : (Builtin.append_ #[t, t] ty #[.slice ba 0 0, .slice (some ⟨b0, o0, none⟩) m c]).run P w = .ok (.slice (some ⟨w.heap.size, 0, none⟩) m (grownCap w m 0 e)) (w.drew.alloc (.cells (news.toArray ++ Builtin.zeroCells z.cells (grownCap w m 0 e - m)) e)) := by
      cases ba with
      | none => exact run_append_nil (P := P) w t ty e i z ht g1 g4 ⟨b0, o0, none⟩ m c news hl' hnews (by omega) (by omega) (by have hb := hbytes; simp only [Nat.zero_add] at hb; omega)
      | some bd =>
        have := run_append_grow (P := P) w t ty e i z ht g1 g4 bd 0 0 [] (by simp) (fun j u hj => by simp at hj) ⟨b0, o0, none⟩ m c news hl' hnews (by omega) (by omega) (growslice_fits (by omega) hbytes)
        simpa using this
    refine ⟨_, _, hrun, ⟨by simpa using hl, .inr ⟨w.heap.size, _, _, rfl, hB, Go.heap_alloc_new w.drew _, ?_, ?_, ?_, ?_⟩⟩, ((Below.refl _ w).drew).alloc (Nat.le_refl _) _⟩
    · exact grownCap_ge w m 0 e
    · exact grownCap_le_maxLen w m 0 e (by unfold maxLen; omega)
    · have hge := grownCap_ge w m 0 e
      simp only [Array.size_append, List.size_toArray, size_zeroCells, hzs, hl]
      omega
    · simp only [Array.toList_append, Nat.mul_one, ← hl]
      exact List.take_left

/-- a row is appended to; other rows may be gone (into it) -/
theorem SRep.app (h : SRep w0 ob st a w η) {k : Nat} {r r' : ARow} {v' : Value} {cs' : List Value} {hp1 : List (Nat × ARow)} (hr : look st.hp k = some r)
    (hsub : ∀ j r, j ≠ k → look hp1 j = some r → look st.hp j = some r)
    (hw : ∀ b, b < w.heap.size → b ∉ bsOf η k r → w'.heap[b]? = w.heap[b]?) (hB : Below w0.B w w')
    (hnd : (bsOf (η.upd k v' cs') k r').Nodup) (hfr : ∀ b, b ∈ bsOf (η.upd k v' cs') k r' → (∃ j r0, look st.hp j = some r0 ∧ b ∈ bsOf η j r0 ∧ (j = k ∨ (j ≠ k ∧ look hp1 j = none))) ∨ w.heap.size ≤ b)
    (hrow : Keeps w (badOf ob st.hp η) w' (badOf ob ((k, r') :: rem k (fltH (ne k) (ne k) hp1)) (η.upd k v' cs')) →
      RowRep w' w0.B (badOf ob ((k, r') :: rem k (fltH (ne k) (ne k) hp1)) (η.upd k v' cs')) ((k, r') :: rem k (fltH (ne k) (ne k) hp1)) st.nx (η.upd k v' cs') k r') :
    SRep w0 ob { st with sl := fltS (ne k) (ne k) st.sl, hp := (k, r') :: rem k (fltH (ne k) (ne k) hp1) } a w' (η.upd k v' cs') := by
  have hoth : ∀ j r1, j ≠ k → look ((k, r') :: rem k (fltH (ne k) (ne k) hp1)) j = some r1 → ∃ r, look st.hp j = some r ∧ r1 = r.flt (ne k) (ne k) := fun j r1 hj h1 => by
    rw [look_upd, if_neg (Ne.symm hj), look_fltH] at h1
    obtain ⟨r, h2, rfl⟩ := Option.map_eq_some_iff.1 h1
    exact ⟨r, hsub j r hj h2, rfl⟩
  have hk' : look ((k, r') :: rem k (fltH (ne k) (ne k) hp1)) k = some r' := by rw [look_upd, if_pos rfl]
  have hok : ∀ j, j < st.nx → ne k j = true → OwnOk st.hp η ((k, r') :: rem k (fltH (ne k) (ne k) hp1)) (η.upd k v' cs') j := fun j _ hj => by
    have hjk := (ne_spec k j).1 hj
    exact OwnOk.of (fun r1 h1 => by obtain ⟨r, h2, rfl⟩ := hoth j r1 hjk h1; exact ⟨r, h2, (kind_flt _ _ r).symm⟩) (upd_ne _ _ _ _ j hjk).1 (upd_ne _ _ _ _ j hjk).2
  have hsk : ∀ j, j < st.nx → ne k j = true → SubOk st.hp η ((k, r') :: rem k (fltH (ne k) (ne k) hp1)) (η.upd k v' cs') j := fun j _ hj => by
    have hjk := (ne_spec k j).1 hj
    exact SubOk.of (fun r1 h1 => by obtain ⟨r, h2, rfl⟩ := hoth j r1 hjk h1; exact ⟨r, h2, (kind_flt _ _ r).symm⟩) (upd_ne _ _ _ _ j hjk).2
  obtain ⟨hh, hkp⟩ := HRep.step (k := k) (hp' := (k, r') :: rem k (fltH (ne k) (ne k) hp1)) (nx' := st.nx) (η' := η.upd k v' cs') (w' := w') h.heap (ne k) (ne k) r' (h.heap.lt k r hr) (Nat.le_refl _)
    hoth hk' (fun j hj => upd_ne _ _ _ _ j hj) (fun b hb hn => hw b hb (hn r hr)) hok hsk hnd
    (fun b hb => by
      rcases hfr b hb with ⟨j, r0, h1, h2, h3⟩ | h1
      · refine .inl ⟨j, r0, h1, h2, ?_⟩
        rcases h3 with h3 | ⟨h3, h4⟩
        · exact .inl h3
        · refine .inr ?_
          rw [look_upd, if_neg (Ne.symm h3), look_fltH, h4]; rfl
      · exact .inr h1) hrow
  exact h.heapStep (ne k) (ne k) hB hh hkp (Nat.le_refl _) hok hsk

theorem srows_cells {bad : Nat → Prop} {sa : Option Addr} {m2 : List (List Int)} (hc : ∀ i l, m2[i]? = some l → ∃ b o u, sa = some ⟨b, o, none⟩ ∧ ¬ bad b ∧ w.cell? ⟨b, o + i, none⟩ = some u ∧ SInts w bad .i64 l u) :
    ∃ cs2 : List Value, cs2.length = m2.length ∧ ∀ (i : Nat) l u, m2[i]? = some l → cs2[i]? = some u → ∃ b o, sa = some ⟨b, o, none⟩ ∧ w.cell? ⟨b, o + i, none⟩ = some u ∧ SInts w bad .i64 l u := by
  have : ∀ (m2 : List (List Int)) (n : Nat), (∀ i l, m2[i]? = some l → ∃ b o u, sa = some ⟨b, o, none⟩ ∧ ¬ bad b ∧ w.cell? ⟨b, o + (n + i), none⟩ = some u ∧ SInts w bad .i64 l u) →
      ∃ cs2 : List Value, cs2.length = m2.length ∧ ∀ (i : Nat) l u, m2[i]? = some l → cs2[i]? = some u → ∃ b o, sa = some ⟨b, o, none⟩ ∧ w.cell? ⟨b, o + (n + i), none⟩ = some u ∧ SInts w bad .i64 l u := by
    intro m2
    induction m2 with
    | nil => intro n _; exact ⟨[], rfl, fun i l u h => by simp at h⟩
    | cons l0 m2 ih =>
      intro n hc
      obtain ⟨b, o, u, h1, _, h2, h3⟩ := hc 0 l0 rfl
      obtain ⟨cs2, e1, e2⟩ := ih (n + 1) (fun i l hi => by
        have := hc (i + 1) l (by simpa using hi)
        rwa [show n + (i + 1) = n + 1 + i by omega] at this)
      refine ⟨u :: cs2, by simp [e1], fun i l u' hi hu => ?_⟩
      match i with
      | 0 =>
        simp at hi hu; subst hi hu
        exact ⟨b, o, h1, h2, h3⟩
      | i + 1 =>
        simp at hi hu
        have := e2 i l u' hi hu
        rwa [show n + 1 + i = n + (i + 1) by omega] at this
  obtain ⟨cs2, e1, e2⟩ := this m2 0 (fun i l hi => by simpa using hc i l hi)
  exact ⟨cs2, e1, fun i l u hi hu => by simpa using e2 i l u hi hu⟩

theorem aappend_sound (hΓ : TysOk P Γ) (h : SRep w0 ob st a w η) {t ty : Nat} {x y : AVal} {u s : Value} (hx : VR w ob st η x u) (hy : VR w ob st η y s) {K : AVal → St → Prop} (hk : aappend Γ st t x y K) :
    ∃ v q st' w' η', K q st' ∧ st'.sz = st.sz ∧ SRep w0 ob st' a w' η' ∧ VR w' ob st' η' q v ∧ (Builtin.append_ #[t, t] ty #[u, s]).run P w = .ok v w' := by
  unfold aappend at hk
  split at hk
  case h_2 => exact hk.elim
  case h_1 e s1 s2 s3 hti =>
    have ht := (hΓ.at hti).desc
    simp only [TD.is] at ht
    split at hk
    case h_3 => exact hk.elim
    case h_2 d1 sz by_ z _ hei =>
      have hte := hΓ.at hei
      split at hk
      case h_2 => exact hk.elim
      case h_1 hby =>
        have hby' := Nat.le_of_ble_eq_true hby
        split at hk
        case h_2 => exact hk.elim
        case h_1 k =>
          simp only [VR, VRep] at hx
          split at hk
          case h_2 => exact hk.elim
          case h_1 e0 s1 L hr =>
            obtain ⟨_, rfl⟩ := hx.2 _ hr
            split at hk
            case h_2 => exact hk.elim
            case h_1 he0 =>
              have := Nat.eq_of_beq_eq_true he0
              subst this
              split at hk
              case h_2 => exact hk.elim
              case h_1 hsz =>
                have hsz' := Nat.eq_of_beq_eq_true hsz
                split at hk
                case h_2 => exact hk.elim
                case h_1 hzl =>
                  have hzl' := Nat.eq_of_beq_eq_true hzl
                  split at hk
                  case h_2 => exact hk.elim
                  case h_1 k2 =>
                    split at hk
                    case h_1 => exact hk.elim
                    case h_2 =>
                      split at hk
                      case h_2 => exact hk.elim
                      case h_1 e2 s2 L2 hr2 =>
                        split at hk
                        case h_2 => exact hk.elim
                        case h_1 hq =>
                          have := Nat.eq_of_beq_eq_true hq
                          subst this
                          obtain ⟨_, rfl⟩ := hy.2 _ hr2
                          have hrow := h.heap.row k _ hr
                          have hrow2 := h.heap.row k2 _ hr2
                          obtain ⟨o1, css, hcel, hF⟩ := hrow
                          obtain ⟨o2, css2, hcel2, hF2⟩ := hrow2
                          have hone : ∀ {L : List (List Int × List (List Int))} {css : List (List Value)}, F2 (SRec w (badOf ob st.hp η) s2) L css → ∀ u, u ∈ css.flatten → u.oneCell' = true := by
                            intro L
                            induction L with
                            | nil => intro css hf u hu; cases css with | nil => simp at hu | cons _ _ => exact hf.elim
                            | cons r L ih =>
                              intro css hf u hu
                              cases css with
                              | nil => exact hf.elim
                              | cons cs css =>
                                rw [List.flatten_cons] at hu
                                rcases List.mem_append.1 hu with hu | hu
                                · obtain ⟨_, v, rfl, hv⟩ := hf.1
                                  rcases List.mem_append.1 hu with hu | hu
                                  · obtain ⟨_, _, rfl⟩ := List.mem_map.1 hu; rfl
                                  · simp only [List.mem_singleton] at hu
                                    subst hu
                                    obtain ⟨_, _, hv', _⟩ := hv
                                    rw [hv']; rfl
                                · exact ih hf.2 u hu
                          obtain ⟨v', w', hrun, hown, hfr, hsz2, hsame, hB, hnd⟩ := run_append_freshN (ty := ty) ht hte (by simp only; omega : _ = s2 + 1) (Nat.succ_pos _) hby' (by simp only; omega) o1 (SrcN.own o2) (fun u hu => hone hF2 u (by rw [← hcel2]; exact hu)) hk.1 (wB h)
                          have hbs : bsOf η k (.recs e0 s2 L) = blk (η.val k) := by simp [bsOf, ARow.kind]
                          have hbs' : bsOf (η.upd k v' (η.cel k ++ η.cel k2)) k (.recs e0 s2 (L ++ L2)) = blk v' := by simp [bsOf, ARow.kind, upd_val]
                          have hs := h.app (r' := .recs e0 s2 (L ++ L2)) (v' := v') (cs' := η.cel k ++ η.cel k2) (hp1 := st.hp) hr (fun _ _ _ h => h) (fun b hb hn => hsame b hb (by rwa [hbs] at hn)) hB (by rw [hbs']; exact hnd)
                            (fun b hb => by
                              rw [hbs'] at hb
                              rcases hfr b hb with h1 | h1
                              · exact .inl ⟨k, _, hr, by rw [hbs]; exact h1, .inl rfl⟩
                              · exact .inr (by omega))
                            (fun hkp => ⟨by rw [upd_val, upd_cel, List.length_append]; exact hown, css ++ css2, by rw [upd_cel, hcel, hcel2, List.flatten_append],
                              F2.append (F2.imp (fun _ _ _ ho => ho.keeps hkp) hF) (F2.imp (fun _ _ _ ho => ho.keeps hkp) hF2)⟩)
                          refine ⟨v', _, _, w', _, hk.2, rfl, hs, ⟨hx.1, fun r hr => ?_⟩, hrun⟩
                          simp only [St.upd] at hr
                          rw [look_upd, if_pos rfl] at hr
                          obtain rfl := Option.some.inj hr
                          exact ⟨by simp [ARow.kind], (upd_val _ _ _ _).symm⟩
    case h_1 d1 by_ zv hei =>
      have hte := hΓ.at hei
      split at hk
      case h_2 => exact hk.elim
      case h_1 hby =>
        have hby' := Nat.le_of_ble_eq_true hby
        split at hk
        case h_2 => exact hk.elim
        case h_1 k =>
          simp only [VR, VRep] at hx
          -- what comes of it
          have fin : ∀ {r' : ARow} {v' : Value} {cs' : List Value} {w' : World} {hp1 : List (Nat × ARow)}, SRep w0 ob { st with sl := fltS (ne k) (ne k) st.sl, hp := (k, r') :: rem k (fltH (ne k) (ne k) hp1) } a w' (η.upd k v' cs') → r'.kind < 4 →
              VR w' ob { st with sl := fltS (ne k) (ne k) st.sl, hp := (k, r') :: rem k (fltH (ne k) (ne k) hp1) } (η.upd k v' cs') (.own k) v' := by
            intro r' v' cs' w' hp1 _ hkd
            refine ⟨hx.1, fun r hr => ?_⟩
            rw [look_upd, if_pos rfl] at hr
            obtain rfl := Option.some.inj hr
            exact ⟨hkd, (upd_val _ _ _ _).symm⟩
          split at hk
          case h_4 => exact hk.elim
          case h_1 e0 kd l hr =>
            obtain ⟨_, rfl⟩ := hx.2 _ hr
            split at hk
            case h_2 => exact hk.elim
            case h_1 he0 =>
              have := Nat.eq_of_beq_eq_true he0
              subst this
              have hrow := h.heap.row k _ hr
              have gen : ∀ {l2 : List Int}, Src w s l2.length (l2.map (Value.int kd)) → l.length + l2.length ≤ room → K (.own k) ((st.kill k).upd k (.ints e0 kd (l ++ l2))) →
                  ∃ v q st' w' η', K q st' ∧ st'.sz = st.sz ∧ SRep w0 ob st' a w' η' ∧ VR w' ob st' η' q v ∧ (Builtin.append_ #[t, t] ty #[η.val k, s]).run P w = .ok v w' := by
                intro l2 hsrc hroom hk
                obtain ⟨v', w', hrun, hown, hfr, hsz, hsame, hB, hnd⟩ := run_append_fresh (ty := ty) ht hte rfl hby' rfl hrow.1 hsrc (fun u hu => by obtain ⟨_, _, rfl⟩ := List.mem_map.1 hu; rfl) hroom (wB h)
                have hbs : bsOf η k (.ints e0 kd l) = blk (η.val k) := by simp [bsOf, ARow.kind]
                have hbs' : bsOf (η.upd k v' ((l ++ l2).map (Value.int kd))) k (.ints e0 kd (l ++ l2)) = blk v' := by simp [bsOf, ARow.kind, upd_val]
                have hs := h.app (r' := .ints e0 kd (l ++ l2)) (v' := v') (cs' := (l ++ l2).map (Value.int kd)) (hp1 := st.hp) hr (fun _ _ _ h => h) (fun b hb hn => hsame b hb (by rwa [hbs] at hn)) hB (by rw [hbs']; exact hnd)
                  (fun b hb => by
                    rw [hbs'] at hb
                    rcases hfr b hb with h1 | h1
                    · exact .inl ⟨k, _, hr, by rw [hbs]; exact h1, .inl rfl⟩
                    · exact .inr (by omega))
                  (fun _ => ⟨by rw [upd_val]; simp only [OwnInts, List.length_append, List.map_append]; exact hown, upd_cel _ _ _ _⟩)
                exact ⟨v', _, _, w', _, hk, rfl, hs, fin hs (by simp [ARow.kind]), hrun⟩
              split at hk
              case h_3 => exact hk.elim
              case h_1 k2 =>
                split at hk
                case h_1 => exact hk.elim
                case h_2 =>
                  split at hk
                  case h_2 => exact hk.elim
                  case h_1 e2 kd2 l2 hr2 =>
                    split at hk
                    case h_2 => exact hk.elim
                    case h_1 hq =>
                      have := keq_spec hq
                      subst this
                      obtain ⟨_, rfl⟩ := hy.2 _ hr2
                      exact gen (Src.own (h.heap.row k2 _ hr2).1) hk.1 hk.2
              case h_2 kd2 l2 =>
                split at hk
                case h_2 => exact hk.elim
                case h_1 hq =>
                  have := keq_spec hq
                  subst this
                  exact gen (Src.ints hy) hk.1 hk.2
          case h_2 e0 e1 m hr =>
            obtain ⟨_, rfl⟩ := hx.2 _ hr
            split at hk
            case h_2 => exact hk.elim
            case h_1 he0 =>
              have := Nat.eq_of_beq_eq_true he0
              subst this
              split at hk
              case h_3 => exact hk.elim
              case h_2 m2 =>
                split at hk
                case h_2 => exact hk.elim
                case h_1 =>
                  have hrow := h.heap.row k _ hr
                  have hcel0 : η.cel k = [] := by
                    have := F2.length hrow.2
                    exact List.eq_nil_of_length_eq_zero (by simpa using this.symm)
                  obtain ⟨sa, c, hv, hsl, hsc, hc⟩ := hy
                  obtain ⟨cs2, hl2, hcs⟩ := srows_cells hc
                  have hF : F2 (SInts w (badOf ob st.hp η) .i64) m2 cs2 := F2.intro hl2.symm (fun i l u hi hu => by obtain ⟨_, _, _, _, h3⟩ := hcs i l u hi hu; exact h3)
                  have hsrc : Src w s m2.length cs2 := ⟨sa, c, hv, hl2, fun j u hj => by
                    obtain ⟨l, hl⟩ : ∃ l, m2[j]? = some l := ⟨_, List.getElem?_eq_getElem (by have := (List.getElem?_eq_some_iff.1 hj).1; omega)⟩
                    obtain ⟨b, o, h1, h2, _⟩ := hcs j l u hl hj
                    exact ⟨b, o, h1, h2⟩⟩
                  have ho : w.ownsRow w0.B e0 1 (η.val k) 0 [] := by have := hrow.1; rw [hcel0] at this; exact this
                  obtain ⟨v', w', hrun, hown, hfr, hsz, hsame, hB, hnd⟩ := run_append_fresh (ty := ty) ht hte rfl hby' rfl ho hsrc (fun u hu => by
                    obtain ⟨i, hi⟩ := List.getElem?_of_mem hu
                    obtain ⟨l1, _, ho⟩ := F2.at' hF hi
                    obtain ⟨b, c, hu', _⟩ := ho
                    rw [hu']; rfl) (by simpa using hk.1) (wB h)
                  simp only [Nat.zero_add, List.nil_append] at hown
                  have hbs : bsOf η k (.rows e0 e1 true []) = blk (η.val k) := by simp [bsOf, ARow.kind, hcel0]
                  have hbs' : bsOf (η.upd k v' cs2) k (.rows e0 e1 false m2) = blk v' := by simp [bsOf, ARow.kind, upd_val]
                  have hs := h.app (r' := .rows e0 e1 false m2) (v' := v') (cs' := cs2) (hp1 := st.hp) hr (fun _ _ _ h => h) (fun b hb hn => hsame b hb (by rwa [hbs] at hn)) hB (by rw [hbs']; exact hnd)
                    (fun b hb => by
                      rw [hbs'] at hb
                      rcases hfr b hb with h1 | h1
                      · exact .inl ⟨k, _, hr, by rw [hbs]; exact h1, .inl rfl⟩
                      · exact .inr (by omega))
                    (fun hkp => ⟨by rw [upd_val, upd_cel]; exact hown, by
                      rw [upd_cel]
                      exact F2.imp (fun _ _ _ ho => ho.keeps hkp) hF⟩)
                  exact ⟨v', _, _, w', _, hk.2, rfl, hs, fin hs (by simp [ARow.kind]), hrun⟩
              case h_1 k2 =>
                split at hk
                case h_1 => exact hk.elim
                case h_2 hne =>
                  have hne' : k2 ≠ k := fun e => by rw [e, Nat.beq_refl] at hne; cases hne
                  split at hk
                  case h_2 => exact hk.elim
                  case h_1 e3 e2 m2 hr2 =>
                    split at hk
                    case h_2 => exact hk.elim
                    case h_1 hq =>
                      have := Nat.eq_of_beq_eq_true hq
                      subst this
                      obtain ⟨_, rfl⟩ := hy.2 _ hr2
                      have hrow := h.heap.row k _ hr
                      have hrow2 := h.heap.row k2 _ hr2
                      obtain ⟨v', w', hrun, hown, hfr, hsz, hsame, hB, hnd⟩ := run_append_fresh (ty := ty) ht hte rfl hby' rfl hrow.1 (Src.own hrow2.1) (fun u hu => by
                        obtain ⟨i, hi⟩ := List.getElem?_of_mem hu
                        obtain ⟨l1, _, ho⟩ := F2.at' hrow2.2 hi
                        obtain ⟨b, c, hu'⟩ := len_own ho
                        rw [hu']; rfl) hk.1 (wB h)
                      have hbs : bsOf η k (.rows e0 e2 true m) = blk (η.val k) ++ (η.cel k).flatMap blk := by simp [bsOf, ARow.kind]
                      have hbs2 : bsOf η k2 (.rows e3 e2 true m2) = blk (η.val k2) ++ (η.cel k2).flatMap blk := by simp [bsOf, ARow.kind]
                      have hbs' : bsOf (η.upd k v' (η.cel k ++ η.cel k2)) k (.rows e0 e2 true (m ++ m2)) = blk v' ++ ((η.cel k).flatMap blk ++ (η.cel k2).flatMap blk) := by simp [bsOf, ARow.kind, upd_val, upd_cel]
                      have hnd1 := h.heap.nodup k _ hr
                      have hnd2 := h.heap.nodup k2 _ hr2
                      rw [hbs] at hnd1
                      rw [hbs2] at hnd2
                      obtain ⟨n1, n2, n3⟩ := List.nodup_append.1 hnd1
                      obtain ⟨p1, p2, p3⟩ := List.nodup_append.1 hnd2
                      have hap : ∀ b, b ∈ blk (η.val k2) ++ (η.cel k2).flatMap blk → b ∉ blk (η.val k) ++ (η.cel k).flatMap blk := fun b hb2 => by
                        have := h.heap.apart k2 _ k _ hr2 hr hne' b (by rw [hbs2]; exact hb2)
                        rwa [hbs] at this
                      have hlt : ∀ b, b ∈ (η.cel k).flatMap blk ++ (η.cel k2).flatMap blk → b < w.heap.size := fun b hb => by
                        rcases List.mem_append.1 hb with hb | hb
                        · exact (hrow.lt b (by rw [hbs]; exact List.mem_append.2 (.inr hb))).2
                        · exact (hrow2.lt b (by rw [hbs2]; exact List.mem_append.2 (.inr hb))).2
                      have hs := h.app (r' := .rows e0 e2 true (m ++ m2)) (v' := v') (cs' := η.cel k ++ η.cel k2) (hp1 := rem k2 st.hp) hr
                        (fun j r hj hl => by
                          by_cases hj2 : j = k2
                          · subst hj2; rw [look_rem] at hl; cases hl
                          · rwa [look_rem_ne _ _ _ hj2] at hl)
                        (fun b hb hn => hsame b hb (fun hm => hn (by rw [hbs]; exact List.mem_append.2 (.inl hm)))) hB
                        (by
                          rw [hbs']
                          refine List.nodup_append.2 ⟨hnd, List.nodup_append.2 ⟨n2, p2, fun b hb b' hb' e => ?_⟩, fun b hb b' hb' e => ?_⟩
                          · subst e; exact hap b (List.mem_append.2 (.inr hb')) (List.mem_append.2 (.inr hb))
                          · subst e
                            rcases hfr b hb with h1 | h1
                            · rcases List.mem_append.1 hb' with h2 | h2
                              · exact n3 b h1 b h2 rfl
                              · exact hap b (List.mem_append.2 (.inr h2)) (List.mem_append.2 (.inl h1))
                            · have := hlt b hb'; omega)
                        (fun b hb => by
                          rw [hbs'] at hb
                          rcases List.mem_append.1 hb with hb | hb
                          · rcases hfr b hb with h1 | h1
                            · exact .inl ⟨k, _, hr, by rw [hbs]; exact List.mem_append.2 (.inl h1), .inl rfl⟩
                            · exact .inr (by omega)
                          · rcases List.mem_append.1 hb with hb | hb
                            · exact .inl ⟨k, _, hr, by rw [hbs]; exact List.mem_append.2 (.inr hb), .inl rfl⟩
                            · exact .inl ⟨k2, _, hr2, by rw [hbs2]; exact List.mem_append.2 (.inr hb), .inr ⟨hne', look_rem _ _⟩⟩)
                        (fun _ => by
                          refine ⟨by rw [upd_val, upd_cel, List.length_append]; exact hown, ?_⟩
                          rw [upd_cel]
                          refine F2.append (F2.imp (fun l1 u hu ho => ?_) hrow.2) (F2.imp (fun l1 u hu ho => ?_) hrow2.2)
                          · refine ownsRow_same ho (fun b hb => hsame b (ownsRow_lt ho b hb).2 (fun hm => n3 b hm b (List.mem_flatMap.2 ⟨u, hu, hb⟩) rfl))
                          · refine ownsRow_same ho (fun b hb => hsame b (ownsRow_lt ho b hb).2 (fun hm => hap b (List.mem_append.2 (.inr (List.mem_flatMap.2 ⟨u, hu, hb⟩))) (List.mem_append.2 (.inl hm)))))
                      exact ⟨v', _, _, w', _, hk.2, rfl, hs, fin hs (by simp [ARow.kind]), hrun⟩
          case h_3 e0 e1 m hr =>
            obtain ⟨_, rfl⟩ := hx.2 _ hr
            split at hk
            case h_2 => exact hk.elim
            case h_1 he0 =>
              have := Nat.eq_of_beq_eq_true he0
              subst this
              have hrow := h.heap.row k _ hr
              have gen : ∀ {m2 : List (List Int)} {cs2 : List Value}, Src w s m2.length cs2 → F2 (SInts w (badOf ob st.hp η) .i64) m2 cs2 → m.length + m2.length ≤ room → K (.own k) ((st.kill k).upd k (.rows e0 e1 false (m ++ m2))) →
                  ∃ v q st' w' η', K q st' ∧ st'.sz = st.sz ∧ SRep w0 ob st' a w' η' ∧ VR w' ob st' η' q v ∧ (Builtin.append_ #[t, t] ty #[η.val k, s]).run P w = .ok v w' := by
                intro m2 cs2 hsrc hF hroom hk
                obtain ⟨v', w', hrun, hown, hfr, hsz, hsame, hB, hnd⟩ := run_append_fresh (ty := ty) ht hte rfl hby' rfl hrow.1 hsrc (fun u hu => by
                  obtain ⟨i, hi⟩ := List.getElem?_of_mem hu
                  obtain ⟨l1, _, ho⟩ := F2.at' hF hi
                  obtain ⟨b, c, hu', _⟩ := ho
                  rw [hu']; rfl) hroom (wB h)
                have hbs : bsOf η k (.rows e0 e1 false m) = blk (η.val k) := by simp [bsOf, ARow.kind]
                have hbs' : bsOf (η.upd k v' (η.cel k ++ cs2)) k (.rows e0 e1 false (m ++ m2)) = blk v' := by simp [bsOf, ARow.kind, upd_val]
                have hs := h.app (r' := .rows e0 e1 false (m ++ m2)) (v' := v') (cs' := η.cel k ++ cs2) (hp1 := st.hp) hr (fun _ _ _ h => h) (fun b hb hn => hsame b hb (by rwa [hbs] at hn)) hB (by rw [hbs']; exact hnd)
                  (fun b hb => by
                    rw [hbs'] at hb
                    rcases hfr b hb with h1 | h1
                    · exact .inl ⟨k, _, hr, by rw [hbs]; exact h1, .inl rfl⟩
                    · exact .inr (by omega))
                  (fun hkp => ⟨by rw [upd_val, upd_cel, List.length_append]; exact hown, by
                    rw [upd_cel]
                    exact F2.append (F2.imp (fun _ _ _ ho => ho.keeps hkp) hrow.2) (F2.imp (fun _ _ _ ho => ho.keeps hkp) hF)⟩)
                exact ⟨v', _, _, w', _, hk, rfl, hs, fin hs (by simp [ARow.kind]), hrun⟩
              split at hk
              case h_3 => exact hk.elim
              case h_1 k2 =>
                split at hk
                case h_1 => exact hk.elim
                case h_2 =>
                  split at hk
                  case h_2 => exact hk.elim
                  case h_1 e3 e2 m2 hr2 =>
                    obtain ⟨_, rfl⟩ := hy.2 _ hr2
                    have hrow2 := h.heap.row k2 _ hr2
                    exact gen (Src.own hrow2.1) hrow2.2 hk.1 hk.2
              case h_2 m2 =>
                obtain ⟨sa, c, hv, _, _, hc⟩ := hy
                obtain ⟨cs2, hl2, hcs⟩ : ∃ cs2 : List Value, cs2.length = m2.length ∧ ∀ (i : Nat) l u, m2[i]? = some l → cs2[i]? = some u → ∃ b o, sa = some ⟨b, o, none⟩ ∧ w.cell? ⟨b, o + i, none⟩ = some u ∧ SInts w (badOf ob st.hp η) .i64 l u := by
                  have : ∀ (m2 : List (List Int)) (n : Nat), (∀ i l, m2[i]? = some l → ∃ b o u, sa = some ⟨b, o, none⟩ ∧ ¬ badOf ob st.hp η b ∧ w.cell? ⟨b, o + (n + i), none⟩ = some u ∧ SInts w (badOf ob st.hp η) .i64 l u) →
                      ∃ cs2 : List Value, cs2.length = m2.length ∧ ∀ (i : Nat) l u, m2[i]? = some l → cs2[i]? = some u → ∃ b o, sa = some ⟨b, o, none⟩ ∧ w.cell? ⟨b, o + (n + i), none⟩ = some u ∧ SInts w (badOf ob st.hp η) .i64 l u := by
                    intro m2
                    induction m2 with
                    | nil => intro n _; exact ⟨[], rfl, fun i l u h => by simp at h⟩
                    | cons l0 m2 ih =>
                      intro n hc
                      obtain ⟨b, o, u, h1, _, h2, h3⟩ := hc 0 l0 rfl
                      obtain ⟨cs2, e1, e2⟩ := ih (n + 1) (fun i l hi => by
                        have := hc (i + 1) l (by simpa using hi)
                        rwa [show n + (i + 1) = n + 1 + i by omega] at this)
                      refine ⟨u :: cs2, by simp [e1], fun i l u' hi hu => ?_⟩
                      match i with
                      | 0 =>
                        simp at hi hu; subst hi hu
                        exact ⟨b, o, h1, h2, h3⟩
                      | i + 1 =>
                        simp at hi hu
                        have := e2 i l u' hi hu
                        rwa [show n + 1 + i = n + (i + 1) by omega] at this
                  obtain ⟨cs2, e1, e2⟩ := this m2 0 (fun i l hi => by simpa using hc i l hi)
                  exact ⟨cs2, e1, fun i l u hi hu => by simpa using e2 i l u hi hu⟩
                refine gen (cs2 := cs2) ⟨sa, c, hv, hl2, fun j u hj => ?_⟩ (F2.intro hl2.symm (fun i l u hi hu => by obtain ⟨_, _, _, _, h3⟩ := hcs i l u hi hu; exact h3)) hk.1 hk.2
                obtain ⟨l, hl⟩ : ∃ l, m2[j]? = some l := ⟨_, List.getElem?_eq_getElem (by have := (List.getElem?_eq_some_iff.1 hj).1; omega)⟩
                obtain ⟨b, o, h1, h2, _⟩ := hcs j l u hl hj
                exact ⟨b, o, h1, h2⟩
end
end Go.Aw
