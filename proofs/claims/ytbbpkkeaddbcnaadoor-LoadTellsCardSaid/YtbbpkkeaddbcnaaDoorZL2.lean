/- Load: the library's functions that are known by what they answer: strconv.Itoa, strings.Join. -/
import Derived.Test.YtbbpkkeaddbcnaaDoorZL1
import Derived.Test.YtbbpkkeaddbcnaaDoorZJ32
import Derived.Test.YtbbpkkeaddbcnaaDoorZLP
import Derived.Test.YtbbpkkeaddbcnaaDoorZJ24
import Derived.Lib.AppendIntMem
set_option linter.unusedSimpArgs false
set_option linter.unusedVariables false
namespace Go.Proofs.YtbbpkkeaddbcnaaDoor.ZJM.LD
open Go.Proofs.YtbbpkkeaddbcnaaDoor.ZJM Go.RowKit
/-- The words of a list of strings. -/
def strsOf : List PV → Option (List ByteArray)
  | [] => some []
  | .str s :: r => (strsOf r).map (s :: ·)
  | _ :: _ => none
theorem strsOf_eq : ∀ {xs : List PV} {ys : List ByteArray}, strsOf xs = some ys → xs = ys.map .str
  | [], ys, h => by simp only [strsOf, Option.some.injEq] at h; subst h; rfl
  | x :: r, ys, h => by
    cases x <;> simp only [strsOf, Option.map_eq_some_iff, reduceCtorEq] at h
    obtain ⟨zs, h1, rfl⟩ := h
    rw [strsOf_eq h1]; rfl
def joined (ys : List ByteArray) (sep : ByteArray) : List UInt8 := Lib.join (ys.map (·.data.toList)) sep.data.toList
def itoaF (args : List PV) (m : Mem) : Option (PV × Bag × Mem) := match args with
  | [.int .i64 n] => if -9223372036854775808 ≤ n ∧ n ≤ 9223372036854775807 then some (.str ⟨(Lib.itoa n).toArray⟩, emptyBag, m) else none
  | _ => none
def joinF (args : List PV) (m : Mem) : Option (PV × Bag × Mem) := match args with
  | [.lst _ _ 1 xs, .str sep] => match strsOf xs with
    | some ys => if ys.length ≤ 140737488355328 ∧ (joined ys sep).length ≤ 140737488355328 then some (.str ⟨(joined ys sep).toArray⟩, emptyBag, m) else none
    | none => none
  | _ => none
def primF (f : FuncId) : Option (List PV → Mem → Option (PV × Bag × Mem)) := if f = 33 then some itoaF else if f = 34 then some joinF else none
def E : Env := ⟨fns, primF⟩
theorem flat_strs (ys : List ByteArray) : (ys.map PV.str).flatMap PV.cells = ys.map PV.str := by
  induction ys with
  | nil => rfl
  | cons y r ih => simp only [List.map_cons, List.flatMap_cons, ih]; rfl
theorem itoa_ok {T : Tab} {okP : OkP} (hT : ∀ g w, OkG (okP, T) g w → (∃ m, Rel g m w) → Lib.TabIs Tryd.prog w "internal/strconv.uint64pow10" .u64 Lib.pow10Tab) {args : List PV} {m m' : Mem} {v : PV} {bag : Bag} (hF : itoaF args m = some (v, bag, m')) {g : Gh} {w : World} {ra : Array Value} (hok : OkG (okP, T) g w) (hR : Rel g m w) (hl : args.length = ra.size)
    (ha : ∀ j c, args[j]? = some c → V g c (ra.getD j undef)) : CallsIn Fence.wide 0 Tryd.prog 33 ra w fun e w' => ∃ rv, e = .returned rv ∧ ∃ g', CallPost m g w m' bag v g' w' rv := by
  unfold itoaF at hF
  split at hF
  case h_2 => cases hF
  rename_i n
  split at hF
  case isFalse => cases hF
  rename_i hn
  cases hF
  have h0 := ha 0 _ rfl
  have hra : ra = #[.int .i64 n] := by
    have h1 : ra.size = 1 := by simpa using hl.symm
    have h2 : ra.getD 0 undef = .int .i64 n := by generalize ra.getD 0 undef = q at h0; cases h0; rfl
    apply Array.ext (by simpa using h1)
    intro i hi hi'
    have : i = 0 := by omega
    subst this
    simpa [Array.getD, hi] using h2
  subst hra
  refine callsIn_wide.2 ((Tryd.strconv_Itoa n hn.1 hn.2 w (hT g w hok ⟨m, hR⟩)).mono ?_)
  rintro e w' ⟨rfl, k, os, rfl⟩
  refine ⟨_, rfl, g, CallPost.below hR ?_ (.str _) rfl⟩
  exact Lib.below_grow _ _ (Nat.le_refl _) _ _
theorem size2 {ra : Array Value} {x y : Value} (h : ra.size = 2) (hx : ra.getD 0 undef = x) (hy : ra.getD 1 undef = y) : ra = #[x, y] := by
  apply Array.ext (by simpa using h)
  intro i hi hi'
  rcases (by omega : i = 0 ∨ i = 1) with rfl | rfl
  · simpa [Array.getD, hi] using hx
  · simpa [Array.getD, hi] using hy
theorem join_ok {args : List PV} {m m' : Mem} {v : PV} {bag : Bag} (hF : joinF args m = some (v, bag, m')) {g : Gh} {w : World} {ra : Array Value} (hR : Rel g m w) (hl : args.length = ra.size)
    (ha : ∀ j c, args[j]? = some c → V g c (ra.getD j undef)) : CallsIn Fence.wide 0 Tryd.prog 34 ra w fun e w' => ∃ rv, e = .returned rv ∧ ∃ g', CallPost m g w m' bag v g' w' rv := by
  unfold joinF at hF
  split at hF
  case h_2 => cases hF
  rename_i o nl xs sep
  split at hF
  case h_2 => cases hF
  rename_i ys hys
  split at hF
  case isFalse => cases hF
  rename_i hn
  cases hF
  have hx := strsOf_eq hys
  have h0 := ha 0 _ rfl
  have h1 := ha 1 _ rfl
  have h1' : ra.getD 1 undef = .string sep := by generalize ra.getD 1 undef = q at h1; cases h1; rfl
  have none_ok : ∀ (a : Option Addr) (c : Nat), ra.getD 0 undef = .slice a 0 c → ys = [] → CallsIn Fence.wide 0 Tryd.prog 34 ra w fun e w' => ∃ rv, e = .returned rv ∧ ∃ g', CallPost m g w m emptyBag (.str ⟨(joined ys sep).toArray⟩) g' w' rv := by
    intro a c hra hy
    subst hy
    rw [size2 (by simpa using hl.symm) hra h1']
    refine callsIn_wide.2 ((Tryd.strings_Join_none a c sep w).mono ?_)
    rintro e w' ⟨rfl, rfl⟩
    exact ⟨_, rfl, g, CallPost.below hR (Below.refl _ _) (.str _) rfl⟩
  generalize hq : ra.getD 0 undef = q at h0 none_ok
  cases h0 with
  | nil o sz => exact none_ok _ _ rfl (List.map_eq_nil_iff.1 hx.symm)
  | emp sz a => exact none_ok _ _ rfl (List.map_eq_nil_iff.1 hx.symm)
  | lst o sz xs b off cap rv hs hu hG hV hc =>
    by_cases hy : ys = []
    · subst hy; subst hx
      exact none_ok _ _ rfl rfl
    rw [hx, flat_strs] at hG hV
    have hcell : ∀ (j : Nat) x, ys[j]? = some x → w.cell? ⟨b, off + j, none⟩ = some (.string x) := by
      intro j x hj
      have hlt : j < ys.length := (List.getElem?_eq_some_iff.1 hj).1
      have k1 := hG j (by simpa using hlt)
      have k2 := hV j (.str x) (by simp [hj])
      have k3 : rv j = .string x := by generalize rv j = r at k2; cases k2; rfl
      rw [k3] at k1
      exact (hR.hG _ _ _ k1).1
    have hbk : b < w.heap.size := by
      obtain ⟨y, r, rfl⟩ := List.exists_cons_of_ne_nil hy
      have := hG 0 (by simp)
      exact hR.G_lt this
    have hlen : xs.length = ys.length := by rw [hx]; simp
    rw [size2 (by simpa using hl.symm) hq h1', hlen]
    refine callsIn_wide.2 ((Tryd.strings_Join b off cap ys sep w hcell hbk hn.1 (by omega) hn.2).mono ?_)
    rintro e w' ⟨rfl, hb⟩
    exact ⟨_, rfl, g, CallPost.below hR hb (.str _) rfl⟩
theorem prims_of {T : Tab} {okP : OkP} (hT : ∀ g w, OkG (okP, T) g w → (∃ m, Rel g m w) → Lib.TabIs Tryd.prog w "internal/strconv.uint64pow10" .u64 Lib.pow10Tab) : Prims Tryd.prog (okP, T) E.prim := by
  intro f F hf args m v bag m' hF g w ra hok hR hl ha hu
  simp only [E, primF] at hf
  split at hf
  · rename_i h33
    subst h33
    cases hf
    exact ⟨Tryd.f33, Tryd.func33, rfl, by decide, itoa_ok hT hF hok hR hl ha⟩
  · split at hf
    · rename_i h34
      subst h34
      cases hf
      exact ⟨Tryd.f34, Tryd.func34, rfl, by decide, join_ok hF hR hl ha⟩
    · cases hf
end Go.Proofs.YtbbpkkeaddbcnaaDoor.ZJM.LD
