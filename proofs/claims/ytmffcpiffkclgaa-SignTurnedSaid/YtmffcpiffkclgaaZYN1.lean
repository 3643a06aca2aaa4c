/- slices.Insert at elements of six cells: the walk. Begun from the kit's walks of slices.Insert at one cell (SlicesInsert, SlicesInsertGrow). -/
import Derived.Test.YtmffcpiffkclgaaProg
import Derived.Shelf.RegionOpenPlain
import Derived.WalkKit
import Derived.Lib.Walk
import Derived.Lib.SliceRun
import Derived.Lib.JoinLaws
import Derived.Lib.AppendZeros
import Derived.Lib.AppendZerosOnto
import Derived.Lib.Overlaps
import Derived.Laws.Externs
import Derived.Laws.IdiomCopy
import Derived.Laws.NewBlocks
import Derived.Shelf.Spec.SlicesInsert
import Derived.Test.YtmffcpiffkclgaaZJ11A
set_option linter.unusedVariables false
set_option linter.unusedSimpArgs false
namespace Go.Proofs.ZIN
open Go.Shelf Go.RowKit Go.Lib
variable {P : Program}
theorem run_overlaps_row (w : World) (tS tR e : TypeId) (ht : P.underlying tS = some (.slice e)) (size : Nat) (hz : ∀ w,(Go.sizeOf e).run P w = .ok size w)
  (a b : Addr) (la ca lb cb : Nat) (hne : a.block ≠ b.block) (tA tB : TypeId) (kA kB : Nat)
  (hsa : w.shape? a.block = some (tA,kA)) (hsb : w.shape? b.block = some (tB,kB)) (hkA : kA ≠ 0) (hkB : kB ≠ 0)
  (hfa : w.frozen? b = false) (hfe : w.frozen? { block := b.block,off := kB } = false) :
  (Extern.SlicesOverlaps.overlaps #[tS,tS] #[tR] #[.slice (some a) la ca,.slice (some b) lb cb]).run P w = .ok (.bool false) w := by
 have hnb : (a.block != b.block) = true := by simpa using hne
 have hnb' : (a.block == b.block) = false := by simpa using hne
 change Sem.run P (α := Value) (do
  let some t := (#[tS,tS] : Array TypeId)[0]? | stuck "slices.overlaps: no parameter types"
  let .slice elem ← underlying t | stuck "slices.overlaps: slice type expected"
  let size ← sizeOf elem
  match (some a : Option Addr),(some b : Option Addr) with
  | some a,some b =>
   if la = 0 ∨ lb = 0 ∨ size = 0 then pure (Value.bool false)
   else if a.block != b.block && (← frozen a) && (← frozen b) then unsupported .addressObserved
   else do
    if a.block != b.block then do
     noView a; noView b
     if ← mayBeOne a b then return Value.bool ((← choose (.extern "sameAddr.stringBytes" 2)) == 1)
    pure (Value.bool (a.block == b.block && a.off < b.off + lb * size && b.off < a.off + la * size))
  | _,_ => pure (Value.bool false)) w = _
 by_cases h0 : la = 0 ∨ lb = 0 ∨ size = 0
 ·simp [run_underlying ht,hz,h0]
 ·cases kB with
  | zero => exact absurd rfl hkB
  | succ kB =>
   cases kA with
   | zero => exact absurd rfl hkA
   | succ kA =>
   cases hA : w.frozen? a <;> cases hA2 : w.frozen? { block := a.block,off := kA + 1 } <;>
   simp [run_underlying ht,hz,h0,hnb,hnb',frozen,noView,viewAt,mayBeOne,stringish,shape,Sem.run,hsa,hsb,hfa,hfe,hA,hA2]
theorem run_copy_cellsS (S : Nat) (w : World) (dT sT ty elem : TypeId) (b o dLen dCap : Nat) (a : Addr) (sLen sCap k : Nat) (cs : List Value)
  (hu : P.underlying dT = some (.slice elem)) (hs : (P.info? elem).map (·.size) = some S) (hk : k = Nat.min sLen dLen) (hn : cs.length = k * S)
  (hsrc : ∀ j v,cs[j]? = some v → w.cell? (a.add j) = some v) (hc : ∀ j,j < cs.length → (w.cell? ⟨b,o + j,none⟩).isSome = true) (hf : ∀ j,j < cs.length → w.frozen? ⟨b,o + j,none⟩ = false) (h1 : ∀ v ∈ cs,v.oneCell' = true) :
  (Builtin.copy_ #[dT,sT] ty #[.slice (some ⟨b,o,none⟩) dLen dCap,.slice (some a) sLen sCap]).run P w = .ok (goInt k) (w.setCells b o cs) := by
 have hl := run_loadCells_list (P := P) w a cs hsrc
 have hst := run_storeCells_cells (P := P) b o cs 0 w (by simpa using hc) (by simpa using hf) h1
 subst hk
 cases hq : P.info? elem with
 | none => simp [hq] at hs
 | some i =>
  have hi : i.size = S := by simpa [hq] using hs
  simp [Builtin.copy_,run_underlying hu,Builtin.lenOf,Builtin.firstCells,sizeOf,typeInfo,hq,hi,← hn,hl,hst]
structure Lays (P : Program) : Prop where
 mixed : P.follows .mixedOrders = true
 f105 : P.funcs[154]? = some Try.f154
 f122 : P.funcs[170]? = some Try.f170
 t0 : P.underlying 0 = some (TypeDesc.tuple #[])
 a0 : ∀ w,(isAgg 0).run P w = .ok false w
 z0 : ∀ w,(Go.sizeOf 0).run P w = .ok 1 w
 v0 : ∀ w,(zeroValue 0).run P w = .ok (Value.tuple #[]) w
 t3 : P.underlying 3 = some (TypeDesc.int IntKind.i64)
 a3 : ∀ w,(isAgg 3).run P w = .ok false w
 z3 : ∀ w,(Go.sizeOf 3).run P w = .ok 1 w
 v3 : ∀ w,(zeroValue 3).run P w = .ok (Value.int IntKind.i64 0) w
 t4 : P.underlying 4 = some (TypeDesc.bool)
 a4 : ∀ w,(isAgg 4).run P w = .ok false w
 z4 : ∀ w,(Go.sizeOf 4).run P w = .ok 1 w
 v4 : ∀ w,(zeroValue 4).run P w = .ok (Value.bool false) w
 t156 : P.underlying 205 = some (TypeDesc.slice 215)
 a156 : ∀ w,(isAgg 205).run P w = .ok false w
 z156 : ∀ w,(Go.sizeOf 205).run P w = .ok 1 w
 v156 : ∀ w,(zeroValue 205).run P w = .ok (Value.slice none 0 0) w
 z166 : ∀ w,(Go.sizeOf 215).run P w = .ok 6 w
 i166 : ∃ z,(P.info? 215).map (fun i => (i.zero,i.size,i.bytes)) = some (some z,6,64) ∧ z.cells.size = 6
theorem lay_sz {t : TypeId} {n : Nat} (h : (P.info? t).map (·.size) = some n) (w : World) : (Go.sizeOf t).run P w = .ok n w := by
 obtain ⟨i,hi,rfl⟩ := Option.map_eq_some_iff.1 h
 simp [Go.sizeOf,typeInfo,hi]
theorem lay_zero {t : TypeId} {z : Value} (h : (P.info? t).map (·.zero) = some (some z)) (w : World) : (zeroValue t).run P w = .ok z w := by
 obtain ⟨i,hi,hz⟩ := Option.map_eq_some_iff.1 h
 simp [zeroValue,typeInfo,hi,hz]
theorem lays : Lays Try.prog := by
 have i166 : (Try.prog.info? 215).map (fun i => (i.zero,i.size,i.bytes)) = some (some (Value.agg #[.int .i64 0,.int .i64 0,.int .i64 0,.int .i64 0,.int .i64 0,.slice none 0 0]),6,64) := by kernel_rfl
 have t0 : Try.prog.underlying 0 = some (TypeDesc.tuple #[]) := by kernel_rfl
 have t3 : Try.prog.underlying 3 = some (TypeDesc.int IntKind.i64) := by kernel_rfl
 have t4 : Try.prog.underlying 4 = some TypeDesc.bool := by kernel_rfl
 have t156 : Try.prog.underlying 205 = some (TypeDesc.slice 215) := by kernel_rfl
 exact ⟨by kernel_rfl,Try.func154,Try.func170,t0,run_isAgg_plain t0 rfl,lay_sz (by kernel_rfl),lay_zero (by kernel_rfl),t3,run_isAgg_plain t3 rfl,lay_sz (by kernel_rfl),lay_zero (by kernel_rfl),
  t4,run_isAgg_plain t4 rfl,lay_sz (by kernel_rfl),lay_zero (by kernel_rfl),t156,run_isAgg_plain t156 rfl,lay_sz (by kernel_rfl),lay_zero (by kernel_rfl),lay_sz (by kernel_rfl),⟨_,i166,by kernel_rfl⟩⟩
end Go.Proofs.ZIN
set_option linter.unusedVariables false
set_option linter.unusedSimpArgs false
namespace Go.Proofs.ZIN
open Go.Shelf Go.RowKit Go.Lib
variable {P : Program}
set_option maxHeartbeats 4000000 in
set_option maxRecDepth 100000 in
theorem ins_shift (L : Lays P) (b off n c i vb voff m vc : Nat) (cs vs : List Value) (w : World) (hi : i < n) (hm : 0 < m) (hroom : n + m ≤ c) (hc63 : c ≤ 9223372036854775807) (hvb : vb ≠ b)
  (hcl : cs.length = n * 6) (hvl : vs.length = m * 6)
  (hcs : ∀ j v,cs[j]? = some v → w.cell? ⟨b,off + j,none⟩ = some v) (hsp : ∀ j,j < (n + m) * 6 → (w.cell? ⟨b,off + j,none⟩).isSome = true) (hfz : ∀ j,j < (n + m) * 6 → w.frozen? ⟨b,off + j,none⟩ = false)
  (hvs : ∀ j v,vs[j]? = some v → w.cell? ⟨vb,voff + j,none⟩ = some v) (h1c : ∀ v ∈ cs,v.oneCell' = true) (h1v : ∀ v ∈ vs,v.oneCell' = true)
  (tA tB : TypeId) (kA kB : Nat) (hsa : w.shape? vb = some (tA,kA)) (hsb : w.shape? b = some (tB,kB)) (hkA : kA ≠ 0) (hkB : kB ≠ 0) (hfa : w.frozen? ⟨b,off + (i + m) * 6,none⟩ = false) (hfe : w.frozen? ⟨b,kB,none⟩ = false) :
  Calls P 154 #[.slice (some ⟨b,off,none⟩) n c,.int .i64 i,.slice (some ⟨vb,voff,none⟩) m vc] w fun e w' =>
   e = .returned (.slice (some ⟨b,off,none⟩) (n + m) c) ∧ w' = (w.drew.setCells b (off + (i + m) * 6) (cs.drop (i * 6))).setCells b (off + i * 6) vs := by
 have t0 := L.t0; have a0 := L.a0; have z0 := L.z0; have v0 := L.v0; have t3 := L.t3; have a3 := L.a3; have z3 := L.z3; have v3 := L.v3; have t4 := L.t4; have a4 := L.a4; have z4 := L.z4; have v4 := L.v4; have t156 := L.t156; have a156 := L.a156; have z156 := L.z156; have v156 := L.v156; have z166 := L.z166
 have u0 := run_underlying L.t0; have u3 := run_underlying L.t3; have u4 := run_underlying L.t4; have u156 := run_underlying L.t156
 have hz1 : ¬ ((m : Int) = 0) := by omega
 have hz2 : ¬ ((i : Int) = (n : Int)) := by omega
 obtain ⟨z,hzi,hzc⟩ := L.i166
 have hsz : (P.info? 215).map (·.size) = some 6 := by
  obtain ⟨i0,hi0,h0,h1,h2⟩ := info_parts hzi
  rw [hi0]; simp [h1]
 have hov : ∀ lb cb,(callFunc 170 #[.slice (some ⟨vb,voff,none⟩) m vc,.slice (some ⟨b,off + (i + m) * 6,none⟩) lb cb]).run P w = .ok (.value (.bool false)) w := fun lb cb => by
  rw [run_callFunc_extern L.f122 (by kernel_rfl) (by kernel_rfl) (by kernel_rfl) (e := Extern.SlicesOverlaps.overlaps #[205,205] #[4]) (by kernel_rfl),
   run_overlaps_row w 205 4 215 L.t156 6 L.z166 ⟨vb,voff,none⟩ ⟨b,off + (i + m) * 6,none⟩ m vc lb cb hvb tA tB kA kB hsa hsb hkA hkB hfa hfe]
  rfl
 clear hzi hzc
 have hdl : (cs.drop (i * 6)).length = (n - i) * 6 := by rw [List.length_drop,hcl]; omega
 have mixed := L.mixed
 have hw1 : IntKind.i64.wrap ((i : Int) + (m : Int)) = (i : Int) + (m : Int) := by rw [IntKind.wrap_i64]; omega
 have hb1 : (0 : Int) ≤ (i : Int) + (m : Int) := by omega
 have hin : i ≤ n := by omega
 have htn : ((i : Int) + (m : Int)).toNat = i + m := by omega
 have hb2 : ¬ (c = i + m) := by omega
 have hb3 : (i : Int) ≤ (n : Int) + (m : Int) := by omega
 have hb4 : ¬ (c = i) := by omega
 have hcp1 : ∀ ty dc sc,(Builtin.copy_ #[205,205] ty #[.slice (some ⟨b,off + (i + m) * 6,none⟩) (n + m - (i + m)) dc,.slice (some ⟨b,off + i * 6,none⟩) (n + m - i) sc]).run P w.drew = .ok (goInt (n - i : Nat)) (w.drew.setCells b (off + (i + m) * 6) (cs.drop (i * 6))) := fun ty dc sc =>
  run_copy_cellsS 6 w.drew _ _ ty 215 b (off + (i + m) * 6) (n + m - (i + m)) dc ⟨b,off + i * 6,none⟩ (n + m - i) sc (n - i) (cs.drop (i * 6)) L.t156 hsz (by simp only [Nat.min_def]; split <;> omega) hdl
   (fun j v hj => by rw [Addr.add_lit,Nat.add_assoc]; exact hcs (i * 6 + j) v (by rwa [List.getElem?_drop] at hj))
   (fun j hj => by rw [Nat.add_assoc]; exact hsp _ (by omega)) (fun j hj => by rw [Nat.add_assoc]; exact hfz _ (by omega)) (fun v hv => h1c v (List.mem_of_mem_drop hv))
 obtain ⟨W1,hW1⟩ : ∃ W1,W1 = w.drew.setCells b (off + (i + m) * 6) (cs.drop (i * 6)) := ⟨_,rfl⟩
 have hsp1 : ∀ k,k < (n + m) * 6 → (W1.cell? ⟨b,off + k,none⟩).isSome = true := fun k hk => by
  rw [hW1]
  exact isSome_setCells b _ _ _ (fun j hj => by rw [Nat.add_assoc]; exact hsp _ (by omega)) _ (hsp k hk)
 have hcp2 : ∀ (W : World),(∀ x,W.cell? x = W1.cell? x) → (∀ x,W.frozen? x = W1.frozen? x) → ∀ ty dc,(Builtin.copy_ #[205,205] ty #[.slice (some ⟨b,off + i * 6,none⟩) (n + m - i) dc,.slice (some ⟨vb,voff,none⟩) m vc]).run P W = .ok (goInt m) (W.setCells b (off + i * 6) vs) := fun W hWc hWf ty dc =>
  run_copy_cellsS 6 W _ _ ty 215 b (off + i * 6) (n + m - i) dc ⟨vb,voff,none⟩ m vc m vs L.t156 hsz (by simp only [Nat.min_def]; split <;> omega) hvl
   (fun j v hj => by
    rw [Addr.add_lit,hWc,hW1,World.cell?_setCells_out b _ _ _ _ (fun h _ => absurd h hvb)]
    exact hvs j v hj)
   (fun j hj => by rw [hWc,Nat.add_assoc]; exact hsp1 _ (by omega)) (fun j hj => by rw [hWf,hW1,World.frozen?_setCells,Nat.add_assoc]; exact hfz _ (by omega)) h1v
 rw [← hW1] at hcp1
 go_enter L.f105,Try.ntmps154
 go_wp2_with (simp only [hov])
 go_region_law_o (refine step_copy_runI rfl _ _ 205 205 rfl _ _ (by simp [Act.eval,Act.put]) (by simp [Act.eval,Act.put]) (hcp1 _ _ _) ?_)
 go_wp2_with (at_builtin; refine wpList_copy_runI _ rfl _ _ 205 205 rfl _ _ rfl rfl (hcp2 _ (fun _ => rfl) (fun _ => rfl) _ _) ?_)
 go_ret
 first | exact ⟨rfl,rfl⟩ | exact ⟨rfl,by rw [hW1]⟩
set_option maxHeartbeats 4000000 in
set_option maxRecDepth 100000 in
theorem ins_end_room (L : Lays P) (b off n c vb voff m vc : Nat) (vs : List Value) (w : World) (hm : 0 < m) (hroom : n + m ≤ c) (hc63 : c ≤ 9223372036854775807)
  (hvl : vs.length = m * 6) (hsp : ∀ j,j < m * 6 → (w.cell? ⟨b,off + n * 6 + j,none⟩).isSome = true) (hfz : ∀ j,j < m * 6 → w.frozen? ⟨b,off + n * 6 + j,none⟩ = false)
  (hvs : ∀ j v,vs[j]? = some v → w.cell? ⟨vb,voff + j,none⟩ = some v) (h1v : ∀ v ∈ vs,v.oneCell' = true) :
  Calls P 154 #[.slice (some ⟨b,off,none⟩) n c,.int .i64 n,.slice (some ⟨vb,voff,none⟩) m vc] w fun e w' =>
   e = .returned (.slice (some ⟨b,off,none⟩) (n + m) c) ∧ w' = w.setCells b (off + n * 6) vs := by
 have t0 := L.t0; have a0 := L.a0; have z0 := L.z0; have v0 := L.v0; have t3 := L.t3; have a3 := L.a3; have z3 := L.z3; have v3 := L.v3; have t4 := L.t4; have a4 := L.a4; have z4 := L.z4; have v4 := L.v4; have t156 := L.t156; have a156 := L.a156; have z156 := L.z156; have v156 := L.v156; have z166 := L.z166
 have u0 := run_underlying L.t0; have u3 := run_underlying L.t3; have u4 := run_underlying L.t4; have u156 := run_underlying L.t156
 have mixed := L.mixed
 have hz1 : ¬ ((m : Int) = 0) := by omega
 obtain ⟨z,hzi,hzc⟩ := L.i166
 obtain ⟨i0,hi0,hz0,hzs,hzb⟩ := info_parts hzi
 have hrun : ∀ ty,(Builtin.append_ #[205,205] ty #[.slice (some ⟨b,off,none⟩) n c,.slice (some ⟨vb,voff,none⟩) m vc]).run P w = .ok (.slice (some ⟨b,off,none⟩) (n + m) c) (w.setCells b (off + n * 6) vs) := fun ty => by
  have h := run_append_room_cells (P := P) (w := w) 205 ty 215 i0 L.t156 hi0 b off n c ⟨vb,voff,none⟩ m vc vs (by rw [hzs]; exact hvl) (fun j u hj => by rw [Addr.add_lit]; exact hvs j u hj) h1v hroom (by rw [hzs,hvl]; exact hsp) (by rw [hzs,hvl]; exact hfz)
  rw [hzs] at h
  exact h
 clear hzi hzc hi0 hz0 hzs hzb
 go_enter L.f105,Try.ntmps154
 go_wp2_with (at_builtin; refine Lib.wpList_append_run _ rfl _ _ _ _ rfl _ _ rfl rfl _ _ (hrun _) ?_)
 go_ret
 exact ⟨rfl,rfl⟩
set_option maxHeartbeats 4000000 in
set_option maxRecDepth 100000 in
theorem ins_end_grow (L : Lays P) (base : Option Addr) (n c vb voff m vc : Nat) (cs vs : List Value) (w : World) (hm : 0 < m) (hnc : n ≤ c) (hroom : c < n + m) (hbig : (n + m) * 64 ≤ 140737488355328)
  (hcl : cs.length = n * 6) (hvl : vs.length = m * 6) (hnil : base = none → n = 0)
  (hcs : ∀ a,base = some a → ∀ j v,cs[j]? = some v → w.cell? (a.add j) = some v)
  (hvs : ∀ j v,vs[j]? = some v → w.cell? ⟨vb,voff + j,none⟩ = some v) (h1v : ∀ v ∈ vs,v.oneCell' = true) :
  Calls P 154 #[.slice base n c,.int .i64 n,.slice (some ⟨vb,voff,none⟩) m vc] w fun e w' =>
   ∃ ROW : Array Value,ROW.size = grownCap w (n + m) c 215 * 6 ∧ (∀ j,j < (n + m) * 6 → ROW[j]? = (cs ++ vs)[j]?) ∧
   e = .returned (.slice (some ⟨w.heap.size,0,none⟩) (n + m) (grownCap w (n + m) c 215)) ∧
   w' = w.drew.alloc (.cells ROW 215) := by
 have t0 := L.t0; have a0 := L.a0; have z0 := L.z0; have v0 := L.v0; have t3 := L.t3; have a3 := L.a3; have z3 := L.z3; have v3 := L.v3; have t4 := L.t4; have a4 := L.a4; have z4 := L.z4; have v4 := L.v4; have t156 := L.t156; have a156 := L.a156; have z156 := L.z156; have v156 := L.v156; have z166 := L.z166
 have u0 := run_underlying L.t0; have u3 := run_underlying L.t3; have u4 := run_underlying L.t4; have u156 := run_underlying L.t156
 have mixed := L.mixed
 have hz1 : ¬ ((m : Int) = 0) := by omega
 obtain ⟨z,hzi,hzc⟩ := L.i166
 obtain ⟨i0,hi0,hz0,hzs,hzb⟩ := info_parts hzi
 have hsrc : Src P i0.size 205 (.slice (some ⟨vb,voff,none⟩) m vc) m vs w := by
  rw [hzs]
  exact Src.ofSlice w L.t156 ⟨vb,voff,none⟩ m vc vs hvl (fun j u hj => by rw [Addr.add_lit]; exact hvs j u hj) h1v
 have hold : (Builtin.firstCells i0.size n (.slice base n c)).run P w.drew = .ok cs.toArray w.drew := by
  rw [hzs]
  cases base with
  | none =>
   have h0 := hnil rfl
   subst h0
   rw [List.length_eq_zero_iff.1 (by omega : cs.length = 0)]
   exact run_firstCells_none w.drew 6 0 0 c
  | some a => exact run_firstCells_some w.drew 6 n a n c cs hcl (fun j v hj => hcs a rfl j v hj)
 have hrun : ∀ ty,(Builtin.append_ #[205,205] ty #[.slice base n c,.slice (some ⟨vb,voff,none⟩) m vc]).run P w = .ok (.slice (some ⟨w.heap.size,0,none⟩) (n + m) (grownCap w (n + m) c 215)) (w.drew.alloc (.cells ((cs ++ vs).toArray ++ Builtin.zeroCells z.cells (grownCap w (n + m) c 215 - (n + m))) 215)) := fun ty =>
  run_append_grow_src w 205 205 ty 215 i0 z L.t156 hi0 hz0 base n c cs hold _ m vs hsrc hroom (by omega) (by rw [hzb]; exact growslice_fits hroom hbig)
 have hGn : n + m ≤ grownCap w (n + m) c 215 := grownCap_ge w _ _ _
 obtain ⟨ROW,hROW⟩ : ∃ ROW : Array Value,ROW = (cs ++ vs).toArray ++ Builtin.zeroCells z.cells (grownCap w (n + m) c 215 - (n + m)) := ⟨_,rfl⟩
 have hRs : ROW.size = grownCap w (n + m) c 215 * 6 := by
  rw [hROW]
  simp only [Array.size_append,List.size_toArray,size_zeroCells,hzc,List.length_append]
  omega
 have hRg : ∀ j,j < (n + m) * 6 → ROW[j]? = (cs ++ vs)[j]? := fun j hj => by
  rw [hROW,Array.getElem?_append_left (by simp; omega)]
  simp
 rw [← hROW] at hrun
 refine Calls.mono (R := fun e w' => e = .returned (.slice (some ⟨w.heap.size,0,none⟩) (n + m) (grownCap w (n + m) c 215)) ∧ w' = w.drew.alloc (.cells ROW 215)) ?_ fun e w' h => ⟨ROW,hRs,hRg,h⟩
 clear hzi hzc hi0 hz0 hzs hzb hsrc hold hROW hRs hRg hGn
 go_enter L.f105,Try.ntmps154
 cases base with
 | none =>
  have h0 := hnil rfl
  subst h0
  go_wp2_with (at_builtin; refine Lib.wpList_append_run _ rfl _ _ _ _ rfl _ _ rfl rfl _ _ (hrun _) ?_)
  all_goals (go_ret; exact ⟨rfl,rfl⟩)
 | some a =>
  obtain ⟨ab,ao,asp⟩ := a
  go_wp2_with (at_builtin; refine Lib.wpList_append_run _ rfl _ _ _ _ rfl _ _ rfl rfl _ _ (hrun _) ?_)
  all_goals (go_ret; exact ⟨rfl,rfl⟩)
set_option maxHeartbeats 4000000 in
set_option maxRecDepth 100000 in
theorem ins_grow (L : Lays P) (b off n c i vb voff m vc : Nat) (cs vs : List Value) (w : World) (hi : i < n) (hm : 0 < m) (hnc : n ≤ c) (hroom : c < n + m) (hbig : (n + m) * 64 ≤ 140737488355328)
  (hcl : cs.length = n * 6) (hvl : vs.length = m * 6)
  (hcs : ∀ j v,cs[j]? = some v → w.cell? ⟨b,off + j,none⟩ = some v)
  (hvs : ∀ j v,vs[j]? = some v → w.cell? ⟨vb,voff + j,none⟩ = some v) (h1c : ∀ v ∈ cs,v.oneCell' = true) (h1v : ∀ v ∈ vs,v.oneCell' = true) :
  Calls P 154 #[.slice (some ⟨b,off,none⟩) n c,.int .i64 i,.slice (some ⟨vb,voff,none⟩) m vc] w fun e w' =>
   ∃ ROW : Array Value,ROW.size = grownCap w (n + m) c 215 * 6 ∧ (∀ j,j < i * 6 → ROW[j]? = cs[j]?) ∧
   e = .returned (.slice (some ⟨w.heap.size,0,none⟩) (n + m) (grownCap w (n + m) c 215)) ∧
   w' = (((w.alloc (.cells ROW 215)).drew.setCells w.heap.size (i * 6) vs).drew).setCells w.heap.size ((i + m) * 6) (cs.drop (i * 6)) := by
 have t0 := L.t0; have a0 := L.a0; have z0 := L.z0; have v0 := L.v0; have t3 := L.t3; have a3 := L.a3; have z3 := L.z3; have v3 := L.v3; have t4 := L.t4; have a4 := L.a4; have z4 := L.z4; have v4 := L.v4; have t156 := L.t156; have a156 := L.a156; have z156 := L.z156; have v156 := L.v156; have z166 := L.z166
 have u0 := run_underlying L.t0; have u3 := run_underlying L.t3; have u4 := run_underlying L.t4; have u156 := run_underlying L.t156
 have mixed := L.mixed
 obtain ⟨z,hzi,hzc⟩ := L.i166
 obtain ⟨i0,hi0,hz0,hzs,hzb⟩ := info_parts hzi
 have hz1 : ¬ ((m : Int) = 0) := by omega
 have hz2 : ¬ ((i : Int) = (n : Int)) := by omega
 have hz3 : (c : Int) < (n : Int) + (m : Int) := by omega
 have hsz : (P.info? 215).map (·.size) = some 6 := by rw [hi0]; simp [hzs]
 have hbw : b < w.heap.size := block_lt_of_cell (hcs 0 _ (List.getElem?_eq_getElem (by omega)))
 have hvw : vb < w.heap.size := block_lt_of_cell (hvs 0 _ (List.getElem?_eq_getElem (by omega)))
 have hkk : (n : Int) + (m : Int) - (i : Int) = ((n + m - i : Nat) : Int) := by omega
 have hik : i + (n + m - i) = n + m := by omega
 have hold : (Builtin.firstCells i0.size i (.slice (some ⟨b,off,none⟩) i c)).run P w.drew = .ok (cs.take (i * 6)).toArray w.drew := by
  rw [hzs]
  exact run_firstCells_some w.drew 6 i ⟨b,off,none⟩ i c (cs.take (i * 6)) (by rw [List.length_take]; omega) (fun j v hj => by
   rw [Addr.add_lit]
   rw [List.getElem?_take] at hj
   split at hj
   ·exact hcs j v hj
   ·cases hj)
 have hrz : ∀ ty,(Builtin.append_ #[205,3] ty #[.slice (some ⟨b,off,none⟩) i c,.int .i64 ((n : Int) + (m : Int) - (i : Int))]).run P w =
   .ok (.slice (some ⟨w.heap.size,0,none⟩) (n + m) (grownCap w (n + m) c 215)) (w.drew.alloc (.cells ((cs.take (i * 6)).toArray ++ Builtin.zeroCells z.cells (n + m - i) ++ Builtin.zeroCells z.cells (grownCap w (n + m) c 215 - (n + m))) 215)) := fun ty => by
  have h := Lib.run_append_grow_zeros w 205 3 ty 215 i0 z .i64 .i64 L.t156 L.t3 hi0 hz0 (some ⟨b,off,none⟩) i c (cs.take (i * 6)) hold (n + m - i) (by omega) (by omega) (by omega) (by omega) (by rw [hzb]; omega) (by rw [hzb,hik]; exact growslice_fits hroom hbig)
  rw [hik] at h
  rw [hkk]
  exact h
 have hGn : n + m ≤ grownCap w (n + m) c 215 := grownCap_ge w _ _ _
 obtain ⟨ROW,hROW⟩ : ∃ ROW : Array Value,ROW = (cs.take (i * 6)).toArray ++ Builtin.zeroCells z.cells (n + m - i) ++ Builtin.zeroCells z.cells (grownCap w (n + m) c 215 - (n + m)) := ⟨_,rfl⟩
 have hRs : ROW.size = grownCap w (n + m) c 215 * 6 := by
  rw [hROW]
  simp only [Array.size_append,List.size_toArray,size_zeroCells,hzc,List.length_take]
  omega
 have hRg : ∀ j,j < i * 6 → ROW[j]? = cs[j]? := fun j hj => by
  rw [hROW,Array.append_assoc,Array.getElem?_append_left (by simp; omega)]
  simp [List.getElem?_take,hj]
 refine Calls.mono (R := fun e w' => e = .returned (.slice (some ⟨w.heap.size,0,none⟩) (n + m) (grownCap w (n + m) c 215)) ∧ w' = (((w.alloc (.cells ROW 215)).drew.setCells w.heap.size (i * 6) vs).drew).setCells w.heap.size ((i + m) * 6) (cs.drop (i * 6))) ?_ fun e w' h => ⟨ROW,hRs,hRg,h⟩
 clear hRg
 obtain ⟨G,hG⟩ : ∃ G,G = grownCap w (n + m) c 215 := ⟨_,rfl⟩
 rw [← hG] at hrz hRs hGn hROW ⊢
 rw [← hROW] at hrz
 have hRl : (n + m) * 6 ≤ ROW.size := by rw [hRs]; omega
 obtain ⟨W1,hW1⟩ : ∃ W1,W1 = w.drew.alloc (.cells ROW 215) := ⟨_,rfl⟩
 rw [← hW1] at hrz
 have hN : ∀ j,j < (n + m) * 6 → (W1.cell? ⟨w.heap.size,j,none⟩).isSome = true := fun j hj => by
  rw [hW1,World.cell?_alloc_at (w := w.drew) ROW _ w.heap.size j rfl,Array.getElem?_eq_getElem (by omega)]; rfl
 have hNf : ∀ j,W1.frozen? ⟨w.heap.size,j,none⟩ = false := fun j => by rw [hW1]; exact World.frozen?_alloc_at (w := w.drew) ROW _ w.heap.size j rfl
 have hOb : ∀ j v,w.cell? ⟨b,j,none⟩ = some v → W1.cell? ⟨b,j,none⟩ = some v := fun j v h => by rw [hW1,World.cell?_alloc_past (w := w.drew) _ b j hbw]; exact h
 have hOv : ∀ j v,w.cell? ⟨vb,j,none⟩ = some v → W1.cell? ⟨vb,j,none⟩ = some v := fun j v h => by rw [hW1,World.cell?_alloc_past (w := w.drew) _ vb j hvw]; exact h
 have hcpA : ∀ (W : World),(∀ x,W.cell? x = W1.cell? x) → (∀ x,W.frozen? x = W1.frozen? x) → ∀ ty dc,(Builtin.copy_ #[205,205] ty #[.slice (some ⟨w.heap.size,i * 6,none⟩) (n + m - i) dc,.slice (some ⟨vb,voff,none⟩) m vc]).run P W = .ok (goInt m) (W.setCells w.heap.size (i * 6) vs) := fun W hWc hWf ty dc =>
  run_copy_cellsS 6 W _ _ ty 215 w.heap.size (i * 6) (n + m - i) dc ⟨vb,voff,none⟩ m vc m vs L.t156 hsz (by simp only [Nat.min_def]; split <;> omega) hvl
   (fun j v hj => by rw [Addr.add_lit,hWc]; exact hOv _ v (hvs j v hj))
   (fun j hj => by rw [hWc]; exact hN _ (by omega)) (fun j hj => by rw [hWf]; exact hNf _) h1v
 have hG63 : G ≤ 9223372036854775807 := by
  have := grownCap_le_maxLen w (n + m) c 215 (by unfold maxLen; omega)
  rw [← hG] at this
  unfold maxLen at this
  omega
 have hGi : ¬ (G = i) := by omega
 have hGim : ¬ (G = i + m) := by omega
 have hci : ¬ (c = i) := by omega
 have hbN : b ≠ w.heap.size := by omega
 have hdl : (cs.drop (i * 6)).length = (n - i) * 6 := by rw [List.length_drop,hcl]; omega
 have hcpB : ∀ (W : World),(∀ x,W.cell? x = (W1.setCells w.heap.size (i * 6) vs).cell? x) → (∀ x,W.frozen? x = (W1.setCells w.heap.size (i * 6) vs).frozen? x) → ∀ ty dc sc,(Builtin.copy_ #[205,205] ty #[.slice (some ⟨w.heap.size,(i + m) * 6,none⟩) (n + m - (i + m)) dc,.slice (some ⟨b,off + i * 6,none⟩) (n - i) sc]).run P W = .ok (goInt (n - i : Nat)) (W.setCells w.heap.size ((i + m) * 6) (cs.drop (i * 6))) := fun W hWc hWf ty dc sc =>
  run_copy_cellsS 6 W _ _ ty 215 w.heap.size ((i + m) * 6) (n + m - (i + m)) dc ⟨b,off + i * 6,none⟩ (n - i) sc (n - i) (cs.drop (i * 6)) L.t156 hsz (by simp only [Nat.min_def]; split <;> omega) hdl
   (fun j v hj => by
    rw [Addr.add_lit,hWc,World.cell?_setCells_out _ _ _ _ _ (fun h _ => absurd h hbN),Nat.add_assoc]
    exact hOb _ v (hcs (i * 6 + j) v (by rwa [List.getElem?_drop] at hj)))
   (fun j hj => by rw [hWc]; exact isSome_setCells _ _ _ _ (fun t ht => hN _ (by omega)) _ (hN _ (by omega)))
   (fun j hj => by rw [hWf,World.frozen?_setCells]; exact hNf _) (fun v hv => h1c v (List.mem_of_mem_drop hv))
 subst hW1
 have hE1 : ∀ x,((w.alloc (.cells ROW 215)).drew).cell? x = (w.drew.alloc (.cells ROW 215)).cell? x := fun x => rfl
 have hE2 : ∀ x,((w.alloc (.cells ROW 215)).drew).frozen? x = (w.drew.alloc (.cells ROW 215)).frozen? x := fun x => rfl
 have hF1 : ∀ x,(((w.alloc (.cells ROW 215)).drew.setCells w.heap.size (i * 6) vs).drew).cell? x = ((w.drew.alloc (.cells ROW 215)).setCells w.heap.size (i * 6) vs).cell? x := fun x => rfl
 have hF2 : ∀ x,(((w.alloc (.cells ROW 215)).drew.setCells w.heap.size (i * 6) vs).drew).frozen? x = ((w.drew.alloc (.cells ROW 215)).setCells w.heap.size (i * 6) vs).frozen? x := fun x => rfl
 have hw1 : IntKind.i64.wrap ((i : Int) + (m : Int)) = (i : Int) + (m : Int) := by rw [IntKind.wrap_i64]; omega
 have hb1 : (0 : Int) ≤ (i : Int) + (m : Int) := by omega
 have hin : i ≤ n := by omega
 have htn : ((i : Int) + (m : Int)).toNat = i + m := by omega
 have hb3 : (i : Int) ≤ (n : Int) := by omega
 clear hkk hik hold hROW hG hRl hRs hzi hzc hi0 hz0 hzs hzb
 go_enter L.f105,Try.ntmps154
 go_wp2_with (first
  | (at_builtin; refine Lib.wpList_append_run _ rfl _ _ _ _ rfl _ _ rfl rfl _ _ (hrz _) ?_)
  | (at_builtin; refine wpList_copy_runI _ rfl _ _ 205 205 rfl _ _ rfl rfl (hcpA _ hE1 hE2 _ _) ?_)
  | (at_builtin; refine wpList_copy_runI _ rfl _ _ 205 205 rfl _ _ rfl rfl (hcpB _ (fun _ => rfl) (fun _ => rfl) _ _ _) ?_))
 go_region_law_o (refine step_copy_runI rfl _ _ 205 205 rfl (.slice (some ⟨w.heap.size,(i + m) * 6,none⟩) (n + m - (i + m)) (G - (i + m))) (.slice (some ⟨b,off + i * 6,none⟩) (n - i) (c - i)) (by simp [Act.eval,Act.put]) (by simp [Act.eval,Act.put]) (hcpB _ hF1 hF2 3 (G - (i + m)) (c - i)) ?_)
 go_wp2
 go_ret
 exact ⟨rfl,rfl⟩
end Go.Proofs.ZIN
