/- Pure values that are the same by the machine's test are the same. -/
import Derived.Test.YtmffcpiffkclgaaZJ1
set_option linter.unusedSimpArgs false
set_option linter.unusedVariables false
namespace Go.Proofs.Ytmffcpiffkclgaa.ZJM
mutual
theorem PV.beq_eq : ∀ {x y : PV},x.beq y = true → x = y
 | .bool a,y,h => by cases y <;> simp_all [PV.beq]
 | .int k n,y,h => by cases y <;> simp_all [PV.beq]
 | .str s,y,h => by cases y <;> simp_all [PV.beq]
 | .lst o nl sz xs,y,h => by
  cases y <;> simp only [PV.beq,Bool.and_eq_true,decide_eq_true_eq,beq_iff_eq,Bool.false_eq_true] at h
  obtain ⟨⟨⟨rfl,rfl⟩,rfl⟩,h⟩ := h
  rw [PV.beqs_eq h]
 | .agg cs,y,h => by
  cases y <;> simp only [PV.beq,Bool.false_eq_true] at h
  rw [PV.beqs_eq h]
 | .tup cs,y,h => by
  cases y <;> simp only [PV.beq,Bool.false_eq_true] at h
  rw [PV.beqs_eq h]
 | .nilp,y,h => by cases y <;> simp_all [PV.beq]
 | .ptr lv sl p off,y,h => by cases y <;> simp_all [PV.beq]
 | .elp x off,y,h => by
  cases y <;> simp only [PV.beq,Bool.and_eq_true,decide_eq_true_eq,Bool.false_eq_true] at h
  obtain ⟨h,rfl⟩ := h
  rw [PV.beq_eq h]
 | .slr lv sl p off n sz,y,h => by cases y <;> simp_all [PV.beq]
 | .fn f cap,y,h => by
  cases y <;> simp only [PV.beq,Bool.and_eq_true,decide_eq_true_eq,Bool.false_eq_true] at h
  obtain ⟨rfl,h⟩ := h
  rw [PV.beqs_eq h]
 | .rnd f i fs cap lv sl,y,h => by
  cases y <;> simp only [PV.beq,Bool.and_eq_true,decide_eq_true_eq,Bool.false_eq_true] at h
  obtain ⟨⟨⟨⟨⟨rfl,rfl⟩,rfl⟩,h⟩,rfl⟩,rfl⟩ := h
  rw [PV.beqs_eq h]
 | .nilfn,y,h => by cases y <;> simp_all [PV.beq]
 | .nilif,y,h => by cases y <;> simp_all [PV.beq]
 | .ifc t v,y,h => by
  cases y <;> simp only [PV.beq,Bool.and_eq_true,decide_eq_true_eq,Bool.false_eq_true] at h
  obtain ⟨rfl,h⟩ := h
  rw [PV.beq_eq h]
 | .und,y,h => by cases y <;> simp_all [PV.beq]
 | .vec ver n sz cs,y,h => by
  cases y <;> simp only [PV.beq,Bool.and_eq_true,decide_eq_true_eq,Bool.false_eq_true] at h
  obtain ⟨⟨⟨rfl,rfl⟩,rfl⟩,h⟩ := h
  rw [PV.beqs_eq h]
 | .vnil ver sz,y,h => by cases y <;> simp_all [PV.beq]
 | .vfrz ver sz xs,y,h => by
  cases y <;> simp only [PV.beq,Bool.and_eq_true,decide_eq_true_eq,Bool.false_eq_true] at h
  obtain ⟨⟨rfl,rfl⟩,h⟩ := h
  rw [PV.beqs_eq h]
 | .gone ver sz,y,h => by cases y <;> simp_all [PV.beq]
 | .lrec s,y,h => by cases y <;> simp_all [PV.beq]
theorem PV.beqs_eq : ∀ {x y : List PV},PV.beqs x y = true → x = y
 | [],y,h => by cases y <;> simp_all [PV.beqs]
 | x :: r,y,h => by
  cases y with
  | nil => simp [PV.beqs] at h
  | cons x' r' =>
   simp only [PV.beqs,Bool.and_eq_true] at h
   rw [PV.beq_eq h.1,PV.beqs_eq h.2]
end
mutual
theorem PV.beq_self : ∀ x : PV,x.beq x = true
 | .bool a => by simp [PV.beq]
 | .int k n => by simp [PV.beq]
 | .str s => by simp [PV.beq]
 | .lst o nl sz xs => by simp [PV.beq,PV.beqs_self xs]
 | .agg cs => by simp [PV.beq,PV.beqs_self cs]
 | .tup cs => by simp [PV.beq,PV.beqs_self cs]
 | .nilp => rfl
 | .ptr lv sl p off => by simp [PV.beq]
 | .elp x off => by simp [PV.beq,PV.beq_self x]
 | .slr lv sl p off n sz => by simp [PV.beq]
 | .fn f cap => by simp [PV.beq,PV.beqs_self cap]
 | .rnd f i fs cap lv sl => by simp [PV.beq,PV.beqs_self cap]
 | .nilfn => rfl
 | .nilif => rfl
 | .ifc t v => by simp [PV.beq,PV.beq_self v]
 | .und => rfl
 | .vec ver n sz cs => by simp [PV.beq,PV.beqs_self cs]
 | .vnil ver sz => by simp [PV.beq]
 | .vfrz ver sz xs => by simp [PV.beq,PV.beqs_self xs]
 | .gone ver sz => by simp [PV.beq]
 | .lrec s => by simp [PV.beq]
theorem PV.beqs_self : ∀ x : List PV,PV.beqs x x = true
 | [] => rfl
 | x :: r => by simp [PV.beqs,PV.beq_self x,PV.beqs_self r]
end
end Go.Proofs.Ytmffcpiffkclgaa.ZJM
