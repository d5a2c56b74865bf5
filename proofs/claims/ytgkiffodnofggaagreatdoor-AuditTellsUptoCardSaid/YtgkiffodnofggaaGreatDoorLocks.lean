/-
  The numbers under which this program holds sync.Mutex's functions and types, and that it holds them.
-/
import Derived.Test.YtgkiffodnofggaaGreatDoorProg
import Derived.Conc.MuLone
import Derived.KernelRfl
namespace Go.Proofs.YtgkiffodnofggaaGreatDoor
abbrev muLink : Go.Conc.Locks.MuLink := { lock := 92, unlock := 93, ilock := 105, iunlock := 106, lockSlow := 115, unlockSlow := 118, disable := 111, enable := 113, acquire := 114, relMerge := 116, cas32 := 112, add32 := 117, tMutex := 92, tIMutex := 90, tPMutex := 164, tPIMutex := 180, tPI32 := 182, tUP := 81, tNoCopy := 85, tU32 := 78 }
theorem muLib : Go.Conc.Locks.MuLib Tryz.prog muLink :=
  ⟨Tryz.func92, Tryz.func93, Tryz.func105, Tryz.func106, Tryz.func111, Tryz.func113, Tryz.func114, Tryz.func116, Tryz.func112, Tryz.func117, Tryz.underlying90, Tryz.runUnderlying90, Tryz.sizeOf90, Tryz.isAgg90, Tryz.zeroValue90, Tryz.underlying92, Tryz.runUnderlying92, Tryz.sizeOf92, Tryz.isAgg92, Tryz.zeroValue92, Tryz.underlying164, Tryz.runUnderlying164, Tryz.sizeOf164, Tryz.isAgg164, Tryz.zeroValue164, Tryz.underlying180, Tryz.runUnderlying180, Tryz.sizeOf180, Tryz.isAgg180, Tryz.zeroValue180, Tryz.underlying182, Tryz.runUnderlying182, Tryz.sizeOf182, Tryz.isAgg182, Tryz.zeroValue182, Tryz.underlying81, Tryz.runUnderlying81, Tryz.sizeOf81, Tryz.isAgg81, Tryz.zeroValue81, Tryz.underlying85, Tryz.runUnderlying85, Tryz.sizeOf85, Tryz.isAgg85, Tryz.zeroValue85, Tryz.underlying21, Tryz.runUnderlying21, Tryz.sizeOf21, Tryz.isAgg21, Tryz.zeroValue21, (by kernel_rfl)⟩
end Go.Proofs.YtgkiffodnofggaaGreatDoor
