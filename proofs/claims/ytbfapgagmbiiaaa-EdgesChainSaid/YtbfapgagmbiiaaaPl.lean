/- The plain value types. -/
namespace Gl
structure STrace where
  f0 : Int
  f1 : Int

structure SAttr where
  f0 : ByteArray
  f1 : ByteArray

structure SSpan where
  f0 : STrace
  f1 : Int
  f2 : Int
  f3 : ByteArray
  f4 : ByteArray
  f5 : Int
  f6 : Int
  f7 : Bool
  f8 : (List SAttr)

structure SEdge where
  f0 : ByteArray
  f1 : ByteArray
  f2 : Int
  f3 : Int
end Gl
